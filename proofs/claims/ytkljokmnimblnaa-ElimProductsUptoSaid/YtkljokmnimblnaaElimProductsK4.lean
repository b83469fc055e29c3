/- Part 4 of the proof of ElimProducts: Code0, Code1, Code2. -/
import Derived.Test.YtkljokmnimblnaaElimProductsK3
set_option maxRecDepth 100000
noncomputable section
namespace Go.Abs
open Go.Proofs
def law06_ElimProducts_r0 : List AIns := [⟨some 4, none, .p (.mv (.c (.bool false)))⟩]
def law06_ElimProducts_r1 : List AIns := [⟨some 20, none, .call F_law06_alive []⟩,
  ⟨some 21, none, .p (.un .not (.t 20))⟩]
def law06_ElimProducts_r2 : List AIns := [⟨some 4, none, .p (.mv (.c (.bool false)))⟩]
def law06_ElimProducts_r3 : List AIns := [⟨some 23, none, .p (.mv (.t 0))⟩,
  ⟨some 24, none, .call F_elim_Det [(.t 23)]⟩,
  ⟨some 22, none, .p (.mv (.t 24))⟩,
  ⟨some 25, none, .p (.ext (.t 22) 0)⟩,
  ⟨some 26, none, .p (.ext (.t 22) 1)⟩,
  ⟨some 5, none, .e (.box 2 (.c (.agg [.bool false, .nil])))⟩,
  ⟨none, none, .e (.store 2 (.t 5) (.t 25))⟩,
  ⟨some 6, none, .p (.mv (.t 26))⟩]
def law06_ElimProducts_r4 : List AIns := [⟨some 28, none, .p (.mv (.t 1))⟩,
  ⟨some 29, none, .call F_elim_Det [(.t 28)]⟩,
  ⟨some 27, none, .p (.mv (.t 29))⟩,
  ⟨some 30, none, .p (.ext (.t 27) 0)⟩,
  ⟨some 31, none, .p (.ext (.t 27) 1)⟩,
  ⟨some 7, none, .e (.box 2 (.c (.agg [.bool false, .nil])))⟩,
  ⟨none, none, .e (.store 2 (.t 7) (.t 30))⟩,
  ⟨some 8, none, .p (.mv (.t 31))⟩]
def law06_ElimProducts_r5 : List AIns := [⟨some 32, none, .p (.mv (.t 6))⟩,
  ⟨some 33, none, .p (.bin .neq (.t 32) (.c (.int .i64 0)))⟩,
  ⟨some 34, none, .p (.mv (.t 33))⟩,
  ⟨some 35, some (34, false), .p (.mv (.t 8))⟩,
  ⟨some 36, some (34, false), .p (.bin .neq (.t 35) (.c (.int .i64 0)))⟩,
  ⟨some 37, none, .p (.pick (.t 34) (.c (.bool true)) (.t 36))⟩]
def law06_ElimProducts_r6 : List AIns := [⟨some 4, none, .p (.mv (.c (.bool true)))⟩]
def law06_ElimProducts_r7 : List AIns := [⟨some 39, none, .p (.mv (.t 1))⟩,
  ⟨some 40, none, .call F_mat_Turn [(.t 39)]⟩,
  ⟨some 38, none, .p (.mv (.t 40))⟩,
  ⟨some 41, none, .p (.ext (.t 38) 0)⟩,
  ⟨some 42, none, .p (.ext (.t 38) 1)⟩,
  ⟨some 9, none, .p (.mv (.t 41))⟩,
  ⟨some 10, none, .p (.mv (.t 42))⟩]
def law06_ElimProducts_r8 : List AIns := [⟨some 43, none, .p (.mv (.t 10))⟩,
  ⟨some 44, none, .p (.bin .eql (.t 43) (.c (.int .i64 0)))⟩,
  ⟨some 45, none, .p (.mv (.t 44))⟩,
  ⟨some 46, some (45, true), .p (.mv (.t 1))⟩,
  ⟨some 47, some (45, true), .p (.len (.t 46))⟩,
  ⟨some 48, some (45, true), .p (.bin .gtr (.t 47) (.c (.int .i64 0)))⟩,
  ⟨some 49, none, .p (.pick (.t 45) (.t 48) (.c (.bool false)))⟩]
def law06_ElimProducts_r9 : List AIns := [⟨some 51, none, .p (.mv (.t 9))⟩,
  ⟨some 52, none, .call F_elim_Det [(.t 51)]⟩,
  ⟨some 50, none, .p (.mv (.t 52))⟩,
  ⟨some 53, none, .p (.ext (.t 50) 0)⟩,
  ⟨some 54, none, .p (.ext (.t 50) 1)⟩,
  ⟨some 11, none, .e (.box 2 (.c (.agg [.bool false, .nil])))⟩,
  ⟨none, none, .e (.store 2 (.t 11) (.t 53))⟩,
  ⟨some 12, none, .p (.mv (.t 54))⟩]
def law06_ElimProducts_r10 : List AIns := [⟨some 55, none, .p (.mv (.t 12))⟩,
  ⟨some 56, none, .p (.bin .neq (.t 55) (.c (.int .i64 0)))⟩,
  ⟨some 57, none, .p (.mv (.t 56))⟩,
  ⟨some 58, some (57, false), .p (.load (some 2) (.t 7))⟩,
  ⟨some 59, some (57, false), .p (.load (some 2) (.t 11))⟩,
  ⟨some 60, some (57, false), .call F_law06_eq [(.t 58), (.t 59)]⟩,
  ⟨some 61, some (57, false), .p (.un .not (.t 60))⟩,
  ⟨some 62, none, .p (.pick (.t 57) (.c (.bool true)) (.t 61))⟩]
def law06_ElimProducts_r11 : List AIns := [⟨some 4, none, .p (.mv (.c (.bool false)))⟩]
def law06_ElimProducts_r12 : List AIns := [⟨some 63, none, .p (.mv (.t 1))⟩,
  ⟨some 64, none, .p (.len (.t 63))⟩,
  ⟨some 65, none, .p (.bin .gtr (.t 64) (.c (.int .i64 1)))⟩]
def law06_ElimProducts_r13 : List AIns := [⟨some 66, none, .p (.mv (.t 1))⟩,
  ⟨some 67, none, .call F_ref04_Form [(.t 66)]⟩,
  ⟨some 13, none, .p (.mv (.t 67))⟩]
def law06_ElimProducts_r14 : List AIns := [⟨some 68, none, .p (.mv (.t 13))⟩,
  ⟨some 69, none, .p (.mv (.t 13))⟩,
  ⟨some 70, none, .p (.mv (.t 13))⟩,
  ⟨some 71, none, .p (.idxp 1 (.t 70) (.c (.int .i64 1)))⟩,
  ⟨some 72, none, .p (.load none (.t 71))⟩,
  ⟨some 73, none, .p (.mv (.t 13))⟩,
  ⟨some 74, none, .p (.idxp 1 (.t 73) (.c (.int .i64 0)))⟩,
  ⟨some 75, none, .p (.load none (.t 74))⟩,
  ⟨some 76, none, .p (.idxp 1 (.t 68) (.c (.int .i64 0)))⟩,
  ⟨none, none, .e (.store 1 (.t 76) (.t 72))⟩,
  ⟨some 77, none, .p (.idxp 1 (.t 69) (.c (.int .i64 1)))⟩,
  ⟨none, none, .e (.store 1 (.t 77) (.t 75))⟩]
def law06_ElimProducts_r15 : List AIns := [⟨some 79, none, .p (.mv (.t 13))⟩,
  ⟨some 80, none, .call F_elim_Det [(.t 79)]⟩,
  ⟨some 78, none, .p (.mv (.t 80))⟩,
  ⟨some 81, none, .p (.ext (.t 78) 0)⟩,
  ⟨some 82, none, .p (.ext (.t 78) 1)⟩,
  ⟨some 14, none, .e (.box 2 (.c (.agg [.bool false, .nil])))⟩,
  ⟨none, none, .e (.store 2 (.t 14) (.t 81))⟩,
  ⟨some 15, none, .p (.mv (.t 82))⟩]
def law06_ElimProducts_r16 : List AIns := [⟨some 83, none, .p (.mv (.t 15))⟩,
  ⟨some 84, none, .p (.bin .neq (.t 83) (.c (.int .i64 0)))⟩,
  ⟨some 85, none, .p (.mv (.t 84))⟩,
  ⟨some 86, some (85, false), .p (.load (some 2) (.t 14))⟩,
  ⟨some 87, some (85, false), .p (.load (some 2) (.t 7))⟩,
  ⟨some 88, some (85, false), .call F_zint_Neg [(.t 87)]⟩,
  ⟨some 89, some (85, false), .call F_law06_eq [(.t 86), (.t 88)]⟩,
  ⟨some 90, some (85, false), .p (.un .not (.t 89))⟩,
  ⟨some 91, none, .p (.pick (.t 85) (.c (.bool true)) (.t 90))⟩]
def law06_ElimProducts_r17 : List AIns := [⟨some 4, none, .p (.mv (.c (.bool false)))⟩]
def law06_ElimProducts_r18 : List AIns := [⟨some 92, none, .p (.mv (.t 0))⟩,
  ⟨some 93, none, .p (.len (.t 92))⟩,
  ⟨some 94, none, .p (.mv (.t 1))⟩,
  ⟨some 95, none, .p (.len (.t 94))⟩,
  ⟨some 96, none, .p (.bin .neq (.t 93) (.t 95))⟩]
def law06_ElimProducts_r19 : List AIns := [⟨some 4, none, .p (.mv (.c (.bool true)))⟩]
def law06_ElimProducts_r20 : List AIns := [⟨some 98, none, .p (.mv (.t 0))⟩,
  ⟨some 99, none, .p (.mv (.t 1))⟩,
  ⟨some 100, none, .call F_mat_Product [(.t 98), (.t 99)]⟩,
  ⟨some 97, none, .p (.mv (.t 100))⟩,
  ⟨some 101, none, .p (.ext (.t 97) 0)⟩,
  ⟨some 102, none, .p (.ext (.t 97) 1)⟩,
  ⟨some 16, none, .p (.mv (.t 101))⟩,
  ⟨some 17, none, .p (.mv (.t 102))⟩]
def law06_ElimProducts_r21 : List AIns := [⟨some 104, none, .p (.mv (.t 16))⟩,
  ⟨some 105, none, .call F_elim_Det [(.t 104)]⟩,
  ⟨some 103, none, .p (.mv (.t 105))⟩,
  ⟨some 106, none, .p (.ext (.t 103) 0)⟩,
  ⟨some 107, none, .p (.ext (.t 103) 1)⟩,
  ⟨some 18, none, .e (.box 2 (.c (.agg [.bool false, .nil])))⟩,
  ⟨none, none, .e (.store 2 (.t 18) (.t 106))⟩,
  ⟨some 19, none, .p (.mv (.t 107))⟩]
def law06_ElimProducts_r22 : List AIns := [⟨some 108, none, .p (.mv (.t 17))⟩,
  ⟨some 109, none, .p (.bin .eql (.t 108) (.c (.int .i64 0)))⟩,
  ⟨some 110, none, .p (.mv (.t 109))⟩,
  ⟨some 111, some (110, true), .p (.mv (.t 19))⟩,
  ⟨some 112, some (110, true), .p (.bin .eql (.t 111) (.c (.int .i64 0)))⟩,
  ⟨some 113, none, .p (.pick (.t 110) (.t 112) (.c (.bool false)))⟩,
  ⟨some 114, none, .p (.mv (.t 113))⟩,
  ⟨some 115, some (114, true), .p (.load (some 2) (.t 18))⟩,
  ⟨some 116, some (114, true), .p (.load (some 2) (.t 5))⟩,
  ⟨some 117, some (114, true), .p (.load (some 2) (.t 7))⟩,
  ⟨some 118, some (114, true), .call F_zint_Mul [(.t 116), (.t 117)]⟩,
  ⟨some 119, some (114, true), .call F_law06_eq [(.t 115), (.t 118)]⟩,
  ⟨some 120, none, .p (.pick (.t 114) (.t 119) (.c (.bool false)))⟩,
  ⟨some 4, none, .p (.mv (.t 120))⟩]
def law06_ElimProducts_c : ACode := .seq (.region law06_ElimProducts_r0 false) (.seq (.seq (.region law06_ElimProducts_r1 false) (.cond (.t 21) (.seq (.region law06_ElimProducts_r2 false) (.ret)) (.skip))) (.seq (.region law06_ElimProducts_r3 false) (.seq (.region law06_ElimProducts_r4 false) (.seq (.seq (.region law06_ElimProducts_r5 false) (.cond (.t 37) (.seq (.region law06_ElimProducts_r6 false) (.ret)) (.skip))) (.seq (.region law06_ElimProducts_r7 false) (.seq (.seq (.region law06_ElimProducts_r8 false) (.cond (.t 49) (.seq (.region law06_ElimProducts_r9 false) (.seq (.region law06_ElimProducts_r10 false) (.cond (.t 62) (.seq (.region law06_ElimProducts_r11 false) (.ret)) (.skip)))) (.skip))) (.seq (.seq (.region law06_ElimProducts_r12 false) (.cond (.t 65) (.seq (.region law06_ElimProducts_r13 false) (.seq (.region law06_ElimProducts_r14 true) (.seq (.region law06_ElimProducts_r15 false) (.seq (.region law06_ElimProducts_r16 true) (.cond (.t 91) (.seq (.region law06_ElimProducts_r17 false) (.ret)) (.skip)))))) (.skip))) (.seq (.seq (.region law06_ElimProducts_r18 false) (.cond (.t 96) (.seq (.region law06_ElimProducts_r19 false) (.ret)) (.skip))) (.seq (.region law06_ElimProducts_r20 false) (.seq (.region law06_ElimProducts_r21 false) (.seq (.region law06_ElimProducts_r22 true) (.ret))))))))))))
theorem law06_ElimProducts_ok : fchk Pr (fun _ _ => false) Try.f9 = some (law06_ElimProducts_c, [.tmp 4], 121) := by kernel_rfl
theorem law06_ElimProducts_fn : Pr.funcs[F_law06_ElimProducts]? = some Try.f9 := Try.func9
def law06_eq_r0 : List AIns := [⟨some 2, none, .e (.box 2 (.t 0))⟩,
  ⟨some 3, none, .e (.box 2 (.t 1))⟩,
  ⟨some 4, none, .p (.mv (.c (.bool false)))⟩]
def law06_eq_r1 : List AIns := [⟨some 6, none, .p (.fldp (.t 2) 0)⟩,
  ⟨some 7, none, .p (.load none (.t 6))⟩,
  ⟨some 8, none, .p (.fldp (.t 3) 0)⟩,
  ⟨some 9, none, .p (.load none (.t 8))⟩,
  ⟨some 10, none, .p (.beq true (.t 7) (.t 9))⟩,
  ⟨some 11, none, .p (.mv (.t 10))⟩,
  ⟨some 12, some (11, false), .p (.fldp (.t 2) 1)⟩,
  ⟨some 13, some (11, false), .p (.load none (.t 12))⟩,
  ⟨some 14, some (11, false), .p (.len (.t 13))⟩,
  ⟨some 15, some (11, false), .p (.fldp (.t 3) 1)⟩,
  ⟨some 16, some (11, false), .p (.load none (.t 15))⟩,
  ⟨some 17, some (11, false), .p (.len (.t 16))⟩,
  ⟨some 18, some (11, false), .p (.bin .neq (.t 14) (.t 17))⟩,
  ⟨some 19, none, .p (.pick (.t 11) (.c (.bool true)) (.t 18))⟩]
def law06_eq_r2 : List AIns := [⟨some 4, none, .p (.mv (.c (.bool false)))⟩]
def law06_eq_r3 : List AIns := [⟨some 5, none, .p (.mv (.c (.int .i64 0)))⟩]
def law06_eq_r4 : List AIns := [⟨some 20, none, .p (.mv (.t 5))⟩,
  ⟨some 21, none, .p (.fldp (.t 2) 1)⟩,
  ⟨some 22, none, .p (.load none (.t 21))⟩,
  ⟨some 23, none, .p (.len (.t 22))⟩,
  ⟨some 24, none, .p (.bin .lss (.t 20) (.t 23))⟩]
def law06_eq_r5 : List AIns := [⟨some 27, none, .p (.fldp (.t 2) 1)⟩,
  ⟨some 28, none, .p (.load none (.t 27))⟩,
  ⟨some 29, none, .p (.mv (.t 5))⟩,
  ⟨some 30, none, .p (.idxp 1 (.t 28) (.t 29))⟩,
  ⟨some 31, none, .p (.load none (.t 30))⟩,
  ⟨some 32, none, .p (.fldp (.t 3) 1)⟩,
  ⟨some 33, none, .p (.load none (.t 32))⟩,
  ⟨some 34, none, .p (.mv (.t 5))⟩,
  ⟨some 35, none, .p (.idxp 1 (.t 33) (.t 34))⟩,
  ⟨some 36, none, .p (.load none (.t 35))⟩,
  ⟨some 37, none, .p (.bin .neq (.t 31) (.t 36))⟩]
def law06_eq_r6 : List AIns := [⟨some 4, none, .p (.mv (.c (.bool false)))⟩]
def law06_eq_r7 : List AIns := [⟨some 25, none, .p (.mv (.t 5))⟩,
  ⟨some 26, none, .p (.bin .add (.t 25) (.c (.int .i64 1)))⟩,
  ⟨some 5, none, .p (.mv (.t 26))⟩]
def law06_eq_l0 : ACode := .seq (.seq (.region law06_eq_r4 false) (.cond (.t 24) (.skip) (.exit 0))) (.seq (.block 1 (.seq (.region law06_eq_r5 true) (.cond (.t 37) (.seq (.region law06_eq_r6 false) (.ret)) (.skip)))) (.region law06_eq_r7 false))
def law06_eq_r8 : List AIns := [⟨some 4, none, .p (.mv (.c (.bool true)))⟩]
def law06_eq_c : ACode := .seq (.region law06_eq_r0 false) (.seq (.seq (.region law06_eq_r1 false) (.cond (.t 19) (.seq (.region law06_eq_r2 false) (.ret)) (.skip))) (.seq (.seq (.region law06_eq_r3 false) (.block 0 (.loop law06_eq_l0))) (.seq (.region law06_eq_r8 false) (.ret))))
theorem law06_eq_ok : fchk Pr (fun _ _ => false) Try.f23 = some (law06_eq_c, [.tmp 4], 38) := by kernel_rfl
theorem law06_eq_fn : Pr.funcs[F_law06_eq]? = some Try.f23 := Try.func23
def elim_Det_r0 : List AIns := [⟨some 2, none, .e (.box 2 (.c (.agg [.bool false, .nil])))⟩,
  ⟨some 3, none, .p (.mv (.c (.int .i64 0)))⟩]
def elim_Det_r1 : List AIns := [⟨some 7, none, .p (.mv (.t 0))⟩,
  ⟨some 8, none, .call F_elim_square [(.t 7)]⟩,
  ⟨some 6, none, .p (.mv (.t 8))⟩,
  ⟨some 9, none, .p (.ext (.t 6) 0)⟩,
  ⟨some 10, none, .p (.ext (.t 6) 1)⟩,
  ⟨some 4, none, .p (.mv (.t 9))⟩,
  ⟨some 5, none, .p (.mv (.t 10))⟩]
def elim_Det_r2 : List AIns := [⟨some 11, none, .p (.mv (.t 5))⟩,
  ⟨some 12, none, .p (.bin .neq (.t 11) (.c (.int .i64 0)))⟩]
def elim_Det_r3 : List AIns := [⟨some 13, none, .p (.bld [.bool false, .nil] [])⟩,
  ⟨some 14, none, .p (.mv (.t 5))⟩,
  ⟨none, none, .e (.store 2 (.t 2) (.t 13))⟩,
  ⟨some 3, none, .p (.mv (.t 14))⟩]
def elim_Det_r4 : List AIns := [⟨some 15, none, .p (.mv (.t 0))⟩,
  ⟨some 16, none, .call F_elim_det [(.t 15)]⟩,
  ⟨none, none, .e (.store 2 (.t 2) (.t 16))⟩,
  ⟨some 3, none, .p (.mv (.c (.int .i64 0)))⟩]
def elim_Det_c : ACode := .seq (.region elim_Det_r0 false) (.seq (.seq (.region elim_Det_r1 false) (.seq (.region elim_Det_r2 false) (.cond (.t 12) (.seq (.region elim_Det_r3 false) (.ret)) (.skip)))) (.seq (.region elim_Det_r4 false) (.ret)))
theorem elim_Det_ok : fchk Pr (fun _ _ => false) Try.f24 = some (elim_Det_c, [.cell 2 (some 2), .tmp 3], 17) := by kernel_rfl
theorem elim_Det_fn : Pr.funcs[F_elim_Det]? = some Try.f24 := Try.func24
def law06_alive_r0 : List AIns := [⟨some 0, none, .p (.mv (.c (.bool false)))⟩]
def law06_alive_r1 : List AIns := [⟨some 6, none, .call F_mat_Unit [(.c (.int .i64 3))]⟩,
  ⟨some 5, none, .p (.mv (.t 6))⟩,
  ⟨some 7, none, .p (.ext (.t 5) 0)⟩,
  ⟨some 8, none, .p (.ext (.t 5) 1)⟩,
  ⟨some 1, none, .p (.mv (.t 7))⟩,
  ⟨some 2, none, .p (.mv (.t 8))⟩]
def law06_alive_r2 : List AIns := [⟨some 10, none, .p (.mv (.t 1))⟩,
  ⟨some 11, none, .call F_elim_Det [(.t 10)]⟩,
  ⟨some 9, none, .p (.mv (.t 11))⟩,
  ⟨some 12, none, .p (.ext (.t 9) 0)⟩,
  ⟨some 13, none, .p (.ext (.t 9) 1)⟩,
  ⟨some 3, none, .e (.box 2 (.c (.agg [.bool false, .nil])))⟩,
  ⟨none, none, .e (.store 2 (.t 3) (.t 12))⟩,
  ⟨some 4, none, .p (.mv (.t 13))⟩]
def law06_alive_r3 : List AIns := [⟨some 14, none, .p (.mv (.t 4))⟩,
  ⟨some 15, none, .p (.bin .eql (.t 14) (.c (.int .i64 0)))⟩,
  ⟨some 16, none, .p (.mv (.t 15))⟩,
  ⟨some 17, some (16, true), .p (.load (some 2) (.t 3))⟩,
  ⟨some 18, some (16, true), .call F_zint_Of [(.c (.int .i64 1))]⟩,
  ⟨some 19, some (16, true), .call F_law06_eq [(.t 17), (.t 18)]⟩,
  ⟨some 20, none, .p (.pick (.t 16) (.t 19) (.c (.bool false)))⟩,
  ⟨some 21, none, .p (.mv (.t 20))⟩,
  ⟨some 22, some (21, true), .p (.fldp (.t 3) 1)⟩,
  ⟨some 23, some (21, true), .p (.load none (.t 22))⟩,
  ⟨some 24, some (21, true), .p (.len (.t 23))⟩,
  ⟨some 25, some (21, true), .p (.bin .eql (.t 24) (.c (.int .i64 1)))⟩,
  ⟨some 26, none, .p (.pick (.t 21) (.t 25) (.c (.bool false)))⟩,
  ⟨some 0, none, .p (.mv (.t 26))⟩]
def law06_alive_c : ACode := .seq (.region law06_alive_r0 false) (.seq (.region law06_alive_r1 false) (.seq (.region law06_alive_r2 false) (.seq (.region law06_alive_r3 true) (.ret))))
theorem law06_alive_ok : fchk Pr (fun _ _ => false) Try.f33 = some (law06_alive_c, [.tmp 0], 27) := by kernel_rfl
theorem law06_alive_fn : Pr.funcs[F_law06_alive]? = some Try.f33 := Try.func33
def mat_Turn_r0 : List AIns := [⟨some 2, none, .p (.mv (.c (.nil)))⟩,
  ⟨some 3, none, .p (.mv (.c (.int .i64 0)))⟩]
def mat_Turn_r1 : List AIns := [⟨some 12, none, .p (.mv (.t 0))⟩,
  ⟨some 13, none, .call F_mat_Shape [(.t 12)]⟩,
  ⟨some 11, none, .p (.mv (.t 13))⟩,
  ⟨some 14, none, .p (.ext (.t 11) 0)⟩,
  ⟨some 15, none, .p (.ext (.t 11) 1)⟩,
  ⟨some 16, none, .p (.ext (.t 11) 2)⟩,
  ⟨some 4, none, .p (.mv (.t 14))⟩,
  ⟨some 5, none, .p (.mv (.t 15))⟩,
  ⟨some 6, none, .p (.mv (.t 16))⟩]
def mat_Turn_r2 : List AIns := [⟨some 17, none, .p (.mv (.t 6))⟩,
  ⟨some 18, none, .p (.bin .neq (.t 17) (.c (.int .i64 0)))⟩]
def mat_Turn_r3 : List AIns := [⟨some 19, none, .p (.mv (.t 6))⟩,
  ⟨some 2, none, .p (.mv (.c (.nil)))⟩,
  ⟨some 3, none, .p (.mv (.t 19))⟩]
def mat_Turn_r4 : List AIns := [⟨some 20, none, .p (.mv (.t 4))⟩,
  ⟨some 21, none, .p (.mv (.t 5))⟩,
  ⟨some 22, none, .p (.bin .mul (.t 20) (.t 21))⟩,
  ⟨some 23, none, .e (.mksl 2 32 (.agg [.bool false, .nil]) (.c (.int .i64 0)) (.t 22))⟩,
  ⟨some 7, none, .p (.mv (.t 23))⟩]
def mat_Turn_r5 : List AIns := [⟨some 8, none, .p (.mv (.c (.nil)))⟩]
def mat_Turn_r6 : List AIns := [⟨some 24, none, .p (.mv (.t 5))⟩,
  ⟨some 25, none, .p (.mv (.c (.int .i64 0)))⟩]
def mat_Turn_r7 : List AIns := [⟨some 26, none, .p (.bin .lss (.t 25) (.t 24))⟩]
def mat_Turn_r8 : List AIns := [⟨some 27, none, .p (.mv (.t 25))⟩,
  ⟨some 9, none, .p (.mv (.t 27))⟩]
def mat_Turn_r9 : List AIns := [⟨some 28, none, .p (.mv (.t 4))⟩,
  ⟨some 29, none, .p (.mv (.c (.int .i64 0)))⟩]
def mat_Turn_r10 : List AIns := [⟨some 30, none, .p (.bin .lss (.t 29) (.t 28))⟩]
def mat_Turn_r11 : List AIns := [⟨some 31, none, .p (.mv (.t 29))⟩,
  ⟨some 10, none, .p (.mv (.t 31))⟩]
def mat_Turn_r12 : List AIns := [⟨some 32, none, .p (.mv (.t 7))⟩,
  ⟨some 33, none, .p (.mv (.t 0))⟩,
  ⟨some 34, none, .p (.mv (.t 10))⟩,
  ⟨some 35, none, .p (.idxp 1 (.t 33) (.t 34))⟩,
  ⟨some 36, none, .p (.load none (.t 35))⟩,
  ⟨some 37, none, .p (.mv (.t 9))⟩,
  ⟨some 38, none, .p (.idxp 2 (.t 36) (.t 37))⟩,
  ⟨some 39, none, .p (.load (some 2) (.t 38))⟩,
  ⟨some 40, none, .call F_zint_Form [(.t 39)]⟩,
  ⟨some 41, none, .e (.bsl 2 [(.t 40)])⟩,
  ⟨some 42, none, .e (.app 2 32 false (.t 32) (.t 41))⟩,
  ⟨some 7, none, .p (.mv (.t 42))⟩]
def mat_Turn_r13 : List AIns := [⟨some 43, none, .p (.bin .add (.t 29) (.c (.int .i64 1)))⟩,
  ⟨some 29, none, .p (.mv (.t 43))⟩]
def mat_Turn_l1 : ACode := .seq (.region mat_Turn_r10 false) (.seq (.cond (.t 30) (.skip) (.exit 2)) (.seq (.block 3 (.seq (.region mat_Turn_r11 false) (.region mat_Turn_r12 false))) (.region mat_Turn_r13 false)))
def mat_Turn_r14 : List AIns := [⟨some 44, none, .p (.mv (.t 8))⟩,
  ⟨some 45, none, .p (.mv (.t 7))⟩,
  ⟨some 46, none, .p (.mv (.t 9))⟩,
  ⟨some 47, none, .p (.mv (.t 4))⟩,
  ⟨some 48, none, .p (.bin .mul (.t 46) (.t 47))⟩,
  ⟨some 49, none, .p (.mv (.t 9))⟩,
  ⟨some 50, none, .p (.bin .add (.t 49) (.c (.int .i64 1)))⟩,
  ⟨some 51, none, .p (.mv (.t 4))⟩,
  ⟨some 52, none, .p (.bin .mul (.t 50) (.t 51))⟩,
  ⟨some 53, none, .p (.mv (.t 9))⟩,
  ⟨some 54, none, .p (.bin .add (.t 53) (.c (.int .i64 1)))⟩,
  ⟨some 55, none, .p (.mv (.t 4))⟩,
  ⟨some 56, none, .p (.bin .mul (.t 54) (.t 55))⟩,
  ⟨some 57, none, .p (.slc 2 (.t 45) (some (.t 48)) (some (.t 52)) (some (.t 56)))⟩,
  ⟨some 58, none, .e (.bslm 1 [(.t 57)])⟩,
  ⟨some 59, none, .e (.app 1 24 false (.t 44) (.t 58))⟩,
  ⟨some 8, none, .p (.mv (.t 59))⟩]
def mat_Turn_r15 : List AIns := [⟨some 60, none, .p (.bin .add (.t 25) (.c (.int .i64 1)))⟩,
  ⟨some 25, none, .p (.mv (.t 60))⟩]
def mat_Turn_l0 : ACode := .seq (.region mat_Turn_r7 false) (.seq (.cond (.t 26) (.skip) (.exit 0)) (.seq (.block 1 (.seq (.region mat_Turn_r8 false) (.seq (.seq (.region mat_Turn_r9 false) (.block 2 (.loop mat_Turn_l1))) (.region mat_Turn_r14 false)))) (.region mat_Turn_r15 false)))
def mat_Turn_r16 : List AIns := [⟨some 61, none, .p (.mv (.t 8))⟩,
  ⟨some 2, none, .p (.mv (.t 61))⟩,
  ⟨some 3, none, .p (.mv (.c (.int .i64 0)))⟩]
def mat_Turn_c : ACode := .seq (.region mat_Turn_r0 false) (.seq (.region mat_Turn_r1 false) (.seq (.seq (.region mat_Turn_r2 false) (.cond (.t 18) (.seq (.region mat_Turn_r3 false) (.ret)) (.skip))) (.seq (.region mat_Turn_r4 false) (.seq (.region mat_Turn_r5 false) (.seq (.seq (.region mat_Turn_r6 false) (.block 0 (.loop mat_Turn_l0))) (.seq (.region mat_Turn_r16 false) (.ret)))))))
theorem mat_Turn_ok : fchk Pr (fun _ k => (k == 14)) Try.f34 = some (mat_Turn_c, [.tmp 2, .tmp 3], 62) := by kernel_rfl
theorem mat_Turn_fn : Pr.funcs[F_mat_Turn]? = some Try.f34 := Try.func34
def ref04_Form_r0 : List AIns := [⟨some 2, none, .p (.mv (.c (.nil)))⟩]
def ref04_Form_r1 : List AIns := [⟨some 3, none, .p (.mv (.c (.nil)))⟩]
def ref04_Form_r2 : List AIns := [⟨some 4, none, .p (.mv (.c (.int .i64 0)))⟩]
def ref04_Form_r3 : List AIns := [⟨some 5, none, .p (.mv (.t 4))⟩,
  ⟨some 6, none, .p (.mv (.t 0))⟩,
  ⟨some 7, none, .p (.len (.t 6))⟩,
  ⟨some 8, none, .p (.bin .lss (.t 5) (.t 7))⟩]
def ref04_Form_r4 : List AIns := [⟨some 11, none, .p (.mv (.t 3))⟩,
  ⟨some 12, none, .call F_ref02_Of [(.c (.int .i64 1))]⟩,
  ⟨some 13, none, .p (.mv (.t 0))⟩,
  ⟨some 14, none, .p (.mv (.t 4))⟩,
  ⟨some 15, none, .p (.idxp 1 (.t 13) (.t 14))⟩,
  ⟨some 16, none, .p (.load none (.t 15))⟩,
  ⟨some 17, none, .call F_ref04_Times [(.t 12), (.t 16)]⟩,
  ⟨some 18, none, .e (.bsl 1 [(.t 17)])⟩,
  ⟨some 19, none, .e (.app 1 24 false (.t 11) (.t 18))⟩,
  ⟨some 3, none, .p (.mv (.t 19))⟩]
def ref04_Form_r5 : List AIns := [⟨some 9, none, .p (.mv (.t 4))⟩,
  ⟨some 10, none, .p (.bin .add (.t 9) (.c (.int .i64 1)))⟩,
  ⟨some 4, none, .p (.mv (.t 10))⟩]
def ref04_Form_l0 : ACode := .seq (.seq (.region ref04_Form_r3 false) (.cond (.t 8) (.skip) (.exit 0))) (.seq (.block 1 (.region ref04_Form_r4 true)) (.region ref04_Form_r5 false))
def ref04_Form_r6 : List AIns := [⟨some 20, none, .p (.mv (.t 3))⟩,
  ⟨some 2, none, .p (.mv (.t 20))⟩]
def ref04_Form_c : ACode := .seq (.region ref04_Form_r0 false) (.seq (.region ref04_Form_r1 false) (.seq (.seq (.region ref04_Form_r2 false) (.block 0 (.loop ref04_Form_l0))) (.seq (.region ref04_Form_r6 false) (.ret))))
theorem ref04_Form_ok : fchk Pr (fun _ _ => false) Try.f35 = some (ref04_Form_c, [.tmp 2], 21) := by kernel_rfl
theorem ref04_Form_fn : Pr.funcs[F_ref04_Form]? = some Try.f35 := Try.func35
def zint_Neg_r0 : List AIns := [⟨some 1, none, .e (.box 2 (.t 0))⟩,
  ⟨some 2, none, .e (.box 2 (.c (.agg [.bool false, .nil])))⟩]
def zint_Neg_r1 : List AIns := [⟨some 3, none, .p (.fldp (.t 1) 0)⟩,
  ⟨some 4, none, .p (.load none (.t 3))⟩,
  ⟨some 5, none, .p (.un .not (.t 4))⟩,
  ⟨some 6, none, .p (.fldp (.t 1) 1)⟩,
  ⟨some 7, none, .p (.load none (.t 6))⟩,
  ⟨some 8, none, .call F_zint_made [(.t 5), (.t 7)]⟩,
  ⟨none, none, .e (.store 2 (.t 2) (.t 8))⟩]
def zint_Neg_c : ACode := .seq (.region zint_Neg_r0 false) (.seq (.region zint_Neg_r1 false) (.ret))
theorem zint_Neg_ok : fchk Pr (fun _ _ => false) Try.f36 = some (zint_Neg_c, [.cell 2 (some 2)], 9) := by kernel_rfl
theorem zint_Neg_fn : Pr.funcs[F_zint_Neg]? = some Try.f36 := Try.func36
def mat_Product_r0 : List AIns := [⟨some 3, none, .e (.box 1 (.t 1))⟩,
  ⟨some 4, none, .p (.mv (.c (.nil)))⟩,
  ⟨some 5, none, .p (.mv (.c (.int .i64 0)))⟩]
def mat_Product_r1 : List AIns := [⟨some 13, none, .p (.mv (.t 0))⟩,
  ⟨some 14, none, .call F_mat_Shape [(.t 13)]⟩,
  ⟨some 12, none, .p (.mv (.t 14))⟩,
  ⟨some 15, none, .p (.ext (.t 12) 0)⟩,
  ⟨some 16, none, .p (.ext (.t 12) 1)⟩,
  ⟨some 17, none, .p (.ext (.t 12) 2)⟩,
  ⟨some 6, none, .p (.mv (.t 15))⟩,
  ⟨some 7, none, .p (.mv (.t 16))⟩,
  ⟨some 8, none, .p (.mv (.t 17))⟩]
def mat_Product_r2 : List AIns := [⟨some 19, none, .p (.load none (.t 3))⟩,
  ⟨some 20, none, .call F_mat_Shape [(.t 19)]⟩,
  ⟨some 18, none, .p (.mv (.t 20))⟩,
  ⟨some 21, none, .p (.ext (.t 18) 0)⟩,
  ⟨some 22, none, .p (.ext (.t 18) 1)⟩,
  ⟨some 23, none, .p (.ext (.t 18) 2)⟩,
  ⟨some 9, none, .p (.mv (.t 21))⟩,
  ⟨some 10, none, .p (.mv (.t 22))⟩,
  ⟨some 11, none, .p (.mv (.t 23))⟩]
def mat_Product_r3 : List AIns := [⟨some 24, none, .p (.mv (.t 8))⟩,
  ⟨some 25, none, .p (.bin .neq (.t 24) (.c (.int .i64 0)))⟩,
  ⟨some 26, none, .p (.mv (.t 25))⟩,
  ⟨some 27, some (26, false), .p (.mv (.t 11))⟩,
  ⟨some 28, some (26, false), .p (.bin .neq (.t 27) (.c (.int .i64 0)))⟩,
  ⟨some 29, none, .p (.pick (.t 26) (.c (.bool true)) (.t 28))⟩,
  ⟨some 30, none, .p (.mv (.t 29))⟩,
  ⟨some 31, some (30, false), .p (.mv (.t 6))⟩,
  ⟨some 32, some (30, false), .p (.bin .gtr (.t 31) (.c (.int .i64 0)))⟩,
  ⟨some 33, some (30, false), .p (.mv (.t 32))⟩,
  ⟨some 34, some (33, true), .p (.mv (.t 7))⟩,
  ⟨some 35, some (33, true), .p (.mv (.t 9))⟩,
  ⟨some 36, some (33, true), .p (.bin .neq (.t 34) (.t 35))⟩,
  ⟨some 37, some (30, false), .p (.pick (.t 33) (.t 36) (.c (.bool false)))⟩,
  ⟨some 38, none, .p (.pick (.t 30) (.c (.bool true)) (.t 37))⟩]
def mat_Product_r4 : List AIns := [⟨some 4, none, .p (.mv (.c (.nil)))⟩,
  ⟨some 5, none, .p (.mv (.c (.int .i64 8)))⟩]
def mat_Product_r5 : List AIns := [⟨some 39, none, .p (.mv (.t 0))⟩,
  ⟨some 40, none, .p (.mkfn F_mat_Product_1 [(.t 3)])⟩,
  ⟨some 41, none, .call F_mat_each_V_V [(.t 39), (.t 40)]⟩,
  ⟨some 4, none, .p (.mv (.t 41))⟩,
  ⟨some 5, none, .p (.mv (.c (.int .i64 0)))⟩]
def mat_Product_c : ACode := .seq (.region mat_Product_r0 false) (.seq (.region mat_Product_r1 false) (.seq (.region mat_Product_r2 false) (.seq (.seq (.region mat_Product_r3 false) (.cond (.t 38) (.seq (.region mat_Product_r4 false) (.ret)) (.skip))) (.seq (.region mat_Product_r5 false) (.ret)))))
theorem mat_Product_ok : fchk Pr (fun _ _ => false) Try.f37 = some (mat_Product_c, [.tmp 4, .tmp 5], 42) := by kernel_rfl
theorem mat_Product_fn : Pr.funcs[F_mat_Product]? = some Try.f37 := Try.func37
def zint_Mul_r0 : List AIns := [⟨some 2, none, .e (.box 2 (.t 0))⟩,
  ⟨some 3, none, .e (.box 2 (.t 1))⟩,
  ⟨some 4, none, .e (.box 2 (.c (.agg [.bool false, .nil])))⟩]
def zint_Mul_r1 : List AIns := [⟨some 5, none, .p (.fldp (.t 2) 0)⟩,
  ⟨some 6, none, .p (.load none (.t 5))⟩,
  ⟨some 7, none, .p (.fldp (.t 3) 0)⟩,
  ⟨some 8, none, .p (.load none (.t 7))⟩,
  ⟨some 9, none, .p (.beq true (.t 6) (.t 8))⟩,
  ⟨some 10, none, .p (.fldp (.t 2) 1)⟩,
  ⟨some 11, none, .p (.load none (.t 10))⟩,
  ⟨some 12, none, .p (.fldp (.t 3) 1)⟩,
  ⟨some 13, none, .p (.load none (.t 12))⟩,
  ⟨some 14, none, .call F_nat_Mul [(.t 11), (.t 13)]⟩,
  ⟨some 15, none, .call F_zint_made [(.t 9), (.t 14)]⟩,
  ⟨none, none, .e (.store 2 (.t 4) (.t 15))⟩]
def zint_Mul_c : ACode := .seq (.region zint_Mul_r0 false) (.seq (.region zint_Mul_r1 true) (.ret))
theorem zint_Mul_ok : fchk Pr (fun _ _ => false) Try.f38 = some (zint_Mul_c, [.cell 4 (some 2)], 16) := by kernel_rfl
theorem zint_Mul_fn : Pr.funcs[F_zint_Mul]? = some Try.f38 := Try.func38
def mat_Unit_r0 : List AIns := [⟨some 2, none, .p (.mv (.c (.nil)))⟩,
  ⟨some 3, none, .p (.mv (.c (.int .i64 0)))⟩]
def mat_Unit_r1 : List AIns := [⟨some 8, none, .p (.mv (.t 0))⟩,
  ⟨some 9, none, .p (.bin .lss (.t 8) (.c (.int .i64 0)))⟩,
  ⟨some 7, none, .p (.mv (.t 9))⟩]
def mat_Unit_r2 : List AIns := [⟨some 2, none, .p (.mv (.c (.nil)))⟩,
  ⟨some 3, none, .p (.mv (.c (.int .i64 1)))⟩]
def mat_Unit_r3 : List AIns := [⟨some 11, none, .p (.mv (.t 0))⟩,
  ⟨some 12, none, .p (.bin .gtr (.t 11) (.c (.int .i64 64)))⟩,
  ⟨some 10, none, .p (.mv (.t 12))⟩]
def mat_Unit_r4 : List AIns := [⟨some 2, none, .p (.mv (.c (.nil)))⟩,
  ⟨some 3, none, .p (.mv (.c (.int .i64 2)))⟩]
def mat_Unit_r5 : List AIns := [⟨some 4, none, .p (.mv (.c (.nil)))⟩]
def mat_Unit_r6 : List AIns := [⟨some 13, none, .p (.mv (.t 0))⟩,
  ⟨some 14, none, .p (.mv (.c (.int .i64 0)))⟩]
def mat_Unit_r7 : List AIns := [⟨some 15, none, .p (.bin .lss (.t 14) (.t 13))⟩]
def mat_Unit_r8 : List AIns := [⟨some 16, none, .p (.mv (.t 14))⟩,
  ⟨some 5, none, .p (.mv (.t 16))⟩]
def mat_Unit_r9 : List AIns := [⟨some 17, none, .p (.mv (.t 0))⟩,
  ⟨some 18, none, .e (.mksl 2 32 (.agg [.bool false, .nil]) (.t 17) (.t 17))⟩,
  ⟨some 6, none, .p (.mv (.t 18))⟩]
def mat_Unit_r10 : List AIns := [⟨some 19, none, .p (.mv (.t 6))⟩,
  ⟨some 20, none, .p (.mv (.t 5))⟩,
  ⟨some 21, none, .call F_zint_Of [(.c (.int .i64 1))]⟩,
  ⟨some 22, none, .p (.idxp 2 (.t 19) (.t 20))⟩,
  ⟨none, none, .e (.store 2 (.t 22) (.t 21))⟩]
def mat_Unit_r11 : List AIns := [⟨some 23, none, .p (.mv (.t 4))⟩,
  ⟨some 24, none, .p (.mv (.t 6))⟩,
  ⟨some 25, none, .e (.bsl 1 [(.t 24)])⟩,
  ⟨some 26, none, .e (.app 1 24 false (.t 23) (.t 25))⟩,
  ⟨some 4, none, .p (.mv (.t 26))⟩]
def mat_Unit_r12 : List AIns := [⟨some 27, none, .p (.bin .add (.t 14) (.c (.int .i64 1)))⟩,
  ⟨some 14, none, .p (.mv (.t 27))⟩]
def mat_Unit_l0 : ACode := .seq (.region mat_Unit_r7 false) (.seq (.cond (.t 15) (.skip) (.exit 1)) (.seq (.block 2 (.seq (.region mat_Unit_r8 false) (.seq (.region mat_Unit_r9 false) (.seq (.region mat_Unit_r10 false) (.region mat_Unit_r11 false))))) (.region mat_Unit_r12 false)))
def mat_Unit_r13 : List AIns := [⟨some 28, none, .p (.mv (.t 4))⟩,
  ⟨some 2, none, .p (.mv (.t 28))⟩,
  ⟨some 3, none, .p (.mv (.c (.int .i64 0)))⟩]
def mat_Unit_c : ACode := .seq (.region mat_Unit_r0 false) (.seq (.block 0 (.seq (.region mat_Unit_r1 false) (.cond (.t 7) (.seq (.region mat_Unit_r2 false) (.ret)) (.seq (.region mat_Unit_r3 false) (.cond (.t 10) (.seq (.region mat_Unit_r4 false) (.ret)) (.skip)))))) (.seq (.region mat_Unit_r5 false) (.seq (.seq (.region mat_Unit_r6 false) (.block 1 (.loop mat_Unit_l0))) (.seq (.region mat_Unit_r13 false) (.ret)))))
theorem mat_Unit_ok : fchk Pr (fun _ _ => false) Try.f43 = some (mat_Unit_c, [.tmp 2, .tmp 3], 29) := by kernel_rfl
theorem mat_Unit_fn : Pr.funcs[F_mat_Unit]? = some Try.f43 := Try.func43
def zint_Sign_r0 : List AIns := [⟨some 1, none, .e (.box 2 (.t 0))⟩,
  ⟨some 2, none, .p (.mv (.c (.int .i64 0)))⟩]
def zint_Sign_r1 : List AIns := [⟨some 4, none, .p (.fldp (.t 1) 1)⟩,
  ⟨some 5, none, .p (.load none (.t 4))⟩,
  ⟨some 6, none, .call F_nat_Bits [(.t 5)]⟩,
  ⟨some 7, none, .p (.bin .eql (.t 6) (.c (.int .i64 0)))⟩,
  ⟨some 3, none, .p (.mv (.t 7))⟩]
def zint_Sign_r2 : List AIns := [⟨some 2, none, .p (.mv (.c (.int .i64 0)))⟩]
def zint_Sign_r3 : List AIns := [⟨some 9, none, .p (.fldp (.t 1) 0)⟩,
  ⟨some 10, none, .p (.load none (.t 9))⟩,
  ⟨some 8, none, .p (.mv (.t 10))⟩]
def zint_Sign_r4 : List AIns := [⟨some 2, none, .p (.mv (.c (.int .i64 (-1))))⟩]
def zint_Sign_r5 : List AIns := [⟨some 2, none, .p (.mv (.c (.int .i64 1)))⟩]
def zint_Sign_c : ACode := .seq (.region zint_Sign_r0 false) (.seq (.block 0 (.seq (.region zint_Sign_r1 false) (.cond (.t 3) (.seq (.region zint_Sign_r2 false) (.ret)) (.seq (.region zint_Sign_r3 false) (.cond (.t 8) (.seq (.region zint_Sign_r4 false) (.ret)) (.skip)))))) (.seq (.region zint_Sign_r5 false) (.ret)))
theorem zint_Sign_ok : fchk Pr (fun _ _ => false) Try.f44 = some (zint_Sign_c, [.tmp 2], 11) := by kernel_rfl
theorem zint_Sign_fn : Pr.funcs[F_zint_Sign]? = some Try.f44 := Try.func44
end Go.Abs
set_option maxRecDepth 100000
noncomputable section
namespace Go.Abs
open Go.Proofs
def elim_asked_r0 : List AIns := [⟨some 2, none, .p (.mv (.c (.int .i64 0)))⟩,
  ⟨some 3, none, .p (.mv (.c (.int .i64 0)))⟩,
  ⟨some 4, none, .p (.mv (.c (.int .i64 0)))⟩]
def elim_asked_r1 : List AIns := [⟨some 9, none, .p (.mv (.t 0))⟩,
  ⟨some 10, none, .call F_mat_Shape [(.t 9)]⟩,
  ⟨some 8, none, .p (.mv (.t 10))⟩,
  ⟨some 11, none, .p (.ext (.t 8) 0)⟩,
  ⟨some 12, none, .p (.ext (.t 8) 1)⟩,
  ⟨some 13, none, .p (.ext (.t 8) 2)⟩,
  ⟨some 5, none, .p (.mv (.t 11))⟩,
  ⟨some 6, none, .p (.mv (.t 12))⟩,
  ⟨some 7, none, .p (.mv (.t 13))⟩]
def elim_asked_r2 : List AIns := [⟨some 14, none, .p (.mv (.t 7))⟩,
  ⟨some 15, none, .p (.bin .neq (.t 14) (.c (.int .i64 0)))⟩]
def elim_asked_r3 : List AIns := [⟨some 16, none, .p (.mv (.t 7))⟩,
  ⟨some 2, none, .p (.mv (.c (.int .i64 0)))⟩,
  ⟨some 3, none, .p (.mv (.c (.int .i64 0)))⟩,
  ⟨some 4, none, .p (.mv (.t 16))⟩]
def elim_asked_r4 : List AIns := [⟨some 17, none, .p (.mv (.t 5))⟩,
  ⟨some 18, none, .p (.bin .gtr (.t 17) (.c (.int .i64 64)))⟩,
  ⟨some 19, none, .p (.mv (.t 18))⟩,
  ⟨some 20, some (19, false), .p (.mv (.t 6))⟩,
  ⟨some 21, some (19, false), .p (.bin .gtr (.t 20) (.c (.int .i64 64)))⟩,
  ⟨some 22, none, .p (.pick (.t 19) (.c (.bool true)) (.t 21))⟩]
def elim_asked_r5 : List AIns := [⟨some 2, none, .p (.mv (.c (.int .i64 0)))⟩,
  ⟨some 3, none, .p (.mv (.c (.int .i64 0)))⟩,
  ⟨some 4, none, .p (.mv (.c (.int .i64 60)))⟩]
def elim_asked_r6 : List AIns := [⟨some 23, none, .p (.mv (.t 5))⟩,
  ⟨some 24, none, .p (.mv (.t 6))⟩,
  ⟨some 2, none, .p (.mv (.t 23))⟩,
  ⟨some 3, none, .p (.mv (.t 24))⟩,
  ⟨some 4, none, .p (.mv (.c (.int .i64 0)))⟩]
def elim_asked_c : ACode := .seq (.region elim_asked_r0 false) (.seq (.region elim_asked_r1 false) (.seq (.seq (.region elim_asked_r2 false) (.cond (.t 15) (.seq (.region elim_asked_r3 false) (.ret)) (.skip))) (.seq (.seq (.region elim_asked_r4 false) (.cond (.t 22) (.seq (.region elim_asked_r5 false) (.ret)) (.skip))) (.seq (.region elim_asked_r6 false) (.ret)))))
theorem elim_asked_ok : fchk Pr (fun _ _ => false) Try.f49 = some (elim_asked_c, [.tmp 2, .tmp 3, .tmp 4], 25) := by kernel_rfl
theorem elim_asked_fn : Pr.funcs[F_elim_asked]? = some Try.f49 := Try.func49
def elim_bareiss_r0 : List AIns := [⟨some 4, none, .p (.mv (.c (.nil)))⟩,
  ⟨some 5, none, .p (.mv (.c (.nil)))⟩,
  ⟨some 6, none, .e (.box 2 (.c (.agg [.bool false, .nil])))⟩,
  ⟨some 7, none, .p (.mv (.c (.bool false)))⟩]
def elim_bareiss_r1 : List AIns := [⟨some 18, none, .p (.mv (.t 0))⟩,
  ⟨some 19, none, .call F_elim_copied [(.t 18)]⟩,
  ⟨some 8, none, .p (.mv (.t 19))⟩]
def elim_bareiss_r2 : List AIns := [⟨some 9, none, .p (.mv (.c (.nil)))⟩]
def elim_bareiss_r3 : List AIns := [⟨some 20, none, .call F_zint_Of [(.c (.int .i64 1))]⟩,
  ⟨some 10, none, .e (.box 2 (.c (.agg [.bool false, .nil])))⟩,
  ⟨none, none, .e (.store 2 (.t 10) (.t 20))⟩,
  ⟨some 11, none, .p (.mv (.c (.bool false)))⟩]
def elim_bareiss_r4 : List AIns := [⟨some 21, none, .p (.mv (.t 1))⟩,
  ⟨some 22, none, .p (.mv (.c (.int .i64 0)))⟩]
def elim_bareiss_r5 : List AIns := [⟨some 23, none, .p (.bin .lss (.t 22) (.t 21))⟩]
def elim_bareiss_r6 : List AIns := [⟨some 24, none, .p (.mv (.t 22))⟩,
  ⟨some 12, none, .p (.mv (.t 24))⟩]
def elim_bareiss_r7 : List AIns := [⟨some 25, none, .p (.mv (.t 9))⟩,
  ⟨some 26, none, .p (.len (.t 25))⟩,
  ⟨some 13, none, .p (.mv (.t 26))⟩]
def elim_bareiss_r8 : List AIns := [⟨some 27, none, .p (.mv (.t 13))⟩,
  ⟨some 14, none, .p (.mv (.t 27))⟩]
def elim_bareiss_r9 : List AIns := [⟨some 28, none, .p (.mv (.t 14))⟩,
  ⟨some 29, none, .p (.mv (.t 8))⟩,
  ⟨some 30, none, .p (.len (.t 29))⟩,
  ⟨some 31, none, .p (.bin .lss (.t 28) (.t 30))⟩,
  ⟨some 32, none, .p (.mv (.t 31))⟩,
  ⟨some 33, some (32, true), .p (.mv (.t 8))⟩,
  ⟨some 34, some (32, true), .p (.mv (.t 14))⟩,
  ⟨some 35, some (32, true), .p (.idxp 1 (.t 33) (.t 34))⟩,
  ⟨some 36, some (32, true), .p (.load none (.t 35))⟩,
  ⟨some 37, some (32, true), .p (.mv (.t 12))⟩,
  ⟨some 38, some (32, true), .p (.idxp 2 (.t 36) (.t 37))⟩,
  ⟨some 39, some (32, true), .p (.load (some 2) (.t 38))⟩,
  ⟨some 40, some (32, true), .call F_zint_Sign [(.t 39)]⟩,
  ⟨some 41, some (32, true), .p (.bin .eql (.t 40) (.c (.int .i64 0)))⟩,
  ⟨some 42, none, .p (.pick (.t 32) (.t 41) (.c (.bool false)))⟩]
def elim_bareiss_r10 : List AIns := [⟨some 43, none, .p (.mv (.t 14))⟩,
  ⟨some 44, none, .p (.bin .add (.t 43) (.c (.int .i64 1)))⟩,
  ⟨some 14, none, .p (.mv (.t 44))⟩]
def elim_bareiss_l1 : ACode := .seq (.seq (.region elim_bareiss_r9 false) (.cond (.t 42) (.skip) (.exit 2))) (.block 3 (.region elim_bareiss_r10 false))
def elim_bareiss_r11 : List AIns := [⟨some 45, none, .p (.mv (.t 14))⟩,
  ⟨some 46, none, .p (.mv (.t 8))⟩,
  ⟨some 47, none, .p (.len (.t 46))⟩,
  ⟨some 48, none, .p (.bin .eql (.t 45) (.t 47))⟩]
def elim_bareiss_r12 : List AIns := [⟨some 49, none, .p (.mv (.t 14))⟩,
  ⟨some 50, none, .p (.mv (.t 13))⟩,
  ⟨some 51, none, .p (.bin .neq (.t 49) (.t 50))⟩]
def elim_bareiss_r13 : List AIns := [⟨some 52, none, .p (.mv (.t 8))⟩,
  ⟨some 53, none, .p (.mv (.t 14))⟩,
  ⟨some 54, none, .p (.mv (.t 8))⟩,
  ⟨some 55, none, .p (.mv (.t 13))⟩,
  ⟨some 56, none, .p (.mv (.t 8))⟩,
  ⟨some 57, none, .p (.mv (.t 13))⟩,
  ⟨some 58, none, .p (.idxp 1 (.t 56) (.t 57))⟩,
  ⟨some 59, none, .p (.load none (.t 58))⟩,
  ⟨some 60, none, .p (.mv (.t 8))⟩,
  ⟨some 61, none, .p (.mv (.t 14))⟩,
  ⟨some 62, none, .p (.idxp 1 (.t 60) (.t 61))⟩,
  ⟨some 63, none, .p (.load none (.t 62))⟩,
  ⟨some 64, none, .p (.idxp 1 (.t 52) (.t 53))⟩,
  ⟨none, none, .e (.store 1 (.t 64) (.t 59))⟩,
  ⟨some 65, none, .p (.idxp 1 (.t 54) (.t 55))⟩,
  ⟨none, none, .e (.store 1 (.t 65) (.t 63))⟩]
def elim_bareiss_r14 : List AIns := [⟨some 66, none, .p (.mv (.t 11))⟩,
  ⟨some 67, none, .p (.un .not (.t 66))⟩,
  ⟨some 11, none, .p (.mv (.t 67))⟩]
def elim_bareiss_r15 : List AIns := [⟨some 68, none, .p (.mv (.t 13))⟩,
  ⟨some 69, none, .p (.bin .add (.t 68) (.c (.int .i64 1)))⟩,
  ⟨some 15, none, .p (.mv (.t 69))⟩]
def elim_bareiss_r16 : List AIns := [⟨some 70, none, .p (.mv (.t 15))⟩,
  ⟨some 71, none, .p (.mv (.t 8))⟩,
  ⟨some 72, none, .p (.len (.t 71))⟩,
  ⟨some 73, none, .p (.bin .lss (.t 70) (.t 72))⟩]
def elim_bareiss_r17 : List AIns := [⟨some 76, none, .p (.mv (.t 8))⟩,
  ⟨some 77, none, .p (.mv (.t 15))⟩,
  ⟨some 78, none, .p (.idxp 1 (.t 76) (.t 77))⟩,
  ⟨some 79, none, .p (.load none (.t 78))⟩,
  ⟨some 80, none, .p (.len (.t 79))⟩,
  ⟨some 81, none, .p (.bin .sub (.t 80) (.c (.int .i64 1)))⟩,
  ⟨some 16, none, .p (.mv (.t 81))⟩]
def elim_bareiss_r18 : List AIns := [⟨some 82, none, .p (.mv (.t 16))⟩,
  ⟨some 83, none, .p (.mv (.t 12))⟩,
  ⟨some 84, none, .p (.bin .geq (.t 82) (.t 83))⟩]
def elim_bareiss_r19 : List AIns := [⟨some 87, none, .p (.mv (.t 8))⟩,
  ⟨some 88, none, .p (.mv (.t 13))⟩,
  ⟨some 89, none, .p (.idxp 1 (.t 87) (.t 88))⟩,
  ⟨some 90, none, .p (.load none (.t 89))⟩,
  ⟨some 91, none, .p (.mv (.t 12))⟩,
  ⟨some 92, none, .p (.idxp 2 (.t 90) (.t 91))⟩,
  ⟨some 93, none, .p (.load (some 2) (.t 92))⟩,
  ⟨some 94, none, .p (.mv (.t 8))⟩,
  ⟨some 95, none, .p (.mv (.t 15))⟩,
  ⟨some 96, none, .p (.idxp 1 (.t 94) (.t 95))⟩,
  ⟨some 97, none, .p (.load none (.t 96))⟩,
  ⟨some 98, none, .p (.mv (.t 16))⟩,
  ⟨some 99, none, .p (.idxp 2 (.t 97) (.t 98))⟩,
  ⟨some 100, none, .p (.load (some 2) (.t 99))⟩,
  ⟨some 101, none, .call F_zint_Mul [(.t 93), (.t 100)]⟩,
  ⟨some 102, none, .p (.mv (.t 8))⟩,
  ⟨some 103, none, .p (.mv (.t 15))⟩,
  ⟨some 104, none, .p (.idxp 1 (.t 102) (.t 103))⟩,
  ⟨some 105, none, .p (.load none (.t 104))⟩,
  ⟨some 106, none, .p (.mv (.t 12))⟩,
  ⟨some 107, none, .p (.idxp 2 (.t 105) (.t 106))⟩,
  ⟨some 108, none, .p (.load (some 2) (.t 107))⟩,
  ⟨some 109, none, .p (.mv (.t 8))⟩,
  ⟨some 110, none, .p (.mv (.t 13))⟩,
  ⟨some 111, none, .p (.idxp 1 (.t 109) (.t 110))⟩,
  ⟨some 112, none, .p (.load none (.t 111))⟩,
  ⟨some 113, none, .p (.mv (.t 16))⟩,
  ⟨some 114, none, .p (.idxp 2 (.t 112) (.t 113))⟩,
  ⟨some 115, none, .p (.load (some 2) (.t 114))⟩,
  ⟨some 116, none, .call F_zint_Mul [(.t 108), (.t 115)]⟩,
  ⟨some 117, none, .call F_zint_Sub [(.t 101), (.t 116)]⟩,
  ⟨some 17, none, .e (.box 2 (.c (.agg [.bool false, .nil])))⟩,
  ⟨none, none, .e (.store 2 (.t 17) (.t 117))⟩]
def elim_bareiss_r20 : List AIns := [⟨some 119, none, .p (.mv (.t 8))⟩,
  ⟨some 120, none, .p (.mv (.t 15))⟩,
  ⟨some 121, none, .p (.idxp 1 (.t 119) (.t 120))⟩,
  ⟨some 122, none, .p (.load none (.t 121))⟩,
  ⟨some 123, none, .p (.mv (.t 16))⟩,
  ⟨some 124, none, .p (.load (some 2) (.t 17))⟩,
  ⟨some 125, none, .p (.load (some 2) (.t 10))⟩,
  ⟨some 126, none, .call F_zint_Floor [(.t 124), (.t 125)]⟩,
  ⟨some 118, none, .p (.mv (.t 126))⟩,
  ⟨some 127, none, .p (.ext (.t 118) 0)⟩,
  ⟨some 128, none, .p (.ext (.t 118) 1)⟩,
  ⟨some 129, none, .p (.ext (.t 118) 2)⟩,
  ⟨some 130, none, .p (.idxp 2 (.t 122) (.t 123))⟩,
  ⟨none, none, .e (.store 2 (.t 130) (.t 127))⟩]
def elim_bareiss_r21 : List AIns := [⟨some 85, none, .p (.mv (.t 16))⟩,
  ⟨some 86, none, .p (.bin .sub (.t 85) (.c (.int .i64 1)))⟩,
  ⟨some 16, none, .p (.mv (.t 86))⟩]
def elim_bareiss_l3 : ACode := .seq (.seq (.region elim_bareiss_r18 false) (.cond (.t 84) (.skip) (.exit 6))) (.seq (.block 7 (.seq (.region elim_bareiss_r19 true) (.region elim_bareiss_r20 true))) (.region elim_bareiss_r21 false))
def elim_bareiss_r22 : List AIns := [⟨some 74, none, .p (.mv (.t 15))⟩,
  ⟨some 75, none, .p (.bin .add (.t 74) (.c (.int .i64 1)))⟩,
  ⟨some 15, none, .p (.mv (.t 75))⟩]
def elim_bareiss_l2 : ACode := .seq (.seq (.region elim_bareiss_r16 false) (.cond (.t 73) (.skip) (.exit 4))) (.seq (.block 5 (.seq (.region elim_bareiss_r17 false) (.block 6 (.loop elim_bareiss_l3)))) (.region elim_bareiss_r22 false))
def elim_bareiss_r23 : List AIns := [⟨some 131, none, .p (.mv (.t 8))⟩,
  ⟨some 132, none, .p (.mv (.t 13))⟩,
  ⟨some 133, none, .p (.idxp 1 (.t 131) (.t 132))⟩,
  ⟨some 134, none, .p (.load none (.t 133))⟩,
  ⟨some 135, none, .p (.mv (.t 12))⟩,
  ⟨some 136, none, .p (.idxp 2 (.t 134) (.t 135))⟩,
  ⟨some 137, none, .p (.load (some 2) (.t 136))⟩,
  ⟨none, none, .e (.store 2 (.t 10) (.t 137))⟩]
def elim_bareiss_r24 : List AIns := [⟨some 138, none, .p (.mv (.t 9))⟩,
  ⟨some 139, none, .p (.mv (.t 12))⟩,
  ⟨some 140, none, .e (.bsl 1 [(.t 139)])⟩,
  ⟨some 141, none, .e (.app 1 8 false (.t 138) (.t 140))⟩,
  ⟨some 9, none, .p (.mv (.t 141))⟩]
def elim_bareiss_r25 : List AIns := [⟨some 142, none, .p (.bin .add (.t 22) (.c (.int .i64 1)))⟩,
  ⟨some 22, none, .p (.mv (.t 142))⟩]
def elim_bareiss_l0 : ACode := .seq (.region elim_bareiss_r5 false) (.seq (.cond (.t 23) (.skip) (.exit 0)) (.seq (.block 1 (.seq (.region elim_bareiss_r6 false) (.seq (.region elim_bareiss_r7 false) (.seq (.region elim_bareiss_r8 false) (.seq (.block 2 (.loop elim_bareiss_l1)) (.seq (.seq (.region elim_bareiss_r11 false) (.cond (.t 48) (.exit 1) (.skip))) (.seq (.seq (.region elim_bareiss_r12 false) (.cond (.t 51) (.seq (.region elim_bareiss_r13 true) (.region elim_bareiss_r14 false)) (.skip))) (.seq (.seq (.region elim_bareiss_r15 false) (.block 4 (.loop elim_bareiss_l2))) (.seq (.region elim_bareiss_r23 false) (.region elim_bareiss_r24 false)))))))))) (.region elim_bareiss_r25 false)))
def elim_bareiss_r26 : List AIns := [⟨some 143, none, .p (.mv (.t 8))⟩,
  ⟨some 144, none, .p (.mv (.t 9))⟩,
  ⟨some 145, none, .p (.load (some 2) (.t 10))⟩,
  ⟨some 146, none, .p (.mv (.t 11))⟩,
  ⟨some 4, none, .p (.mv (.t 143))⟩,
  ⟨some 5, none, .p (.mv (.t 144))⟩,
  ⟨none, none, .e (.store 2 (.t 6) (.t 145))⟩,
  ⟨some 7, none, .p (.mv (.t 146))⟩]
def elim_bareiss_c : ACode := .seq (.region elim_bareiss_r0 false) (.scope (.seq (.region elim_bareiss_r1 false) (.seq (.region elim_bareiss_r2 false) (.seq (.region elim_bareiss_r3 false) (.seq (.skip) (.seq (.seq (.region elim_bareiss_r4 false) (.block 0 (.loop elim_bareiss_l0))) (.seq (.region elim_bareiss_r26 true) (.ret))))))))
theorem elim_bareiss_ok : fchk Pr (fun _ _ => false) Try.f50 = some (elim_bareiss_c, [.tmp 4, .tmp 5, .cell 6 (some 2), .tmp 7], 147) := by kernel_rfl
theorem elim_bareiss_fn : Pr.funcs[F_elim_bareiss]? = some Try.f50 := Try.func50
def elim_square_r0 : List AIns := [⟨some 2, none, .p (.mv (.c (.int .i64 0)))⟩,
  ⟨some 3, none, .p (.mv (.c (.int .i64 0)))⟩]
def elim_square_r1 : List AIns := [⟨some 8, none, .p (.mv (.t 0))⟩,
  ⟨some 9, none, .call F_elim_asked [(.t 8)]⟩,
  ⟨some 7, none, .p (.mv (.t 9))⟩,
  ⟨some 10, none, .p (.ext (.t 7) 0)⟩,
  ⟨some 11, none, .p (.ext (.t 7) 1)⟩,
  ⟨some 12, none, .p (.ext (.t 7) 2)⟩,
  ⟨some 4, none, .p (.mv (.t 10))⟩,
  ⟨some 5, none, .p (.mv (.t 11))⟩,
  ⟨some 6, none, .p (.mv (.t 12))⟩]
def elim_square_r2 : List AIns := [⟨some 13, none, .p (.mv (.t 6))⟩,
  ⟨some 14, none, .p (.bin .eql (.t 13) (.c (.int .i64 0)))⟩,
  ⟨some 15, none, .p (.mv (.t 14))⟩,
  ⟨some 16, some (15, true), .p (.mv (.t 4))⟩,
  ⟨some 17, some (15, true), .p (.mv (.t 5))⟩,
  ⟨some 18, some (15, true), .p (.bin .neq (.t 16) (.t 17))⟩,
  ⟨some 19, none, .p (.pick (.t 15) (.t 18) (.c (.bool false)))⟩]
def elim_square_r3 : List AIns := [⟨some 6, none, .p (.mv (.c (.int .i64 8)))⟩]
def elim_square_r4 : List AIns := [⟨some 20, none, .p (.mv (.t 4))⟩,
  ⟨some 21, none, .p (.mv (.t 6))⟩,
  ⟨some 2, none, .p (.mv (.t 20))⟩,
  ⟨some 3, none, .p (.mv (.t 21))⟩]
def elim_square_c : ACode := .seq (.region elim_square_r0 false) (.seq (.region elim_square_r1 false) (.seq (.seq (.region elim_square_r2 false) (.cond (.t 19) (.region elim_square_r3 false) (.skip))) (.seq (.region elim_square_r4 false) (.ret))))
theorem elim_square_ok : fchk Pr (fun _ _ => false) Try.f55 = some (elim_square_c, [.tmp 2, .tmp 3], 22) := by kernel_rfl
theorem elim_square_fn : Pr.funcs[F_elim_square]? = some Try.f55 := Try.func55
def elim_det_r0 : List AIns := [⟨some 2, none, .e (.box 2 (.c (.agg [.bool false, .nil])))⟩]
def elim_det_r1 : List AIns := [⟨some 8, none, .p (.mv (.t 0))⟩,
  ⟨some 9, none, .p (.len (.t 8))⟩,
  ⟨some 3, none, .p (.mv (.t 9))⟩]
def elim_det_r2 : List AIns := [⟨some 11, none, .p (.mv (.t 0))⟩,
  ⟨some 12, none, .p (.mv (.t 3))⟩,
  ⟨some 13, none, .call F_elim_bareiss [(.t 11), (.t 12)]⟩,
  ⟨some 10, none, .p (.mv (.t 13))⟩,
  ⟨some 14, none, .p (.ext (.t 10) 0)⟩,
  ⟨some 15, none, .p (.ext (.t 10) 1)⟩,
  ⟨some 16, none, .p (.ext (.t 10) 2)⟩,
  ⟨some 17, none, .p (.ext (.t 10) 3)⟩,
  ⟨some 6, none, .e (.box 2 (.c (.agg [.bool false, .nil])))⟩,
  ⟨some 4, none, .p (.mv (.t 14))⟩,
  ⟨some 5, none, .p (.mv (.t 15))⟩,
  ⟨none, none, .e (.store 2 (.t 6) (.t 16))⟩,
  ⟨some 7, none, .p (.mv (.t 17))⟩]
def elim_det_r3 : List AIns := [⟨some 19, none, .p (.mv (.t 5))⟩,
  ⟨some 20, none, .p (.len (.t 19))⟩,
  ⟨some 21, none, .p (.mv (.t 3))⟩,
  ⟨some 22, none, .p (.bin .lss (.t 20) (.t 21))⟩,
  ⟨some 18, none, .p (.mv (.t 22))⟩]
def elim_det_r4 : List AIns := [⟨some 23, none, .p (.bld [.bool false, .nil] [])⟩,
  ⟨none, none, .e (.store 2 (.t 2) (.t 23))⟩]
def elim_det_r5 : List AIns := [⟨some 25, none, .p (.mv (.t 7))⟩,
  ⟨some 24, none, .p (.mv (.t 25))⟩]
def elim_det_r6 : List AIns := [⟨some 26, none, .p (.load (some 2) (.t 6))⟩,
  ⟨some 27, none, .call F_zint_Neg [(.t 26)]⟩,
  ⟨none, none, .e (.store 2 (.t 2) (.t 27))⟩]
def elim_det_r7 : List AIns := [⟨some 28, none, .p (.load (some 2) (.t 6))⟩,
  ⟨some 29, none, .call F_zint_Form [(.t 28)]⟩,
  ⟨none, none, .e (.store 2 (.t 2) (.t 29))⟩]
def elim_det_c : ACode := .seq (.region elim_det_r0 false) (.seq (.region elim_det_r1 false) (.seq (.region elim_det_r2 false) (.seq (.block 0 (.seq (.region elim_det_r3 false) (.cond (.t 18) (.seq (.region elim_det_r4 false) (.ret)) (.seq (.region elim_det_r5 false) (.cond (.t 24) (.seq (.region elim_det_r6 false) (.ret)) (.skip)))))) (.seq (.region elim_det_r7 false) (.ret)))))
theorem elim_det_ok : fchk Pr (fun _ _ => false) Try.f56 = some (elim_det_c, [.cell 2 (some 2)], 30) := by kernel_rfl
theorem elim_det_fn : Pr.funcs[F_elim_det]? = some Try.f56 := Try.func56
def zint_Of_r0 : List AIns := [⟨some 2, none, .e (.box 2 (.c (.agg [.bool false, .nil])))⟩]
def zint_Of_r1 : List AIns := [⟨some 4, none, .p (.mv (.t 0))⟩,
  ⟨some 5, none, .p (.conv .u64 (.t 4))⟩,
  ⟨some 3, none, .p (.mv (.t 5))⟩]
def zint_Of_r2 : List AIns := [⟨some 6, none, .p (.mv (.t 0))⟩,
  ⟨some 7, none, .p (.bin .lss (.t 6) (.c (.int .i64 0)))⟩]
def zint_Of_r3 : List AIns := [⟨some 8, none, .p (.mv (.t 3))⟩,
  ⟨some 9, none, .p (.un .neg (.t 8))⟩,
  ⟨some 3, none, .p (.mv (.t 9))⟩]
def zint_Of_r4 : List AIns := [⟨some 10, none, .p (.mv (.t 0))⟩,
  ⟨some 11, none, .p (.bin .lss (.t 10) (.c (.int .i64 0)))⟩,
  ⟨some 12, none, .p (.mv (.t 3))⟩,
  ⟨some 13, none, .p (.conv .u32 (.t 12))⟩,
  ⟨some 14, none, .p (.mv (.t 3))⟩,
  ⟨some 15, none, .p (.bin .shr (.t 14) (.c (.int .u64 32)))⟩,
  ⟨some 16, none, .p (.conv .u32 (.t 15))⟩,
  ⟨some 17, none, .e (.bsl 1 [(.t 13), (.t 16)])⟩,
  ⟨some 18, none, .call F_zint_made [(.t 11), (.t 17)]⟩,
  ⟨none, none, .e (.store 2 (.t 2) (.t 18))⟩]
def zint_Of_c : ACode := .seq (.region zint_Of_r0 false) (.seq (.region zint_Of_r1 false) (.seq (.seq (.region zint_Of_r2 false) (.cond (.t 7) (.region zint_Of_r3 false) (.skip))) (.seq (.region zint_Of_r4 false) (.ret))))
theorem zint_Of_ok : fchk Pr (fun _ _ => false) Try.f60 = some (zint_Of_c, [.cell 2 (some 2)], 19) := by kernel_rfl
theorem zint_Of_fn : Pr.funcs[F_zint_Of]? = some Try.f60 := Try.func60
def ref02_Of_r0 : List AIns := [⟨some 2, none, .e (.box 2 (.c (.agg [.bool false, .nil])))⟩]
def ref02_Of_r1 : List AIns := [⟨some 4, none, .p (.mv (.t 0))⟩,
  ⟨some 5, none, .p (.conv .u64 (.t 4))⟩,
  ⟨some 3, none, .p (.mv (.t 5))⟩]
def ref02_Of_r2 : List AIns := [⟨some 6, none, .p (.mv (.t 0))⟩,
  ⟨some 7, none, .p (.bin .lss (.t 6) (.c (.int .i64 0)))⟩]
def ref02_Of_r3 : List AIns := [⟨some 8, none, .p (.mv (.t 3))⟩,
  ⟨some 9, none, .p (.un .neg (.t 8))⟩,
  ⟨some 3, none, .p (.mv (.t 9))⟩]
def ref02_Of_r4 : List AIns := [⟨some 10, none, .p (.mv (.t 0))⟩,
  ⟨some 11, none, .p (.bin .lss (.t 10) (.c (.int .i64 0)))⟩,
  ⟨some 12, none, .p (.mv (.t 3))⟩,
  ⟨some 13, none, .p (.conv .u32 (.t 12))⟩,
  ⟨some 14, none, .p (.mv (.t 3))⟩,
  ⟨some 15, none, .p (.bin .shr (.t 14) (.c (.int .u64 32)))⟩,
  ⟨some 16, none, .p (.conv .u32 (.t 15))⟩,
  ⟨some 17, none, .e (.bsl 1 [(.t 13), (.t 16)])⟩,
  ⟨some 18, none, .call F_ref02_made [(.t 11), (.t 17)]⟩,
  ⟨none, none, .e (.store 2 (.t 2) (.t 18))⟩]
def ref02_Of_c : ACode := .seq (.region ref02_Of_r0 false) (.seq (.region ref02_Of_r1 false) (.seq (.seq (.region ref02_Of_r2 false) (.cond (.t 7) (.region ref02_Of_r3 false) (.skip))) (.seq (.region ref02_Of_r4 false) (.ret))))
theorem ref02_Of_ok : fchk Pr (fun _ _ => false) Try.f63 = some (ref02_Of_c, [.cell 2 (some 2)], 19) := by kernel_rfl
theorem ref02_Of_fn : Pr.funcs[F_ref02_Of]? = some Try.f63 := Try.func63
def mat_Shape_r0 : List AIns := [⟨some 2, none, .p (.mv (.c (.int .i64 0)))⟩,
  ⟨some 3, none, .p (.mv (.c (.int .i64 0)))⟩,
  ⟨some 4, none, .p (.mv (.c (.int .i64 0)))⟩]
def mat_Shape_r1 : List AIns := [⟨some 7, none, .p (.mv (.t 0))⟩,
  ⟨some 8, none, .p (.len (.t 7))⟩,
  ⟨some 9, none, .p (.bin .eql (.t 8) (.c (.int .i64 0)))⟩]
def mat_Shape_r2 : List AIns := [⟨some 2, none, .p (.mv (.c (.int .i64 0)))⟩,
  ⟨some 3, none, .p (.mv (.c (.int .i64 0)))⟩,
  ⟨some 4, none, .p (.mv (.c (.int .i64 0)))⟩]
def mat_Shape_r3 : List AIns := [⟨some 10, none, .p (.mv (.t 0))⟩,
  ⟨some 11, none, .p (.len (.t 10))⟩,
  ⟨some 12, none, .p (.mv (.c (.int .i64 0)))⟩]
def mat_Shape_r4 : List AIns := [⟨some 13, none, .p (.bin .lss (.t 12) (.t 11))⟩]
def mat_Shape_r5 : List AIns := [⟨some 14, none, .p (.idxp 1 (.t 10) (.t 12))⟩,
  ⟨some 15, none, .p (.load none (.t 14))⟩,
  ⟨some 6, none, .p (.mv (.t 15))⟩]
def mat_Shape_r6 : List AIns := [⟨some 16, none, .p (.mv (.t 6))⟩,
  ⟨some 17, none, .p (.len (.t 16))⟩,
  ⟨some 18, none, .p (.mv (.t 0))⟩,
  ⟨some 19, none, .p (.idxp 1 (.t 18) (.c (.int .i64 0)))⟩,
  ⟨some 20, none, .p (.load none (.t 19))⟩,
  ⟨some 21, none, .p (.len (.t 20))⟩,
  ⟨some 22, none, .p (.bin .neq (.t 17) (.t 21))⟩]
def mat_Shape_r7 : List AIns := [⟨some 2, none, .p (.mv (.c (.int .i64 0)))⟩,
  ⟨some 3, none, .p (.mv (.c (.int .i64 0)))⟩,
  ⟨some 4, none, .p (.mv (.c (.int .i64 8)))⟩]
def mat_Shape_r8 : List AIns := [⟨some 23, none, .p (.bin .add (.t 12) (.c (.int .i64 1)))⟩,
  ⟨some 12, none, .p (.mv (.t 23))⟩]
def mat_Shape_l0 : ACode := .seq (.region mat_Shape_r4 false) (.seq (.cond (.t 13) (.skip) (.exit 0)) (.seq (.block 1 (.seq (.region mat_Shape_r5 false) (.seq (.region mat_Shape_r6 false) (.cond (.t 22) (.seq (.region mat_Shape_r7 false) (.ret)) (.skip))))) (.region mat_Shape_r8 false)))
def mat_Shape_r9 : List AIns := [⟨some 24, none, .p (.mv (.t 0))⟩,
  ⟨some 25, none, .p (.len (.t 24))⟩,
  ⟨some 26, none, .p (.mv (.t 0))⟩,
  ⟨some 27, none, .p (.idxp 1 (.t 26) (.c (.int .i64 0)))⟩,
  ⟨some 28, none, .p (.load none (.t 27))⟩,
  ⟨some 29, none, .p (.len (.t 28))⟩,
  ⟨some 2, none, .p (.mv (.t 25))⟩,
  ⟨some 3, none, .p (.mv (.t 29))⟩,
  ⟨some 4, none, .p (.mv (.c (.int .i64 0)))⟩]
def mat_Shape_c : ACode := .seq (.region mat_Shape_r0 false) (.seq (.seq (.region mat_Shape_r1 false) (.cond (.t 9) (.seq (.region mat_Shape_r2 false) (.ret)) (.skip))) (.seq (.seq (.region mat_Shape_r3 false) (.block 0 (.loop mat_Shape_l0))) (.seq (.region mat_Shape_r9 true) (.ret))))
theorem mat_Shape_ok : fchk Pr (fun _ _ => false) Try.f70 = some (mat_Shape_c, [.tmp 2, .tmp 3, .tmp 4], 30) := by kernel_rfl
theorem mat_Shape_fn : Pr.funcs[F_mat_Shape]? = some Try.f70 := Try.func70
def zint_Form_r0 : List AIns := [⟨some 1, none, .e (.box 2 (.t 0))⟩,
  ⟨some 2, none, .e (.box 2 (.c (.agg [.bool false, .nil])))⟩]
def zint_Form_r1 : List AIns := [⟨some 3, none, .p (.fldp (.t 1) 0)⟩,
  ⟨some 4, none, .p (.load none (.t 3))⟩,
  ⟨some 5, none, .p (.fldp (.t 1) 1)⟩,
  ⟨some 6, none, .p (.load none (.t 5))⟩,
  ⟨some 7, none, .call F_zint_made [(.t 4), (.t 6)]⟩,
  ⟨none, none, .e (.store 2 (.t 2) (.t 7))⟩]
def zint_Form_c : ACode := .seq (.region zint_Form_r0 false) (.seq (.region zint_Form_r1 false) (.ret))
theorem zint_Form_ok : fchk Pr (fun _ _ => false) Try.f71 = some (zint_Form_c, [.cell 2 (some 2)], 8) := by kernel_rfl
theorem zint_Form_fn : Pr.funcs[F_zint_Form]? = some Try.f71 := Try.func71
def ref04_Times_r0 : List AIns := [⟨some 2, none, .e (.box 2 (.t 0))⟩,
  ⟨some 4, none, .p (.mv (.c (.nil)))⟩]
def ref04_Times_r1 : List AIns := [⟨some 5, none, .p (.mv (.c (.nil)))⟩]
def ref04_Times_r2 : List AIns := [⟨some 6, none, .p (.mv (.c (.int .i64 0)))⟩]
def ref04_Times_r3 : List AIns := [⟨some 7, none, .p (.mv (.t 6))⟩,
  ⟨some 8, none, .p (.mv (.t 1))⟩,
  ⟨some 9, none, .p (.len (.t 8))⟩,
  ⟨some 10, none, .p (.bin .lss (.t 7) (.t 9))⟩]
def ref04_Times_r4 : List AIns := [⟨some 13, none, .p (.mv (.t 5))⟩,
  ⟨some 14, none, .p (.load (some 2) (.t 2))⟩,
  ⟨some 15, none, .p (.mv (.t 1))⟩,
  ⟨some 16, none, .p (.mv (.t 6))⟩,
  ⟨some 17, none, .p (.idxp 2 (.t 15) (.t 16))⟩,
  ⟨some 18, none, .p (.load (some 2) (.t 17))⟩,
  ⟨some 19, none, .call F_ref02_Mul [(.t 14), (.t 18)]⟩,
  ⟨some 20, none, .e (.bsl 2 [(.t 19)])⟩,
  ⟨some 21, none, .e (.app 2 32 false (.t 13) (.t 20))⟩,
  ⟨some 5, none, .p (.mv (.t 21))⟩]
def ref04_Times_r5 : List AIns := [⟨some 11, none, .p (.mv (.t 6))⟩,
  ⟨some 12, none, .p (.bin .add (.t 11) (.c (.int .i64 1)))⟩,
  ⟨some 6, none, .p (.mv (.t 12))⟩]
def ref04_Times_l0 : ACode := .seq (.seq (.region ref04_Times_r3 false) (.cond (.t 10) (.skip) (.exit 0))) (.seq (.block 1 (.region ref04_Times_r4 true)) (.region ref04_Times_r5 false))
def ref04_Times_r6 : List AIns := [⟨some 22, none, .p (.mv (.t 5))⟩,
  ⟨some 4, none, .p (.mv (.t 22))⟩]
def ref04_Times_c : ACode := .seq (.region ref04_Times_r0 false) (.seq (.region ref04_Times_r1 false) (.seq (.seq (.region ref04_Times_r2 false) (.block 0 (.loop ref04_Times_l0))) (.seq (.region ref04_Times_r6 false) (.ret))))
theorem ref04_Times_ok : fchk Pr (fun _ _ => false) Try.f72 = some (ref04_Times_c, [.tmp 4], 23) := by kernel_rfl
theorem ref04_Times_fn : Pr.funcs[F_ref04_Times]? = some Try.f72 := Try.func72
def zint_made_r0 : List AIns := [⟨some 4, none, .e (.box 2 (.c (.agg [.bool false, .nil])))⟩]
def zint_made_r1 : List AIns := [⟨some 7, none, .p (.mv (.t 1))⟩,
  ⟨some 8, none, .p (.len (.t 7))⟩,
  ⟨some 5, none, .p (.mv (.t 8))⟩]
def zint_made_r2 : List AIns := [⟨some 9, none, .p (.mv (.t 5))⟩,
  ⟨some 10, none, .p (.bin .gtr (.t 9) (.c (.int .i64 0)))⟩,
  ⟨some 11, none, .p (.mv (.t 10))⟩,
  ⟨some 12, some (11, true), .p (.mv (.t 1))⟩,
  ⟨some 13, some (11, true), .p (.mv (.t 5))⟩,
  ⟨some 14, some (11, true), .p (.bin .sub (.t 13) (.c (.int .i64 1)))⟩,
  ⟨some 15, some (11, true), .p (.idxp 1 (.t 12) (.t 14))⟩,
  ⟨some 16, some (11, true), .p (.load none (.t 15))⟩,
  ⟨some 17, some (11, true), .p (.bin .eql (.t 16) (.c (.int .u32 0)))⟩,
  ⟨some 18, none, .p (.pick (.t 11) (.t 17) (.c (.bool false)))⟩]
def zint_made_r3 : List AIns := [⟨some 19, none, .p (.mv (.t 5))⟩,
  ⟨some 20, none, .p (.bin .sub (.t 19) (.c (.int .i64 1)))⟩,
  ⟨some 5, none, .p (.mv (.t 20))⟩]
def zint_made_l0 : ACode := .seq (.seq (.region zint_made_r2 false) (.cond (.t 18) (.skip) (.exit 0))) (.block 1 (.region zint_made_r3 false))
def zint_made_r4 : List AIns := [⟨some 21, none, .p (.mv (.t 5))⟩,
  ⟨some 22, none, .p (.bin .eql (.t 21) (.c (.int .i64 0)))⟩]
def zint_made_r5 : List AIns := [⟨some 23, none, .p (.bld [.bool false, .nil] [])⟩,
  ⟨none, none, .e (.store 2 (.t 4) (.t 23))⟩]
def zint_made_r6 : List AIns := [⟨some 24, none, .p (.mv (.t 5))⟩,
  ⟨some 25, none, .e (.mksl 1 4 (.int .u32 0) (.t 24) (.t 24))⟩,
  ⟨some 6, none, .p (.mv (.t 25))⟩]
def zint_made_r7 : List AIns := [⟨some 26, none, .p (.mv (.t 6))⟩,
  ⟨some 27, none, .p (.mv (.t 1))⟩,
  ⟨some 28, none, .e (.cpy 1 (.t 26) (.t 27))⟩]
def zint_made_r8 : List AIns := [⟨some 29, none, .p (.mv (.t 0))⟩,
  ⟨some 30, none, .p (.mv (.t 6))⟩,
  ⟨some 31, none, .p (.bld [.bool false, .nil] [(0, 1, (.t 29)), (1, 1, (.t 30))])⟩,
  ⟨none, none, .e (.store 2 (.t 4) (.t 31))⟩]
def zint_made_c : ACode := .seq (.region zint_made_r0 false) (.seq (.region zint_made_r1 false) (.seq (.block 0 (.loop zint_made_l0)) (.seq (.seq (.region zint_made_r4 false) (.cond (.t 22) (.seq (.region zint_made_r5 false) (.ret)) (.skip))) (.seq (.region zint_made_r6 false) (.seq (.region zint_made_r7 false) (.seq (.region zint_made_r8 false) (.ret)))))))
theorem zint_made_ok : fchk Pr (fun _ _ => false) Try.f73 = some (zint_made_c, [.cell 4 (some 2)], 32) := by kernel_rfl
theorem zint_made_fn : Pr.funcs[F_zint_made]? = some Try.f73 := Try.func73
def mat_each_V_V_r0 : List AIns := [⟨some 4, none, .p (.mv (.c (.nil)))⟩]
def mat_each_V_V_r1 : List AIns := [⟨some 8, none, .p (.mv (.t 0))⟩,
  ⟨some 9, none, .p (.len (.t 8))⟩,
  ⟨some 10, none, .e (.mksl 1 24 (.nil) (.c (.int .i64 0)) (.t 9))⟩,
  ⟨some 5, none, .p (.mv (.t 10))⟩]
def mat_each_V_V_r2 : List AIns := [⟨some 11, none, .p (.mv (.t 0))⟩,
  ⟨some 12, none, .p (.len (.t 11))⟩,
  ⟨some 13, none, .p (.mv (.c (.int .i64 0)))⟩]
def mat_each_V_V_r3 : List AIns := [⟨some 14, none, .p (.bin .lss (.t 13) (.t 12))⟩]
def mat_each_V_V_r4 : List AIns := [⟨some 15, none, .p (.idxp 1 (.t 11) (.t 13))⟩,
  ⟨some 16, none, .p (.load none (.t 15))⟩,
  ⟨some 7, none, .p (.mv (.t 16))⟩]
def mat_each_V_V_r5 : List AIns := [⟨some 17, none, .p (.mv (.t 5))⟩,
  ⟨some 18, none, .p (.mv (.t 1))⟩,
  ⟨some 19, none, .p (.mv (.t 7))⟩,
  ⟨some 20, none, .callv (.t 18) [(.t 19)]⟩,
  ⟨some 21, none, .e (.bsl 1 [(.t 20)])⟩,
  ⟨some 22, none, .e (.app 1 24 false (.t 17) (.t 21))⟩,
  ⟨some 5, none, .p (.mv (.t 22))⟩]
def mat_each_V_V_r6 : List AIns := [⟨some 23, none, .p (.bin .add (.t 13) (.c (.int .i64 1)))⟩,
  ⟨some 13, none, .p (.mv (.t 23))⟩]
def mat_each_V_V_l0 : ACode := .seq (.region mat_each_V_V_r3 false) (.seq (.cond (.t 14) (.skip) (.exit 0)) (.seq (.block 1 (.seq (.region mat_each_V_V_r4 false) (.region mat_each_V_V_r5 false))) (.region mat_each_V_V_r6 false)))
def mat_each_V_V_r7 : List AIns := [⟨some 24, none, .p (.mv (.t 5))⟩,
  ⟨some 4, none, .p (.mv (.t 24))⟩]
def mat_each_V_V_c : ACode := .seq (.region mat_each_V_V_r0 false) (.seq (.region mat_each_V_V_r1 false) (.seq (.seq (.region mat_each_V_V_r2 false) (.block 0 (.loop mat_each_V_V_l0))) (.seq (.region mat_each_V_V_r7 false) (.ret))))
theorem mat_each_V_V_ok : fchk Pr (fun _ _ => false) Try.f74 = some (mat_each_V_V_c, [.tmp 4], 25) := by kernel_rfl
theorem mat_each_V_V_fn : Pr.funcs[F_mat_each_V_V]? = some Try.f74 := Try.func74
def mat_Product_1_r0 : List AIns := [⟨some 3, none, .p (.mv (.c (.nil)))⟩]
def mat_Product_1_r1 : List AIns := [⟨some 4, none, .p (.mv (.t 0))⟩,
  ⟨some 5, none, .p (.load none (.t 1))⟩,
  ⟨some 6, none, .call F_mat_combine [(.t 4), (.t 5)]⟩,
  ⟨some 3, none, .p (.mv (.t 6))⟩]
def mat_Product_1_c : ACode := .seq (.region mat_Product_1_r0 false) (.seq (.region mat_Product_1_r1 false) (.ret))
theorem mat_Product_1_ok : fchk Pr (fun _ _ => false) Try.f75 = some (mat_Product_1_c, [.tmp 3], 7) := by kernel_rfl
theorem mat_Product_1_fn : Pr.funcs[F_mat_Product_1]? = some Try.f75 := Try.func75
def mat_combine_r0 : List AIns := [⟨some 4, none, .p (.mv (.c (.nil)))⟩]
def mat_combine_r1 : List AIns := [⟨some 10, none, .p (.mv (.t 1))⟩,
  ⟨some 11, none, .p (.len (.t 10))⟩,
  ⟨some 12, none, .p (.bin .eql (.t 11) (.c (.int .i64 0)))⟩]
def mat_combine_r2 : List AIns := [⟨some 4, none, .p (.mv (.c (.nil)))⟩]
def mat_combine_r3 : List AIns := [⟨some 13, none, .p (.mv (.t 1))⟩,
  ⟨some 14, none, .p (.idxp 1 (.t 13) (.c (.int .i64 0)))⟩,
  ⟨some 15, none, .p (.load none (.t 14))⟩,
  ⟨some 16, none, .p (.len (.t 15))⟩,
  ⟨some 17, none, .e (.mksl 2 32 (.agg [.bool false, .nil]) (.t 16) (.t 16))⟩,
  ⟨some 5, none, .p (.mv (.t 17))⟩]
def mat_combine_r4 : List AIns := [⟨some 18, none, .p (.mv (.t 1))⟩,
  ⟨some 19, none, .p (.len (.t 18))⟩,
  ⟨some 20, none, .p (.mv (.c (.int .i64 0)))⟩]
def mat_combine_r5 : List AIns := [⟨some 21, none, .p (.bin .lss (.t 20) (.t 19))⟩]
def mat_combine_r6 : List AIns := [⟨some 22, none, .p (.mv (.t 20))⟩,
  ⟨some 23, none, .p (.idxp 1 (.t 18) (.t 20))⟩,
  ⟨some 24, none, .p (.load none (.t 23))⟩,
  ⟨some 6, none, .p (.mv (.t 22))⟩,
  ⟨some 7, none, .p (.mv (.t 24))⟩]
def mat_combine_r7 : List AIns := [⟨some 25, none, .p (.mv (.t 7))⟩,
  ⟨some 26, none, .p (.len (.t 25))⟩,
  ⟨some 27, none, .p (.mv (.c (.int .i64 0)))⟩]
def mat_combine_r8 : List AIns := [⟨some 28, none, .p (.bin .lss (.t 27) (.t 26))⟩]
def mat_combine_r9 : List AIns := [⟨some 29, none, .p (.mv (.t 27))⟩,
  ⟨some 30, none, .p (.idxp 2 (.t 25) (.t 27))⟩,
  ⟨some 31, none, .p (.load (some 2) (.t 30))⟩,
  ⟨some 9, none, .e (.box 2 (.c (.agg [.bool false, .nil])))⟩,
  ⟨some 8, none, .p (.mv (.t 29))⟩,
  ⟨none, none, .e (.store 2 (.t 9) (.t 31))⟩]
def mat_combine_r10 : List AIns := [⟨some 32, none, .p (.mv (.t 5))⟩,
  ⟨some 33, none, .p (.mv (.t 8))⟩,
  ⟨some 34, none, .p (.mv (.t 5))⟩,
  ⟨some 35, none, .p (.mv (.t 8))⟩,
  ⟨some 36, none, .p (.idxp 2 (.t 34) (.t 35))⟩,
  ⟨some 37, none, .p (.load (some 2) (.t 36))⟩,
  ⟨some 38, none, .p (.mv (.t 0))⟩,
  ⟨some 39, none, .p (.mv (.t 6))⟩,
  ⟨some 40, none, .p (.idxp 2 (.t 38) (.t 39))⟩,
  ⟨some 41, none, .p (.load (some 2) (.t 40))⟩,
  ⟨some 42, none, .p (.load (some 2) (.t 9))⟩,
  ⟨some 43, none, .call F_zint_Mul [(.t 41), (.t 42)]⟩,
  ⟨some 44, none, .call F_zint_Add [(.t 37), (.t 43)]⟩,
  ⟨some 45, none, .p (.idxp 2 (.t 32) (.t 33))⟩,
  ⟨none, none, .e (.store 2 (.t 45) (.t 44))⟩]
def mat_combine_r11 : List AIns := [⟨some 46, none, .p (.bin .add (.t 27) (.c (.int .i64 1)))⟩,
  ⟨some 27, none, .p (.mv (.t 46))⟩]
def mat_combine_l1 : ACode := .seq (.region mat_combine_r8 false) (.seq (.cond (.t 28) (.skip) (.exit 2)) (.seq (.block 3 (.seq (.region mat_combine_r9 false) (.region mat_combine_r10 true))) (.region mat_combine_r11 false)))
def mat_combine_r12 : List AIns := [⟨some 47, none, .p (.bin .add (.t 20) (.c (.int .i64 1)))⟩,
  ⟨some 20, none, .p (.mv (.t 47))⟩]
def mat_combine_l0 : ACode := .seq (.region mat_combine_r5 false) (.seq (.cond (.t 21) (.skip) (.exit 0)) (.seq (.block 1 (.seq (.region mat_combine_r6 false) (.seq (.region mat_combine_r7 false) (.block 2 (.loop mat_combine_l1))))) (.region mat_combine_r12 false)))
def mat_combine_r13 : List AIns := [⟨some 48, none, .p (.mv (.t 5))⟩,
  ⟨some 4, none, .p (.mv (.t 48))⟩]
def mat_combine_c : ACode := .seq (.region mat_combine_r0 false) (.seq (.seq (.region mat_combine_r1 false) (.cond (.t 12) (.seq (.region mat_combine_r2 false) (.ret)) (.skip))) (.seq (.region mat_combine_r3 false) (.seq (.seq (.region mat_combine_r4 false) (.block 0 (.loop mat_combine_l0))) (.seq (.region mat_combine_r13 false) (.ret)))))
theorem mat_combine_ok : fchk Pr (fun _ _ => false) Try.f76 = some (mat_combine_c, [.tmp 4], 49) := by kernel_rfl
theorem mat_combine_fn : Pr.funcs[F_mat_combine]? = some Try.f76 := Try.func76
def nat_Mul_r0 : List AIns := [⟨some 4, none, .p (.mv (.c (.nil)))⟩]
def nat_Mul_r1 : List AIns := [⟨some 9, none, .p (.mv (.t 0))⟩,
  ⟨some 10, none, .call F_nat_trim [(.t 9)]⟩,
  ⟨some 11, none, .p (.mv (.t 1))⟩,
  ⟨some 12, none, .call F_nat_trim [(.t 11)]⟩,
  ⟨some 0, none, .p (.mv (.t 10))⟩,
  ⟨some 1, none, .p (.mv (.t 12))⟩]
def nat_Mul_r2 : List AIns := [⟨some 13, none, .p (.mv (.t 0))⟩,
  ⟨some 14, none, .p (.len (.t 13))⟩,
  ⟨some 15, none, .p (.mv (.t 1))⟩,
  ⟨some 16, none, .p (.len (.t 15))⟩,
  ⟨some 17, none, .p (.bin .add (.t 14) (.t 16))⟩,
  ⟨some 18, none, .e (.mksl 1 4 (.int .u32 0) (.t 17) (.t 17))⟩,
  ⟨some 5, none, .p (.mv (.t 18))⟩]
def nat_Mul_r3 : List AIns := [⟨some 19, none, .p (.mv (.t 0))⟩,
  ⟨some 20, none, .p (.len (.t 19))⟩,
  ⟨some 21, none, .p (.mv (.c (.int .i64 0)))⟩]
def nat_Mul_r4 : List AIns := [⟨some 22, none, .p (.bin .lss (.t 21) (.t 20))⟩]
def nat_Mul_r5 : List AIns := [⟨some 23, none, .p (.mv (.t 21))⟩,
  ⟨some 6, none, .p (.mv (.t 23))⟩]
def nat_Mul_r6 : List AIns := [⟨some 7, none, .p (.mv (.c (.int .u64 0)))⟩]
def nat_Mul_r7 : List AIns := [⟨some 24, none, .p (.mv (.t 1))⟩,
  ⟨some 25, none, .p (.len (.t 24))⟩,
  ⟨some 26, none, .p (.mv (.c (.int .i64 0)))⟩]
def nat_Mul_r8 : List AIns := [⟨some 27, none, .p (.bin .lss (.t 26) (.t 25))⟩]
def nat_Mul_r9 : List AIns := [⟨some 28, none, .p (.mv (.t 26))⟩,
  ⟨some 8, none, .p (.mv (.t 28))⟩]
def nat_Mul_r10 : List AIns := [⟨some 29, none, .p (.mv (.t 7))⟩,
  ⟨some 30, none, .p (.mv (.t 0))⟩,
  ⟨some 31, none, .p (.mv (.t 6))⟩,
  ⟨some 32, none, .p (.idxp 1 (.t 30) (.t 31))⟩,
  ⟨some 33, none, .p (.load none (.t 32))⟩,
  ⟨some 34, none, .p (.conv .u64 (.t 33))⟩,
  ⟨some 35, none, .p (.mv (.t 1))⟩,
  ⟨some 36, none, .p (.mv (.t 8))⟩,
  ⟨some 37, none, .p (.idxp 1 (.t 35) (.t 36))⟩,
  ⟨some 38, none, .p (.load none (.t 37))⟩,
  ⟨some 39, none, .p (.conv .u64 (.t 38))⟩,
  ⟨some 40, none, .p (.bin .mul (.t 34) (.t 39))⟩,
  ⟨some 41, none, .p (.mv (.t 5))⟩,
  ⟨some 42, none, .p (.mv (.t 6))⟩,
  ⟨some 43, none, .p (.mv (.t 8))⟩,
  ⟨some 44, none, .p (.bin .add (.t 42) (.t 43))⟩,
  ⟨some 45, none, .p (.idxp 1 (.t 41) (.t 44))⟩,
  ⟨some 46, none, .p (.load none (.t 45))⟩,
  ⟨some 47, none, .p (.conv .u64 (.t 46))⟩,
  ⟨some 48, none, .p (.bin .add (.t 40) (.t 47))⟩,
  ⟨some 49, none, .p (.bin .add (.t 29) (.t 48))⟩,
  ⟨some 7, none, .p (.mv (.t 49))⟩]
def nat_Mul_r11 : List AIns := [⟨some 50, none, .p (.mv (.t 5))⟩,
  ⟨some 51, none, .p (.mv (.t 6))⟩,
  ⟨some 52, none, .p (.mv (.t 8))⟩,
  ⟨some 53, none, .p (.bin .add (.t 51) (.t 52))⟩,
  ⟨some 54, none, .p (.mv (.t 7))⟩,
  ⟨some 55, none, .p (.conv .u32 (.t 54))⟩,
  ⟨some 56, none, .p (.idxp 1 (.t 50) (.t 53))⟩,
  ⟨none, none, .e (.store 1 (.t 56) (.t 55))⟩]
def nat_Mul_r12 : List AIns := [⟨some 57, none, .p (.mv (.t 7))⟩,
  ⟨some 58, none, .p (.bin .shr (.t 57) (.c (.int .u64 32)))⟩,
  ⟨some 7, none, .p (.mv (.t 58))⟩]
def nat_Mul_r13 : List AIns := [⟨some 59, none, .p (.bin .add (.t 26) (.c (.int .i64 1)))⟩,
  ⟨some 26, none, .p (.mv (.t 59))⟩]
def nat_Mul_l1 : ACode := .seq (.region nat_Mul_r8 false) (.seq (.cond (.t 27) (.skip) (.exit 2)) (.seq (.block 3 (.seq (.region nat_Mul_r9 false) (.seq (.region nat_Mul_r10 true) (.seq (.region nat_Mul_r11 false) (.region nat_Mul_r12 false))))) (.region nat_Mul_r13 false)))
def nat_Mul_r14 : List AIns := [⟨some 60, none, .p (.mv (.t 5))⟩,
  ⟨some 61, none, .p (.mv (.t 6))⟩,
  ⟨some 62, none, .p (.mv (.t 1))⟩,
  ⟨some 63, none, .p (.len (.t 62))⟩,
  ⟨some 64, none, .p (.bin .add (.t 61) (.t 63))⟩,
  ⟨some 65, none, .p (.mv (.t 7))⟩,
  ⟨some 66, none, .p (.conv .u32 (.t 65))⟩,
  ⟨some 67, none, .p (.idxp 1 (.t 60) (.t 64))⟩,
  ⟨none, none, .e (.store 1 (.t 67) (.t 66))⟩]
def nat_Mul_r15 : List AIns := [⟨some 68, none, .p (.bin .add (.t 21) (.c (.int .i64 1)))⟩,
  ⟨some 21, none, .p (.mv (.t 68))⟩]
def nat_Mul_l0 : ACode := .seq (.region nat_Mul_r4 false) (.seq (.cond (.t 22) (.skip) (.exit 0)) (.seq (.block 1 (.seq (.region nat_Mul_r5 false) (.seq (.region nat_Mul_r6 false) (.seq (.seq (.region nat_Mul_r7 false) (.block 2 (.loop nat_Mul_l1))) (.region nat_Mul_r14 false))))) (.region nat_Mul_r15 false)))
def nat_Mul_r16 : List AIns := [⟨some 69, none, .p (.mv (.t 5))⟩,
  ⟨some 70, none, .call F_nat_trim [(.t 69)]⟩,
  ⟨some 4, none, .p (.mv (.t 70))⟩]
def nat_Mul_c : ACode := .seq (.region nat_Mul_r0 false) (.seq (.region nat_Mul_r1 false) (.seq (.region nat_Mul_r2 false) (.seq (.seq (.region nat_Mul_r3 false) (.block 0 (.loop nat_Mul_l0))) (.seq (.region nat_Mul_r16 false) (.ret)))))
theorem nat_Mul_ok : fchk Pr (fun _ _ => false) Try.f77 = some (nat_Mul_c, [.tmp 4], 71) := by kernel_rfl
theorem nat_Mul_fn : Pr.funcs[F_nat_Mul]? = some Try.f77 := Try.func77
def zint_Floor_r0 : List AIns := [⟨some 2, none, .e (.box 2 (.t 0))⟩,
  ⟨some 3, none, .e (.box 2 (.t 1))⟩,
  ⟨some 4, none, .e (.box 2 (.c (.agg [.bool false, .nil])))⟩,
  ⟨some 5, none, .e (.box 2 (.c (.agg [.bool false, .nil])))⟩,
  ⟨some 6, none, .p (.mv (.c (.int .i64 0)))⟩]
def zint_Floor_r1 : List AIns := [⟨some 13, none, .p (.fldp (.t 2) 1)⟩,
  ⟨some 14, none, .p (.load none (.t 13))⟩,
  ⟨some 15, none, .p (.fldp (.t 3) 1)⟩,
  ⟨some 16, none, .p (.load none (.t 15))⟩,
  ⟨some 17, none, .call F_nat_Div [(.t 14), (.t 16)]⟩,
  ⟨some 12, none, .p (.mv (.t 17))⟩,
  ⟨some 18, none, .p (.ext (.t 12) 0)⟩,
  ⟨some 19, none, .p (.ext (.t 12) 1)⟩,
  ⟨some 20, none, .p (.ext (.t 12) 2)⟩,
  ⟨some 7, none, .p (.mv (.t 18))⟩,
  ⟨some 8, none, .p (.mv (.t 19))⟩,
  ⟨some 9, none, .p (.mv (.t 20))⟩]
def zint_Floor_r2 : List AIns := [⟨some 21, none, .p (.mv (.t 9))⟩,
  ⟨some 22, none, .p (.bin .neq (.t 21) (.c (.int .i64 0)))⟩]
def zint_Floor_r3 : List AIns := [⟨some 23, none, .p (.bld [.bool false, .nil] [])⟩,
  ⟨some 24, none, .p (.bld [.bool false, .nil] [])⟩,
  ⟨none, none, .e (.store 2 (.t 4) (.t 23))⟩,
  ⟨none, none, .e (.store 2 (.t 5) (.t 24))⟩,
  ⟨some 6, none, .p (.mv (.c (.int .i64 11)))⟩]
def zint_Floor_r4 : List AIns := [⟨some 25, none, .p (.fldp (.t 2) 0)⟩,
  ⟨some 26, none, .p (.load none (.t 25))⟩,
  ⟨some 27, none, .p (.fldp (.t 3) 0)⟩,
  ⟨some 28, none, .p (.load none (.t 27))⟩,
  ⟨some 29, none, .p (.beq true (.t 26) (.t 28))⟩,
  ⟨some 30, none, .p (.mv (.t 7))⟩,
  ⟨some 31, none, .call F_zint_made [(.t 29), (.t 30)]⟩,
  ⟨some 32, none, .p (.fldp (.t 2) 0)⟩,
  ⟨some 33, none, .p (.load none (.t 32))⟩,
  ⟨some 34, none, .p (.mv (.t 8))⟩,
  ⟨some 35, none, .call F_zint_made [(.t 33), (.t 34)]⟩]
def zint_Floor_r4a : List AIns := [⟨some 10, none, .e (.box 2 (.c (.agg [.bool false, .nil])))⟩,
  ⟨some 11, none, .e (.box 2 (.c (.agg [.bool false, .nil])))⟩,
  ⟨none, none, .e (.store 2 (.t 10) (.t 31))⟩,
  ⟨none, none, .e (.store 2 (.t 11) (.t 35))⟩]
def zint_Floor_r4b : List AIns := [⟨some 11, none, .e (.box 2 (.c (.agg [.bool false, .nil])))⟩,
  ⟨some 10, none, .e (.box 2 (.c (.agg [.bool false, .nil])))⟩,
  ⟨none, none, .e (.store 2 (.t 10) (.t 31))⟩,
  ⟨none, none, .e (.store 2 (.t 11) (.t 35))⟩]
def zint_Floor_r5 : List AIns := [⟨some 36, none, .p (.load (some 2) (.t 11))⟩,
  ⟨some 37, none, .call F_zint_Sign [(.t 36)]⟩,
  ⟨some 38, none, .p (.bin .neq (.t 37) (.c (.int .i64 0)))⟩,
  ⟨some 39, none, .p (.mv (.t 38))⟩,
  ⟨some 40, some (39, true), .p (.load (some 2) (.t 11))⟩,
  ⟨some 41, some (39, true), .call F_zint_Sign [(.t 40)]⟩,
  ⟨some 42, some (39, true), .p (.load (some 2) (.t 3))⟩,
  ⟨some 43, some (39, true), .call F_zint_Sign [(.t 42)]⟩,
  ⟨some 44, some (39, true), .p (.bin .neq (.t 41) (.t 43))⟩,
  ⟨some 45, none, .p (.pick (.t 39) (.t 44) (.c (.bool false)))⟩]
def zint_Floor_r6 : List AIns := [⟨some 46, none, .p (.load (some 2) (.t 10))⟩,
  ⟨some 47, none, .call F_zint_Of [(.c (.int .i64 1))]⟩,
  ⟨some 48, none, .call F_zint_Sub [(.t 46), (.t 47)]⟩,
  ⟨some 49, none, .p (.load (some 2) (.t 11))⟩,
  ⟨some 50, none, .p (.load (some 2) (.t 3))⟩,
  ⟨some 51, none, .call F_zint_Add [(.t 49), (.t 50)]⟩,
  ⟨none, none, .e (.store 2 (.t 10) (.t 48))⟩,
  ⟨none, none, .e (.store 2 (.t 11) (.t 51))⟩]
def zint_Floor_r7 : List AIns := [⟨some 52, none, .p (.load (some 2) (.t 10))⟩,
  ⟨some 53, none, .p (.load (some 2) (.t 11))⟩,
  ⟨none, none, .e (.store 2 (.t 4) (.t 52))⟩,
  ⟨none, none, .e (.store 2 (.t 5) (.t 53))⟩,
  ⟨some 6, none, .p (.mv (.c (.int .i64 0)))⟩]
def zint_Floor_r7a : List AIns := []
def zint_Floor_r7b : List AIns := []
def zint_Floor_c : ACode := .seq (.region zint_Floor_r0 false) (.seq (.region zint_Floor_r1 false) (.seq (.seq (.region zint_Floor_r2 false) (.cond (.t 22) (.seq (.region zint_Floor_r3 false) (.ret)) (.skip))) (.seq (.regionX zint_Floor_r4 zint_Floor_r4a zint_Floor_r4b []) (.seq (.seq (.region zint_Floor_r5 true) (.cond (.t 45) (.region zint_Floor_r6 true) (.skip))) (.seq (.regionX zint_Floor_r7 zint_Floor_r7a zint_Floor_r7b [(11, 4)]) (.ret))))))
theorem zint_Floor_ok : fchk Pr (fun _ _ => false) Try.f78 = some (zint_Floor_c, [.cell 4 (some 2), .cell 5 (some 2), .tmp 6], 54) := by kernel_rfl
theorem zint_Floor_fn : Pr.funcs[F_zint_Floor]? = some Try.f78 := Try.func78
def nat_Bits_r0 : List AIns := [⟨some 2, none, .p (.mv (.c (.int .i64 0)))⟩]
def nat_Bits_r1 : List AIns := [⟨some 3, none, .p (.mv (.t 0))⟩,
  ⟨some 4, none, .call F_nat_trim [(.t 3)]⟩,
  ⟨some 0, none, .p (.mv (.t 4))⟩]
def nat_Bits_r2 : List AIns := [⟨some 5, none, .p (.mv (.t 0))⟩,
  ⟨some 6, none, .p (.len (.t 5))⟩,
  ⟨some 7, none, .p (.bin .eql (.t 6) (.c (.int .i64 0)))⟩]
def nat_Bits_r3 : List AIns := [⟨some 2, none, .p (.mv (.c (.int .i64 0)))⟩]
def nat_Bits_r4 : List AIns := [⟨some 8, none, .p (.mv (.t 0))⟩,
  ⟨some 9, none, .p (.len (.t 8))⟩,
  ⟨some 10, none, .p (.bin .sub (.t 9) (.c (.int .i64 1)))⟩,
  ⟨some 11, none, .p (.bin .mul (.c (.int .i64 32)) (.t 10))⟩,
  ⟨some 12, none, .p (.mv (.t 0))⟩,
  ⟨some 13, none, .p (.mv (.t 0))⟩,
  ⟨some 14, none, .p (.len (.t 13))⟩,
  ⟨some 15, none, .p (.bin .sub (.t 14) (.c (.int .i64 1)))⟩,
  ⟨some 16, none, .p (.idxp 1 (.t 12) (.t 15))⟩,
  ⟨some 17, none, .p (.load none (.t 16))⟩,
  ⟨some 18, none, .call F_math_bits_Len32 [(.t 17)]⟩,
  ⟨some 19, none, .p (.bin .add (.t 11) (.t 18))⟩,
  ⟨some 2, none, .p (.mv (.t 19))⟩]
def nat_Bits_c : ACode := .seq (.region nat_Bits_r0 false) (.seq (.region nat_Bits_r1 false) (.seq (.seq (.region nat_Bits_r2 false) (.cond (.t 7) (.seq (.region nat_Bits_r3 false) (.ret)) (.skip))) (.seq (.region nat_Bits_r4 false) (.ret))))
theorem nat_Bits_ok : fchk Pr (fun _ _ => false) Try.f82 = some (nat_Bits_c, [.tmp 2], 20) := by kernel_rfl
theorem nat_Bits_fn : Pr.funcs[F_nat_Bits]? = some Try.f82 := Try.func82
def elim_copied_r0 : List AIns := [⟨some 2, none, .p (.mv (.c (.nil)))⟩]
def elim_copied_r1 : List AIns := [⟨some 6, none, .p (.mv (.t 0))⟩,
  ⟨some 7, none, .p (.len (.t 6))⟩,
  ⟨some 8, none, .e (.mksl 1 24 (.nil) (.t 7) (.t 7))⟩,
  ⟨some 3, none, .p (.mv (.t 8))⟩]
def elim_copied_r2 : List AIns := [⟨some 9, none, .p (.mv (.t 0))⟩,
  ⟨some 10, none, .p (.len (.t 9))⟩,
  ⟨some 11, none, .p (.mv (.c (.int .i64 0)))⟩]
def elim_copied_r3 : List AIns := [⟨some 12, none, .p (.bin .lss (.t 11) (.t 10))⟩]
def elim_copied_r4 : List AIns := [⟨some 13, none, .p (.mv (.t 11))⟩,
  ⟨some 14, none, .p (.idxp 1 (.t 9) (.t 11))⟩,
  ⟨some 15, none, .p (.load none (.t 14))⟩,
  ⟨some 4, none, .p (.mv (.t 13))⟩,
  ⟨some 5, none, .p (.mv (.t 15))⟩]
def elim_copied_r5 : List AIns := [⟨some 16, none, .p (.mv (.t 3))⟩,
  ⟨some 17, none, .p (.mv (.t 4))⟩,
  ⟨some 18, none, .p (.mv (.t 5))⟩,
  ⟨some 19, none, .p (.len (.t 18))⟩,
  ⟨some 20, none, .e (.mksl 2 32 (.agg [.bool false, .nil]) (.t 19) (.t 19))⟩,
  ⟨some 21, none, .p (.idxp 1 (.t 16) (.t 17))⟩,
  ⟨none, none, .e (.store 1 (.t 21) (.t 20))⟩]
def elim_copied_r6 : List AIns := [⟨some 22, none, .p (.mv (.t 3))⟩,
  ⟨some 23, none, .p (.mv (.t 4))⟩,
  ⟨some 24, none, .p (.idxp 1 (.t 22) (.t 23))⟩,
  ⟨some 25, none, .p (.load none (.t 24))⟩,
  ⟨some 26, none, .p (.mv (.t 5))⟩,
  ⟨some 27, none, .e (.cpy 2 (.t 25) (.t 26))⟩]
def elim_copied_r7 : List AIns := [⟨some 28, none, .p (.bin .add (.t 11) (.c (.int .i64 1)))⟩,
  ⟨some 11, none, .p (.mv (.t 28))⟩]
def elim_copied_l0 : ACode := .seq (.region elim_copied_r3 false) (.seq (.cond (.t 12) (.skip) (.exit 0)) (.seq (.block 1 (.seq (.region elim_copied_r4 false) (.seq (.region elim_copied_r5 false) (.region elim_copied_r6 false)))) (.region elim_copied_r7 false)))
def elim_copied_r8 : List AIns := [⟨some 29, none, .p (.mv (.t 3))⟩,
  ⟨some 2, none, .p (.mv (.t 29))⟩]
def elim_copied_c : ACode := .seq (.region elim_copied_r0 false) (.seq (.region elim_copied_r1 false) (.seq (.seq (.region elim_copied_r2 false) (.block 0 (.loop elim_copied_l0))) (.seq (.region elim_copied_r8 false) (.ret))))
theorem elim_copied_ok : fchk Pr (fun _ _ => false) Try.f85 = some (elim_copied_c, [.tmp 2], 30) := by kernel_rfl
theorem elim_copied_fn : Pr.funcs[F_elim_copied]? = some Try.f85 := Try.func85
def zint_Sub_r0 : List AIns := [⟨some 2, none, .e (.box 2 (.t 0))⟩,
  ⟨some 3, none, .e (.box 2 (.t 1))⟩,
  ⟨some 4, none, .e (.box 2 (.c (.agg [.bool false, .nil])))⟩]
def zint_Sub_r1 : List AIns := [⟨some 5, none, .p (.load (some 2) (.t 2))⟩,
  ⟨some 6, none, .p (.load (some 2) (.t 3))⟩,
  ⟨some 7, none, .call F_zint_Neg [(.t 6)]⟩,
  ⟨some 8, none, .call F_zint_Add [(.t 5), (.t 7)]⟩,
  ⟨none, none, .e (.store 2 (.t 4) (.t 8))⟩]
def zint_Sub_c : ACode := .seq (.region zint_Sub_r0 false) (.seq (.region zint_Sub_r1 true) (.ret))
theorem zint_Sub_ok : fchk Pr (fun _ _ => false) Try.f86 = some (zint_Sub_c, [.cell 4 (some 2)], 9) := by kernel_rfl
theorem zint_Sub_fn : Pr.funcs[F_zint_Sub]? = some Try.f86 := Try.func86
def nat_Cmp_r0 : List AIns := [⟨some 4, none, .p (.mv (.c (.int .i64 0)))⟩]
def nat_Cmp_r1 : List AIns := [⟨some 6, none, .p (.mv (.t 0))⟩,
  ⟨some 7, none, .call F_nat_trim [(.t 6)]⟩,
  ⟨some 8, none, .p (.mv (.t 1))⟩,
  ⟨some 9, none, .call F_nat_trim [(.t 8)]⟩,
  ⟨some 0, none, .p (.mv (.t 7))⟩,
  ⟨some 1, none, .p (.mv (.t 9))⟩]
def nat_Cmp_r2 : List AIns := [⟨some 10, none, .p (.mv (.t 0))⟩,
  ⟨some 11, none, .p (.len (.t 10))⟩,
  ⟨some 12, none, .p (.mv (.t 1))⟩,
  ⟨some 13, none, .p (.len (.t 12))⟩,
  ⟨some 14, none, .p (.bin .neq (.t 11) (.t 13))⟩]
def nat_Cmp_r3 : List AIns := [⟨some 15, none, .p (.mv (.t 0))⟩,
  ⟨some 16, none, .p (.len (.t 15))⟩,
  ⟨some 17, none, .p (.mv (.t 1))⟩,
  ⟨some 18, none, .p (.len (.t 17))⟩,
  ⟨some 19, none, .p (.bin .lss (.t 16) (.t 18))⟩]
def nat_Cmp_r4 : List AIns := [⟨some 4, none, .p (.mv (.c (.int .i64 (-1))))⟩]
def nat_Cmp_r5 : List AIns := [⟨some 4, none, .p (.mv (.c (.int .i64 1)))⟩]
def nat_Cmp_r6 : List AIns := [⟨some 20, none, .p (.mv (.t 0))⟩,
  ⟨some 21, none, .p (.len (.t 20))⟩,
  ⟨some 22, none, .p (.bin .sub (.t 21) (.c (.int .i64 1)))⟩,
  ⟨some 5, none, .p (.mv (.t 22))⟩]
def nat_Cmp_r7 : List AIns := [⟨some 23, none, .p (.mv (.t 5))⟩,
  ⟨some 24, none, .p (.bin .geq (.t 23) (.c (.int .i64 0)))⟩]
def nat_Cmp_r8 : List AIns := [⟨some 27, none, .p (.mv (.t 0))⟩,
  ⟨some 28, none, .p (.mv (.t 5))⟩,
  ⟨some 29, none, .p (.idxp 1 (.t 27) (.t 28))⟩,
  ⟨some 30, none, .p (.load none (.t 29))⟩,
  ⟨some 31, none, .p (.mv (.t 1))⟩,
  ⟨some 32, none, .p (.mv (.t 5))⟩,
  ⟨some 33, none, .p (.idxp 1 (.t 31) (.t 32))⟩,
  ⟨some 34, none, .p (.load none (.t 33))⟩,
  ⟨some 35, none, .p (.bin .neq (.t 30) (.t 34))⟩]
def nat_Cmp_r9 : List AIns := [⟨some 36, none, .p (.mv (.t 0))⟩,
  ⟨some 37, none, .p (.mv (.t 5))⟩,
  ⟨some 38, none, .p (.idxp 1 (.t 36) (.t 37))⟩,
  ⟨some 39, none, .p (.load none (.t 38))⟩,
  ⟨some 40, none, .p (.mv (.t 1))⟩,
  ⟨some 41, none, .p (.mv (.t 5))⟩,
  ⟨some 42, none, .p (.idxp 1 (.t 40) (.t 41))⟩,
  ⟨some 43, none, .p (.load none (.t 42))⟩,
  ⟨some 44, none, .p (.bin .lss (.t 39) (.t 43))⟩]
def nat_Cmp_r10 : List AIns := [⟨some 4, none, .p (.mv (.c (.int .i64 (-1))))⟩]
def nat_Cmp_r11 : List AIns := [⟨some 4, none, .p (.mv (.c (.int .i64 1)))⟩]
def nat_Cmp_r12 : List AIns := [⟨some 25, none, .p (.mv (.t 5))⟩,
  ⟨some 26, none, .p (.bin .sub (.t 25) (.c (.int .i64 1)))⟩,
  ⟨some 5, none, .p (.mv (.t 26))⟩]
def nat_Cmp_l0 : ACode := .seq (.seq (.region nat_Cmp_r7 false) (.cond (.t 24) (.skip) (.exit 0))) (.seq (.block 1 (.seq (.region nat_Cmp_r8 true) (.cond (.t 35) (.seq (.seq (.region nat_Cmp_r9 true) (.cond (.t 44) (.seq (.region nat_Cmp_r10 false) (.ret)) (.skip))) (.seq (.region nat_Cmp_r11 false) (.ret))) (.skip)))) (.region nat_Cmp_r12 false))
def nat_Cmp_r13 : List AIns := [⟨some 4, none, .p (.mv (.c (.int .i64 0)))⟩]
def nat_Cmp_c : ACode := .seq (.region nat_Cmp_r0 false) (.seq (.region nat_Cmp_r1 false) (.seq (.seq (.region nat_Cmp_r2 false) (.cond (.t 14) (.seq (.seq (.region nat_Cmp_r3 false) (.cond (.t 19) (.seq (.region nat_Cmp_r4 false) (.ret)) (.skip))) (.seq (.region nat_Cmp_r5 false) (.ret))) (.skip))) (.seq (.seq (.region nat_Cmp_r6 false) (.block 0 (.loop nat_Cmp_l0))) (.seq (.region nat_Cmp_r13 false) (.ret)))))
theorem nat_Cmp_ok : fchk Pr (fun _ _ => false) Try.f92 = some (nat_Cmp_c, [.tmp 4], 45) := by kernel_rfl
theorem nat_Cmp_fn : Pr.funcs[F_nat_Cmp]? = some Try.f92 := Try.func92
def ref02_made_r0 : List AIns := [⟨some 4, none, .e (.box 2 (.c (.agg [.bool false, .nil])))⟩]
def ref02_made_r1 : List AIns := [⟨some 6, none, .p (.mv (.t 1))⟩,
  ⟨some 7, none, .call F_ref01_Norm [(.t 6)]⟩,
  ⟨some 5, none, .p (.mv (.t 7))⟩]
def ref02_made_r2 : List AIns := [⟨some 8, none, .p (.mv (.t 0))⟩,
  ⟨some 9, none, .p (.mv (.t 8))⟩,
  ⟨some 10, some (9, true), .p (.mv (.t 5))⟩,
  ⟨some 11, some (9, true), .p (.len (.t 10))⟩,
  ⟨some 12, some (9, true), .p (.bin .gtr (.t 11) (.c (.int .i64 0)))⟩,
  ⟨some 13, none, .p (.pick (.t 9) (.t 12) (.c (.bool false)))⟩,
  ⟨some 14, none, .p (.mv (.t 5))⟩,
  ⟨some 15, none, .p (.bld [.bool false, .nil] [(0, 1, (.t 13)), (1, 1, (.t 14))])⟩,
  ⟨none, none, .e (.store 2 (.t 4) (.t 15))⟩]
def ref02_made_c : ACode := .seq (.region ref02_made_r0 false) (.seq (.region ref02_made_r1 false) (.seq (.region ref02_made_r2 false) (.ret)))
theorem ref02_made_ok : fchk Pr (fun _ _ => false) Try.f95 = some (ref02_made_c, [.cell 4 (some 2)], 16) := by kernel_rfl
theorem ref02_made_fn : Pr.funcs[F_ref02_made]? = some Try.f95 := Try.func95
def ref02_Mul_r0 : List AIns := [⟨some 2, none, .e (.box 2 (.t 0))⟩,
  ⟨some 3, none, .e (.box 2 (.t 1))⟩,
  ⟨some 4, none, .e (.box 2 (.c (.agg [.bool false, .nil])))⟩]
def ref02_Mul_r1 : List AIns := [⟨some 5, none, .p (.fldp (.t 2) 0)⟩,
  ⟨some 6, none, .p (.load none (.t 5))⟩,
  ⟨some 7, none, .p (.fldp (.t 3) 0)⟩,
  ⟨some 8, none, .p (.load none (.t 7))⟩,
  ⟨some 9, none, .p (.beq true (.t 6) (.t 8))⟩,
  ⟨some 10, none, .p (.fldp (.t 2) 1)⟩,
  ⟨some 11, none, .p (.load none (.t 10))⟩,
  ⟨some 12, none, .p (.fldp (.t 3) 1)⟩,
  ⟨some 13, none, .p (.load none (.t 12))⟩,
  ⟨some 14, none, .call F_ref01_Mul [(.t 11), (.t 13)]⟩,
  ⟨some 15, none, .call F_ref02_made [(.t 9), (.t 14)]⟩,
  ⟨none, none, .e (.store 2 (.t 4) (.t 15))⟩]
def ref02_Mul_c : ACode := .seq (.region ref02_Mul_r0 false) (.seq (.region ref02_Mul_r1 true) (.ret))
theorem ref02_Mul_ok : fchk Pr (fun _ _ => false) Try.f99 = some (ref02_Mul_c, [.cell 4 (some 2)], 16) := by kernel_rfl
theorem ref02_Mul_fn : Pr.funcs[F_ref02_Mul]? = some Try.f99 := Try.func99
end Go.Abs
set_option maxRecDepth 100000
noncomputable section
namespace Go.Abs
open Go.Proofs
def zint_Add_r0 : List AIns := [⟨some 2, none, .e (.box 2 (.t 0))⟩,
  ⟨some 3, none, .e (.box 2 (.t 1))⟩,
  ⟨some 4, none, .e (.box 2 (.c (.agg [.bool false, .nil])))⟩]
def zint_Add_r1 : List AIns := [⟨some 7, none, .p (.fldp (.t 2) 0)⟩,
  ⟨some 8, none, .p (.load none (.t 7))⟩,
  ⟨some 9, none, .p (.fldp (.t 3) 0)⟩,
  ⟨some 10, none, .p (.load none (.t 9))⟩,
  ⟨some 11, none, .p (.beq false (.t 8) (.t 10))⟩]
def zint_Add_r2 : List AIns := [⟨some 12, none, .p (.fldp (.t 2) 0)⟩,
  ⟨some 13, none, .p (.load none (.t 12))⟩,
  ⟨some 14, none, .p (.fldp (.t 2) 1)⟩,
  ⟨some 15, none, .p (.load none (.t 14))⟩,
  ⟨some 16, none, .p (.fldp (.t 3) 1)⟩,
  ⟨some 17, none, .p (.load none (.t 16))⟩,
  ⟨some 18, none, .call F_nat_Add [(.t 15), (.t 17)]⟩,
  ⟨some 19, none, .call F_zint_made [(.t 13), (.t 18)]⟩,
  ⟨none, none, .e (.store 2 (.t 4) (.t 19))⟩]
def zint_Add_r3 : List AIns := [⟨some 20, none, .p (.fldp (.t 2) 1)⟩,
  ⟨some 21, none, .p (.load none (.t 20))⟩,
  ⟨some 22, none, .p (.fldp (.t 3) 1)⟩,
  ⟨some 23, none, .p (.load none (.t 22))⟩,
  ⟨some 24, none, .call F_nat_Cmp [(.t 21), (.t 23)]⟩,
  ⟨some 25, none, .p (.bin .lss (.t 24) (.c (.int .i64 0)))⟩]
def zint_Add_r4 : List AIns := [⟨some 26, none, .p (.load (some 2) (.t 3))⟩,
  ⟨some 27, none, .p (.load (some 2) (.t 2))⟩,
  ⟨none, none, .e (.store 2 (.t 2) (.t 26))⟩,
  ⟨none, none, .e (.store 2 (.t 3) (.t 27))⟩]
def zint_Add_r5 : List AIns := [⟨some 29, none, .p (.fldp (.t 2) 1)⟩,
  ⟨some 30, none, .p (.load none (.t 29))⟩,
  ⟨some 31, none, .p (.fldp (.t 3) 1)⟩,
  ⟨some 32, none, .p (.load none (.t 31))⟩,
  ⟨some 33, none, .call F_nat_Sub [(.t 30), (.t 32)]⟩,
  ⟨some 28, none, .p (.mv (.t 33))⟩,
  ⟨some 34, none, .p (.ext (.t 28) 0)⟩,
  ⟨some 35, none, .p (.ext (.t 28) 1)⟩,
  ⟨some 5, none, .p (.mv (.t 34))⟩,
  ⟨some 6, none, .p (.mv (.t 35))⟩]
def zint_Add_r6 : List AIns := [⟨some 36, none, .p (.fldp (.t 2) 0)⟩,
  ⟨some 37, none, .p (.load none (.t 36))⟩,
  ⟨some 38, none, .p (.mv (.t 5))⟩,
  ⟨some 39, none, .call F_zint_made [(.t 37), (.t 38)]⟩,
  ⟨none, none, .e (.store 2 (.t 4) (.t 39))⟩]
def zint_Add_c : ACode := .seq (.region zint_Add_r0 false) (.seq (.seq (.region zint_Add_r1 false) (.cond (.t 11) (.seq (.region zint_Add_r2 true) (.ret)) (.skip))) (.seq (.seq (.region zint_Add_r3 false) (.cond (.t 25) (.region zint_Add_r4 false) (.skip))) (.seq (.region zint_Add_r5 false) (.seq (.region zint_Add_r6 false) (.ret)))))
theorem zint_Add_ok : fchk Pr (fun _ _ => false) Try.f102 = some (zint_Add_c, [.cell 4 (some 2)], 40) := by kernel_rfl
theorem zint_Add_fn : Pr.funcs[F_zint_Add]? = some Try.f102 := Try.func102
def nat_trim_r0 : List AIns := [⟨some 2, none, .p (.mv (.c (.nil)))⟩]
def nat_trim_r1 : List AIns := [⟨some 3, none, .p (.mv (.t 0))⟩,
  ⟨some 4, none, .p (.len (.t 3))⟩,
  ⟨some 5, none, .p (.bin .gtr (.t 4) (.c (.int .i64 0)))⟩,
  ⟨some 6, none, .p (.mv (.t 5))⟩,
  ⟨some 7, some (6, true), .p (.mv (.t 0))⟩,
  ⟨some 8, some (6, true), .p (.mv (.t 0))⟩,
  ⟨some 9, some (6, true), .p (.len (.t 8))⟩,
  ⟨some 10, some (6, true), .p (.bin .sub (.t 9) (.c (.int .i64 1)))⟩,
  ⟨some 11, some (6, true), .p (.idxp 1 (.t 7) (.t 10))⟩,
  ⟨some 12, some (6, true), .p (.load none (.t 11))⟩,
  ⟨some 13, some (6, true), .p (.bin .eql (.t 12) (.c (.int .u32 0)))⟩,
  ⟨some 14, none, .p (.pick (.t 6) (.t 13) (.c (.bool false)))⟩]
def nat_trim_r2 : List AIns := [⟨some 15, none, .p (.mv (.t 0))⟩,
  ⟨some 16, none, .p (.mv (.t 0))⟩,
  ⟨some 17, none, .p (.len (.t 16))⟩,
  ⟨some 18, none, .p (.bin .sub (.t 17) (.c (.int .i64 1)))⟩,
  ⟨some 19, none, .p (.slc 1 (.t 15) none (some (.t 18)) none)⟩,
  ⟨some 0, none, .p (.mv (.t 19))⟩]
def nat_trim_l0 : ACode := .seq (.seq (.region nat_trim_r1 false) (.cond (.t 14) (.skip) (.exit 0))) (.block 1 (.region nat_trim_r2 false))
def nat_trim_r3 : List AIns := [⟨some 20, none, .p (.mv (.t 0))⟩,
  ⟨some 2, none, .p (.mv (.t 20))⟩]
def nat_trim_c : ACode := .seq (.region nat_trim_r0 false) (.seq (.block 0 (.loop nat_trim_l0)) (.seq (.region nat_trim_r3 false) (.ret)))
theorem nat_trim_ok : fchk Pr (fun _ _ => false) Try.f103 = some (nat_trim_c, [.tmp 2], 21) := by kernel_rfl
theorem nat_trim_fn : Pr.funcs[F_nat_trim]? = some Try.f103 := Try.func103
def nat_Div_r0 : List AIns := [⟨some 4, none, .p (.mv (.c (.nil)))⟩,
  ⟨some 5, none, .p (.mv (.c (.nil)))⟩,
  ⟨some 6, none, .p (.mv (.c (.int .i64 0)))⟩]
def nat_Div_r1 : List AIns := [⟨some 14, none, .p (.mv (.t 0))⟩,
  ⟨some 15, none, .call F_nat_trim [(.t 14)]⟩,
  ⟨some 16, none, .p (.mv (.t 1))⟩,
  ⟨some 17, none, .call F_nat_trim [(.t 16)]⟩,
  ⟨some 0, none, .p (.mv (.t 15))⟩,
  ⟨some 1, none, .p (.mv (.t 17))⟩]
def nat_Div_r2 : List AIns := [⟨some 19, none, .p (.mv (.t 1))⟩,
  ⟨some 20, none, .p (.len (.t 19))⟩,
  ⟨some 21, none, .p (.bin .eql (.t 20) (.c (.int .i64 0)))⟩,
  ⟨some 18, none, .p (.mv (.t 21))⟩]
def nat_Div_r3 : List AIns := [⟨some 4, none, .p (.mv (.c (.nil)))⟩,
  ⟨some 5, none, .p (.mv (.c (.nil)))⟩,
  ⟨some 6, none, .p (.mv (.c (.int .i64 11)))⟩]
def nat_Div_r4 : List AIns := [⟨some 23, none, .p (.mv (.t 0))⟩,
  ⟨some 24, none, .p (.mv (.t 1))⟩,
  ⟨some 25, none, .call F_nat_Cmp [(.t 23), (.t 24)]⟩,
  ⟨some 26, none, .p (.bin .lss (.t 25) (.c (.int .i64 0)))⟩,
  ⟨some 22, none, .p (.mv (.t 26))⟩]
def nat_Div_r5 : List AIns := [⟨some 27, none, .p (.mv (.t 0))⟩,
  ⟨some 28, none, .call F_nat_Norm [(.t 27)]⟩,
  ⟨some 4, none, .p (.mv (.c (.nil)))⟩,
  ⟨some 5, none, .p (.mv (.t 28))⟩,
  ⟨some 6, none, .p (.mv (.c (.int .i64 0)))⟩]
def nat_Div_r6 : List AIns := [⟨some 30, none, .p (.mv (.t 1))⟩,
  ⟨some 31, none, .p (.len (.t 30))⟩,
  ⟨some 32, none, .p (.bin .eql (.t 31) (.c (.int .i64 1)))⟩,
  ⟨some 29, none, .p (.mv (.t 32))⟩]
def nat_Div_r7 : List AIns := [⟨some 34, none, .p (.mv (.t 0))⟩,
  ⟨some 35, none, .p (.mv (.t 1))⟩,
  ⟨some 36, none, .p (.idxp 1 (.t 35) (.c (.int .i64 0)))⟩,
  ⟨some 37, none, .p (.load none (.t 36))⟩,
  ⟨some 38, none, .call F_nat_short [(.t 34), (.t 37)]⟩,
  ⟨some 33, none, .p (.mv (.t 38))⟩,
  ⟨some 39, none, .p (.ext (.t 33) 0)⟩,
  ⟨some 40, none, .p (.ext (.t 33) 1)⟩,
  ⟨some 7, none, .p (.mv (.t 39))⟩,
  ⟨some 8, none, .p (.mv (.t 40))⟩]
def nat_Div_r8 : List AIns := [⟨some 41, none, .p (.mv (.t 7))⟩,
  ⟨some 42, none, .p (.mv (.t 8))⟩,
  ⟨some 43, none, .e (.bsl 1 [(.t 42)])⟩,
  ⟨some 44, none, .call F_nat_trim [(.t 43)]⟩,
  ⟨some 4, none, .p (.mv (.t 41))⟩,
  ⟨some 5, none, .p (.mv (.t 44))⟩,
  ⟨some 6, none, .p (.mv (.c (.int .i64 0)))⟩]
def nat_Div_r9 : List AIns := [⟨some 45, none, .p (.mv (.t 1))⟩,
  ⟨some 46, none, .p (.mv (.t 1))⟩,
  ⟨some 47, none, .p (.len (.t 46))⟩,
  ⟨some 48, none, .p (.bin .sub (.t 47) (.c (.int .i64 1)))⟩,
  ⟨some 49, none, .p (.idxp 1 (.t 45) (.t 48))⟩,
  ⟨some 50, none, .p (.load none (.t 49))⟩,
  ⟨some 51, none, .call F_math_bits_LeadingZeros32 [(.t 50)]⟩,
  ⟨some 9, none, .p (.mv (.t 51))⟩]
def nat_Div_r10 : List AIns := [⟨some 52, none, .p (.mv (.t 1))⟩,
  ⟨some 53, none, .p (.mv (.t 9))⟩,
  ⟨some 54, none, .call F_nat_shl [(.t 52), (.t 53)]⟩,
  ⟨some 10, none, .p (.mv (.t 54))⟩]
def nat_Div_r11 : List AIns := [⟨some 55, none, .p (.mv (.t 0))⟩,
  ⟨some 56, none, .p (.mv (.t 9))⟩,
  ⟨some 57, none, .call F_nat_shl [(.t 55), (.t 56)]⟩,
  ⟨some 58, none, .e (.bsl 1 [(.c (.int .u32 0)), (.c (.int .u32 0))])⟩,
  ⟨some 59, none, .e (.app 1 4 false (.t 57) (.t 58))⟩,
  ⟨some 60, none, .p (.mv (.t 0))⟩,
  ⟨some 61, none, .p (.len (.t 60))⟩,
  ⟨some 62, none, .p (.bin .add (.t 61) (.c (.int .i64 1)))⟩,
  ⟨some 63, none, .p (.slc 1 (.t 59) none (some (.t 62)) none)⟩,
  ⟨some 11, none, .p (.mv (.t 63))⟩]
def nat_Div_r12 : List AIns := [⟨some 64, none, .p (.mv (.t 0))⟩,
  ⟨some 65, none, .p (.len (.t 64))⟩,
  ⟨some 66, none, .p (.mv (.t 1))⟩,
  ⟨some 67, none, .p (.len (.t 66))⟩,
  ⟨some 68, none, .p (.bin .sub (.t 65) (.t 67))⟩,
  ⟨some 69, none, .p (.bin .add (.t 68) (.c (.int .i64 1)))⟩,
  ⟨some 70, none, .e (.mksl 1 4 (.int .u32 0) (.t 69) (.t 69))⟩,
  ⟨some 12, none, .p (.mv (.t 70))⟩]
def nat_Div_r13 : List AIns := [⟨some 71, none, .p (.mv (.t 0))⟩,
  ⟨some 72, none, .p (.len (.t 71))⟩,
  ⟨some 73, none, .p (.mv (.t 1))⟩,
  ⟨some 74, none, .p (.len (.t 73))⟩,
  ⟨some 75, none, .p (.bin .sub (.t 72) (.t 74))⟩,
  ⟨some 13, none, .p (.mv (.t 75))⟩]
def nat_Div_r14 : List AIns := [⟨some 76, none, .p (.mv (.t 13))⟩,
  ⟨some 77, none, .p (.bin .geq (.t 76) (.c (.int .i64 0)))⟩]
def nat_Div_r15 : List AIns := [⟨some 80, none, .p (.mv (.t 12))⟩,
  ⟨some 81, none, .p (.mv (.t 13))⟩,
  ⟨some 82, none, .p (.mv (.t 11))⟩,
  ⟨some 83, none, .p (.mv (.t 13))⟩,
  ⟨some 84, none, .p (.mv (.t 13))⟩,
  ⟨some 85, none, .p (.mv (.t 10))⟩,
  ⟨some 86, none, .p (.len (.t 85))⟩,
  ⟨some 87, none, .p (.bin .add (.t 84) (.t 86))⟩,
  ⟨some 88, none, .p (.bin .add (.t 87) (.c (.int .i64 1)))⟩,
  ⟨some 89, none, .p (.slc 1 (.t 82) (some (.t 83)) (some (.t 88)) none)⟩,
  ⟨some 90, none, .p (.mv (.t 10))⟩,
  ⟨some 91, none, .call F_nat_digit [(.t 89), (.t 90)]⟩,
  ⟨some 92, none, .p (.idxp 1 (.t 80) (.t 81))⟩,
  ⟨none, none, .e (.store 1 (.t 92) (.t 91))⟩]
def nat_Div_r16 : List AIns := [⟨some 78, none, .p (.mv (.t 13))⟩,
  ⟨some 79, none, .p (.bin .sub (.t 78) (.c (.int .i64 1)))⟩,
  ⟨some 13, none, .p (.mv (.t 79))⟩]
def nat_Div_l0 : ACode := .seq (.seq (.region nat_Div_r14 false) (.cond (.t 77) (.skip) (.exit 1))) (.seq (.block 2 (.region nat_Div_r15 false)) (.region nat_Div_r16 false))
def nat_Div_r17 : List AIns := [⟨some 93, none, .p (.mv (.t 12))⟩,
  ⟨some 94, none, .call F_nat_trim [(.t 93)]⟩,
  ⟨some 95, none, .p (.mv (.t 11))⟩,
  ⟨some 96, none, .call F_nat_trim [(.t 95)]⟩,
  ⟨some 97, none, .p (.mv (.t 9))⟩,
  ⟨some 98, none, .call F_nat_shr [(.t 96), (.t 97)]⟩,
  ⟨some 4, none, .p (.mv (.t 94))⟩,
  ⟨some 5, none, .p (.mv (.t 98))⟩,
  ⟨some 6, none, .p (.mv (.c (.int .i64 0)))⟩]
def nat_Div_c : ACode := .seq (.region nat_Div_r0 false) (.seq (.region nat_Div_r1 false) (.seq (.block 0 (.seq (.region nat_Div_r2 false) (.cond (.t 18) (.seq (.region nat_Div_r3 false) (.ret)) (.seq (.region nat_Div_r4 false) (.cond (.t 22) (.seq (.region nat_Div_r5 false) (.ret)) (.seq (.region nat_Div_r6 false) (.cond (.t 29) (.seq (.region nat_Div_r7 false) (.seq (.region nat_Div_r8 false) (.ret))) (.skip)))))))) (.seq (.region nat_Div_r9 false) (.seq (.region nat_Div_r10 false) (.seq (.region nat_Div_r11 false) (.seq (.region nat_Div_r12 false) (.seq (.seq (.region nat_Div_r13 false) (.block 1 (.loop nat_Div_l0))) (.seq (.region nat_Div_r17 false) (.ret)))))))))
theorem nat_Div_ok : fchk Pr (fun _ _ => false) Try.f104 = some (nat_Div_c, [.tmp 4, .tmp 5, .tmp 6], 99) := by kernel_rfl
theorem nat_Div_fn : Pr.funcs[F_nat_Div]? = some Try.f104 := Try.func104
def math_bits_Len32_r0 : List AIns := [⟨some 2, none, .p (.mv (.c (.int .i64 0)))⟩]
def math_bits_Len32_r1 : List AIns := [⟨some 3, none, .p (.mv (.t 0))⟩,
  ⟨some 4, none, .p (.bin .geq (.t 3) (.c (.int .u32 65536)))⟩]
def math_bits_Len32_r2 : List AIns := [⟨some 5, none, .p (.mv (.t 0))⟩,
  ⟨some 6, none, .p (.bin .shr (.t 5) (.c (.int .u64 16)))⟩,
  ⟨some 0, none, .p (.mv (.t 6))⟩]
def math_bits_Len32_r3 : List AIns := [⟨some 2, none, .p (.mv (.c (.int .i64 16)))⟩]
def math_bits_Len32_r4 : List AIns := [⟨some 7, none, .p (.mv (.t 0))⟩,
  ⟨some 8, none, .p (.bin .geq (.t 7) (.c (.int .u32 256)))⟩]
def math_bits_Len32_r5 : List AIns := [⟨some 9, none, .p (.mv (.t 0))⟩,
  ⟨some 10, none, .p (.bin .shr (.t 9) (.c (.int .u64 8)))⟩,
  ⟨some 0, none, .p (.mv (.t 10))⟩]
def math_bits_Len32_r6 : List AIns := [⟨some 11, none, .p (.mv (.t 2))⟩,
  ⟨some 12, none, .p (.bin .add (.t 11) (.c (.int .i64 8)))⟩,
  ⟨some 2, none, .p (.mv (.t 12))⟩]
def math_bits_Len32_r7 : List AIns := [⟨some 13, none, .p (.mv (.t 2))⟩,
  ⟨some 14, none, .p (.mv (.t 0))⟩,
  ⟨some 15, none, .p (.conv .u8 (.t 14))⟩,
  ⟨some 16, none, .p (.idxs (.c (.str str_0)) (.t 15))⟩,
  ⟨some 17, none, .p (.conv .i64 (.t 16))⟩,
  ⟨some 18, none, .p (.bin .add (.t 13) (.t 17))⟩,
  ⟨some 2, none, .p (.mv (.t 18))⟩]
def math_bits_Len32_c : ACode := .seq (.region math_bits_Len32_r0 false) (.seq (.seq (.region math_bits_Len32_r1 false) (.cond (.t 4) (.seq (.region math_bits_Len32_r2 false) (.region math_bits_Len32_r3 false)) (.skip))) (.seq (.seq (.region math_bits_Len32_r4 false) (.cond (.t 8) (.seq (.region math_bits_Len32_r5 false) (.region math_bits_Len32_r6 false)) (.skip))) (.seq (.region math_bits_Len32_r7 false) (.ret))))
theorem math_bits_Len32_ok : fchk Pr (fun _ _ => false) Try.f109 = some (math_bits_Len32_c, [.tmp 2], 19) := by kernel_rfl
theorem math_bits_Len32_fn : Pr.funcs[F_math_bits_Len32]? = some Try.f109 := Try.func109
def ref01_Norm_r0 : List AIns := [⟨some 2, none, .p (.mv (.c (.nil)))⟩]
def ref01_Norm_r1 : List AIns := [⟨some 6, none, .p (.mv (.t 0))⟩,
  ⟨some 7, none, .p (.len (.t 6))⟩,
  ⟨some 3, none, .p (.mv (.t 7))⟩]
def ref01_Norm_r2 : List AIns := [⟨some 8, none, .p (.mv (.t 3))⟩,
  ⟨some 9, none, .p (.bin .gtr (.t 8) (.c (.int .i64 0)))⟩,
  ⟨some 10, none, .p (.mv (.t 9))⟩,
  ⟨some 11, some (10, true), .p (.mv (.t 0))⟩,
  ⟨some 12, some (10, true), .p (.mv (.t 3))⟩,
  ⟨some 13, some (10, true), .p (.bin .sub (.t 12) (.c (.int .i64 1)))⟩,
  ⟨some 14, some (10, true), .p (.idxp 1 (.t 11) (.t 13))⟩,
  ⟨some 15, some (10, true), .p (.load none (.t 14))⟩,
  ⟨some 16, some (10, true), .p (.bin .eql (.t 15) (.c (.int .u32 0)))⟩,
  ⟨some 17, none, .p (.pick (.t 10) (.t 16) (.c (.bool false)))⟩]
def ref01_Norm_r3 : List AIns := [⟨some 18, none, .p (.mv (.t 3))⟩,
  ⟨some 19, none, .p (.bin .sub (.t 18) (.c (.int .i64 1)))⟩,
  ⟨some 3, none, .p (.mv (.t 19))⟩]
def ref01_Norm_l0 : ACode := .seq (.seq (.region ref01_Norm_r2 false) (.cond (.t 17) (.skip) (.exit 0))) (.block 1 (.region ref01_Norm_r3 false))
def ref01_Norm_r4 : List AIns := [⟨some 4, none, .p (.mv (.c (.nil)))⟩]
def ref01_Norm_r5 : List AIns := [⟨some 5, none, .p (.mv (.c (.int .i64 0)))⟩]
def ref01_Norm_r6 : List AIns := [⟨some 20, none, .p (.mv (.t 5))⟩,
  ⟨some 21, none, .p (.mv (.t 3))⟩,
  ⟨some 22, none, .p (.bin .lss (.t 20) (.t 21))⟩]
def ref01_Norm_r7 : List AIns := [⟨some 25, none, .p (.mv (.t 4))⟩,
  ⟨some 26, none, .p (.mv (.t 0))⟩,
  ⟨some 27, none, .p (.mv (.t 5))⟩,
  ⟨some 28, none, .p (.idxp 1 (.t 26) (.t 27))⟩,
  ⟨some 29, none, .p (.load none (.t 28))⟩,
  ⟨some 30, none, .e (.bsl 1 [(.t 29)])⟩,
  ⟨some 31, none, .e (.app 1 4 false (.t 25) (.t 30))⟩,
  ⟨some 4, none, .p (.mv (.t 31))⟩]
def ref01_Norm_r8 : List AIns := [⟨some 23, none, .p (.mv (.t 5))⟩,
  ⟨some 24, none, .p (.bin .add (.t 23) (.c (.int .i64 1)))⟩,
  ⟨some 5, none, .p (.mv (.t 24))⟩]
def ref01_Norm_l1 : ACode := .seq (.seq (.region ref01_Norm_r6 false) (.cond (.t 22) (.skip) (.exit 2))) (.seq (.block 3 (.region ref01_Norm_r7 false)) (.region ref01_Norm_r8 false))
def ref01_Norm_r9 : List AIns := [⟨some 32, none, .p (.mv (.t 4))⟩,
  ⟨some 2, none, .p (.mv (.t 32))⟩]
def ref01_Norm_c : ACode := .seq (.region ref01_Norm_r0 false) (.seq (.region ref01_Norm_r1 false) (.seq (.block 0 (.loop ref01_Norm_l0)) (.seq (.region ref01_Norm_r4 false) (.seq (.seq (.region ref01_Norm_r5 false) (.block 2 (.loop ref01_Norm_l1))) (.seq (.region ref01_Norm_r9 false) (.ret))))))
theorem ref01_Norm_ok : fchk Pr (fun _ _ => false) Try.f111 = some (ref01_Norm_c, [.tmp 2], 33) := by kernel_rfl
theorem ref01_Norm_fn : Pr.funcs[F_ref01_Norm]? = some Try.f111 := Try.func111
def ref01_Mul_r0 : List AIns := [⟨some 4, none, .p (.mv (.c (.nil)))⟩]
def ref01_Mul_r1 : List AIns := [⟨some 9, none, .p (.mv (.t 0))⟩,
  ⟨some 10, none, .p (.len (.t 9))⟩,
  ⟨some 11, none, .p (.mv (.t 1))⟩,
  ⟨some 12, none, .p (.len (.t 11))⟩,
  ⟨some 13, none, .p (.bin .add (.t 10) (.t 12))⟩,
  ⟨some 14, none, .e (.mksl 1 4 (.int .u32 0) (.t 13) (.t 13))⟩,
  ⟨some 5, none, .p (.mv (.t 14))⟩]
def ref01_Mul_r2 : List AIns := [⟨some 6, none, .p (.mv (.c (.int .i64 0)))⟩]
def ref01_Mul_r3 : List AIns := [⟨some 15, none, .p (.mv (.t 6))⟩,
  ⟨some 16, none, .p (.mv (.t 0))⟩,
  ⟨some 17, none, .p (.len (.t 16))⟩,
  ⟨some 18, none, .p (.bin .lss (.t 15) (.t 17))⟩]
def ref01_Mul_r4 : List AIns := [⟨some 7, none, .p (.mv (.c (.int .u64 0)))⟩]
def ref01_Mul_r5 : List AIns := [⟨some 8, none, .p (.mv (.c (.int .i64 0)))⟩]
def ref01_Mul_r6 : List AIns := [⟨some 21, none, .p (.mv (.t 8))⟩,
  ⟨some 22, none, .p (.mv (.t 1))⟩,
  ⟨some 23, none, .p (.len (.t 22))⟩,
  ⟨some 24, none, .p (.bin .lss (.t 21) (.t 23))⟩]
def ref01_Mul_r7 : List AIns := [⟨some 27, none, .p (.mv (.t 7))⟩,
  ⟨some 28, none, .p (.mv (.t 5))⟩,
  ⟨some 29, none, .p (.mv (.t 6))⟩,
  ⟨some 30, none, .p (.mv (.t 8))⟩,
  ⟨some 31, none, .p (.bin .add (.t 29) (.t 30))⟩,
  ⟨some 32, none, .p (.idxp 1 (.t 28) (.t 31))⟩,
  ⟨some 33, none, .p (.load none (.t 32))⟩,
  ⟨some 34, none, .p (.conv .u64 (.t 33))⟩,
  ⟨some 35, none, .p (.bin .add (.t 27) (.t 34))⟩,
  ⟨some 36, none, .p (.mv (.t 0))⟩,
  ⟨some 37, none, .p (.mv (.t 6))⟩,
  ⟨some 38, none, .p (.idxp 1 (.t 36) (.t 37))⟩,
  ⟨some 39, none, .p (.load none (.t 38))⟩,
  ⟨some 40, none, .p (.conv .u64 (.t 39))⟩,
  ⟨some 41, none, .p (.mv (.t 1))⟩,
  ⟨some 42, none, .p (.mv (.t 8))⟩,
  ⟨some 43, none, .p (.idxp 1 (.t 41) (.t 42))⟩,
  ⟨some 44, none, .p (.load none (.t 43))⟩,
  ⟨some 45, none, .p (.conv .u64 (.t 44))⟩,
  ⟨some 46, none, .p (.bin .mul (.t 40) (.t 45))⟩,
  ⟨some 47, none, .p (.bin .add (.t 35) (.t 46))⟩,
  ⟨some 7, none, .p (.mv (.t 47))⟩]
def ref01_Mul_r8 : List AIns := [⟨some 48, none, .p (.mv (.t 5))⟩,
  ⟨some 49, none, .p (.mv (.t 6))⟩,
  ⟨some 50, none, .p (.mv (.t 8))⟩,
  ⟨some 51, none, .p (.bin .add (.t 49) (.t 50))⟩,
  ⟨some 52, none, .p (.mv (.t 7))⟩,
  ⟨some 53, none, .p (.bin .rem (.t 52) (.c (.int .u64 4294967296)))⟩,
  ⟨some 54, none, .p (.conv .u32 (.t 53))⟩,
  ⟨some 55, none, .p (.idxp 1 (.t 48) (.t 51))⟩,
  ⟨none, none, .e (.store 1 (.t 55) (.t 54))⟩]
def ref01_Mul_r9 : List AIns := [⟨some 56, none, .p (.mv (.t 7))⟩,
  ⟨some 57, none, .p (.bin .quo (.t 56) (.c (.int .u64 4294967296)))⟩,
  ⟨some 7, none, .p (.mv (.t 57))⟩]
def ref01_Mul_r10 : List AIns := [⟨some 25, none, .p (.mv (.t 8))⟩,
  ⟨some 26, none, .p (.bin .add (.t 25) (.c (.int .i64 1)))⟩,
  ⟨some 8, none, .p (.mv (.t 26))⟩]
def ref01_Mul_l1 : ACode := .seq (.seq (.region ref01_Mul_r6 false) (.cond (.t 24) (.skip) (.exit 2))) (.seq (.block 3 (.seq (.region ref01_Mul_r7 true) (.seq (.region ref01_Mul_r8 false) (.region ref01_Mul_r9 false)))) (.region ref01_Mul_r10 false))
def ref01_Mul_r11 : List AIns := [⟨some 58, none, .p (.mv (.t 5))⟩,
  ⟨some 59, none, .p (.mv (.t 6))⟩,
  ⟨some 60, none, .p (.mv (.t 1))⟩,
  ⟨some 61, none, .p (.len (.t 60))⟩,
  ⟨some 62, none, .p (.bin .add (.t 59) (.t 61))⟩,
  ⟨some 63, none, .p (.mv (.t 7))⟩,
  ⟨some 64, none, .p (.conv .u32 (.t 63))⟩,
  ⟨some 65, none, .p (.idxp 1 (.t 58) (.t 62))⟩,
  ⟨none, none, .e (.store 1 (.t 65) (.t 64))⟩]
def ref01_Mul_r12 : List AIns := [⟨some 19, none, .p (.mv (.t 6))⟩,
  ⟨some 20, none, .p (.bin .add (.t 19) (.c (.int .i64 1)))⟩,
  ⟨some 6, none, .p (.mv (.t 20))⟩]
def ref01_Mul_l0 : ACode := .seq (.seq (.region ref01_Mul_r3 false) (.cond (.t 18) (.skip) (.exit 0))) (.seq (.block 1 (.seq (.region ref01_Mul_r4 false) (.seq (.seq (.region ref01_Mul_r5 false) (.block 2 (.loop ref01_Mul_l1))) (.region ref01_Mul_r11 false)))) (.region ref01_Mul_r12 false))
def ref01_Mul_r13 : List AIns := [⟨some 66, none, .p (.mv (.t 5))⟩,
  ⟨some 67, none, .call F_ref01_Norm [(.t 66)]⟩,
  ⟨some 4, none, .p (.mv (.t 67))⟩]
def ref01_Mul_c : ACode := .seq (.region ref01_Mul_r0 false) (.seq (.region ref01_Mul_r1 false) (.seq (.seq (.region ref01_Mul_r2 false) (.block 0 (.loop ref01_Mul_l0))) (.seq (.region ref01_Mul_r13 false) (.ret))))
theorem ref01_Mul_ok : fchk Pr (fun _ _ => false) Try.f115 = some (ref01_Mul_c, [.tmp 4], 68) := by kernel_rfl
theorem ref01_Mul_fn : Pr.funcs[F_ref01_Mul]? = some Try.f115 := Try.func115
def nat_Add_r0 : List AIns := [⟨some 4, none, .p (.mv (.c (.nil)))⟩]
def nat_Add_r1 : List AIns := [⟨some 8, none, .p (.mv (.t 0))⟩,
  ⟨some 9, none, .p (.len (.t 8))⟩,
  ⟨some 10, none, .p (.mv (.t 1))⟩,
  ⟨some 11, none, .p (.len (.t 10))⟩,
  ⟨some 12, none, .p (.bin .lss (.t 9) (.t 11))⟩]
def nat_Add_r2 : List AIns := [⟨some 13, none, .p (.mv (.t 1))⟩,
  ⟨some 14, none, .p (.mv (.t 0))⟩,
  ⟨some 0, none, .p (.mv (.t 13))⟩,
  ⟨some 1, none, .p (.mv (.t 14))⟩]
def nat_Add_r3 : List AIns := [⟨some 15, none, .p (.mv (.t 0))⟩,
  ⟨some 16, none, .p (.len (.t 15))⟩,
  ⟨some 17, none, .p (.bin .add (.t 16) (.c (.int .i64 1)))⟩,
  ⟨some 18, none, .e (.mksl 1 4 (.int .u32 0) (.t 17) (.t 17))⟩,
  ⟨some 5, none, .p (.mv (.t 18))⟩]
def nat_Add_r4 : List AIns := [⟨some 6, none, .p (.mv (.c (.int .u64 0)))⟩]
def nat_Add_r5 : List AIns := [⟨some 19, none, .p (.mv (.t 0))⟩,
  ⟨some 20, none, .p (.len (.t 19))⟩,
  ⟨some 21, none, .p (.mv (.c (.int .i64 0)))⟩]
def nat_Add_r6 : List AIns := [⟨some 22, none, .p (.bin .lss (.t 21) (.t 20))⟩]
def nat_Add_r7 : List AIns := [⟨some 23, none, .p (.mv (.t 21))⟩,
  ⟨some 7, none, .p (.mv (.t 23))⟩]
def nat_Add_r8 : List AIns := [⟨some 24, none, .p (.mv (.t 6))⟩,
  ⟨some 25, none, .p (.mv (.t 0))⟩,
  ⟨some 26, none, .p (.mv (.t 7))⟩,
  ⟨some 27, none, .p (.idxp 1 (.t 25) (.t 26))⟩,
  ⟨some 28, none, .p (.load none (.t 27))⟩,
  ⟨some 29, none, .p (.conv .u64 (.t 28))⟩,
  ⟨some 30, none, .p (.bin .add (.t 24) (.t 29))⟩,
  ⟨some 6, none, .p (.mv (.t 30))⟩]
def nat_Add_r9 : List AIns := [⟨some 31, none, .p (.mv (.t 7))⟩,
  ⟨some 32, none, .p (.mv (.t 1))⟩,
  ⟨some 33, none, .p (.len (.t 32))⟩,
  ⟨some 34, none, .p (.bin .lss (.t 31) (.t 33))⟩]
def nat_Add_r10 : List AIns := [⟨some 35, none, .p (.mv (.t 6))⟩,
  ⟨some 36, none, .p (.mv (.t 1))⟩,
  ⟨some 37, none, .p (.mv (.t 7))⟩,
  ⟨some 38, none, .p (.idxp 1 (.t 36) (.t 37))⟩,
  ⟨some 39, none, .p (.load none (.t 38))⟩,
  ⟨some 40, none, .p (.conv .u64 (.t 39))⟩,
  ⟨some 41, none, .p (.bin .add (.t 35) (.t 40))⟩,
  ⟨some 6, none, .p (.mv (.t 41))⟩]
def nat_Add_r11 : List AIns := [⟨some 42, none, .p (.mv (.t 5))⟩,
  ⟨some 43, none, .p (.mv (.t 7))⟩,
  ⟨some 44, none, .p (.mv (.t 6))⟩,
  ⟨some 45, none, .p (.conv .u32 (.t 44))⟩,
  ⟨some 46, none, .p (.idxp 1 (.t 42) (.t 43))⟩,
  ⟨none, none, .e (.store 1 (.t 46) (.t 45))⟩]
def nat_Add_r12 : List AIns := [⟨some 47, none, .p (.mv (.t 6))⟩,
  ⟨some 48, none, .p (.bin .shr (.t 47) (.c (.int .u64 32)))⟩,
  ⟨some 6, none, .p (.mv (.t 48))⟩]
def nat_Add_r13 : List AIns := [⟨some 49, none, .p (.bin .add (.t 21) (.c (.int .i64 1)))⟩,
  ⟨some 21, none, .p (.mv (.t 49))⟩]
def nat_Add_l0 : ACode := .seq (.region nat_Add_r6 false) (.seq (.cond (.t 22) (.skip) (.exit 0)) (.seq (.block 1 (.seq (.region nat_Add_r7 false) (.seq (.region nat_Add_r8 false) (.seq (.seq (.region nat_Add_r9 false) (.cond (.t 34) (.region nat_Add_r10 false) (.skip))) (.seq (.region nat_Add_r11 false) (.region nat_Add_r12 false)))))) (.region nat_Add_r13 false)))
def nat_Add_r14 : List AIns := [⟨some 50, none, .p (.mv (.t 5))⟩,
  ⟨some 51, none, .p (.mv (.t 0))⟩,
  ⟨some 52, none, .p (.len (.t 51))⟩,
  ⟨some 53, none, .p (.mv (.t 6))⟩,
  ⟨some 54, none, .p (.conv .u32 (.t 53))⟩,
  ⟨some 55, none, .p (.idxp 1 (.t 50) (.t 52))⟩,
  ⟨none, none, .e (.store 1 (.t 55) (.t 54))⟩]
def nat_Add_r15 : List AIns := [⟨some 56, none, .p (.mv (.t 5))⟩,
  ⟨some 57, none, .call F_nat_trim [(.t 56)]⟩,
  ⟨some 4, none, .p (.mv (.t 57))⟩]
def nat_Add_c : ACode := .seq (.region nat_Add_r0 false) (.seq (.seq (.region nat_Add_r1 false) (.cond (.t 12) (.region nat_Add_r2 false) (.skip))) (.seq (.region nat_Add_r3 false) (.seq (.region nat_Add_r4 false) (.seq (.seq (.region nat_Add_r5 false) (.block 0 (.loop nat_Add_l0))) (.seq (.region nat_Add_r14 false) (.seq (.region nat_Add_r15 false) (.ret)))))))
theorem nat_Add_ok : fchk Pr (fun _ _ => false) Try.f118 = some (nat_Add_c, [.tmp 4], 58) := by kernel_rfl
theorem nat_Add_fn : Pr.funcs[F_nat_Add]? = some Try.f118 := Try.func118
def nat_Sub_r0 : List AIns := [⟨some 4, none, .p (.mv (.c (.nil)))⟩,
  ⟨some 5, none, .p (.mv (.c (.int .i64 0)))⟩]
def nat_Sub_r1 : List AIns := [⟨some 6, none, .p (.mv (.t 0))⟩,
  ⟨some 7, none, .p (.mv (.t 1))⟩,
  ⟨some 8, none, .call F_nat_Cmp [(.t 6), (.t 7)]⟩,
  ⟨some 9, none, .p (.bin .lss (.t 8) (.c (.int .i64 0)))⟩]
def nat_Sub_r2 : List AIns := [⟨some 4, none, .p (.mv (.c (.nil)))⟩,
  ⟨some 5, none, .p (.mv (.c (.int .i64 10)))⟩]
def nat_Sub_r3 : List AIns := [⟨some 10, none, .p (.mv (.t 0))⟩,
  ⟨some 11, none, .call F_nat_trim [(.t 10)]⟩,
  ⟨some 12, none, .p (.mv (.t 1))⟩,
  ⟨some 13, none, .call F_nat_trim [(.t 12)]⟩,
  ⟨some 14, none, .call F_nat_less [(.t 11), (.t 13)]⟩,
  ⟨some 4, none, .p (.mv (.t 14))⟩,
  ⟨some 5, none, .p (.mv (.c (.int .i64 0)))⟩]
def nat_Sub_c : ACode := .seq (.region nat_Sub_r0 false) (.seq (.seq (.region nat_Sub_r1 false) (.cond (.t 9) (.seq (.region nat_Sub_r2 false) (.ret)) (.skip))) (.seq (.region nat_Sub_r3 false) (.ret)))
theorem nat_Sub_ok : fchk Pr (fun _ _ => false) Try.f119 = some (nat_Sub_c, [.tmp 4, .tmp 5], 15) := by kernel_rfl
theorem nat_Sub_fn : Pr.funcs[F_nat_Sub]? = some Try.f119 := Try.func119
def nat_Norm_r0 : List AIns := [⟨some 2, none, .p (.mv (.c (.nil)))⟩]
def nat_Norm_r1 : List AIns := [⟨some 3, none, .p (.mv (.t 0))⟩,
  ⟨some 4, none, .call F_nat_trim [(.t 3)]⟩,
  ⟨some 5, none, .e (.app 1 4 false (.c (.nil)) (.t 4))⟩,
  ⟨some 2, none, .p (.mv (.t 5))⟩]
def nat_Norm_c : ACode := .seq (.region nat_Norm_r0 false) (.seq (.region nat_Norm_r1 false) (.ret))
theorem nat_Norm_ok : fchk Pr (fun _ _ => false) Try.f120 = some (nat_Norm_c, [.tmp 2], 6) := by kernel_rfl
theorem nat_Norm_fn : Pr.funcs[F_nat_Norm]? = some Try.f120 := Try.func120
def nat_short_r0 : List AIns := [⟨some 4, none, .p (.mv (.c (.nil)))⟩,
  ⟨some 5, none, .p (.mv (.c (.int .u32 0)))⟩]
def nat_short_r1 : List AIns := [⟨some 9, none, .p (.mv (.t 0))⟩,
  ⟨some 10, none, .p (.len (.t 9))⟩,
  ⟨some 11, none, .e (.mksl 1 4 (.int .u32 0) (.t 10) (.t 10))⟩,
  ⟨some 6, none, .p (.mv (.t 11))⟩]
def nat_short_r2 : List AIns := [⟨some 7, none, .p (.mv (.c (.int .u64 0)))⟩]
def nat_short_r3 : List AIns := [⟨some 12, none, .p (.mv (.t 0))⟩,
  ⟨some 13, none, .p (.len (.t 12))⟩,
  ⟨some 14, none, .p (.bin .sub (.t 13) (.c (.int .i64 1)))⟩,
  ⟨some 8, none, .p (.mv (.t 14))⟩]
def nat_short_r4 : List AIns := [⟨some 15, none, .p (.mv (.t 8))⟩,
  ⟨some 16, none, .p (.bin .geq (.t 15) (.c (.int .i64 0)))⟩]
def nat_short_r5 : List AIns := [⟨some 19, none, .p (.mv (.t 7))⟩,
  ⟨some 20, none, .p (.bin .shl (.t 19) (.c (.int .u64 32)))⟩,
  ⟨some 21, none, .p (.mv (.t 0))⟩,
  ⟨some 22, none, .p (.mv (.t 8))⟩,
  ⟨some 23, none, .p (.idxp 1 (.t 21) (.t 22))⟩,
  ⟨some 24, none, .p (.load none (.t 23))⟩,
  ⟨some 25, none, .p (.conv .u64 (.t 24))⟩,
  ⟨some 26, none, .p (.bin .or (.t 20) (.t 25))⟩,
  ⟨some 7, none, .p (.mv (.t 26))⟩]
def nat_short_r6 : List AIns := [⟨some 27, none, .p (.mv (.t 6))⟩,
  ⟨some 28, none, .p (.mv (.t 8))⟩,
  ⟨some 29, none, .p (.mv (.t 7))⟩,
  ⟨some 30, none, .p (.mv (.t 1))⟩,
  ⟨some 31, none, .p (.conv .u64 (.t 30))⟩,
  ⟨some 32, none, .p (.bin .quo (.t 29) (.t 31))⟩,
  ⟨some 33, none, .p (.conv .u32 (.t 32))⟩,
  ⟨some 34, none, .p (.idxp 1 (.t 27) (.t 28))⟩,
  ⟨none, none, .e (.store 1 (.t 34) (.t 33))⟩]
def nat_short_r7 : List AIns := [⟨some 35, none, .p (.mv (.t 7))⟩,
  ⟨some 36, none, .p (.mv (.t 1))⟩,
  ⟨some 37, none, .p (.conv .u64 (.t 36))⟩,
  ⟨some 38, none, .p (.bin .rem (.t 35) (.t 37))⟩,
  ⟨some 7, none, .p (.mv (.t 38))⟩]
def nat_short_r8 : List AIns := [⟨some 17, none, .p (.mv (.t 8))⟩,
  ⟨some 18, none, .p (.bin .sub (.t 17) (.c (.int .i64 1)))⟩,
  ⟨some 8, none, .p (.mv (.t 18))⟩]
def nat_short_l0 : ACode := .seq (.seq (.region nat_short_r4 false) (.cond (.t 16) (.skip) (.exit 0))) (.seq (.block 1 (.seq (.region nat_short_r5 false) (.seq (.region nat_short_r6 false) (.region nat_short_r7 false)))) (.region nat_short_r8 false))
def nat_short_r9 : List AIns := [⟨some 39, none, .p (.mv (.t 6))⟩,
  ⟨some 40, none, .call F_nat_trim [(.t 39)]⟩,
  ⟨some 41, none, .p (.mv (.t 7))⟩,
  ⟨some 42, none, .p (.conv .u32 (.t 41))⟩,
  ⟨some 4, none, .p (.mv (.t 40))⟩,
  ⟨some 5, none, .p (.mv (.t 42))⟩]
def nat_short_c : ACode := .seq (.region nat_short_r0 false) (.seq (.region nat_short_r1 false) (.seq (.region nat_short_r2 false) (.seq (.seq (.region nat_short_r3 false) (.block 0 (.loop nat_short_l0))) (.seq (.region nat_short_r9 false) (.ret)))))
theorem nat_short_ok : fchk Pr (fun _ _ => false) Try.f121 = some (nat_short_c, [.tmp 4, .tmp 5], 43) := by kernel_rfl
theorem nat_short_fn : Pr.funcs[F_nat_short]? = some Try.f121 := Try.func121
def math_bits_LeadingZeros32_r0 : List AIns := [⟨some 2, none, .p (.mv (.c (.int .i64 0)))⟩]
def math_bits_LeadingZeros32_r1 : List AIns := [⟨some 3, none, .p (.mv (.t 0))⟩,
  ⟨some 4, none, .call F_math_bits_Len32 [(.t 3)]⟩,
  ⟨some 5, none, .p (.bin .sub (.c (.int .i64 32)) (.t 4))⟩,
  ⟨some 2, none, .p (.mv (.t 5))⟩]
def math_bits_LeadingZeros32_c : ACode := .seq (.region math_bits_LeadingZeros32_r0 false) (.seq (.region math_bits_LeadingZeros32_r1 false) (.ret))
theorem math_bits_LeadingZeros32_ok : fchk Pr (fun _ _ => false) Try.f122 = some (math_bits_LeadingZeros32_c, [.tmp 2], 6) := by kernel_rfl
theorem math_bits_LeadingZeros32_fn : Pr.funcs[F_math_bits_LeadingZeros32]? = some Try.f122 := Try.func122
def nat_shl_r0 : List AIns := [⟨some 4, none, .p (.mv (.c (.nil)))⟩]
def nat_shl_r1 : List AIns := [⟨some 10, none, .p (.mv (.t 0))⟩,
  ⟨some 11, none, .call F_nat_trim [(.t 10)]⟩,
  ⟨some 0, none, .p (.mv (.t 11))⟩]
def nat_shl_r2 : List AIns := [⟨some 12, none, .p (.mv (.t 0))⟩,
  ⟨some 13, none, .p (.len (.t 12))⟩,
  ⟨some 14, none, .p (.bin .eql (.t 13) (.c (.int .i64 0)))⟩]
def nat_shl_r3 : List AIns := [⟨some 4, none, .p (.mv (.c (.nil)))⟩]
def nat_shl_r4 : List AIns := [⟨some 15, none, .p (.mv (.t 1))⟩,
  ⟨some 16, none, .p (.bin .quo (.t 15) (.c (.int .i64 32)))⟩,
  ⟨some 17, none, .p (.mv (.t 1))⟩,
  ⟨some 18, none, .p (.bin .rem (.t 17) (.c (.int .i64 32)))⟩,
  ⟨some 19, none, .p (.conv .u64 (.t 18))⟩,
  ⟨some 5, none, .p (.mv (.t 16))⟩,
  ⟨some 6, none, .p (.mv (.t 19))⟩]
def nat_shl_r5 : List AIns := [⟨some 20, none, .p (.mv (.t 0))⟩,
  ⟨some 21, none, .p (.len (.t 20))⟩,
  ⟨some 22, none, .p (.mv (.t 5))⟩,
  ⟨some 23, none, .p (.bin .add (.t 21) (.t 22))⟩,
  ⟨some 24, none, .p (.bin .add (.t 23) (.c (.int .i64 1)))⟩,
  ⟨some 25, none, .e (.mksl 1 4 (.int .u32 0) (.t 24) (.t 24))⟩,
  ⟨some 7, none, .p (.mv (.t 25))⟩]
def nat_shl_r6 : List AIns := [⟨some 26, none, .p (.mv (.t 0))⟩,
  ⟨some 27, none, .p (.len (.t 26))⟩,
  ⟨some 28, none, .p (.mv (.c (.int .i64 0)))⟩]
def nat_shl_r7 : List AIns := [⟨some 29, none, .p (.bin .lss (.t 28) (.t 27))⟩]
def nat_shl_r8 : List AIns := [⟨some 30, none, .p (.mv (.t 28))⟩,
  ⟨some 8, none, .p (.mv (.t 30))⟩]
def nat_shl_r9 : List AIns := [⟨some 31, none, .p (.mv (.t 0))⟩,
  ⟨some 32, none, .p (.mv (.t 8))⟩,
  ⟨some 33, none, .p (.idxp 1 (.t 31) (.t 32))⟩,
  ⟨some 34, none, .p (.load none (.t 33))⟩,
  ⟨some 35, none, .p (.conv .u64 (.t 34))⟩,
  ⟨some 36, none, .p (.mv (.t 6))⟩,
  ⟨some 37, none, .p (.bin .shl (.t 35) (.t 36))⟩,
  ⟨some 9, none, .p (.mv (.t 37))⟩]
def nat_shl_r10 : List AIns := [⟨some 38, none, .p (.mv (.t 7))⟩,
  ⟨some 39, none, .p (.mv (.t 8))⟩,
  ⟨some 40, none, .p (.mv (.t 5))⟩,
  ⟨some 41, none, .p (.bin .add (.t 39) (.t 40))⟩,
  ⟨some 42, none, .p (.idxp 1 (.t 38) (.t 41))⟩,
  ⟨some 43, none, .p (.load none (.t 42))⟩,
  ⟨some 44, none, .p (.mv (.t 9))⟩,
  ⟨some 45, none, .p (.conv .u32 (.t 44))⟩,
  ⟨some 46, none, .p (.bin .or (.t 43) (.t 45))⟩,
  ⟨some 47, none, .p (.idxp 1 (.t 38) (.t 41))⟩,
  ⟨none, none, .e (.store 1 (.t 47) (.t 46))⟩]
def nat_shl_r11 : List AIns := [⟨some 48, none, .p (.mv (.t 7))⟩,
  ⟨some 49, none, .p (.mv (.t 8))⟩,
  ⟨some 50, none, .p (.mv (.t 5))⟩,
  ⟨some 51, none, .p (.bin .add (.t 49) (.t 50))⟩,
  ⟨some 52, none, .p (.bin .add (.t 51) (.c (.int .i64 1)))⟩,
  ⟨some 53, none, .p (.mv (.t 9))⟩,
  ⟨some 54, none, .p (.bin .shr (.t 53) (.c (.int .u64 32)))⟩,
  ⟨some 55, none, .p (.conv .u32 (.t 54))⟩,
  ⟨some 56, none, .p (.idxp 1 (.t 48) (.t 52))⟩,
  ⟨none, none, .e (.store 1 (.t 56) (.t 55))⟩]
def nat_shl_r12 : List AIns := [⟨some 57, none, .p (.bin .add (.t 28) (.c (.int .i64 1)))⟩,
  ⟨some 28, none, .p (.mv (.t 57))⟩]
def nat_shl_l0 : ACode := .seq (.region nat_shl_r7 false) (.seq (.cond (.t 29) (.skip) (.exit 0)) (.seq (.block 1 (.seq (.region nat_shl_r8 false) (.seq (.region nat_shl_r9 false) (.seq (.region nat_shl_r10 false) (.region nat_shl_r11 false))))) (.region nat_shl_r12 false)))
def nat_shl_r13 : List AIns := [⟨some 58, none, .p (.mv (.t 7))⟩,
  ⟨some 59, none, .call F_nat_trim [(.t 58)]⟩,
  ⟨some 4, none, .p (.mv (.t 59))⟩]
def nat_shl_c : ACode := .seq (.region nat_shl_r0 false) (.seq (.region nat_shl_r1 false) (.seq (.seq (.region nat_shl_r2 false) (.cond (.t 14) (.seq (.region nat_shl_r3 false) (.ret)) (.skip))) (.seq (.region nat_shl_r4 false) (.seq (.region nat_shl_r5 false) (.seq (.seq (.region nat_shl_r6 false) (.block 0 (.loop nat_shl_l0))) (.seq (.region nat_shl_r13 false) (.ret)))))))
theorem nat_shl_ok : fchk Pr (fun _ _ => false) Try.f123 = some (nat_shl_c, [.tmp 4], 60) := by kernel_rfl
theorem nat_shl_fn : Pr.funcs[F_nat_shl]? = some Try.f123 := Try.func123
def nat_digit_r0 : List AIns := [⟨some 4, none, .p (.mv (.c (.int .u32 0)))⟩]
def nat_digit_r1 : List AIns := [⟨some 15, none, .p (.mv (.t 1))⟩,
  ⟨some 16, none, .p (.len (.t 15))⟩,
  ⟨some 5, none, .p (.mv (.t 16))⟩]
def nat_digit_r2 : List AIns := [⟨some 17, none, .p (.mv (.t 0))⟩,
  ⟨some 18, none, .p (.mv (.t 5))⟩,
  ⟨some 19, none, .p (.idxp 1 (.t 17) (.t 18))⟩,
  ⟨some 20, none, .p (.load none (.t 19))⟩,
  ⟨some 21, none, .p (.conv .u64 (.t 20))⟩,
  ⟨some 22, none, .p (.bin .shl (.t 21) (.c (.int .u64 32)))⟩,
  ⟨some 23, none, .p (.mv (.t 0))⟩,
  ⟨some 24, none, .p (.mv (.t 5))⟩,
  ⟨some 25, none, .p (.bin .sub (.t 24) (.c (.int .i64 1)))⟩,
  ⟨some 26, none, .p (.idxp 1 (.t 23) (.t 25))⟩,
  ⟨some 27, none, .p (.load none (.t 26))⟩,
  ⟨some 28, none, .p (.conv .u64 (.t 27))⟩,
  ⟨some 29, none, .p (.bin .or (.t 22) (.t 28))⟩,
  ⟨some 6, none, .p (.mv (.t 29))⟩]
def nat_digit_r3 : List AIns := [⟨some 30, none, .p (.mv (.t 6))⟩,
  ⟨some 31, none, .p (.mv (.t 1))⟩,
  ⟨some 32, none, .p (.mv (.t 5))⟩,
  ⟨some 33, none, .p (.bin .sub (.t 32) (.c (.int .i64 1)))⟩,
  ⟨some 34, none, .p (.idxp 1 (.t 31) (.t 33))⟩,
  ⟨some 35, none, .p (.load none (.t 34))⟩,
  ⟨some 36, none, .p (.conv .u64 (.t 35))⟩,
  ⟨some 37, none, .p (.bin .quo (.t 30) (.t 36))⟩,
  ⟨some 38, none, .p (.mnx false (.t 37) (.c (.int .u64 4294967295)))⟩,
  ⟨some 7, none, .p (.mv (.t 38))⟩]
def nat_digit_r4 : List AIns := [⟨some 8, none, .p (.mv (.c (.int .u64 0)))⟩,
  ⟨some 9, none, .p (.mv (.c (.int .u64 0)))⟩]
def nat_digit_r5 : List AIns := [⟨some 39, none, .p (.mv (.t 5))⟩,
  ⟨some 40, none, .p (.bin .add (.t 39) (.c (.int .i64 1)))⟩,
  ⟨some 41, none, .p (.mv (.c (.int .i64 0)))⟩]
def nat_digit_r6 : List AIns := [⟨some 42, none, .p (.bin .lss (.t 41) (.t 40))⟩]
def nat_digit_r7 : List AIns := [⟨some 43, none, .p (.mv (.t 41))⟩,
  ⟨some 10, none, .p (.mv (.t 43))⟩]
def nat_digit_r8 : List AIns := [⟨some 44, none, .p (.mv (.t 8))⟩,
  ⟨some 11, none, .p (.mv (.t 44))⟩]
def nat_digit_r9 : List AIns := [⟨some 45, none, .p (.mv (.t 10))⟩,
  ⟨some 46, none, .p (.mv (.t 5))⟩,
  ⟨some 47, none, .p (.bin .lss (.t 45) (.t 46))⟩]
def nat_digit_r10 : List AIns := [⟨some 48, none, .p (.mv (.t 11))⟩,
  ⟨some 49, none, .p (.mv (.t 7))⟩,
  ⟨some 50, none, .p (.mv (.t 1))⟩,
  ⟨some 51, none, .p (.mv (.t 10))⟩,
  ⟨some 52, none, .p (.idxp 1 (.t 50) (.t 51))⟩,
  ⟨some 53, none, .p (.load none (.t 52))⟩,
  ⟨some 54, none, .p (.conv .u64 (.t 53))⟩,
  ⟨some 55, none, .p (.bin .mul (.t 49) (.t 54))⟩,
  ⟨some 56, none, .p (.bin .add (.t 48) (.t 55))⟩,
  ⟨some 11, none, .p (.mv (.t 56))⟩]
def nat_digit_r11 : List AIns := [⟨some 57, none, .p (.mv (.t 11))⟩,
  ⟨some 58, none, .p (.bin .shr (.t 57) (.c (.int .u64 32)))⟩,
  ⟨some 8, none, .p (.mv (.t 58))⟩]
def nat_digit_r12 : List AIns := [⟨some 59, none, .p (.mv (.t 0))⟩,
  ⟨some 60, none, .p (.mv (.t 10))⟩,
  ⟨some 61, none, .p (.idxp 1 (.t 59) (.t 60))⟩,
  ⟨some 62, none, .p (.load none (.t 61))⟩,
  ⟨some 63, none, .p (.conv .u64 (.t 62))⟩,
  ⟨some 64, none, .p (.mv (.t 11))⟩,
  ⟨some 65, none, .p (.conv .u32 (.t 64))⟩,
  ⟨some 66, none, .p (.conv .u64 (.t 65))⟩,
  ⟨some 67, none, .p (.bin .sub (.t 63) (.t 66))⟩,
  ⟨some 68, none, .p (.mv (.t 9))⟩,
  ⟨some 69, none, .p (.bin .sub (.t 67) (.t 68))⟩,
  ⟨some 12, none, .p (.mv (.t 69))⟩]
def nat_digit_r13 : List AIns := [⟨some 70, none, .p (.mv (.t 0))⟩,
  ⟨some 71, none, .p (.mv (.t 10))⟩,
  ⟨some 72, none, .p (.mv (.t 12))⟩,
  ⟨some 73, none, .p (.conv .u32 (.t 72))⟩,
  ⟨some 74, none, .p (.idxp 1 (.t 70) (.t 71))⟩,
  ⟨none, none, .e (.store 1 (.t 74) (.t 73))⟩]
def nat_digit_r14 : List AIns := [⟨some 75, none, .p (.mv (.t 12))⟩,
  ⟨some 76, none, .p (.bin .shr (.t 75) (.c (.int .u64 63)))⟩,
  ⟨some 9, none, .p (.mv (.t 76))⟩]
def nat_digit_r15 : List AIns := [⟨some 77, none, .p (.bin .add (.t 41) (.c (.int .i64 1)))⟩,
  ⟨some 41, none, .p (.mv (.t 77))⟩]
def nat_digit_l0 : ACode := .seq (.region nat_digit_r6 false) (.seq (.cond (.t 42) (.skip) (.exit 0)) (.seq (.block 1 (.seq (.region nat_digit_r7 false) (.seq (.region nat_digit_r8 false) (.seq (.seq (.region nat_digit_r9 false) (.cond (.t 47) (.region nat_digit_r10 false) (.skip))) (.seq (.region nat_digit_r11 false) (.seq (.region nat_digit_r12 false) (.seq (.region nat_digit_r13 false) (.region nat_digit_r14 false)))))))) (.region nat_digit_r15 false)))
def nat_digit_r16 : List AIns := [⟨some 78, none, .p (.mv (.t 9))⟩,
  ⟨some 79, none, .p (.bin .gtr (.t 78) (.c (.int .u64 0)))⟩]
def nat_digit_r17 : List AIns := [⟨some 80, none, .p (.mv (.t 7))⟩,
  ⟨some 81, none, .p (.bin .sub (.t 80) (.c (.int .u64 1)))⟩,
  ⟨some 7, none, .p (.mv (.t 81))⟩]
def nat_digit_r18 : List AIns := [⟨some 13, none, .p (.mv (.c (.int .u64 0)))⟩]
def nat_digit_r19 : List AIns := [⟨some 82, none, .p (.mv (.t 5))⟩,
  ⟨some 83, none, .p (.bin .add (.t 82) (.c (.int .i64 1)))⟩,
  ⟨some 84, none, .p (.mv (.c (.int .i64 0)))⟩]
def nat_digit_r20 : List AIns := [⟨some 85, none, .p (.bin .lss (.t 84) (.t 83))⟩]
def nat_digit_r21 : List AIns := [⟨some 86, none, .p (.mv (.t 84))⟩,
  ⟨some 14, none, .p (.mv (.t 86))⟩]
def nat_digit_r22 : List AIns := [⟨some 87, none, .p (.mv (.t 13))⟩,
  ⟨some 88, none, .p (.mv (.t 0))⟩,
  ⟨some 89, none, .p (.mv (.t 14))⟩,
  ⟨some 90, none, .p (.idxp 1 (.t 88) (.t 89))⟩,
  ⟨some 91, none, .p (.load none (.t 90))⟩,
  ⟨some 92, none, .p (.conv .u64 (.t 91))⟩,
  ⟨some 93, none, .p (.bin .add (.t 87) (.t 92))⟩,
  ⟨some 13, none, .p (.mv (.t 93))⟩]
def nat_digit_r23 : List AIns := [⟨some 94, none, .p (.mv (.t 14))⟩,
  ⟨some 95, none, .p (.mv (.t 5))⟩,
  ⟨some 96, none, .p (.bin .lss (.t 94) (.t 95))⟩]
def nat_digit_r24 : List AIns := [⟨some 97, none, .p (.mv (.t 13))⟩,
  ⟨some 98, none, .p (.mv (.t 1))⟩,
  ⟨some 99, none, .p (.mv (.t 14))⟩,
  ⟨some 100, none, .p (.idxp 1 (.t 98) (.t 99))⟩,
  ⟨some 101, none, .p (.load none (.t 100))⟩,
  ⟨some 102, none, .p (.conv .u64 (.t 101))⟩,
  ⟨some 103, none, .p (.bin .add (.t 97) (.t 102))⟩,
  ⟨some 13, none, .p (.mv (.t 103))⟩]
def nat_digit_r25 : List AIns := [⟨some 104, none, .p (.mv (.t 0))⟩,
  ⟨some 105, none, .p (.mv (.t 14))⟩,
  ⟨some 106, none, .p (.mv (.t 13))⟩,
  ⟨some 107, none, .p (.conv .u32 (.t 106))⟩,
  ⟨some 108, none, .p (.idxp 1 (.t 104) (.t 105))⟩,
  ⟨none, none, .e (.store 1 (.t 108) (.t 107))⟩]
def nat_digit_r26 : List AIns := [⟨some 109, none, .p (.mv (.t 13))⟩,
  ⟨some 110, none, .p (.bin .shr (.t 109) (.c (.int .u64 32)))⟩,
  ⟨some 13, none, .p (.mv (.t 110))⟩]
def nat_digit_r27 : List AIns := [⟨some 111, none, .p (.bin .add (.t 84) (.c (.int .i64 1)))⟩,
  ⟨some 84, none, .p (.mv (.t 111))⟩]
def nat_digit_l2 : ACode := .seq (.region nat_digit_r20 false) (.seq (.cond (.t 85) (.skip) (.exit 4)) (.seq (.block 5 (.seq (.region nat_digit_r21 false) (.seq (.region nat_digit_r22 false) (.seq (.seq (.region nat_digit_r23 false) (.cond (.t 96) (.region nat_digit_r24 false) (.skip))) (.seq (.region nat_digit_r25 false) (.region nat_digit_r26 false)))))) (.region nat_digit_r27 false)))
def nat_digit_r28 : List AIns := [⟨some 112, none, .p (.mv (.t 9))⟩,
  ⟨some 113, none, .p (.mv (.t 13))⟩,
  ⟨some 114, none, .p (.bin .sub (.t 112) (.t 113))⟩,
  ⟨some 9, none, .p (.mv (.t 114))⟩]
def nat_digit_l1 : ACode := .seq (.seq (.region nat_digit_r16 false) (.cond (.t 79) (.skip) (.exit 2))) (.block 3 (.seq (.region nat_digit_r17 false) (.seq (.region nat_digit_r18 false) (.seq (.seq (.region nat_digit_r19 false) (.block 4 (.loop nat_digit_l2))) (.region nat_digit_r28 false)))))
def nat_digit_r29 : List AIns := [⟨some 115, none, .p (.mv (.t 7))⟩,
  ⟨some 116, none, .p (.conv .u32 (.t 115))⟩,
  ⟨some 4, none, .p (.mv (.t 116))⟩]
def nat_digit_c : ACode := .seq (.region nat_digit_r0 false) (.seq (.region nat_digit_r1 false) (.seq (.region nat_digit_r2 true) (.seq (.region nat_digit_r3 false) (.seq (.region nat_digit_r4 false) (.seq (.seq (.region nat_digit_r5 false) (.block 0 (.loop nat_digit_l0))) (.seq (.block 2 (.loop nat_digit_l1)) (.seq (.region nat_digit_r29 false) (.ret))))))))
theorem nat_digit_ok : fchk Pr (fun _ _ => false) Try.f124 = some (nat_digit_c, [.tmp 4], 117) := by kernel_rfl
theorem nat_digit_fn : Pr.funcs[F_nat_digit]? = some Try.f124 := Try.func124
def nat_shr_r0 : List AIns := [⟨some 4, none, .p (.mv (.c (.nil)))⟩]
def nat_shr_r1 : List AIns := [⟨some 10, none, .p (.mv (.t 0))⟩,
  ⟨some 11, none, .call F_nat_trim [(.t 10)]⟩,
  ⟨some 0, none, .p (.mv (.t 11))⟩]
def nat_shr_r2 : List AIns := [⟨some 12, none, .p (.mv (.t 1))⟩,
  ⟨some 13, none, .p (.bin .quo (.t 12) (.c (.int .i64 32)))⟩,
  ⟨some 14, none, .p (.mv (.t 1))⟩,
  ⟨some 15, none, .p (.bin .rem (.t 14) (.c (.int .i64 32)))⟩,
  ⟨some 16, none, .p (.conv .u64 (.t 15))⟩,
  ⟨some 5, none, .p (.mv (.t 13))⟩,
  ⟨some 6, none, .p (.mv (.t 16))⟩]
def nat_shr_r3 : List AIns := [⟨some 17, none, .p (.mv (.t 5))⟩,
  ⟨some 18, none, .p (.mv (.t 0))⟩,
  ⟨some 19, none, .p (.len (.t 18))⟩,
  ⟨some 20, none, .p (.bin .geq (.t 17) (.t 19))⟩]
def nat_shr_r4 : List AIns := [⟨some 4, none, .p (.mv (.c (.nil)))⟩]
def nat_shr_r5 : List AIns := [⟨some 21, none, .p (.mv (.t 0))⟩,
  ⟨some 22, none, .p (.len (.t 21))⟩,
  ⟨some 23, none, .p (.mv (.t 5))⟩,
  ⟨some 24, none, .p (.bin .sub (.t 22) (.t 23))⟩,
  ⟨some 25, none, .e (.mksl 1 4 (.int .u32 0) (.t 24) (.t 24))⟩,
  ⟨some 7, none, .p (.mv (.t 25))⟩]
def nat_shr_r6 : List AIns := [⟨some 26, none, .p (.mv (.t 7))⟩,
  ⟨some 27, none, .p (.len (.t 26))⟩,
  ⟨some 28, none, .p (.mv (.c (.int .i64 0)))⟩]
def nat_shr_r7 : List AIns := [⟨some 29, none, .p (.bin .lss (.t 28) (.t 27))⟩]
def nat_shr_r8 : List AIns := [⟨some 30, none, .p (.mv (.t 28))⟩,
  ⟨some 8, none, .p (.mv (.t 30))⟩]
def nat_shr_r9 : List AIns := [⟨some 31, none, .p (.mv (.t 0))⟩,
  ⟨some 32, none, .p (.mv (.t 8))⟩,
  ⟨some 33, none, .p (.mv (.t 5))⟩,
  ⟨some 34, none, .p (.bin .add (.t 32) (.t 33))⟩,
  ⟨some 35, none, .p (.idxp 1 (.t 31) (.t 34))⟩,
  ⟨some 36, none, .p (.load none (.t 35))⟩,
  ⟨some 37, none, .p (.conv .u64 (.t 36))⟩,
  ⟨some 9, none, .p (.mv (.t 37))⟩]
def nat_shr_r10 : List AIns := [⟨some 38, none, .p (.mv (.t 8))⟩,
  ⟨some 39, none, .p (.mv (.t 5))⟩,
  ⟨some 40, none, .p (.bin .add (.t 38) (.t 39))⟩,
  ⟨some 41, none, .p (.bin .add (.t 40) (.c (.int .i64 1)))⟩,
  ⟨some 42, none, .p (.mv (.t 0))⟩,
  ⟨some 43, none, .p (.len (.t 42))⟩,
  ⟨some 44, none, .p (.bin .lss (.t 41) (.t 43))⟩]
def nat_shr_r11 : List AIns := [⟨some 45, none, .p (.mv (.t 9))⟩,
  ⟨some 46, none, .p (.mv (.t 0))⟩,
  ⟨some 47, none, .p (.mv (.t 8))⟩,
  ⟨some 48, none, .p (.mv (.t 5))⟩,
  ⟨some 49, none, .p (.bin .add (.t 47) (.t 48))⟩,
  ⟨some 50, none, .p (.bin .add (.t 49) (.c (.int .i64 1)))⟩,
  ⟨some 51, none, .p (.idxp 1 (.t 46) (.t 50))⟩,
  ⟨some 52, none, .p (.load none (.t 51))⟩,
  ⟨some 53, none, .p (.conv .u64 (.t 52))⟩,
  ⟨some 54, none, .p (.bin .shl (.t 53) (.c (.int .u64 32)))⟩,
  ⟨some 55, none, .p (.bin .or (.t 45) (.t 54))⟩,
  ⟨some 9, none, .p (.mv (.t 55))⟩]
def nat_shr_r12 : List AIns := [⟨some 56, none, .p (.mv (.t 7))⟩,
  ⟨some 57, none, .p (.mv (.t 8))⟩,
  ⟨some 58, none, .p (.mv (.t 9))⟩,
  ⟨some 59, none, .p (.mv (.t 6))⟩,
  ⟨some 60, none, .p (.bin .shr (.t 58) (.t 59))⟩,
  ⟨some 61, none, .p (.conv .u32 (.t 60))⟩,
  ⟨some 62, none, .p (.idxp 1 (.t 56) (.t 57))⟩,
  ⟨none, none, .e (.store 1 (.t 62) (.t 61))⟩]
def nat_shr_r13 : List AIns := [⟨some 63, none, .p (.bin .add (.t 28) (.c (.int .i64 1)))⟩,
  ⟨some 28, none, .p (.mv (.t 63))⟩]
def nat_shr_l0 : ACode := .seq (.region nat_shr_r7 false) (.seq (.cond (.t 29) (.skip) (.exit 0)) (.seq (.block 1 (.seq (.region nat_shr_r8 false) (.seq (.region nat_shr_r9 false) (.seq (.seq (.region nat_shr_r10 false) (.cond (.t 44) (.region nat_shr_r11 false) (.skip))) (.region nat_shr_r12 false))))) (.region nat_shr_r13 false)))
def nat_shr_r14 : List AIns := [⟨some 64, none, .p (.mv (.t 7))⟩,
  ⟨some 65, none, .call F_nat_trim [(.t 64)]⟩,
  ⟨some 4, none, .p (.mv (.t 65))⟩]
def nat_shr_c : ACode := .seq (.region nat_shr_r0 false) (.seq (.region nat_shr_r1 false) (.seq (.region nat_shr_r2 false) (.seq (.seq (.region nat_shr_r3 false) (.cond (.t 20) (.seq (.region nat_shr_r4 false) (.ret)) (.skip))) (.seq (.region nat_shr_r5 false) (.seq (.seq (.region nat_shr_r6 false) (.block 0 (.loop nat_shr_l0))) (.seq (.region nat_shr_r14 false) (.ret)))))))
theorem nat_shr_ok : fchk Pr (fun _ _ => false) Try.f125 = some (nat_shr_c, [.tmp 4], 66) := by kernel_rfl
theorem nat_shr_fn : Pr.funcs[F_nat_shr]? = some Try.f125 := Try.func125
def nat_less_r0 : List AIns := [⟨some 4, none, .p (.mv (.c (.nil)))⟩]
def nat_less_r1 : List AIns := [⟨some 9, none, .p (.mv (.t 0))⟩,
  ⟨some 10, none, .p (.len (.t 9))⟩,
  ⟨some 11, none, .e (.mksl 1 4 (.int .u32 0) (.t 10) (.t 10))⟩,
  ⟨some 5, none, .p (.mv (.t 11))⟩]
def nat_less_r2 : List AIns := [⟨some 6, none, .p (.mv (.c (.int .u64 0)))⟩]
def nat_less_r3 : List AIns := [⟨some 12, none, .p (.mv (.t 0))⟩,
  ⟨some 13, none, .p (.len (.t 12))⟩,
  ⟨some 14, none, .p (.mv (.c (.int .i64 0)))⟩]
def nat_less_r4 : List AIns := [⟨some 15, none, .p (.bin .lss (.t 14) (.t 13))⟩]
def nat_less_r5 : List AIns := [⟨some 16, none, .p (.mv (.t 14))⟩,
  ⟨some 7, none, .p (.mv (.t 16))⟩]
def nat_less_r6 : List AIns := [⟨some 17, none, .p (.mv (.t 0))⟩,
  ⟨some 18, none, .p (.mv (.t 7))⟩,
  ⟨some 19, none, .p (.idxp 1 (.t 17) (.t 18))⟩,
  ⟨some 20, none, .p (.load none (.t 19))⟩,
  ⟨some 21, none, .p (.conv .u64 (.t 20))⟩,
  ⟨some 22, none, .p (.mv (.t 6))⟩,
  ⟨some 23, none, .p (.bin .sub (.t 21) (.t 22))⟩,
  ⟨some 8, none, .p (.mv (.t 23))⟩]
def nat_less_r7 : List AIns := [⟨some 24, none, .p (.mv (.t 7))⟩,
  ⟨some 25, none, .p (.mv (.t 1))⟩,
  ⟨some 26, none, .p (.len (.t 25))⟩,
  ⟨some 27, none, .p (.bin .lss (.t 24) (.t 26))⟩]
def nat_less_r8 : List AIns := [⟨some 28, none, .p (.mv (.t 8))⟩,
  ⟨some 29, none, .p (.mv (.t 1))⟩,
  ⟨some 30, none, .p (.mv (.t 7))⟩,
  ⟨some 31, none, .p (.idxp 1 (.t 29) (.t 30))⟩,
  ⟨some 32, none, .p (.load none (.t 31))⟩,
  ⟨some 33, none, .p (.conv .u64 (.t 32))⟩,
  ⟨some 34, none, .p (.bin .sub (.t 28) (.t 33))⟩,
  ⟨some 8, none, .p (.mv (.t 34))⟩]
def nat_less_r9 : List AIns := [⟨some 35, none, .p (.mv (.t 5))⟩,
  ⟨some 36, none, .p (.mv (.t 7))⟩,
  ⟨some 37, none, .p (.mv (.t 8))⟩,
  ⟨some 38, none, .p (.conv .u32 (.t 37))⟩,
  ⟨some 39, none, .p (.idxp 1 (.t 35) (.t 36))⟩,
  ⟨none, none, .e (.store 1 (.t 39) (.t 38))⟩]
def nat_less_r10 : List AIns := [⟨some 40, none, .p (.mv (.t 8))⟩,
  ⟨some 41, none, .p (.bin .shr (.t 40) (.c (.int .u64 63)))⟩,
  ⟨some 6, none, .p (.mv (.t 41))⟩]
def nat_less_r11 : List AIns := [⟨some 42, none, .p (.bin .add (.t 14) (.c (.int .i64 1)))⟩,
  ⟨some 14, none, .p (.mv (.t 42))⟩]
def nat_less_l0 : ACode := .seq (.region nat_less_r4 false) (.seq (.cond (.t 15) (.skip) (.exit 0)) (.seq (.block 1 (.seq (.region nat_less_r5 false) (.seq (.region nat_less_r6 false) (.seq (.seq (.region nat_less_r7 false) (.cond (.t 27) (.region nat_less_r8 false) (.skip))) (.seq (.region nat_less_r9 false) (.region nat_less_r10 false)))))) (.region nat_less_r11 false)))
def nat_less_r12 : List AIns := [⟨some 43, none, .p (.mv (.t 5))⟩,
  ⟨some 44, none, .call F_nat_trim [(.t 43)]⟩,
  ⟨some 4, none, .p (.mv (.t 44))⟩]
def nat_less_c : ACode := .seq (.region nat_less_r0 false) (.seq (.region nat_less_r1 false) (.seq (.region nat_less_r2 false) (.seq (.seq (.region nat_less_r3 false) (.block 0 (.loop nat_less_l0))) (.seq (.region nat_less_r12 false) (.ret)))))
theorem nat_less_ok : fchk Pr (fun _ _ => false) Try.f136 = some (nat_less_c, [.tmp 4], 45) := by kernel_rfl
theorem nat_less_fn : Pr.funcs[F_nat_less]? = some Try.f136 := Try.func136
end Go.Abs

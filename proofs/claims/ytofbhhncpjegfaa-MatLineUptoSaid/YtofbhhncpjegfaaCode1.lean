/- The abstract code of the functions, printed by gen.py; the kernel checks it against the translation. -/
import Derived.Test.YtofbhhncpjegfaaNum
set_option maxRecDepth 100000
noncomputable section
namespace Go.Abs
open Go.Proofs
/-! zint.Of -/
def zint_Of_r0 : List AIns := [⟨some 2, none, .e (.box 2 (.c (.agg [.bool false, .nil])))⟩]
def zint_Of_r1 : List AIns := [⟨some 4, none, .p (.mv (.t 0))⟩,
  ⟨some 5, none, .p (.conv .u64 (.t 4))⟩,
  ⟨some 3, none, .p (.mv (.t 5))⟩]
def zint_Of_r2 : List AIns := [⟨some 6, none, .p (.mv (.t 0))⟩,
  ⟨some 7, none, .p (.bin .lss (.t 6) (.c (.int .i64 0)))⟩]
def zint_Of_r3 : List AIns := [⟨some 8, none, .p (.mv (.t 3))⟩,
  ⟨some 9, none, .p (.un .neg (.t 8))⟩,
  ⟨some 3, none, .p (.mv (.t 9))⟩]
def zint_Of_r4 : List AIns := [⟨some 10, none, .p (.mv (.t 0))⟩,
  ⟨some 11, none, .p (.bin .lss (.t 10) (.c (.int .i64 0)))⟩,
  ⟨some 12, none, .p (.mv (.t 3))⟩,
  ⟨some 13, none, .p (.conv .u32 (.t 12))⟩,
  ⟨some 14, none, .p (.mv (.t 3))⟩,
  ⟨some 15, none, .p (.bin .shr (.t 14) (.c (.int .u64 32)))⟩,
  ⟨some 16, none, .p (.conv .u32 (.t 15))⟩,
  ⟨some 17, none, .e (.bsl 1 [(.t 13), (.t 16)])⟩,
  ⟨some 18, none, .call F_zint_made [(.t 11), (.t 17)]⟩,
  ⟨none, none, .e (.store 2 (.t 2) (.t 18))⟩]
def zint_Of_c : ACode := .seq (.region zint_Of_r0 false) (.seq (.region zint_Of_r1 false) (.seq (.seq (.region zint_Of_r2 false) (.cond (.t 7) (.region zint_Of_r3 false) (.skip))) (.seq (.region zint_Of_r4 false) (.ret))))
theorem zint_Of_ok : fchk Pr (fun _ _ => false) Try.f57 = some (zint_Of_c, [.cell 2 (some 2)], 19) := by kernel_rfl
theorem zint_Of_fn : Pr.funcs[F_zint_Of]? = some Try.f57 := Try.func57
/-! trammelref02.Sign -/
def ref02_Sign_r0 : List AIns := [⟨some 1, none, .e (.box 2 (.t 0))⟩,
  ⟨some 2, none, .p (.mv (.c (.int .i64 0)))⟩]
def ref02_Sign_r1 : List AIns := [⟨some 4, none, .p (.fldp (.t 1) 1)⟩,
  ⟨some 5, none, .p (.load none (.t 4))⟩,
  ⟨some 6, none, .call F_ref01_Norm [(.t 5)]⟩,
  ⟨some 3, none, .p (.mv (.t 6))⟩]
def ref02_Sign_r2 : List AIns := [⟨some 8, none, .p (.mv (.t 3))⟩,
  ⟨some 9, none, .p (.len (.t 8))⟩,
  ⟨some 10, none, .p (.bin .eql (.t 9) (.c (.int .i64 0)))⟩,
  ⟨some 7, none, .p (.mv (.t 10))⟩]
def ref02_Sign_r3 : List AIns := [⟨some 2, none, .p (.mv (.c (.int .i64 0)))⟩]
def ref02_Sign_r4 : List AIns := [⟨some 12, none, .p (.fldp (.t 1) 0)⟩,
  ⟨some 13, none, .p (.load none (.t 12))⟩,
  ⟨some 11, none, .p (.mv (.t 13))⟩]
def ref02_Sign_r5 : List AIns := [⟨some 2, none, .p (.mv (.c (.int .i64 (-1))))⟩]
def ref02_Sign_r6 : List AIns := [⟨some 2, none, .p (.mv (.c (.int .i64 1)))⟩]
def ref02_Sign_c : ACode := .seq (.region ref02_Sign_r0 false) (.seq (.region ref02_Sign_r1 false) (.seq (.block 0 (.seq (.region ref02_Sign_r2 false) (.cond (.t 7) (.seq (.region ref02_Sign_r3 false) (.ret)) (.seq (.region ref02_Sign_r4 false) (.cond (.t 11) (.seq (.region ref02_Sign_r5 false) (.ret)) (.skip)))))) (.seq (.region ref02_Sign_r6 false) (.ret))))
theorem ref02_Sign_ok : fchk Pr (fun _ _ => false) Try.f58 = some (ref02_Sign_c, [.tmp 2], 14) := by kernel_rfl
theorem ref02_Sign_fn : Pr.funcs[F_ref02_Sign]? = some Try.f58 := Try.func58
/-! trammellaw04.spoilm -/
def law04_spoilm_r0 : List AIns := [⟨some 2, none, .p (.mv (.c (.int .i64 0)))⟩]
def law04_spoilm_r1 : List AIns := [⟨some 3, none, .p (.mv (.t 2))⟩,
  ⟨some 4, none, .p (.mv (.t 0))⟩,
  ⟨some 5, none, .p (.len (.t 4))⟩,
  ⟨some 6, none, .p (.bin .lss (.t 3) (.t 5))⟩]
def law04_spoilm_r2 : List AIns := [⟨some 9, none, .p (.mv (.t 0))⟩,
  ⟨some 10, none, .p (.mv (.t 2))⟩,
  ⟨some 11, none, .p (.idxp 1 (.t 9) (.t 10))⟩,
  ⟨some 12, none, .p (.load none (.t 11))⟩,
  ⟨some 13, none, .call F_law04_spoils [(.t 12)]⟩]
def law04_spoilm_r3 : List AIns := [⟨some 7, none, .p (.mv (.t 2))⟩,
  ⟨some 8, none, .p (.bin .add (.t 7) (.c (.int .i64 1)))⟩,
  ⟨some 2, none, .p (.mv (.t 8))⟩]
def law04_spoilm_l0 : ACode := .seq (.seq (.region law04_spoilm_r1 false) (.cond (.t 6) (.skip) (.exit 0))) (.seq (.block 1 (.region law04_spoilm_r2 false)) (.region law04_spoilm_r3 false))
def law04_spoilm_c : ACode := .seq (.region law04_spoilm_r0 false) (.block 0 (.loop law04_spoilm_l0))
theorem law04_spoilm_ok : fchk Pr (fun _ _ => false) Try.f59 = some (law04_spoilm_c, [], 14) := by kernel_rfl
theorem law04_spoilm_fn : Pr.funcs[F_law04_spoilm]? = some Try.f59 := Try.func59
/-! trammellaw04.spoils -/
def law04_spoils_r0 : List AIns := [⟨some 2, none, .p (.mv (.c (.int .i64 0)))⟩]
def law04_spoils_r1 : List AIns := [⟨some 3, none, .p (.mv (.t 2))⟩,
  ⟨some 4, none, .p (.mv (.t 0))⟩,
  ⟨some 5, none, .p (.len (.t 4))⟩,
  ⟨some 6, none, .p (.bin .lss (.t 3) (.t 5))⟩]
def law04_spoils_r2 : List AIns := [⟨some 9, none, .p (.mv (.t 0))⟩,
  ⟨some 10, none, .p (.mv (.t 2))⟩,
  ⟨some 11, none, .p (.idxp 2 (.t 9) (.t 10))⟩,
  ⟨some 12, none, .p (.load (some 2) (.t 11))⟩,
  ⟨some 13, none, .call F_law04_spoil [(.t 12)]⟩]
def law04_spoils_r3 : List AIns := [⟨some 14, none, .p (.mv (.t 0))⟩,
  ⟨some 15, none, .p (.mv (.t 2))⟩,
  ⟨some 16, none, .p (.bld [.bool false, .nil] [(0, 1, (.c (.bool true))), (1, 1, (.c (.nil)))])⟩,
  ⟨some 17, none, .p (.idxp 2 (.t 14) (.t 15))⟩,
  ⟨none, none, .e (.store 2 (.t 17) (.t 16))⟩]
def law04_spoils_r4 : List AIns := [⟨some 7, none, .p (.mv (.t 2))⟩,
  ⟨some 8, none, .p (.bin .add (.t 7) (.c (.int .i64 1)))⟩,
  ⟨some 2, none, .p (.mv (.t 8))⟩]
def law04_spoils_l0 : ACode := .seq (.seq (.region law04_spoils_r1 false) (.cond (.t 6) (.skip) (.exit 0))) (.seq (.block 1 (.seq (.region law04_spoils_r2 false) (.region law04_spoils_r3 false))) (.region law04_spoils_r4 false))
def law04_spoils_c : ACode := .seq (.region law04_spoils_r0 false) (.block 0 (.loop law04_spoils_l0))
theorem law04_spoils_ok : fchk Pr (fun _ _ => false) Try.f60 = some (law04_spoils_c, [], 18) := by kernel_rfl
theorem law04_spoils_fn : Pr.funcs[F_law04_spoils]? = some Try.f60 := Try.func60
/-! trammelref02.Of -/
def ref02_Of_r0 : List AIns := [⟨some 2, none, .e (.box 2 (.c (.agg [.bool false, .nil])))⟩]
def ref02_Of_r1 : List AIns := [⟨some 4, none, .p (.mv (.t 0))⟩,
  ⟨some 5, none, .p (.conv .u64 (.t 4))⟩,
  ⟨some 3, none, .p (.mv (.t 5))⟩]
def ref02_Of_r2 : List AIns := [⟨some 6, none, .p (.mv (.t 0))⟩,
  ⟨some 7, none, .p (.bin .lss (.t 6) (.c (.int .i64 0)))⟩]
def ref02_Of_r3 : List AIns := [⟨some 8, none, .p (.mv (.t 3))⟩,
  ⟨some 9, none, .p (.un .neg (.t 8))⟩,
  ⟨some 3, none, .p (.mv (.t 9))⟩]
def ref02_Of_r4 : List AIns := [⟨some 10, none, .p (.mv (.t 0))⟩,
  ⟨some 11, none, .p (.bin .lss (.t 10) (.c (.int .i64 0)))⟩,
  ⟨some 12, none, .p (.mv (.t 3))⟩,
  ⟨some 13, none, .p (.conv .u32 (.t 12))⟩,
  ⟨some 14, none, .p (.mv (.t 3))⟩,
  ⟨some 15, none, .p (.bin .shr (.t 14) (.c (.int .u64 32)))⟩,
  ⟨some 16, none, .p (.conv .u32 (.t 15))⟩,
  ⟨some 17, none, .e (.bsl 1 [(.t 13), (.t 16)])⟩,
  ⟨some 18, none, .call F_ref02_made [(.t 11), (.t 17)]⟩,
  ⟨none, none, .e (.store 2 (.t 2) (.t 18))⟩]
def ref02_Of_c : ACode := .seq (.region ref02_Of_r0 false) (.seq (.region ref02_Of_r1 false) (.seq (.seq (.region ref02_Of_r2 false) (.cond (.t 7) (.region ref02_Of_r3 false) (.skip))) (.seq (.region ref02_Of_r4 false) (.ret))))
theorem ref02_Of_ok : fchk Pr (fun _ _ => false) Try.f61 = some (ref02_Of_c, [.cell 2 (some 2)], 19) := by kernel_rfl
theorem ref02_Of_fn : Pr.funcs[F_ref02_Of]? = some Try.f61 := Try.func61
/-! zint.Bits -/
def zint_Bits_r0 : List AIns := [⟨some 1, none, .e (.box 2 (.t 0))⟩,
  ⟨some 2, none, .p (.mv (.c (.int .i64 0)))⟩]
def zint_Bits_r1 : List AIns := [⟨some 3, none, .p (.fldp (.t 1) 1)⟩,
  ⟨some 4, none, .p (.load none (.t 3))⟩,
  ⟨some 5, none, .call F_nat_Bits [(.t 4)]⟩,
  ⟨some 2, none, .p (.mv (.t 5))⟩]
def zint_Bits_c : ACode := .seq (.region zint_Bits_r0 false) (.seq (.region zint_Bits_r1 false) (.ret))
theorem zint_Bits_ok : fchk Pr (fun _ _ => false) Try.f62 = some (zint_Bits_c, [.tmp 2], 6) := by kernel_rfl
theorem zint_Bits_fn : Pr.funcs[F_zint_Bits]? = some Try.f62 := Try.func62
/-! trammelref02.Bits -/
def ref02_Bits_r0 : List AIns := [⟨some 1, none, .e (.box 2 (.t 0))⟩,
  ⟨some 2, none, .p (.mv (.c (.int .i64 0)))⟩]
def ref02_Bits_r1 : List AIns := [⟨some 3, none, .p (.fldp (.t 1) 1)⟩,
  ⟨some 4, none, .p (.load none (.t 3))⟩,
  ⟨some 5, none, .call F_ref01_Bits [(.t 4)]⟩,
  ⟨some 2, none, .p (.mv (.t 5))⟩]
def ref02_Bits_c : ACode := .seq (.region ref02_Bits_r0 false) (.seq (.region ref02_Bits_r1 false) (.ret))
theorem ref02_Bits_ok : fchk Pr (fun _ _ => false) Try.f63 = some (ref02_Bits_c, [.tmp 2], 6) := by kernel_rfl
theorem ref02_Bits_fn : Pr.funcs[F_ref02_Bits]? = some Try.f63 := Try.func63
/-! mat.each[[]api.Int,[]api.Int] -/
def mat_each_V_V_r0 : List AIns := [⟨some 4, none, .p (.mv (.c (.nil)))⟩]
def mat_each_V_V_r1 : List AIns := [⟨some 8, none, .p (.mv (.t 0))⟩,
  ⟨some 9, none, .p (.len (.t 8))⟩,
  ⟨some 10, none, .e (.mksl 1 24 (.nil) (.c (.int .i64 0)) (.t 9))⟩,
  ⟨some 5, none, .p (.mv (.t 10))⟩]
def mat_each_V_V_r2 : List AIns := [⟨some 11, none, .p (.mv (.t 0))⟩,
  ⟨some 12, none, .p (.len (.t 11))⟩,
  ⟨some 13, none, .p (.mv (.c (.int .i64 0)))⟩]
def mat_each_V_V_r3 : List AIns := [⟨some 14, none, .p (.bin .lss (.t 13) (.t 12))⟩]
def mat_each_V_V_r4 : List AIns := [⟨some 15, none, .p (.idxp 1 (.t 11) (.t 13))⟩,
  ⟨some 16, none, .p (.load none (.t 15))⟩,
  ⟨some 7, none, .p (.mv (.t 16))⟩]
def mat_each_V_V_r5 : List AIns := [⟨some 17, none, .p (.mv (.t 5))⟩,
  ⟨some 18, none, .p (.mv (.t 1))⟩,
  ⟨some 19, none, .p (.mv (.t 7))⟩,
  ⟨some 20, none, .callv (.t 18) [(.t 19)]⟩,
  ⟨some 21, none, .e (.bsl 1 [(.t 20)])⟩,
  ⟨some 22, none, .e (.app 1 24 false (.t 17) (.t 21))⟩,
  ⟨some 5, none, .p (.mv (.t 22))⟩]
def mat_each_V_V_r6 : List AIns := [⟨some 23, none, .p (.bin .add (.t 13) (.c (.int .i64 1)))⟩,
  ⟨some 13, none, .p (.mv (.t 23))⟩]
def mat_each_V_V_l0 : ACode := .seq (.region mat_each_V_V_r3 false) (.seq (.cond (.t 14) (.skip) (.exit 0)) (.seq (.block 1 (.seq (.region mat_each_V_V_r4 false) (.region mat_each_V_V_r5 false))) (.region mat_each_V_V_r6 false)))
def mat_each_V_V_r7 : List AIns := [⟨some 24, none, .p (.mv (.t 5))⟩,
  ⟨some 4, none, .p (.mv (.t 24))⟩]
def mat_each_V_V_c : ACode := .seq (.region mat_each_V_V_r0 false) (.seq (.region mat_each_V_V_r1 false) (.seq (.seq (.region mat_each_V_V_r2 false) (.block 0 (.loop mat_each_V_V_l0))) (.seq (.region mat_each_V_V_r7 false) (.ret))))
theorem mat_each_V_V_ok : fchk Pr (fun _ _ => false) Try.f64 = some (mat_each_V_V_c, [.tmp 4], 25) := by kernel_rfl
theorem mat_each_V_V_fn : Pr.funcs[F_mat_each_V_V]? = some Try.f64 := Try.func64
/-! mat.Form$1 -/
def mat_Form_1_r0 : List AIns := [⟨some 2, none, .p (.mv (.c (.nil)))⟩]
def mat_Form_1_r1 : List AIns := [⟨some 3, none, .p (.mv (.t 0))⟩,
  ⟨some 4, none, .call F_mat_each_I_I [(.t 3), (.c (.fn F_zint_Form []))]⟩,
  ⟨some 2, none, .p (.mv (.t 4))⟩]
def mat_Form_1_c : ACode := .seq (.region mat_Form_1_r0 false) (.seq (.region mat_Form_1_r1 false) (.ret))
theorem mat_Form_1_ok : fchk Pr (fun _ _ => false) Try.f65 = some (mat_Form_1_c, [.tmp 2], 5) := by kernel_rfl
theorem mat_Form_1_fn : Pr.funcs[F_mat_Form_1]? = some Try.f65 := Try.func65
/-! mat.each[api.Int,api.Int] -/
def mat_each_I_I_r0 : List AIns := [⟨some 4, none, .p (.mv (.c (.nil)))⟩]
def mat_each_I_I_r1 : List AIns := [⟨some 8, none, .p (.mv (.t 0))⟩,
  ⟨some 9, none, .p (.len (.t 8))⟩,
  ⟨some 10, none, .e (.mksl 2 32 (.agg [.bool false, .nil]) (.c (.int .i64 0)) (.t 9))⟩,
  ⟨some 5, none, .p (.mv (.t 10))⟩]
def mat_each_I_I_r2 : List AIns := [⟨some 11, none, .p (.mv (.t 0))⟩,
  ⟨some 12, none, .p (.len (.t 11))⟩,
  ⟨some 13, none, .p (.mv (.c (.int .i64 0)))⟩]
def mat_each_I_I_r3 : List AIns := [⟨some 14, none, .p (.bin .lss (.t 13) (.t 12))⟩]
def mat_each_I_I_r4 : List AIns := [⟨some 15, none, .p (.idxp 2 (.t 11) (.t 13))⟩,
  ⟨some 16, none, .p (.load (some 2) (.t 15))⟩,
  ⟨some 7, none, .e (.box 2 (.c (.agg [.bool false, .nil])))⟩,
  ⟨none, none, .e (.store 2 (.t 7) (.t 16))⟩]
def mat_each_I_I_r5 : List AIns := [⟨some 17, none, .p (.mv (.t 5))⟩,
  ⟨some 18, none, .p (.mv (.t 1))⟩,
  ⟨some 19, none, .p (.load (some 2) (.t 7))⟩,
  ⟨some 20, none, .callv (.t 18) [(.t 19)]⟩,
  ⟨some 21, none, .e (.bsl 2 [(.t 20)])⟩,
  ⟨some 22, none, .e (.app 2 32 false (.t 17) (.t 21))⟩,
  ⟨some 5, none, .p (.mv (.t 22))⟩]
def mat_each_I_I_r6 : List AIns := [⟨some 23, none, .p (.bin .add (.t 13) (.c (.int .i64 1)))⟩,
  ⟨some 13, none, .p (.mv (.t 23))⟩]
def mat_each_I_I_l0 : ACode := .seq (.region mat_each_I_I_r3 false) (.seq (.cond (.t 14) (.skip) (.exit 0)) (.seq (.block 1 (.seq (.region mat_each_I_I_r4 false) (.region mat_each_I_I_r5 false))) (.region mat_each_I_I_r6 false)))
def mat_each_I_I_r7 : List AIns := [⟨some 24, none, .p (.mv (.t 5))⟩,
  ⟨some 4, none, .p (.mv (.t 24))⟩]
def mat_each_I_I_c : ACode := .seq (.region mat_each_I_I_r0 false) (.seq (.region mat_each_I_I_r1 false) (.seq (.seq (.region mat_each_I_I_r2 false) (.block 0 (.loop mat_each_I_I_l0))) (.seq (.region mat_each_I_I_r7 false) (.ret))))
theorem mat_each_I_I_ok : fchk Pr (fun _ _ => false) Try.f66 = some (mat_each_I_I_c, [.tmp 4], 25) := by kernel_rfl
theorem mat_each_I_I_fn : Pr.funcs[F_mat_each_I_I]? = some Try.f66 := Try.func66
/-! zint.Form -/
def zint_Form_r0 : List AIns := [⟨some 1, none, .e (.box 2 (.t 0))⟩,
  ⟨some 2, none, .e (.box 2 (.c (.agg [.bool false, .nil])))⟩]
def zint_Form_r1 : List AIns := [⟨some 3, none, .p (.fldp (.t 1) 0)⟩,
  ⟨some 4, none, .p (.load none (.t 3))⟩,
  ⟨some 5, none, .p (.fldp (.t 1) 1)⟩,
  ⟨some 6, none, .p (.load none (.t 5))⟩,
  ⟨some 7, none, .call F_zint_made [(.t 4), (.t 6)]⟩,
  ⟨none, none, .e (.store 2 (.t 2) (.t 7))⟩]
def zint_Form_c : ACode := .seq (.region zint_Form_r0 false) (.seq (.region zint_Form_r1 false) (.ret))
theorem zint_Form_ok : fchk Pr (fun _ _ => false) Try.f67 = some (zint_Form_c, [.cell 2 (some 2)], 8) := by kernel_rfl
theorem zint_Form_fn : Pr.funcs[F_zint_Form]? = some Try.f67 := Try.func67
/-! zint.Compare -/
def zint_Compare_r0 : List AIns := [⟨some 2, none, .e (.box 2 (.t 0))⟩,
  ⟨some 3, none, .e (.box 2 (.t 1))⟩,
  ⟨some 4, none, .p (.mv (.c (.int .i64 0)))⟩]
def zint_Compare_r1 : List AIns := [⟨some 7, none, .p (.load (some 2) (.t 2))⟩,
  ⟨some 8, none, .call F_zint_Sign [(.t 7)]⟩,
  ⟨some 9, none, .p (.load (some 2) (.t 3))⟩,
  ⟨some 10, none, .call F_zint_Sign [(.t 9)]⟩,
  ⟨some 5, none, .p (.mv (.t 8))⟩,
  ⟨some 6, none, .p (.mv (.t 10))⟩]
def zint_Compare_r2 : List AIns := [⟨some 12, none, .p (.mv (.t 5))⟩,
  ⟨some 13, none, .p (.mv (.t 6))⟩,
  ⟨some 14, none, .p (.bin .lss (.t 12) (.t 13))⟩,
  ⟨some 11, none, .p (.mv (.t 14))⟩]
def zint_Compare_r3 : List AIns := [⟨some 4, none, .p (.mv (.c (.int .i64 (-1))))⟩]
def zint_Compare_r4 : List AIns := [⟨some 16, none, .p (.mv (.t 5))⟩,
  ⟨some 17, none, .p (.mv (.t 6))⟩,
  ⟨some 18, none, .p (.bin .gtr (.t 16) (.t 17))⟩,
  ⟨some 15, none, .p (.mv (.t 18))⟩]
def zint_Compare_r5 : List AIns := [⟨some 4, none, .p (.mv (.c (.int .i64 1)))⟩]
def zint_Compare_r6 : List AIns := [⟨some 19, none, .p (.mv (.t 5))⟩,
  ⟨some 20, none, .p (.fldp (.t 2) 1)⟩,
  ⟨some 21, none, .p (.load none (.t 20))⟩,
  ⟨some 22, none, .p (.fldp (.t 3) 1)⟩,
  ⟨some 23, none, .p (.load none (.t 22))⟩,
  ⟨some 24, none, .call F_nat_Cmp [(.t 21), (.t 23)]⟩,
  ⟨some 25, none, .p (.bin .mul (.t 19) (.t 24))⟩,
  ⟨some 4, none, .p (.mv (.t 25))⟩]
def zint_Compare_c : ACode := .seq (.region zint_Compare_r0 false) (.seq (.region zint_Compare_r1 true) (.seq (.block 0 (.seq (.region zint_Compare_r2 false) (.cond (.t 11) (.seq (.region zint_Compare_r3 false) (.ret)) (.seq (.region zint_Compare_r4 false) (.cond (.t 15) (.seq (.region zint_Compare_r5 false) (.ret)) (.skip)))))) (.seq (.region zint_Compare_r6 false) (.ret))))
theorem zint_Compare_ok : fchk Pr (fun _ _ => false) Try.f68 = some (zint_Compare_c, [.tmp 4], 26) := by kernel_rfl
theorem zint_Compare_fn : Pr.funcs[F_zint_Compare]? = some Try.f68 := Try.func68
/-! trammelref02.Cmp -/
def ref02_Cmp_r0 : List AIns := [⟨some 2, none, .e (.box 2 (.t 0))⟩,
  ⟨some 3, none, .e (.box 2 (.t 1))⟩,
  ⟨some 4, none, .p (.mv (.c (.int .i64 0)))⟩]
def ref02_Cmp_r1 : List AIns := [⟨some 5, none, .p (.load (some 2) (.t 2))⟩,
  ⟨some 6, none, .p (.load (some 2) (.t 3))⟩,
  ⟨some 7, none, .call F_ref02_Sub [(.t 5), (.t 6)]⟩,
  ⟨some 8, none, .call F_ref02_Sign [(.t 7)]⟩,
  ⟨some 4, none, .p (.mv (.t 8))⟩]
def ref02_Cmp_c : ACode := .seq (.region ref02_Cmp_r0 false) (.seq (.region ref02_Cmp_r1 false) (.ret))
theorem ref02_Cmp_ok : fchk Pr (fun _ _ => false) Try.f69 = some (ref02_Cmp_c, [.tmp 4], 9) := by kernel_rfl
theorem ref02_Cmp_fn : Pr.funcs[F_ref02_Cmp]? = some Try.f69 := Try.func69
/-! zint.Sign -/
def zint_Sign_r0 : List AIns := [⟨some 1, none, .e (.box 2 (.t 0))⟩,
  ⟨some 2, none, .p (.mv (.c (.int .i64 0)))⟩]
def zint_Sign_r1 : List AIns := [⟨some 4, none, .p (.fldp (.t 1) 1)⟩,
  ⟨some 5, none, .p (.load none (.t 4))⟩,
  ⟨some 6, none, .call F_nat_Bits [(.t 5)]⟩,
  ⟨some 7, none, .p (.bin .eql (.t 6) (.c (.int .i64 0)))⟩,
  ⟨some 3, none, .p (.mv (.t 7))⟩]
def zint_Sign_r2 : List AIns := [⟨some 2, none, .p (.mv (.c (.int .i64 0)))⟩]
def zint_Sign_r3 : List AIns := [⟨some 9, none, .p (.fldp (.t 1) 0)⟩,
  ⟨some 10, none, .p (.load none (.t 9))⟩,
  ⟨some 8, none, .p (.mv (.t 10))⟩]
def zint_Sign_r4 : List AIns := [⟨some 2, none, .p (.mv (.c (.int .i64 (-1))))⟩]
def zint_Sign_r5 : List AIns := [⟨some 2, none, .p (.mv (.c (.int .i64 1)))⟩]
def zint_Sign_c : ACode := .seq (.region zint_Sign_r0 false) (.seq (.block 0 (.seq (.region zint_Sign_r1 false) (.cond (.t 3) (.seq (.region zint_Sign_r2 false) (.ret)) (.seq (.region zint_Sign_r3 false) (.cond (.t 8) (.seq (.region zint_Sign_r4 false) (.ret)) (.skip)))))) (.seq (.region zint_Sign_r5 false) (.ret)))
theorem zint_Sign_ok : fchk Pr (fun _ _ => false) Try.f70 = some (zint_Sign_c, [.tmp 2], 11) := by kernel_rfl
theorem zint_Sign_fn : Pr.funcs[F_zint_Sign]? = some Try.f70 := Try.func70
/-! zint.Neg -/
def zint_Neg_r0 : List AIns := [⟨some 1, none, .e (.box 2 (.t 0))⟩,
  ⟨some 2, none, .e (.box 2 (.c (.agg [.bool false, .nil])))⟩]
def zint_Neg_r1 : List AIns := [⟨some 3, none, .p (.fldp (.t 1) 0)⟩,
  ⟨some 4, none, .p (.load none (.t 3))⟩,
  ⟨some 5, none, .p (.un .not (.t 4))⟩,
  ⟨some 6, none, .p (.fldp (.t 1) 1)⟩,
  ⟨some 7, none, .p (.load none (.t 6))⟩,
  ⟨some 8, none, .call F_zint_made [(.t 5), (.t 7)]⟩,
  ⟨none, none, .e (.store 2 (.t 2) (.t 8))⟩]
def zint_Neg_c : ACode := .seq (.region zint_Neg_r0 false) (.seq (.region zint_Neg_r1 false) (.ret))
theorem zint_Neg_ok : fchk Pr (fun _ _ => false) Try.f71 = some (zint_Neg_c, [.cell 2 (some 2)], 9) := by kernel_rfl
theorem zint_Neg_fn : Pr.funcs[F_zint_Neg]? = some Try.f71 := Try.func71
/-! mat.dot -/
def mat_dot_r0 : List AIns := [⟨some 4, none, .e (.box 2 (.c (.agg [.bool false, .nil])))⟩]
def mat_dot_r1 : List AIns := [⟨some 5, none, .e (.box 2 (.c (.agg [.bool false, .nil])))⟩]
def mat_dot_r2 : List AIns := [⟨some 7, none, .p (.mv (.t 0))⟩,
  ⟨some 8, none, .p (.len (.t 7))⟩,
  ⟨some 9, none, .p (.mv (.c (.int .i64 0)))⟩]
def mat_dot_r3 : List AIns := [⟨some 10, none, .p (.bin .lss (.t 9) (.t 8))⟩]
def mat_dot_r4 : List AIns := [⟨some 11, none, .p (.mv (.t 9))⟩,
  ⟨some 6, none, .p (.mv (.t 11))⟩]
def mat_dot_r5 : List AIns := [⟨some 12, none, .p (.load (some 2) (.t 5))⟩,
  ⟨some 13, none, .p (.mv (.t 0))⟩,
  ⟨some 14, none, .p (.mv (.t 6))⟩,
  ⟨some 15, none, .p (.idxp 2 (.t 13) (.t 14))⟩,
  ⟨some 16, none, .p (.load (some 2) (.t 15))⟩,
  ⟨some 17, none, .p (.mv (.t 1))⟩,
  ⟨some 18, none, .p (.mv (.t 6))⟩,
  ⟨some 19, none, .p (.idxp 2 (.t 17) (.t 18))⟩,
  ⟨some 20, none, .p (.load (some 2) (.t 19))⟩,
  ⟨some 21, none, .call F_zint_Mul [(.t 16), (.t 20)]⟩,
  ⟨some 22, none, .call F_zint_Add [(.t 12), (.t 21)]⟩,
  ⟨none, none, .e (.store 2 (.t 5) (.t 22))⟩]
def mat_dot_r6 : List AIns := [⟨some 23, none, .p (.bin .add (.t 9) (.c (.int .i64 1)))⟩,
  ⟨some 9, none, .p (.mv (.t 23))⟩]
def mat_dot_l0 : ACode := .seq (.region mat_dot_r3 false) (.seq (.cond (.t 10) (.skip) (.exit 0)) (.seq (.block 1 (.seq (.region mat_dot_r4 false) (.region mat_dot_r5 true))) (.region mat_dot_r6 false)))
def mat_dot_r7 : List AIns := [⟨some 24, none, .p (.load (some 2) (.t 5))⟩,
  ⟨none, none, .e (.store 2 (.t 4) (.t 24))⟩]
def mat_dot_c : ACode := .seq (.region mat_dot_r0 false) (.seq (.region mat_dot_r1 false) (.seq (.seq (.region mat_dot_r2 false) (.block 0 (.loop mat_dot_l0))) (.seq (.region mat_dot_r7 false) (.ret))))
theorem mat_dot_ok : fchk Pr (fun _ _ => false) Try.f72 = some (mat_dot_c, [.cell 4 (some 2)], 25) := by kernel_rfl
theorem mat_dot_fn : Pr.funcs[F_mat_dot]? = some Try.f72 := Try.func72
/-! trammelref02.Add -/
def ref02_Add_r0 : List AIns := [⟨some 2, none, .e (.box 2 (.t 0))⟩,
  ⟨some 3, none, .e (.box 2 (.t 1))⟩,
  ⟨some 4, none, .e (.box 2 (.c (.agg [.bool false, .nil])))⟩]
def ref02_Add_r1 : List AIns := [⟨some 9, none, .p (.fldp (.t 2) 0)⟩,
  ⟨some 10, none, .p (.load none (.t 9))⟩,
  ⟨some 11, none, .p (.fldp (.t 3) 0)⟩,
  ⟨some 12, none, .p (.load none (.t 11))⟩,
  ⟨some 13, none, .p (.beq false (.t 10) (.t 12))⟩]
def ref02_Add_r2 : List AIns := [⟨some 14, none, .p (.fldp (.t 2) 0)⟩,
  ⟨some 15, none, .p (.load none (.t 14))⟩,
  ⟨some 16, none, .p (.fldp (.t 2) 1)⟩,
  ⟨some 17, none, .p (.load none (.t 16))⟩,
  ⟨some 18, none, .p (.fldp (.t 3) 1)⟩,
  ⟨some 19, none, .p (.load none (.t 18))⟩,
  ⟨some 20, none, .call F_ref01_Add [(.t 17), (.t 19)]⟩,
  ⟨some 21, none, .call F_ref02_made [(.t 15), (.t 20)]⟩,
  ⟨none, none, .e (.store 2 (.t 4) (.t 21))⟩]
def ref02_Add_r3 : List AIns := [⟨some 22, none, .p (.fldp (.t 2) 1)⟩,
  ⟨some 23, none, .p (.load none (.t 22))⟩,
  ⟨some 24, none, .p (.fldp (.t 3) 1)⟩,
  ⟨some 25, none, .p (.load none (.t 24))⟩,
  ⟨some 26, none, .call F_ref01_Cmp [(.t 23), (.t 25)]⟩,
  ⟨some 27, none, .p (.bin .geq (.t 26) (.c (.int .i64 0)))⟩]
def ref02_Add_r4 : List AIns := [⟨some 29, none, .p (.fldp (.t 2) 1)⟩,
  ⟨some 30, none, .p (.load none (.t 29))⟩,
  ⟨some 31, none, .p (.fldp (.t 3) 1)⟩,
  ⟨some 32, none, .p (.load none (.t 31))⟩,
  ⟨some 33, none, .call F_ref01_Sub [(.t 30), (.t 32)]⟩,
  ⟨some 28, none, .p (.mv (.t 33))⟩,
  ⟨some 34, none, .p (.ext (.t 28) 0)⟩,
  ⟨some 35, none, .p (.ext (.t 28) 1)⟩,
  ⟨some 5, none, .p (.mv (.t 34))⟩,
  ⟨some 6, none, .p (.mv (.t 35))⟩]
def ref02_Add_r5 : List AIns := [⟨some 36, none, .p (.fldp (.t 2) 0)⟩,
  ⟨some 37, none, .p (.load none (.t 36))⟩,
  ⟨some 38, none, .p (.mv (.t 5))⟩,
  ⟨some 39, none, .call F_ref02_made [(.t 37), (.t 38)]⟩,
  ⟨none, none, .e (.store 2 (.t 4) (.t 39))⟩]
def ref02_Add_r6 : List AIns := [⟨some 41, none, .p (.fldp (.t 3) 1)⟩,
  ⟨some 42, none, .p (.load none (.t 41))⟩,
  ⟨some 43, none, .p (.fldp (.t 2) 1)⟩,
  ⟨some 44, none, .p (.load none (.t 43))⟩,
  ⟨some 45, none, .call F_ref01_Sub [(.t 42), (.t 44)]⟩,
  ⟨some 40, none, .p (.mv (.t 45))⟩,
  ⟨some 46, none, .p (.ext (.t 40) 0)⟩,
  ⟨some 47, none, .p (.ext (.t 40) 1)⟩,
  ⟨some 7, none, .p (.mv (.t 46))⟩,
  ⟨some 8, none, .p (.mv (.t 47))⟩]
def ref02_Add_r7 : List AIns := [⟨some 48, none, .p (.fldp (.t 3) 0)⟩,
  ⟨some 49, none, .p (.load none (.t 48))⟩,
  ⟨some 50, none, .p (.mv (.t 7))⟩,
  ⟨some 51, none, .call F_ref02_made [(.t 49), (.t 50)]⟩,
  ⟨none, none, .e (.store 2 (.t 4) (.t 51))⟩]
def ref02_Add_c : ACode := .seq (.region ref02_Add_r0 false) (.seq (.seq (.region ref02_Add_r1 false) (.cond (.t 13) (.seq (.region ref02_Add_r2 true) (.ret)) (.skip))) (.seq (.seq (.region ref02_Add_r3 false) (.cond (.t 27) (.seq (.region ref02_Add_r4 false) (.seq (.region ref02_Add_r5 false) (.ret))) (.skip))) (.seq (.region ref02_Add_r6 false) (.seq (.region ref02_Add_r7 false) (.ret)))))
theorem ref02_Add_ok : fchk Pr (fun _ _ => false) Try.f73 = some (ref02_Add_c, [.cell 4 (some 2)], 52) := by kernel_rfl
theorem ref02_Add_fn : Pr.funcs[F_ref02_Add]? = some Try.f73 := Try.func73
/-! trammelref02.Mul -/
def ref02_Mul_r0 : List AIns := [⟨some 2, none, .e (.box 2 (.t 0))⟩,
  ⟨some 3, none, .e (.box 2 (.t 1))⟩,
  ⟨some 4, none, .e (.box 2 (.c (.agg [.bool false, .nil])))⟩]
def ref02_Mul_r1 : List AIns := [⟨some 5, none, .p (.fldp (.t 2) 0)⟩,
  ⟨some 6, none, .p (.load none (.t 5))⟩,
  ⟨some 7, none, .p (.fldp (.t 3) 0)⟩,
  ⟨some 8, none, .p (.load none (.t 7))⟩,
  ⟨some 9, none, .p (.beq true (.t 6) (.t 8))⟩,
  ⟨some 10, none, .p (.fldp (.t 2) 1)⟩,
  ⟨some 11, none, .p (.load none (.t 10))⟩,
  ⟨some 12, none, .p (.fldp (.t 3) 1)⟩,
  ⟨some 13, none, .p (.load none (.t 12))⟩,
  ⟨some 14, none, .call F_ref01_Mul [(.t 11), (.t 13)]⟩,
  ⟨some 15, none, .call F_ref02_made [(.t 9), (.t 14)]⟩,
  ⟨none, none, .e (.store 2 (.t 4) (.t 15))⟩]
def ref02_Mul_c : ACode := .seq (.region ref02_Mul_r0 false) (.seq (.region ref02_Mul_r1 true) (.ret))
theorem ref02_Mul_ok : fchk Pr (fun _ _ => false) Try.f74 = some (ref02_Mul_c, [.cell 4 (some 2)], 16) := by kernel_rfl
theorem ref02_Mul_fn : Pr.funcs[F_ref02_Mul]? = some Try.f74 := Try.func74
/-! mat.Times$1 -/
def mat_Times_1_r0 : List AIns := [⟨some 2, none, .e (.box 2 (.t 0))⟩,
  ⟨some 3, none, .e (.box 2 (.c (.agg [.bool false, .nil])))⟩]
def mat_Times_1_r1 : List AIns := [⟨some 4, none, .p (.load (some 2) (.t 1))⟩,
  ⟨some 5, none, .p (.load (some 2) (.t 2))⟩,
  ⟨some 6, none, .call F_zint_Mul [(.t 4), (.t 5)]⟩,
  ⟨none, none, .e (.store 2 (.t 3) (.t 6))⟩]
def mat_Times_1_c : ACode := .seq (.region mat_Times_1_r0 false) (.seq (.region mat_Times_1_r1 false) (.ret))
theorem mat_Times_1_ok : fchk Pr (fun _ _ => false) Try.f75 = some (mat_Times_1_c, [.cell 3 (some 2)], 7) := by kernel_rfl
theorem mat_Times_1_fn : Pr.funcs[F_mat_Times_1]? = some Try.f75 := Try.func75
/-! zint.Mul -/
def zint_Mul_r0 : List AIns := [⟨some 2, none, .e (.box 2 (.t 0))⟩,
  ⟨some 3, none, .e (.box 2 (.t 1))⟩,
  ⟨some 4, none, .e (.box 2 (.c (.agg [.bool false, .nil])))⟩]
def zint_Mul_r1 : List AIns := [⟨some 5, none, .p (.fldp (.t 2) 0)⟩,
  ⟨some 6, none, .p (.load none (.t 5))⟩,
  ⟨some 7, none, .p (.fldp (.t 3) 0)⟩,
  ⟨some 8, none, .p (.load none (.t 7))⟩,
  ⟨some 9, none, .p (.beq true (.t 6) (.t 8))⟩,
  ⟨some 10, none, .p (.fldp (.t 2) 1)⟩,
  ⟨some 11, none, .p (.load none (.t 10))⟩,
  ⟨some 12, none, .p (.fldp (.t 3) 1)⟩,
  ⟨some 13, none, .p (.load none (.t 12))⟩,
  ⟨some 14, none, .call F_nat_Mul [(.t 11), (.t 13)]⟩,
  ⟨some 15, none, .call F_zint_made [(.t 9), (.t 14)]⟩,
  ⟨none, none, .e (.store 2 (.t 4) (.t 15))⟩]
def zint_Mul_c : ACode := .seq (.region zint_Mul_r0 false) (.seq (.region zint_Mul_r1 true) (.ret))
theorem zint_Mul_ok : fchk Pr (fun _ _ => false) Try.f76 = some (zint_Mul_c, [.cell 4 (some 2)], 16) := by kernel_rfl
theorem zint_Mul_fn : Pr.funcs[F_zint_Mul]? = some Try.f76 := Try.func76
/-! mat.pairs -/
def mat_pairs_r0 : List AIns := [⟨some 6, none, .p (.mv (.c (.nil)))⟩,
  ⟨some 7, none, .p (.mv (.c (.int .i64 0)))⟩]
def mat_pairs_r1 : List AIns := [⟨some 10, none, .p (.mv (.t 0))⟩,
  ⟨some 11, none, .p (.len (.t 10))⟩,
  ⟨some 12, none, .p (.mv (.t 1))⟩,
  ⟨some 13, none, .p (.len (.t 12))⟩,
  ⟨some 14, none, .p (.bin .neq (.t 11) (.t 13))⟩]
def mat_pairs_r2 : List AIns := [⟨some 6, none, .p (.mv (.c (.nil)))⟩,
  ⟨some 7, none, .p (.mv (.c (.int .i64 8)))⟩]
def mat_pairs_r3 : List AIns := [⟨some 8, none, .p (.mv (.c (.nil)))⟩]
def mat_pairs_r4 : List AIns := [⟨some 15, none, .p (.mv (.t 0))⟩,
  ⟨some 16, none, .p (.len (.t 15))⟩,
  ⟨some 17, none, .p (.mv (.c (.int .i64 0)))⟩]
def mat_pairs_r5 : List AIns := [⟨some 18, none, .p (.bin .lss (.t 17) (.t 16))⟩]
def mat_pairs_r6 : List AIns := [⟨some 19, none, .p (.mv (.t 17))⟩,
  ⟨some 9, none, .p (.mv (.t 19))⟩]
def mat_pairs_r7 : List AIns := [⟨some 20, none, .p (.mv (.t 8))⟩,
  ⟨some 21, none, .p (.mv (.t 2))⟩,
  ⟨some 22, none, .p (.mv (.t 0))⟩,
  ⟨some 23, none, .p (.mv (.t 9))⟩,
  ⟨some 24, none, .p (.idxp 2 (.t 22) (.t 23))⟩,
  ⟨some 25, none, .p (.load (some 2) (.t 24))⟩,
  ⟨some 26, none, .p (.mv (.t 1))⟩,
  ⟨some 27, none, .p (.mv (.t 9))⟩,
  ⟨some 28, none, .p (.idxp 2 (.t 26) (.t 27))⟩,
  ⟨some 29, none, .p (.load (some 2) (.t 28))⟩,
  ⟨some 30, none, .callv (.t 21) [(.t 25), (.t 29)]⟩,
  ⟨some 31, none, .e (.bsl 2 [(.t 30)])⟩,
  ⟨some 32, none, .e (.app 2 32 false (.t 20) (.t 31))⟩,
  ⟨some 8, none, .p (.mv (.t 32))⟩]
def mat_pairs_r8 : List AIns := [⟨some 33, none, .p (.bin .add (.t 17) (.c (.int .i64 1)))⟩,
  ⟨some 17, none, .p (.mv (.t 33))⟩]
def mat_pairs_l0 : ACode := .seq (.region mat_pairs_r5 false) (.seq (.cond (.t 18) (.skip) (.exit 0)) (.seq (.block 1 (.seq (.region mat_pairs_r6 false) (.region mat_pairs_r7 true))) (.region mat_pairs_r8 false)))
def mat_pairs_r9 : List AIns := [⟨some 34, none, .p (.mv (.t 8))⟩,
  ⟨some 6, none, .p (.mv (.t 34))⟩,
  ⟨some 7, none, .p (.mv (.c (.int .i64 0)))⟩]
def mat_pairs_c : ACode := .seq (.region mat_pairs_r0 false) (.seq (.seq (.region mat_pairs_r1 false) (.cond (.t 14) (.seq (.region mat_pairs_r2 false) (.ret)) (.skip))) (.seq (.region mat_pairs_r3 false) (.seq (.seq (.region mat_pairs_r4 false) (.block 0 (.loop mat_pairs_l0))) (.seq (.region mat_pairs_r9 false) (.ret)))))
theorem mat_pairs_ok : fchk Pr (fun _ _ => false) Try.f77 = some (mat_pairs_c, [.tmp 6, .tmp 7], 35) := by kernel_rfl
theorem mat_pairs_fn : Pr.funcs[F_mat_pairs]? = some Try.f77 := Try.func77
/-! zint.Add -/
def zint_Add_r0 : List AIns := [⟨some 2, none, .e (.box 2 (.t 0))⟩,
  ⟨some 3, none, .e (.box 2 (.t 1))⟩,
  ⟨some 4, none, .e (.box 2 (.c (.agg [.bool false, .nil])))⟩]
def zint_Add_r1 : List AIns := [⟨some 7, none, .p (.fldp (.t 2) 0)⟩,
  ⟨some 8, none, .p (.load none (.t 7))⟩,
  ⟨some 9, none, .p (.fldp (.t 3) 0)⟩,
  ⟨some 10, none, .p (.load none (.t 9))⟩,
  ⟨some 11, none, .p (.beq false (.t 8) (.t 10))⟩]
def zint_Add_r2 : List AIns := [⟨some 12, none, .p (.fldp (.t 2) 0)⟩,
  ⟨some 13, none, .p (.load none (.t 12))⟩,
  ⟨some 14, none, .p (.fldp (.t 2) 1)⟩,
  ⟨some 15, none, .p (.load none (.t 14))⟩,
  ⟨some 16, none, .p (.fldp (.t 3) 1)⟩,
  ⟨some 17, none, .p (.load none (.t 16))⟩,
  ⟨some 18, none, .call F_nat_Add [(.t 15), (.t 17)]⟩,
  ⟨some 19, none, .call F_zint_made [(.t 13), (.t 18)]⟩,
  ⟨none, none, .e (.store 2 (.t 4) (.t 19))⟩]
def zint_Add_r3 : List AIns := [⟨some 20, none, .p (.fldp (.t 2) 1)⟩,
  ⟨some 21, none, .p (.load none (.t 20))⟩,
  ⟨some 22, none, .p (.fldp (.t 3) 1)⟩,
  ⟨some 23, none, .p (.load none (.t 22))⟩,
  ⟨some 24, none, .call F_nat_Cmp [(.t 21), (.t 23)]⟩,
  ⟨some 25, none, .p (.bin .lss (.t 24) (.c (.int .i64 0)))⟩]
def zint_Add_r4 : List AIns := [⟨some 26, none, .p (.load (some 2) (.t 3))⟩,
  ⟨some 27, none, .p (.load (some 2) (.t 2))⟩,
  ⟨none, none, .e (.store 2 (.t 2) (.t 26))⟩,
  ⟨none, none, .e (.store 2 (.t 3) (.t 27))⟩]
def zint_Add_r5 : List AIns := [⟨some 29, none, .p (.fldp (.t 2) 1)⟩,
  ⟨some 30, none, .p (.load none (.t 29))⟩,
  ⟨some 31, none, .p (.fldp (.t 3) 1)⟩,
  ⟨some 32, none, .p (.load none (.t 31))⟩,
  ⟨some 33, none, .call F_nat_Sub [(.t 30), (.t 32)]⟩,
  ⟨some 28, none, .p (.mv (.t 33))⟩,
  ⟨some 34, none, .p (.ext (.t 28) 0)⟩,
  ⟨some 35, none, .p (.ext (.t 28) 1)⟩,
  ⟨some 5, none, .p (.mv (.t 34))⟩,
  ⟨some 6, none, .p (.mv (.t 35))⟩]
def zint_Add_r6 : List AIns := [⟨some 36, none, .p (.fldp (.t 2) 0)⟩,
  ⟨some 37, none, .p (.load none (.t 36))⟩,
  ⟨some 38, none, .p (.mv (.t 5))⟩,
  ⟨some 39, none, .call F_zint_made [(.t 37), (.t 38)]⟩,
  ⟨none, none, .e (.store 2 (.t 4) (.t 39))⟩]
def zint_Add_c : ACode := .seq (.region zint_Add_r0 false) (.seq (.seq (.region zint_Add_r1 false) (.cond (.t 11) (.seq (.region zint_Add_r2 true) (.ret)) (.skip))) (.seq (.seq (.region zint_Add_r3 false) (.cond (.t 25) (.region zint_Add_r4 false) (.skip))) (.seq (.region zint_Add_r5 false) (.seq (.region zint_Add_r6 false) (.ret)))))
theorem zint_Add_ok : fchk Pr (fun _ _ => false) Try.f78 = some (zint_Add_c, [.cell 4 (some 2)], 40) := by kernel_rfl
theorem zint_Add_fn : Pr.funcs[F_zint_Add]? = some Try.f78 := Try.func78
/-! zint.Sub -/
def zint_Sub_r0 : List AIns := [⟨some 2, none, .e (.box 2 (.t 0))⟩,
  ⟨some 3, none, .e (.box 2 (.t 1))⟩,
  ⟨some 4, none, .e (.box 2 (.c (.agg [.bool false, .nil])))⟩]
def zint_Sub_r1 : List AIns := [⟨some 5, none, .p (.load (some 2) (.t 2))⟩,
  ⟨some 6, none, .p (.load (some 2) (.t 3))⟩,
  ⟨some 7, none, .call F_zint_Neg [(.t 6)]⟩,
  ⟨some 8, none, .call F_zint_Add [(.t 5), (.t 7)]⟩,
  ⟨none, none, .e (.store 2 (.t 4) (.t 8))⟩]
def zint_Sub_c : ACode := .seq (.region zint_Sub_r0 false) (.seq (.region zint_Sub_r1 true) (.ret))
theorem zint_Sub_ok : fchk Pr (fun _ _ => false) Try.f79 = some (zint_Sub_c, [.cell 4 (some 2)], 9) := by kernel_rfl
theorem zint_Sub_fn : Pr.funcs[F_zint_Sub]? = some Try.f79 := Try.func79
/-! mat.each[[]api.Int,string] -/
def mat_each_V_string_r0 : List AIns := [⟨some 4, none, .p (.mv (.c (.nil)))⟩]
def mat_each_V_string_r1 : List AIns := [⟨some 8, none, .p (.mv (.t 0))⟩,
  ⟨some 9, none, .p (.len (.t 8))⟩,
  ⟨some 10, none, .e (.mksl 1 16 (.str ⟨#[]⟩) (.c (.int .i64 0)) (.t 9))⟩,
  ⟨some 5, none, .p (.mv (.t 10))⟩]
def mat_each_V_string_r2 : List AIns := [⟨some 11, none, .p (.mv (.t 0))⟩,
  ⟨some 12, none, .p (.len (.t 11))⟩,
  ⟨some 13, none, .p (.mv (.c (.int .i64 0)))⟩]
def mat_each_V_string_r3 : List AIns := [⟨some 14, none, .p (.bin .lss (.t 13) (.t 12))⟩]
def mat_each_V_string_r4 : List AIns := [⟨some 15, none, .p (.idxp 1 (.t 11) (.t 13))⟩,
  ⟨some 16, none, .p (.load none (.t 15))⟩,
  ⟨some 7, none, .p (.mv (.t 16))⟩]
def mat_each_V_string_r5 : List AIns := [⟨some 17, none, .p (.mv (.t 5))⟩,
  ⟨some 18, none, .p (.mv (.t 1))⟩,
  ⟨some 19, none, .p (.mv (.t 7))⟩,
  ⟨some 20, none, .callv (.t 18) [(.t 19)]⟩,
  ⟨some 21, none, .e (.bsl 1 [(.t 20)])⟩,
  ⟨some 22, none, .e (.app 1 16 false (.t 17) (.t 21))⟩,
  ⟨some 5, none, .p (.mv (.t 22))⟩]
def mat_each_V_string_r6 : List AIns := [⟨some 23, none, .p (.bin .add (.t 13) (.c (.int .i64 1)))⟩,
  ⟨some 13, none, .p (.mv (.t 23))⟩]
def mat_each_V_string_l0 : ACode := .seq (.region mat_each_V_string_r3 false) (.seq (.cond (.t 14) (.skip) (.exit 0)) (.seq (.block 1 (.seq (.region mat_each_V_string_r4 false) (.region mat_each_V_string_r5 false))) (.region mat_each_V_string_r6 false)))
def mat_each_V_string_r7 : List AIns := [⟨some 24, none, .p (.mv (.t 5))⟩,
  ⟨some 4, none, .p (.mv (.t 24))⟩]
def mat_each_V_string_c : ACode := .seq (.region mat_each_V_string_r0 false) (.seq (.region mat_each_V_string_r1 false) (.seq (.seq (.region mat_each_V_string_r2 false) (.block 0 (.loop mat_each_V_string_l0))) (.seq (.region mat_each_V_string_r7 false) (.ret))))
theorem mat_each_V_string_ok : fchk Pr (fun _ _ => false) Try.f81 = some (mat_each_V_string_c, [.tmp 4], 25) := by kernel_rfl
theorem mat_each_V_string_fn : Pr.funcs[F_mat_each_V_string]? = some Try.f81 := Try.func81
/-! mat.each[api.Int,string] -/
def mat_each_I_string_r0 : List AIns := [⟨some 4, none, .p (.mv (.c (.nil)))⟩]
def mat_each_I_string_r1 : List AIns := [⟨some 8, none, .p (.mv (.t 0))⟩,
  ⟨some 9, none, .p (.len (.t 8))⟩,
  ⟨some 10, none, .e (.mksl 1 16 (.str ⟨#[]⟩) (.c (.int .i64 0)) (.t 9))⟩,
  ⟨some 5, none, .p (.mv (.t 10))⟩]
def mat_each_I_string_r2 : List AIns := [⟨some 11, none, .p (.mv (.t 0))⟩,
  ⟨some 12, none, .p (.len (.t 11))⟩,
  ⟨some 13, none, .p (.mv (.c (.int .i64 0)))⟩]
def mat_each_I_string_r3 : List AIns := [⟨some 14, none, .p (.bin .lss (.t 13) (.t 12))⟩]
def mat_each_I_string_r4 : List AIns := [⟨some 15, none, .p (.idxp 2 (.t 11) (.t 13))⟩,
  ⟨some 16, none, .p (.load (some 2) (.t 15))⟩,
  ⟨some 7, none, .e (.box 2 (.c (.agg [.bool false, .nil])))⟩,
  ⟨none, none, .e (.store 2 (.t 7) (.t 16))⟩]
def mat_each_I_string_r5 : List AIns := [⟨some 17, none, .p (.mv (.t 5))⟩,
  ⟨some 18, none, .p (.mv (.t 1))⟩,
  ⟨some 19, none, .p (.load (some 2) (.t 7))⟩,
  ⟨some 20, none, .callv (.t 18) [(.t 19)]⟩,
  ⟨some 21, none, .e (.bsl 1 [(.t 20)])⟩,
  ⟨some 22, none, .e (.app 1 16 false (.t 17) (.t 21))⟩,
  ⟨some 5, none, .p (.mv (.t 22))⟩]
def mat_each_I_string_r6 : List AIns := [⟨some 23, none, .p (.bin .add (.t 13) (.c (.int .i64 1)))⟩,
  ⟨some 13, none, .p (.mv (.t 23))⟩]
def mat_each_I_string_l0 : ACode := .seq (.region mat_each_I_string_r3 false) (.seq (.cond (.t 14) (.skip) (.exit 0)) (.seq (.block 1 (.seq (.region mat_each_I_string_r4 false) (.region mat_each_I_string_r5 false))) (.region mat_each_I_string_r6 false)))
def mat_each_I_string_r7 : List AIns := [⟨some 24, none, .p (.mv (.t 5))⟩,
  ⟨some 4, none, .p (.mv (.t 24))⟩]
def mat_each_I_string_c : ACode := .seq (.region mat_each_I_string_r0 false) (.seq (.region mat_each_I_string_r1 false) (.seq (.seq (.region mat_each_I_string_r2 false) (.block 0 (.loop mat_each_I_string_l0))) (.seq (.region mat_each_I_string_r7 false) (.ret))))
theorem mat_each_I_string_ok : fchk Pr (fun _ _ => false) Try.f82 = some (mat_each_I_string_c, [.tmp 4], 25) := by kernel_rfl
theorem mat_each_I_string_fn : Pr.funcs[F_mat_each_I_string]? = some Try.f82 := Try.func82
/-! zint.Text -/
def zint_Text_r0 : List AIns := [⟨some 1, none, .e (.box 2 (.t 0))⟩,
  ⟨some 2, none, .p (.mv (.c (.str ⟨#[]⟩)))⟩]
def zint_Text_r1 : List AIns := [⟨some 3, none, .p (.load (some 2) (.t 1))⟩,
  ⟨some 4, none, .call F_zint_Sign [(.t 3)]⟩,
  ⟨some 5, none, .p (.bin .lss (.t 4) (.c (.int .i64 0)))⟩]
def zint_Text_r2 : List AIns := [⟨some 6, none, .p (.fldp (.t 1) 1)⟩,
  ⟨some 7, none, .p (.load none (.t 6))⟩,
  ⟨some 8, none, .call F_nat_Text [(.t 7)]⟩,
  ⟨some 9, none, .p (.bin .add (.c (.str ⟨#[45]⟩)) (.t 8))⟩,
  ⟨some 2, none, .p (.mv (.t 9))⟩]
def zint_Text_r3 : List AIns := [⟨some 10, none, .p (.fldp (.t 1) 1)⟩,
  ⟨some 11, none, .p (.load none (.t 10))⟩,
  ⟨some 12, none, .call F_nat_Text [(.t 11)]⟩,
  ⟨some 2, none, .p (.mv (.t 12))⟩]
def zint_Text_c : ACode := .seq (.region zint_Text_r0 false) (.seq (.seq (.region zint_Text_r1 false) (.cond (.t 5) (.seq (.region zint_Text_r2 false) (.ret)) (.skip))) (.seq (.region zint_Text_r3 false) (.ret)))
theorem zint_Text_ok : fchk Pr (fun _ _ => false) Try.f83 = some (zint_Text_c, [.tmp 2], 13) := by kernel_rfl
theorem zint_Text_fn : Pr.funcs[F_zint_Text]? = some Try.f83 := Try.func83
/-! trammelref02.Text -/
def ref02_Text_r0 : List AIns := [⟨some 1, none, .e (.box 2 (.t 0))⟩,
  ⟨some 2, none, .p (.mv (.c (.str ⟨#[]⟩)))⟩]
def ref02_Text_r1 : List AIns := [⟨some 4, none, .p (.fldp (.t 1) 1)⟩,
  ⟨some 5, none, .p (.load none (.t 4))⟩,
  ⟨some 6, none, .call F_ref01_Text [(.t 5)]⟩,
  ⟨some 3, none, .p (.mv (.t 6))⟩]
def ref02_Text_r2 : List AIns := [⟨some 7, none, .p (.load (some 2) (.t 1))⟩,
  ⟨some 8, none, .call F_ref02_Sign [(.t 7)]⟩,
  ⟨some 9, none, .p (.bin .lss (.t 8) (.c (.int .i64 0)))⟩]
def ref02_Text_r3 : List AIns := [⟨some 10, none, .p (.mv (.t 3))⟩,
  ⟨some 11, none, .p (.bin .add (.c (.str ⟨#[45]⟩)) (.t 10))⟩,
  ⟨some 2, none, .p (.mv (.t 11))⟩]
def ref02_Text_r4 : List AIns := [⟨some 12, none, .p (.mv (.t 3))⟩,
  ⟨some 2, none, .p (.mv (.t 12))⟩]
def ref02_Text_c : ACode := .seq (.region ref02_Text_r0 false) (.seq (.region ref02_Text_r1 false) (.seq (.seq (.region ref02_Text_r2 false) (.cond (.t 9) (.seq (.region ref02_Text_r3 false) (.ret)) (.skip))) (.seq (.region ref02_Text_r4 false) (.ret))))
theorem ref02_Text_ok : fchk Pr (fun _ _ => false) Try.f84 = some (ref02_Text_c, [.tmp 2], 13) := by kernel_rfl
theorem ref02_Text_fn : Pr.funcs[F_ref02_Text]? = some Try.f84 := Try.func84
/-! mat.combine -/
def mat_combine_r0 : List AIns := [⟨some 4, none, .p (.mv (.c (.nil)))⟩]
def mat_combine_r1 : List AIns := [⟨some 10, none, .p (.mv (.t 1))⟩,
  ⟨some 11, none, .p (.len (.t 10))⟩,
  ⟨some 12, none, .p (.bin .eql (.t 11) (.c (.int .i64 0)))⟩]
def mat_combine_r2 : List AIns := [⟨some 4, none, .p (.mv (.c (.nil)))⟩]
def mat_combine_r3 : List AIns := [⟨some 13, none, .p (.mv (.t 1))⟩,
  ⟨some 14, none, .p (.idxp 1 (.t 13) (.c (.int .i64 0)))⟩,
  ⟨some 15, none, .p (.load none (.t 14))⟩,
  ⟨some 16, none, .p (.len (.t 15))⟩,
  ⟨some 17, none, .e (.mksl 2 32 (.agg [.bool false, .nil]) (.t 16) (.t 16))⟩,
  ⟨some 5, none, .p (.mv (.t 17))⟩]
def mat_combine_r4 : List AIns := [⟨some 18, none, .p (.mv (.t 1))⟩,
  ⟨some 19, none, .p (.len (.t 18))⟩,
  ⟨some 20, none, .p (.mv (.c (.int .i64 0)))⟩]
def mat_combine_r5 : List AIns := [⟨some 21, none, .p (.bin .lss (.t 20) (.t 19))⟩]
def mat_combine_r6 : List AIns := [⟨some 22, none, .p (.mv (.t 20))⟩,
  ⟨some 23, none, .p (.idxp 1 (.t 18) (.t 20))⟩,
  ⟨some 24, none, .p (.load none (.t 23))⟩,
  ⟨some 6, none, .p (.mv (.t 22))⟩,
  ⟨some 7, none, .p (.mv (.t 24))⟩]
def mat_combine_r7 : List AIns := [⟨some 25, none, .p (.mv (.t 7))⟩,
  ⟨some 26, none, .p (.len (.t 25))⟩,
  ⟨some 27, none, .p (.mv (.c (.int .i64 0)))⟩]
def mat_combine_r8 : List AIns := [⟨some 28, none, .p (.bin .lss (.t 27) (.t 26))⟩]
def mat_combine_r9 : List AIns := [⟨some 29, none, .p (.mv (.t 27))⟩,
  ⟨some 30, none, .p (.idxp 2 (.t 25) (.t 27))⟩,
  ⟨some 31, none, .p (.load (some 2) (.t 30))⟩,
  ⟨some 9, none, .e (.box 2 (.c (.agg [.bool false, .nil])))⟩,
  ⟨some 8, none, .p (.mv (.t 29))⟩,
  ⟨none, none, .e (.store 2 (.t 9) (.t 31))⟩]
def mat_combine_r10 : List AIns := [⟨some 32, none, .p (.mv (.t 5))⟩,
  ⟨some 33, none, .p (.mv (.t 8))⟩,
  ⟨some 34, none, .p (.mv (.t 5))⟩,
  ⟨some 35, none, .p (.mv (.t 8))⟩,
  ⟨some 36, none, .p (.idxp 2 (.t 34) (.t 35))⟩,
  ⟨some 37, none, .p (.load (some 2) (.t 36))⟩,
  ⟨some 38, none, .p (.mv (.t 0))⟩,
  ⟨some 39, none, .p (.mv (.t 6))⟩,
  ⟨some 40, none, .p (.idxp 2 (.t 38) (.t 39))⟩,
  ⟨some 41, none, .p (.load (some 2) (.t 40))⟩,
  ⟨some 42, none, .p (.load (some 2) (.t 9))⟩,
  ⟨some 43, none, .call F_zint_Mul [(.t 41), (.t 42)]⟩,
  ⟨some 44, none, .call F_zint_Add [(.t 37), (.t 43)]⟩,
  ⟨some 45, none, .p (.idxp 2 (.t 32) (.t 33))⟩,
  ⟨none, none, .e (.store 2 (.t 45) (.t 44))⟩]
def mat_combine_r11 : List AIns := [⟨some 46, none, .p (.bin .add (.t 27) (.c (.int .i64 1)))⟩,
  ⟨some 27, none, .p (.mv (.t 46))⟩]
def mat_combine_l1 : ACode := .seq (.region mat_combine_r8 false) (.seq (.cond (.t 28) (.skip) (.exit 2)) (.seq (.block 3 (.seq (.region mat_combine_r9 false) (.region mat_combine_r10 true))) (.region mat_combine_r11 false)))
def mat_combine_r12 : List AIns := [⟨some 47, none, .p (.bin .add (.t 20) (.c (.int .i64 1)))⟩,
  ⟨some 20, none, .p (.mv (.t 47))⟩]
def mat_combine_l0 : ACode := .seq (.region mat_combine_r5 false) (.seq (.cond (.t 21) (.skip) (.exit 0)) (.seq (.block 1 (.seq (.region mat_combine_r6 false) (.seq (.region mat_combine_r7 false) (.block 2 (.loop mat_combine_l1))))) (.region mat_combine_r12 false)))
def mat_combine_r13 : List AIns := [⟨some 48, none, .p (.mv (.t 5))⟩,
  ⟨some 4, none, .p (.mv (.t 48))⟩]
def mat_combine_c : ACode := .seq (.region mat_combine_r0 false) (.seq (.seq (.region mat_combine_r1 false) (.cond (.t 12) (.seq (.region mat_combine_r2 false) (.ret)) (.skip))) (.seq (.region mat_combine_r3 false) (.seq (.seq (.region mat_combine_r4 false) (.block 0 (.loop mat_combine_l0))) (.seq (.region mat_combine_r13 false) (.ret)))))
theorem mat_combine_ok : fchk Pr (fun _ _ => false) Try.f85 = some (mat_combine_c, [.tmp 4], 49) := by kernel_rfl
theorem mat_combine_fn : Pr.funcs[F_mat_combine]? = some Try.f85 := Try.func85
/-! mat.Product$1 -/
def mat_Product_1_r0 : List AIns := [⟨some 3, none, .p (.mv (.c (.nil)))⟩]
def mat_Product_1_r1 : List AIns := [⟨some 4, none, .p (.mv (.t 0))⟩,
  ⟨some 5, none, .p (.load none (.t 1))⟩,
  ⟨some 6, none, .call F_mat_combine [(.t 4), (.t 5)]⟩,
  ⟨some 3, none, .p (.mv (.t 6))⟩]
def mat_Product_1_c : ACode := .seq (.region mat_Product_1_r0 false) (.seq (.region mat_Product_1_r1 false) (.ret))
theorem mat_Product_1_ok : fchk Pr (fun _ _ => false) Try.f86 = some (mat_Product_1_c, [.tmp 3], 7) := by kernel_rfl
theorem mat_Product_1_fn : Pr.funcs[F_mat_Product_1]? = some Try.f86 := Try.func86
/-! trammelref02.Norm -/
def ref02_Norm_r0 : List AIns := [⟨some 1, none, .e (.box 2 (.t 0))⟩,
  ⟨some 2, none, .e (.box 2 (.c (.agg [.bool false, .nil])))⟩]
def ref02_Norm_r1 : List AIns := [⟨some 3, none, .p (.fldp (.t 1) 0)⟩,
  ⟨some 4, none, .p (.load none (.t 3))⟩,
  ⟨some 5, none, .p (.fldp (.t 1) 1)⟩,
  ⟨some 6, none, .p (.load none (.t 5))⟩,
  ⟨some 7, none, .call F_ref02_made [(.t 4), (.t 6)]⟩,
  ⟨none, none, .e (.store 2 (.t 2) (.t 7))⟩]
def ref02_Norm_c : ACode := .seq (.region ref02_Norm_r0 false) (.seq (.region ref02_Norm_r1 false) (.ret))
theorem ref02_Norm_ok : fchk Pr (fun _ _ => false) Try.f87 = some (ref02_Norm_c, [.cell 2 (some 2)], 8) := by kernel_rfl
theorem ref02_Norm_fn : Pr.funcs[F_ref02_Norm]? = some Try.f87 := Try.func87
/-! mat.Gram$1 -/
def mat_Gram_1_r0 : List AIns := [⟨some 2, none, .e (.box 1 (.t 0))⟩,
  ⟨some 3, none, .p (.mv (.c (.nil)))⟩]
def mat_Gram_1_r1 : List AIns := [⟨some 4, none, .p (.load none (.t 1))⟩,
  ⟨some 5, none, .p (.mkfn F_mat_Gram_1_1 [(.t 2)])⟩,
  ⟨some 6, none, .call F_mat_each_V_I [(.t 4), (.t 5)]⟩,
  ⟨some 3, none, .p (.mv (.t 6))⟩]
def mat_Gram_1_c : ACode := .seq (.region mat_Gram_1_r0 false) (.seq (.region mat_Gram_1_r1 false) (.ret))
theorem mat_Gram_1_ok : fchk Pr (fun _ _ => false) Try.f88 = some (mat_Gram_1_c, [.tmp 3], 7) := by kernel_rfl
theorem mat_Gram_1_fn : Pr.funcs[F_mat_Gram_1]? = some Try.f88 := Try.func88
/-! mat.each[[]api.Int,api.Int] -/
def mat_each_V_I_r0 : List AIns := [⟨some 4, none, .p (.mv (.c (.nil)))⟩]
def mat_each_V_I_r1 : List AIns := [⟨some 8, none, .p (.mv (.t 0))⟩,
  ⟨some 9, none, .p (.len (.t 8))⟩,
  ⟨some 10, none, .e (.mksl 2 32 (.agg [.bool false, .nil]) (.c (.int .i64 0)) (.t 9))⟩,
  ⟨some 5, none, .p (.mv (.t 10))⟩]
def mat_each_V_I_r2 : List AIns := [⟨some 11, none, .p (.mv (.t 0))⟩,
  ⟨some 12, none, .p (.len (.t 11))⟩,
  ⟨some 13, none, .p (.mv (.c (.int .i64 0)))⟩]
def mat_each_V_I_r3 : List AIns := [⟨some 14, none, .p (.bin .lss (.t 13) (.t 12))⟩]
def mat_each_V_I_r4 : List AIns := [⟨some 15, none, .p (.idxp 1 (.t 11) (.t 13))⟩,
  ⟨some 16, none, .p (.load none (.t 15))⟩,
  ⟨some 7, none, .p (.mv (.t 16))⟩]
def mat_each_V_I_r5 : List AIns := [⟨some 17, none, .p (.mv (.t 5))⟩,
  ⟨some 18, none, .p (.mv (.t 1))⟩,
  ⟨some 19, none, .p (.mv (.t 7))⟩,
  ⟨some 20, none, .callv (.t 18) [(.t 19)]⟩,
  ⟨some 21, none, .e (.bsl 2 [(.t 20)])⟩,
  ⟨some 22, none, .e (.app 2 32 false (.t 17) (.t 21))⟩,
  ⟨some 5, none, .p (.mv (.t 22))⟩]
def mat_each_V_I_r6 : List AIns := [⟨some 23, none, .p (.bin .add (.t 13) (.c (.int .i64 1)))⟩,
  ⟨some 13, none, .p (.mv (.t 23))⟩]
def mat_each_V_I_l0 : ACode := .seq (.region mat_each_V_I_r3 false) (.seq (.cond (.t 14) (.skip) (.exit 0)) (.seq (.block 1 (.seq (.region mat_each_V_I_r4 false) (.region mat_each_V_I_r5 false))) (.region mat_each_V_I_r6 false)))
def mat_each_V_I_r7 : List AIns := [⟨some 24, none, .p (.mv (.t 5))⟩,
  ⟨some 4, none, .p (.mv (.t 24))⟩]
def mat_each_V_I_c : ACode := .seq (.region mat_each_V_I_r0 false) (.seq (.region mat_each_V_I_r1 false) (.seq (.seq (.region mat_each_V_I_r2 false) (.block 0 (.loop mat_each_V_I_l0))) (.seq (.region mat_each_V_I_r7 false) (.ret))))
theorem mat_each_V_I_ok : fchk Pr (fun _ _ => false) Try.f89 = some (mat_each_V_I_c, [.tmp 4], 25) := by kernel_rfl
theorem mat_each_V_I_fn : Pr.funcs[F_mat_each_V_I]? = some Try.f89 := Try.func89
/-! mat.Gram$1$1 -/
def mat_Gram_1_1_r0 : List AIns := [⟨some 3, none, .e (.box 2 (.c (.agg [.bool false, .nil])))⟩]
def mat_Gram_1_1_r1 : List AIns := [⟨some 4, none, .p (.load none (.t 1))⟩,
  ⟨some 5, none, .p (.mv (.t 0))⟩,
  ⟨some 6, none, .call F_mat_dot [(.t 4), (.t 5)]⟩,
  ⟨none, none, .e (.store 2 (.t 3) (.t 6))⟩]
def mat_Gram_1_1_c : ACode := .seq (.region mat_Gram_1_1_r0 false) (.seq (.region mat_Gram_1_1_r1 false) (.ret))
theorem mat_Gram_1_1_ok : fchk Pr (fun _ _ => false) Try.f90 = some (mat_Gram_1_1_c, [.cell 3 (some 2)], 7) := by kernel_rfl
theorem mat_Gram_1_1_fn : Pr.funcs[F_mat_Gram_1_1]? = some Try.f90 := Try.func90
/-! zint.made -/
def zint_made_r0 : List AIns := [⟨some 4, none, .e (.box 2 (.c (.agg [.bool false, .nil])))⟩]
def zint_made_r1 : List AIns := [⟨some 7, none, .p (.mv (.t 1))⟩,
  ⟨some 8, none, .p (.len (.t 7))⟩,
  ⟨some 5, none, .p (.mv (.t 8))⟩]
def zint_made_r2 : List AIns := [⟨some 9, none, .p (.mv (.t 5))⟩,
  ⟨some 10, none, .p (.bin .gtr (.t 9) (.c (.int .i64 0)))⟩,
  ⟨some 11, none, .p (.mv (.t 10))⟩,
  ⟨some 12, some (11, true), .p (.mv (.t 1))⟩,
  ⟨some 13, some (11, true), .p (.mv (.t 5))⟩,
  ⟨some 14, some (11, true), .p (.bin .sub (.t 13) (.c (.int .i64 1)))⟩,
  ⟨some 15, some (11, true), .p (.idxp 1 (.t 12) (.t 14))⟩,
  ⟨some 16, some (11, true), .p (.load none (.t 15))⟩,
  ⟨some 17, some (11, true), .p (.bin .eql (.t 16) (.c (.int .u32 0)))⟩,
  ⟨some 18, none, .p (.pick (.t 11) (.t 17) (.c (.bool false)))⟩]
def zint_made_r3 : List AIns := [⟨some 19, none, .p (.mv (.t 5))⟩,
  ⟨some 20, none, .p (.bin .sub (.t 19) (.c (.int .i64 1)))⟩,
  ⟨some 5, none, .p (.mv (.t 20))⟩]
def zint_made_l0 : ACode := .seq (.seq (.region zint_made_r2 false) (.cond (.t 18) (.skip) (.exit 0))) (.block 1 (.region zint_made_r3 false))
def zint_made_r4 : List AIns := [⟨some 21, none, .p (.mv (.t 5))⟩,
  ⟨some 22, none, .p (.bin .eql (.t 21) (.c (.int .i64 0)))⟩]
def zint_made_r5 : List AIns := [⟨some 23, none, .p (.bld [.bool false, .nil] [])⟩,
  ⟨none, none, .e (.store 2 (.t 4) (.t 23))⟩]
def zint_made_r6 : List AIns := [⟨some 24, none, .p (.mv (.t 5))⟩,
  ⟨some 25, none, .e (.mksl 1 4 (.int .u32 0) (.t 24) (.t 24))⟩,
  ⟨some 6, none, .p (.mv (.t 25))⟩]
def zint_made_r7 : List AIns := [⟨some 26, none, .p (.mv (.t 6))⟩,
  ⟨some 27, none, .p (.mv (.t 1))⟩,
  ⟨some 28, none, .e (.cpy 1 (.t 26) (.t 27))⟩]
def zint_made_r8 : List AIns := [⟨some 29, none, .p (.mv (.t 0))⟩,
  ⟨some 30, none, .p (.mv (.t 6))⟩,
  ⟨some 31, none, .p (.bld [.bool false, .nil] [(0, 1, (.t 29)), (1, 1, (.t 30))])⟩,
  ⟨none, none, .e (.store 2 (.t 4) (.t 31))⟩]
def zint_made_c : ACode := .seq (.region zint_made_r0 false) (.seq (.region zint_made_r1 false) (.seq (.block 0 (.loop zint_made_l0)) (.seq (.seq (.region zint_made_r4 false) (.cond (.t 22) (.seq (.region zint_made_r5 false) (.ret)) (.skip))) (.seq (.region zint_made_r6 false) (.seq (.region zint_made_r7 false) (.seq (.region zint_made_r8 false) (.ret)))))))
theorem zint_made_ok : fchk Pr (fun _ _ => false) Try.f91 = some (zint_made_c, [.cell 4 (some 2)], 32) := by kernel_rfl
theorem zint_made_fn : Pr.funcs[F_zint_made]? = some Try.f91 := Try.func91
/-! trammelref01.Norm -/
def ref01_Norm_r0 : List AIns := [⟨some 2, none, .p (.mv (.c (.nil)))⟩]
def ref01_Norm_r1 : List AIns := [⟨some 6, none, .p (.mv (.t 0))⟩,
  ⟨some 7, none, .p (.len (.t 6))⟩,
  ⟨some 3, none, .p (.mv (.t 7))⟩]
def ref01_Norm_r2 : List AIns := [⟨some 8, none, .p (.mv (.t 3))⟩,
  ⟨some 9, none, .p (.bin .gtr (.t 8) (.c (.int .i64 0)))⟩,
  ⟨some 10, none, .p (.mv (.t 9))⟩,
  ⟨some 11, some (10, true), .p (.mv (.t 0))⟩,
  ⟨some 12, some (10, true), .p (.mv (.t 3))⟩,
  ⟨some 13, some (10, true), .p (.bin .sub (.t 12) (.c (.int .i64 1)))⟩,
  ⟨some 14, some (10, true), .p (.idxp 1 (.t 11) (.t 13))⟩,
  ⟨some 15, some (10, true), .p (.load none (.t 14))⟩,
  ⟨some 16, some (10, true), .p (.bin .eql (.t 15) (.c (.int .u32 0)))⟩,
  ⟨some 17, none, .p (.pick (.t 10) (.t 16) (.c (.bool false)))⟩]
def ref01_Norm_r3 : List AIns := [⟨some 18, none, .p (.mv (.t 3))⟩,
  ⟨some 19, none, .p (.bin .sub (.t 18) (.c (.int .i64 1)))⟩,
  ⟨some 3, none, .p (.mv (.t 19))⟩]
def ref01_Norm_l0 : ACode := .seq (.seq (.region ref01_Norm_r2 false) (.cond (.t 17) (.skip) (.exit 0))) (.block 1 (.region ref01_Norm_r3 false))
def ref01_Norm_r4 : List AIns := [⟨some 4, none, .p (.mv (.c (.nil)))⟩]
def ref01_Norm_r5 : List AIns := [⟨some 5, none, .p (.mv (.c (.int .i64 0)))⟩]
def ref01_Norm_r6 : List AIns := [⟨some 20, none, .p (.mv (.t 5))⟩,
  ⟨some 21, none, .p (.mv (.t 3))⟩,
  ⟨some 22, none, .p (.bin .lss (.t 20) (.t 21))⟩]
def ref01_Norm_r7 : List AIns := [⟨some 25, none, .p (.mv (.t 4))⟩,
  ⟨some 26, none, .p (.mv (.t 0))⟩,
  ⟨some 27, none, .p (.mv (.t 5))⟩,
  ⟨some 28, none, .p (.idxp 1 (.t 26) (.t 27))⟩,
  ⟨some 29, none, .p (.load none (.t 28))⟩,
  ⟨some 30, none, .e (.bsl 1 [(.t 29)])⟩,
  ⟨some 31, none, .e (.app 1 4 false (.t 25) (.t 30))⟩,
  ⟨some 4, none, .p (.mv (.t 31))⟩]
def ref01_Norm_r8 : List AIns := [⟨some 23, none, .p (.mv (.t 5))⟩,
  ⟨some 24, none, .p (.bin .add (.t 23) (.c (.int .i64 1)))⟩,
  ⟨some 5, none, .p (.mv (.t 24))⟩]
def ref01_Norm_l1 : ACode := .seq (.seq (.region ref01_Norm_r6 false) (.cond (.t 22) (.skip) (.exit 2))) (.seq (.block 3 (.region ref01_Norm_r7 false)) (.region ref01_Norm_r8 false))
def ref01_Norm_r9 : List AIns := [⟨some 32, none, .p (.mv (.t 4))⟩,
  ⟨some 2, none, .p (.mv (.t 32))⟩]
def ref01_Norm_c : ACode := .seq (.region ref01_Norm_r0 false) (.seq (.region ref01_Norm_r1 false) (.seq (.block 0 (.loop ref01_Norm_l0)) (.seq (.region ref01_Norm_r4 false) (.seq (.seq (.region ref01_Norm_r5 false) (.block 2 (.loop ref01_Norm_l1))) (.seq (.region ref01_Norm_r9 false) (.ret))))))
theorem ref01_Norm_ok : fchk Pr (fun _ _ => false) Try.f92 = some (ref01_Norm_c, [.tmp 2], 33) := by kernel_rfl
theorem ref01_Norm_fn : Pr.funcs[F_ref01_Norm]? = some Try.f92 := Try.func92
/-! trammellaw04.spoil -/
def law04_spoil_r0 : List AIns := [⟨some 1, none, .e (.box 2 (.t 0))⟩]
def law04_spoil_r1 : List AIns := [⟨some 2, none, .p (.mv (.c (.int .i64 0)))⟩]
def law04_spoil_r2 : List AIns := [⟨some 4, none, .p (.mv (.t 2))⟩,
  ⟨some 5, none, .p (.fldp (.t 1) 1)⟩,
  ⟨some 6, none, .p (.load none (.t 5))⟩,
  ⟨some 7, none, .p (.len (.t 6))⟩,
  ⟨some 8, none, .p (.bin .lss (.t 4) (.t 7))⟩]
def law04_spoil_r3 : List AIns := [⟨some 11, none, .p (.fldp (.t 1) 1)⟩,
  ⟨some 12, none, .p (.load none (.t 11))⟩,
  ⟨some 13, none, .p (.mv (.t 2))⟩,
  ⟨some 14, none, .p (.fldp (.t 1) 1)⟩,
  ⟨some 15, none, .p (.load none (.t 14))⟩,
  ⟨some 16, none, .p (.mv (.t 2))⟩,
  ⟨some 17, none, .p (.idxp 1 (.t 15) (.t 16))⟩,
  ⟨some 18, none, .p (.load none (.t 17))⟩,
  ⟨some 19, none, .p (.bin .xor (.t 18) (.c (.int .u32 21845)))⟩,
  ⟨some 20, none, .p (.idxp 1 (.t 12) (.t 13))⟩,
  ⟨none, none, .e (.store 1 (.t 20) (.t 19))⟩]
def law04_spoil_r4 : List AIns := [⟨some 9, none, .p (.mv (.t 2))⟩,
  ⟨some 10, none, .p (.bin .add (.t 9) (.c (.int .i64 1)))⟩,
  ⟨some 2, none, .p (.mv (.t 10))⟩]
def law04_spoil_l0 : ACode := .seq (.seq (.region law04_spoil_r2 false) (.cond (.t 8) (.skip) (.exit 0))) (.seq (.block 1 (.region law04_spoil_r3 true)) (.region law04_spoil_r4 false))
def law04_spoil_r5 : List AIns := [⟨some 3, none, .p (.mv (.c (.int .i64 0)))⟩]
def law04_spoil_r6 : List AIns := [⟨some 21, none, .p (.mv (.t 3))⟩,
  ⟨some 22, none, .p (.bin .lss (.t 21) (.c (.int .i64 9)))⟩]
def law04_spoil_r7 : List AIns := [⟨some 25, none, .p (.fldp (.t 1) 1)⟩,
  ⟨some 26, none, .p (.load none (.t 25))⟩,
  ⟨some 27, none, .p (.mv (.t 3))⟩,
  ⟨some 28, none, .p (.bin .add (.c (.int .i64 900)) (.t 27))⟩,
  ⟨some 29, none, .p (.conv .u32 (.t 28))⟩,
  ⟨some 30, none, .e (.bsl 1 [(.t 29)])⟩,
  ⟨some 31, none, .e (.app 1 4 false (.t 26) (.t 30))⟩,
  ⟨some 32, none, .p (.fldp (.t 1) 1)⟩,
  ⟨none, none, .e (.store 1 (.t 32) (.t 31))⟩]
def law04_spoil_r8 : List AIns := [⟨some 23, none, .p (.mv (.t 3))⟩,
  ⟨some 24, none, .p (.bin .add (.t 23) (.c (.int .i64 1)))⟩,
  ⟨some 3, none, .p (.mv (.t 24))⟩]
def law04_spoil_l1 : ACode := .seq (.seq (.region law04_spoil_r6 false) (.cond (.t 22) (.skip) (.exit 2))) (.seq (.block 3 (.region law04_spoil_r7 false)) (.region law04_spoil_r8 false))
def law04_spoil_c : ACode := .seq (.region law04_spoil_r0 false) (.seq (.seq (.region law04_spoil_r1 false) (.block 0 (.loop law04_spoil_l0))) (.seq (.region law04_spoil_r5 false) (.block 2 (.loop law04_spoil_l1))))
theorem law04_spoil_ok : fchk Pr (fun _ _ => false) Try.f93 = some (law04_spoil_c, [], 33) := by kernel_rfl
theorem law04_spoil_fn : Pr.funcs[F_law04_spoil]? = some Try.f93 := Try.func93
/-! trammelref02.made -/
def ref02_made_r0 : List AIns := [⟨some 4, none, .e (.box 2 (.c (.agg [.bool false, .nil])))⟩]
def ref02_made_r1 : List AIns := [⟨some 6, none, .p (.mv (.t 1))⟩,
  ⟨some 7, none, .call F_ref01_Norm [(.t 6)]⟩,
  ⟨some 5, none, .p (.mv (.t 7))⟩]
def ref02_made_r2 : List AIns := [⟨some 8, none, .p (.mv (.t 0))⟩,
  ⟨some 9, none, .p (.mv (.t 8))⟩,
  ⟨some 10, some (9, true), .p (.mv (.t 5))⟩,
  ⟨some 11, some (9, true), .p (.len (.t 10))⟩,
  ⟨some 12, some (9, true), .p (.bin .gtr (.t 11) (.c (.int .i64 0)))⟩,
  ⟨some 13, none, .p (.pick (.t 9) (.t 12) (.c (.bool false)))⟩,
  ⟨some 14, none, .p (.mv (.t 5))⟩,
  ⟨some 15, none, .p (.bld [.bool false, .nil] [(0, 1, (.t 13)), (1, 1, (.t 14))])⟩,
  ⟨none, none, .e (.store 2 (.t 4) (.t 15))⟩]
def ref02_made_c : ACode := .seq (.region ref02_made_r0 false) (.seq (.region ref02_made_r1 false) (.seq (.region ref02_made_r2 false) (.ret)))
theorem ref02_made_ok : fchk Pr (fun _ _ => false) Try.f94 = some (ref02_made_c, [.cell 4 (some 2)], 16) := by kernel_rfl
theorem ref02_made_fn : Pr.funcs[F_ref02_made]? = some Try.f94 := Try.func94
/-! nat.Bits -/
def nat_Bits_r0 : List AIns := [⟨some 2, none, .p (.mv (.c (.int .i64 0)))⟩]
def nat_Bits_r1 : List AIns := [⟨some 3, none, .p (.mv (.t 0))⟩,
  ⟨some 4, none, .call F_nat_trim [(.t 3)]⟩,
  ⟨some 0, none, .p (.mv (.t 4))⟩]
def nat_Bits_r2 : List AIns := [⟨some 5, none, .p (.mv (.t 0))⟩,
  ⟨some 6, none, .p (.len (.t 5))⟩,
  ⟨some 7, none, .p (.bin .eql (.t 6) (.c (.int .i64 0)))⟩]
def nat_Bits_r3 : List AIns := [⟨some 2, none, .p (.mv (.c (.int .i64 0)))⟩]
def nat_Bits_r4 : List AIns := [⟨some 8, none, .p (.mv (.t 0))⟩,
  ⟨some 9, none, .p (.len (.t 8))⟩,
  ⟨some 10, none, .p (.bin .sub (.t 9) (.c (.int .i64 1)))⟩,
  ⟨some 11, none, .p (.bin .mul (.c (.int .i64 32)) (.t 10))⟩,
  ⟨some 12, none, .p (.mv (.t 0))⟩,
  ⟨some 13, none, .p (.mv (.t 0))⟩,
  ⟨some 14, none, .p (.len (.t 13))⟩,
  ⟨some 15, none, .p (.bin .sub (.t 14) (.c (.int .i64 1)))⟩,
  ⟨some 16, none, .p (.idxp 1 (.t 12) (.t 15))⟩,
  ⟨some 17, none, .p (.load none (.t 16))⟩,
  ⟨some 18, none, .call F_math_bits_Len32 [(.t 17)]⟩,
  ⟨some 19, none, .p (.bin .add (.t 11) (.t 18))⟩,
  ⟨some 2, none, .p (.mv (.t 19))⟩]
def nat_Bits_c : ACode := .seq (.region nat_Bits_r0 false) (.seq (.region nat_Bits_r1 false) (.seq (.seq (.region nat_Bits_r2 false) (.cond (.t 7) (.seq (.region nat_Bits_r3 false) (.ret)) (.skip))) (.seq (.region nat_Bits_r4 false) (.ret))))
theorem nat_Bits_ok : fchk Pr (fun _ _ => false) Try.f95 = some (nat_Bits_c, [.tmp 2], 20) := by kernel_rfl
theorem nat_Bits_fn : Pr.funcs[F_nat_Bits]? = some Try.f95 := Try.func95
/-! trammelref01.Bits -/
def ref01_Bits_r0 : List AIns := [⟨some 2, none, .p (.mv (.c (.int .i64 0)))⟩]
def ref01_Bits_r1 : List AIns := [⟨some 6, none, .p (.mv (.t 0))⟩,
  ⟨some 7, none, .p (.len (.t 6))⟩,
  ⟨some 8, none, .p (.bin .sub (.t 7) (.c (.int .i64 1)))⟩,
  ⟨some 3, none, .p (.mv (.t 8))⟩]
def ref01_Bits_r2 : List AIns := [⟨some 9, none, .p (.mv (.t 3))⟩,
  ⟨some 10, none, .p (.bin .geq (.t 9) (.c (.int .i64 0)))⟩]
def ref01_Bits_r3 : List AIns := [⟨some 13, none, .p (.mv (.t 0))⟩,
  ⟨some 14, none, .p (.mv (.t 3))⟩,
  ⟨some 15, none, .p (.idxp 1 (.t 13) (.t 14))⟩,
  ⟨some 16, none, .p (.load none (.t 15))⟩,
  ⟨some 17, none, .p (.bin .neq (.t 16) (.c (.int .u32 0)))⟩]
def ref01_Bits_r4 : List AIns := [⟨some 18, none, .p (.mv (.t 3))⟩,
  ⟨some 19, none, .p (.bin .mul (.c (.int .i64 32)) (.t 18))⟩,
  ⟨some 4, none, .p (.mv (.t 19))⟩]
def ref01_Bits_r5 : List AIns := [⟨some 20, none, .p (.mv (.t 0))⟩,
  ⟨some 21, none, .p (.mv (.t 3))⟩,
  ⟨some 22, none, .p (.idxp 1 (.t 20) (.t 21))⟩,
  ⟨some 23, none, .p (.load none (.t 22))⟩,
  ⟨some 5, none, .p (.mv (.t 23))⟩]
def ref01_Bits_r6 : List AIns := [⟨some 24, none, .p (.mv (.t 5))⟩,
  ⟨some 25, none, .p (.bin .gtr (.t 24) (.c (.int .u32 0)))⟩]
def ref01_Bits_r7 : List AIns := [⟨some 28, none, .p (.mv (.t 4))⟩,
  ⟨some 29, none, .p (.bin .add (.t 28) (.c (.int .i64 1)))⟩,
  ⟨some 4, none, .p (.mv (.t 29))⟩]
def ref01_Bits_r8 : List AIns := [⟨some 26, none, .p (.mv (.t 5))⟩,
  ⟨some 27, none, .p (.bin .quo (.t 26) (.c (.int .u32 2)))⟩,
  ⟨some 5, none, .p (.mv (.t 27))⟩]
def ref01_Bits_l1 : ACode := .seq (.seq (.region ref01_Bits_r6 false) (.cond (.t 25) (.skip) (.exit 2))) (.seq (.block 3 (.region ref01_Bits_r7 false)) (.region ref01_Bits_r8 false))
def ref01_Bits_r9 : List AIns := [⟨some 30, none, .p (.mv (.t 4))⟩,
  ⟨some 2, none, .p (.mv (.t 30))⟩]
def ref01_Bits_r10 : List AIns := [⟨some 11, none, .p (.mv (.t 3))⟩,
  ⟨some 12, none, .p (.bin .sub (.t 11) (.c (.int .i64 1)))⟩,
  ⟨some 3, none, .p (.mv (.t 12))⟩]
def ref01_Bits_l0 : ACode := .seq (.seq (.region ref01_Bits_r2 false) (.cond (.t 10) (.skip) (.exit 0))) (.seq (.block 1 (.seq (.region ref01_Bits_r3 false) (.cond (.t 17) (.seq (.region ref01_Bits_r4 false) (.seq (.seq (.region ref01_Bits_r5 false) (.block 2 (.loop ref01_Bits_l1))) (.seq (.region ref01_Bits_r9 false) (.ret)))) (.skip)))) (.region ref01_Bits_r10 false))
def ref01_Bits_r11 : List AIns := [⟨some 2, none, .p (.mv (.c (.int .i64 0)))⟩]
def ref01_Bits_c : ACode := .seq (.region ref01_Bits_r0 false) (.seq (.seq (.region ref01_Bits_r1 false) (.block 0 (.loop ref01_Bits_l0))) (.seq (.region ref01_Bits_r11 false) (.ret)))
theorem ref01_Bits_ok : fchk Pr (fun _ _ => false) Try.f96 = some (ref01_Bits_c, [.tmp 2], 31) := by kernel_rfl
theorem ref01_Bits_fn : Pr.funcs[F_ref01_Bits]? = some Try.f96 := Try.func96
/-! nat.Cmp -/
def nat_Cmp_r0 : List AIns := [⟨some 4, none, .p (.mv (.c (.int .i64 0)))⟩]
def nat_Cmp_r1 : List AIns := [⟨some 6, none, .p (.mv (.t 0))⟩,
  ⟨some 7, none, .call F_nat_trim [(.t 6)]⟩,
  ⟨some 8, none, .p (.mv (.t 1))⟩,
  ⟨some 9, none, .call F_nat_trim [(.t 8)]⟩,
  ⟨some 0, none, .p (.mv (.t 7))⟩,
  ⟨some 1, none, .p (.mv (.t 9))⟩]
def nat_Cmp_r2 : List AIns := [⟨some 10, none, .p (.mv (.t 0))⟩,
  ⟨some 11, none, .p (.len (.t 10))⟩,
  ⟨some 12, none, .p (.mv (.t 1))⟩,
  ⟨some 13, none, .p (.len (.t 12))⟩,
  ⟨some 14, none, .p (.bin .neq (.t 11) (.t 13))⟩]
def nat_Cmp_r3 : List AIns := [⟨some 15, none, .p (.mv (.t 0))⟩,
  ⟨some 16, none, .p (.len (.t 15))⟩,
  ⟨some 17, none, .p (.mv (.t 1))⟩,
  ⟨some 18, none, .p (.len (.t 17))⟩,
  ⟨some 19, none, .p (.bin .lss (.t 16) (.t 18))⟩]
def nat_Cmp_r4 : List AIns := [⟨some 4, none, .p (.mv (.c (.int .i64 (-1))))⟩]
def nat_Cmp_r5 : List AIns := [⟨some 4, none, .p (.mv (.c (.int .i64 1)))⟩]
def nat_Cmp_r6 : List AIns := [⟨some 20, none, .p (.mv (.t 0))⟩,
  ⟨some 21, none, .p (.len (.t 20))⟩,
  ⟨some 22, none, .p (.bin .sub (.t 21) (.c (.int .i64 1)))⟩,
  ⟨some 5, none, .p (.mv (.t 22))⟩]
def nat_Cmp_r7 : List AIns := [⟨some 23, none, .p (.mv (.t 5))⟩,
  ⟨some 24, none, .p (.bin .geq (.t 23) (.c (.int .i64 0)))⟩]
def nat_Cmp_r8 : List AIns := [⟨some 27, none, .p (.mv (.t 0))⟩,
  ⟨some 28, none, .p (.mv (.t 5))⟩,
  ⟨some 29, none, .p (.idxp 1 (.t 27) (.t 28))⟩,
  ⟨some 30, none, .p (.load none (.t 29))⟩,
  ⟨some 31, none, .p (.mv (.t 1))⟩,
  ⟨some 32, none, .p (.mv (.t 5))⟩,
  ⟨some 33, none, .p (.idxp 1 (.t 31) (.t 32))⟩,
  ⟨some 34, none, .p (.load none (.t 33))⟩,
  ⟨some 35, none, .p (.bin .neq (.t 30) (.t 34))⟩]
def nat_Cmp_r9 : List AIns := [⟨some 36, none, .p (.mv (.t 0))⟩,
  ⟨some 37, none, .p (.mv (.t 5))⟩,
  ⟨some 38, none, .p (.idxp 1 (.t 36) (.t 37))⟩,
  ⟨some 39, none, .p (.load none (.t 38))⟩,
  ⟨some 40, none, .p (.mv (.t 1))⟩,
  ⟨some 41, none, .p (.mv (.t 5))⟩,
  ⟨some 42, none, .p (.idxp 1 (.t 40) (.t 41))⟩,
  ⟨some 43, none, .p (.load none (.t 42))⟩,
  ⟨some 44, none, .p (.bin .lss (.t 39) (.t 43))⟩]
def nat_Cmp_r10 : List AIns := [⟨some 4, none, .p (.mv (.c (.int .i64 (-1))))⟩]
def nat_Cmp_r11 : List AIns := [⟨some 4, none, .p (.mv (.c (.int .i64 1)))⟩]
def nat_Cmp_r12 : List AIns := [⟨some 25, none, .p (.mv (.t 5))⟩,
  ⟨some 26, none, .p (.bin .sub (.t 25) (.c (.int .i64 1)))⟩,
  ⟨some 5, none, .p (.mv (.t 26))⟩]
def nat_Cmp_l0 : ACode := .seq (.seq (.region nat_Cmp_r7 false) (.cond (.t 24) (.skip) (.exit 0))) (.seq (.block 1 (.seq (.region nat_Cmp_r8 true) (.cond (.t 35) (.seq (.seq (.region nat_Cmp_r9 true) (.cond (.t 44) (.seq (.region nat_Cmp_r10 false) (.ret)) (.skip))) (.seq (.region nat_Cmp_r11 false) (.ret))) (.skip)))) (.region nat_Cmp_r12 false))
def nat_Cmp_r13 : List AIns := [⟨some 4, none, .p (.mv (.c (.int .i64 0)))⟩]
def nat_Cmp_c : ACode := .seq (.region nat_Cmp_r0 false) (.seq (.region nat_Cmp_r1 false) (.seq (.seq (.region nat_Cmp_r2 false) (.cond (.t 14) (.seq (.seq (.region nat_Cmp_r3 false) (.cond (.t 19) (.seq (.region nat_Cmp_r4 false) (.ret)) (.skip))) (.seq (.region nat_Cmp_r5 false) (.ret))) (.skip))) (.seq (.seq (.region nat_Cmp_r6 false) (.block 0 (.loop nat_Cmp_l0))) (.seq (.region nat_Cmp_r13 false) (.ret)))))
theorem nat_Cmp_ok : fchk Pr (fun _ _ => false) Try.f97 = some (nat_Cmp_c, [.tmp 4], 45) := by kernel_rfl
theorem nat_Cmp_fn : Pr.funcs[F_nat_Cmp]? = some Try.f97 := Try.func97
/-! trammelref02.Sub -/
def ref02_Sub_r0 : List AIns := [⟨some 2, none, .e (.box 2 (.t 0))⟩,
  ⟨some 3, none, .e (.box 2 (.t 1))⟩,
  ⟨some 4, none, .e (.box 2 (.c (.agg [.bool false, .nil])))⟩]
def ref02_Sub_r1 : List AIns := [⟨some 5, none, .p (.load (some 2) (.t 2))⟩,
  ⟨some 6, none, .p (.load (some 2) (.t 3))⟩,
  ⟨some 7, none, .call F_ref02_Neg [(.t 6)]⟩,
  ⟨some 8, none, .call F_ref02_Add [(.t 5), (.t 7)]⟩,
  ⟨none, none, .e (.store 2 (.t 4) (.t 8))⟩]
def ref02_Sub_c : ACode := .seq (.region ref02_Sub_r0 false) (.seq (.region ref02_Sub_r1 true) (.ret))
theorem ref02_Sub_ok : fchk Pr (fun _ _ => false) Try.f98 = some (ref02_Sub_c, [.cell 4 (some 2)], 9) := by kernel_rfl
theorem ref02_Sub_fn : Pr.funcs[F_ref02_Sub]? = some Try.f98 := Try.func98
/-! trammelref01.Add -/
def ref01_Add_r0 : List AIns := [⟨some 4, none, .p (.mv (.c (.nil)))⟩]
def ref01_Add_r1 : List AIns := [⟨some 5, none, .p (.mv (.c (.nil)))⟩]
def ref01_Add_r2 : List AIns := [⟨some 6, none, .p (.mv (.c (.int .u64 0)))⟩]
def ref01_Add_r3 : List AIns := [⟨some 7, none, .p (.mv (.c (.int .i64 0)))⟩]
def ref01_Add_r4 : List AIns := [⟨some 8, none, .p (.mv (.t 7))⟩,
  ⟨some 9, none, .p (.mv (.t 0))⟩,
  ⟨some 10, none, .p (.len (.t 9))⟩,
  ⟨some 11, none, .p (.mv (.t 1))⟩,
  ⟨some 12, none, .p (.len (.t 11))⟩,
  ⟨some 13, none, .call F_ref01_most [(.t 10), (.t 12)]⟩,
  ⟨some 14, none, .p (.bin .lss (.t 8) (.t 13))⟩]
def ref01_Add_r5 : List AIns := [⟨some 17, none, .p (.mv (.t 6))⟩,
  ⟨some 18, none, .p (.mv (.t 0))⟩,
  ⟨some 19, none, .p (.mv (.t 7))⟩,
  ⟨some 20, none, .call F_ref01_limb [(.t 18), (.t 19)]⟩,
  ⟨some 21, none, .p (.bin .add (.t 17) (.t 20))⟩,
  ⟨some 22, none, .p (.mv (.t 1))⟩,
  ⟨some 23, none, .p (.mv (.t 7))⟩,
  ⟨some 24, none, .call F_ref01_limb [(.t 22), (.t 23)]⟩,
  ⟨some 25, none, .p (.bin .add (.t 21) (.t 24))⟩,
  ⟨some 6, none, .p (.mv (.t 25))⟩]
def ref01_Add_r6 : List AIns := [⟨some 26, none, .p (.mv (.t 5))⟩,
  ⟨some 27, none, .p (.mv (.t 6))⟩,
  ⟨some 28, none, .p (.bin .rem (.t 27) (.c (.int .u64 4294967296)))⟩,
  ⟨some 29, none, .p (.conv .u32 (.t 28))⟩,
  ⟨some 30, none, .e (.bsl 1 [(.t 29)])⟩,
  ⟨some 31, none, .e (.app 1 4 false (.t 26) (.t 30))⟩,
  ⟨some 5, none, .p (.mv (.t 31))⟩]
def ref01_Add_r7 : List AIns := [⟨some 32, none, .p (.mv (.t 6))⟩,
  ⟨some 33, none, .p (.bin .quo (.t 32) (.c (.int .u64 4294967296)))⟩,
  ⟨some 6, none, .p (.mv (.t 33))⟩]
def ref01_Add_r8 : List AIns := [⟨some 15, none, .p (.mv (.t 7))⟩,
  ⟨some 16, none, .p (.bin .add (.t 15) (.c (.int .i64 1)))⟩,
  ⟨some 7, none, .p (.mv (.t 16))⟩]
def ref01_Add_l0 : ACode := .seq (.seq (.region ref01_Add_r4 false) (.cond (.t 14) (.skip) (.exit 0))) (.seq (.block 1 (.seq (.region ref01_Add_r5 false) (.seq (.region ref01_Add_r6 false) (.region ref01_Add_r7 false)))) (.region ref01_Add_r8 false))
def ref01_Add_r9 : List AIns := [⟨some 34, none, .p (.mv (.t 5))⟩,
  ⟨some 35, none, .p (.mv (.t 6))⟩,
  ⟨some 36, none, .p (.conv .u32 (.t 35))⟩,
  ⟨some 37, none, .e (.bsl 1 [(.t 36)])⟩,
  ⟨some 38, none, .e (.app 1 4 false (.t 34) (.t 37))⟩,
  ⟨some 5, none, .p (.mv (.t 38))⟩]
def ref01_Add_r10 : List AIns := [⟨some 39, none, .p (.mv (.t 5))⟩,
  ⟨some 40, none, .call F_ref01_Norm [(.t 39)]⟩,
  ⟨some 4, none, .p (.mv (.t 40))⟩]
def ref01_Add_c : ACode := .seq (.region ref01_Add_r0 false) (.seq (.region ref01_Add_r1 false) (.seq (.region ref01_Add_r2 false) (.seq (.seq (.region ref01_Add_r3 false) (.block 0 (.loop ref01_Add_l0))) (.seq (.region ref01_Add_r9 false) (.seq (.region ref01_Add_r10 false) (.ret))))))
theorem ref01_Add_ok : fchk Pr (fun _ _ => false) Try.f99 = some (ref01_Add_c, [.tmp 4], 41) := by kernel_rfl
theorem ref01_Add_fn : Pr.funcs[F_ref01_Add]? = some Try.f99 := Try.func99
/-! trammelref01.Cmp -/
def ref01_Cmp_r0 : List AIns := [⟨some 4, none, .p (.mv (.c (.int .i64 0)))⟩]
def ref01_Cmp_r1 : List AIns := [⟨some 8, none, .p (.mv (.t 0))⟩,
  ⟨some 9, none, .p (.len (.t 8))⟩,
  ⟨some 10, none, .p (.mv (.t 1))⟩,
  ⟨some 11, none, .p (.len (.t 10))⟩,
  ⟨some 12, none, .call F_ref01_most [(.t 9), (.t 11)]⟩,
  ⟨some 13, none, .p (.bin .sub (.t 12) (.c (.int .i64 1)))⟩,
  ⟨some 5, none, .p (.mv (.t 13))⟩]
def ref01_Cmp_r2 : List AIns := [⟨some 14, none, .p (.mv (.t 5))⟩,
  ⟨some 15, none, .p (.bin .geq (.t 14) (.c (.int .i64 0)))⟩]
def ref01_Cmp_r3 : List AIns := [⟨some 18, none, .p (.mv (.t 0))⟩,
  ⟨some 19, none, .p (.mv (.t 5))⟩,
  ⟨some 20, none, .call F_ref01_limb [(.t 18), (.t 19)]⟩,
  ⟨some 6, none, .p (.mv (.t 20))⟩]
def ref01_Cmp_r4 : List AIns := [⟨some 21, none, .p (.mv (.t 1))⟩,
  ⟨some 22, none, .p (.mv (.t 5))⟩,
  ⟨some 23, none, .call F_ref01_limb [(.t 21), (.t 22)]⟩,
  ⟨some 7, none, .p (.mv (.t 23))⟩]
def ref01_Cmp_r5 : List AIns := [⟨some 24, none, .p (.mv (.t 6))⟩,
  ⟨some 25, none, .p (.mv (.t 7))⟩,
  ⟨some 26, none, .p (.bin .lss (.t 24) (.t 25))⟩]
def ref01_Cmp_r6 : List AIns := [⟨some 4, none, .p (.mv (.c (.int .i64 (-1))))⟩]
def ref01_Cmp_r7 : List AIns := [⟨some 27, none, .p (.mv (.t 6))⟩,
  ⟨some 28, none, .p (.mv (.t 7))⟩,
  ⟨some 29, none, .p (.bin .gtr (.t 27) (.t 28))⟩]
def ref01_Cmp_r8 : List AIns := [⟨some 4, none, .p (.mv (.c (.int .i64 1)))⟩]
def ref01_Cmp_r9 : List AIns := [⟨some 16, none, .p (.mv (.t 5))⟩,
  ⟨some 17, none, .p (.bin .sub (.t 16) (.c (.int .i64 1)))⟩,
  ⟨some 5, none, .p (.mv (.t 17))⟩]
def ref01_Cmp_l0 : ACode := .seq (.seq (.region ref01_Cmp_r2 false) (.cond (.t 15) (.skip) (.exit 0))) (.seq (.block 1 (.seq (.region ref01_Cmp_r3 false) (.seq (.region ref01_Cmp_r4 false) (.seq (.seq (.region ref01_Cmp_r5 false) (.cond (.t 26) (.seq (.region ref01_Cmp_r6 false) (.ret)) (.skip))) (.seq (.region ref01_Cmp_r7 false) (.cond (.t 29) (.seq (.region ref01_Cmp_r8 false) (.ret)) (.skip))))))) (.region ref01_Cmp_r9 false))
def ref01_Cmp_r10 : List AIns := [⟨some 4, none, .p (.mv (.c (.int .i64 0)))⟩]
def ref01_Cmp_c : ACode := .seq (.region ref01_Cmp_r0 false) (.seq (.seq (.region ref01_Cmp_r1 false) (.block 0 (.loop ref01_Cmp_l0))) (.seq (.region ref01_Cmp_r10 false) (.ret)))
theorem ref01_Cmp_ok : fchk Pr (fun _ _ => false) Try.f100 = some (ref01_Cmp_c, [.tmp 4], 30) := by kernel_rfl
theorem ref01_Cmp_fn : Pr.funcs[F_ref01_Cmp]? = some Try.f100 := Try.func100
/-! trammelref01.Sub -/
def ref01_Sub_r0 : List AIns := [⟨some 4, none, .p (.mv (.c (.nil)))⟩,
  ⟨some 5, none, .p (.mv (.c (.int .i64 0)))⟩]
def ref01_Sub_r1 : List AIns := [⟨some 6, none, .p (.mv (.t 0))⟩,
  ⟨some 7, none, .p (.mv (.t 1))⟩,
  ⟨some 8, none, .call F_ref01_Cmp [(.t 6), (.t 7)]⟩,
  ⟨some 9, none, .p (.bin .lss (.t 8) (.c (.int .i64 0)))⟩]
def ref01_Sub_r2 : List AIns := [⟨some 4, none, .p (.mv (.c (.nil)))⟩,
  ⟨some 5, none, .p (.mv (.c (.int .i64 10)))⟩]
def ref01_Sub_r3 : List AIns := [⟨some 10, none, .p (.mv (.t 0))⟩,
  ⟨some 11, none, .p (.mv (.t 1))⟩,
  ⟨some 12, none, .call F_ref01_less [(.t 10), (.t 11)]⟩,
  ⟨some 4, none, .p (.mv (.t 12))⟩,
  ⟨some 5, none, .p (.mv (.c (.int .i64 0)))⟩]
def ref01_Sub_c : ACode := .seq (.region ref01_Sub_r0 false) (.seq (.seq (.region ref01_Sub_r1 false) (.cond (.t 9) (.seq (.region ref01_Sub_r2 false) (.ret)) (.skip))) (.seq (.region ref01_Sub_r3 false) (.ret)))
theorem ref01_Sub_ok : fchk Pr (fun _ _ => false) Try.f101 = some (ref01_Sub_c, [.tmp 4, .tmp 5], 13) := by kernel_rfl
theorem ref01_Sub_fn : Pr.funcs[F_ref01_Sub]? = some Try.f101 := Try.func101
/-! trammelref01.Mul -/
def ref01_Mul_r0 : List AIns := [⟨some 4, none, .p (.mv (.c (.nil)))⟩]
def ref01_Mul_r1 : List AIns := [⟨some 9, none, .p (.mv (.t 0))⟩,
  ⟨some 10, none, .p (.len (.t 9))⟩,
  ⟨some 11, none, .p (.mv (.t 1))⟩,
  ⟨some 12, none, .p (.len (.t 11))⟩,
  ⟨some 13, none, .p (.bin .add (.t 10) (.t 12))⟩,
  ⟨some 14, none, .e (.mksl 1 4 (.int .u32 0) (.t 13) (.t 13))⟩,
  ⟨some 5, none, .p (.mv (.t 14))⟩]
def ref01_Mul_r2 : List AIns := [⟨some 6, none, .p (.mv (.c (.int .i64 0)))⟩]
def ref01_Mul_r3 : List AIns := [⟨some 15, none, .p (.mv (.t 6))⟩,
  ⟨some 16, none, .p (.mv (.t 0))⟩,
  ⟨some 17, none, .p (.len (.t 16))⟩,
  ⟨some 18, none, .p (.bin .lss (.t 15) (.t 17))⟩]
def ref01_Mul_r4 : List AIns := [⟨some 7, none, .p (.mv (.c (.int .u64 0)))⟩]
def ref01_Mul_r5 : List AIns := [⟨some 8, none, .p (.mv (.c (.int .i64 0)))⟩]
def ref01_Mul_r6 : List AIns := [⟨some 21, none, .p (.mv (.t 8))⟩,
  ⟨some 22, none, .p (.mv (.t 1))⟩,
  ⟨some 23, none, .p (.len (.t 22))⟩,
  ⟨some 24, none, .p (.bin .lss (.t 21) (.t 23))⟩]
def ref01_Mul_r7 : List AIns := [⟨some 27, none, .p (.mv (.t 7))⟩,
  ⟨some 28, none, .p (.mv (.t 5))⟩,
  ⟨some 29, none, .p (.mv (.t 6))⟩,
  ⟨some 30, none, .p (.mv (.t 8))⟩,
  ⟨some 31, none, .p (.bin .add (.t 29) (.t 30))⟩,
  ⟨some 32, none, .p (.idxp 1 (.t 28) (.t 31))⟩,
  ⟨some 33, none, .p (.load none (.t 32))⟩,
  ⟨some 34, none, .p (.conv .u64 (.t 33))⟩,
  ⟨some 35, none, .p (.bin .add (.t 27) (.t 34))⟩,
  ⟨some 36, none, .p (.mv (.t 0))⟩,
  ⟨some 37, none, .p (.mv (.t 6))⟩,
  ⟨some 38, none, .p (.idxp 1 (.t 36) (.t 37))⟩,
  ⟨some 39, none, .p (.load none (.t 38))⟩,
  ⟨some 40, none, .p (.conv .u64 (.t 39))⟩,
  ⟨some 41, none, .p (.mv (.t 1))⟩,
  ⟨some 42, none, .p (.mv (.t 8))⟩,
  ⟨some 43, none, .p (.idxp 1 (.t 41) (.t 42))⟩,
  ⟨some 44, none, .p (.load none (.t 43))⟩,
  ⟨some 45, none, .p (.conv .u64 (.t 44))⟩,
  ⟨some 46, none, .p (.bin .mul (.t 40) (.t 45))⟩,
  ⟨some 47, none, .p (.bin .add (.t 35) (.t 46))⟩,
  ⟨some 7, none, .p (.mv (.t 47))⟩]
def ref01_Mul_r8 : List AIns := [⟨some 48, none, .p (.mv (.t 5))⟩,
  ⟨some 49, none, .p (.mv (.t 6))⟩,
  ⟨some 50, none, .p (.mv (.t 8))⟩,
  ⟨some 51, none, .p (.bin .add (.t 49) (.t 50))⟩,
  ⟨some 52, none, .p (.mv (.t 7))⟩,
  ⟨some 53, none, .p (.bin .rem (.t 52) (.c (.int .u64 4294967296)))⟩,
  ⟨some 54, none, .p (.conv .u32 (.t 53))⟩,
  ⟨some 55, none, .p (.idxp 1 (.t 48) (.t 51))⟩,
  ⟨none, none, .e (.store 1 (.t 55) (.t 54))⟩]
def ref01_Mul_r9 : List AIns := [⟨some 56, none, .p (.mv (.t 7))⟩,
  ⟨some 57, none, .p (.bin .quo (.t 56) (.c (.int .u64 4294967296)))⟩,
  ⟨some 7, none, .p (.mv (.t 57))⟩]
def ref01_Mul_r10 : List AIns := [⟨some 25, none, .p (.mv (.t 8))⟩,
  ⟨some 26, none, .p (.bin .add (.t 25) (.c (.int .i64 1)))⟩,
  ⟨some 8, none, .p (.mv (.t 26))⟩]
def ref01_Mul_l1 : ACode := .seq (.seq (.region ref01_Mul_r6 false) (.cond (.t 24) (.skip) (.exit 2))) (.seq (.block 3 (.seq (.region ref01_Mul_r7 true) (.seq (.region ref01_Mul_r8 false) (.region ref01_Mul_r9 false)))) (.region ref01_Mul_r10 false))
def ref01_Mul_r11 : List AIns := [⟨some 58, none, .p (.mv (.t 5))⟩,
  ⟨some 59, none, .p (.mv (.t 6))⟩,
  ⟨some 60, none, .p (.mv (.t 1))⟩,
  ⟨some 61, none, .p (.len (.t 60))⟩,
  ⟨some 62, none, .p (.bin .add (.t 59) (.t 61))⟩,
  ⟨some 63, none, .p (.mv (.t 7))⟩,
  ⟨some 64, none, .p (.conv .u32 (.t 63))⟩,
  ⟨some 65, none, .p (.idxp 1 (.t 58) (.t 62))⟩,
  ⟨none, none, .e (.store 1 (.t 65) (.t 64))⟩]
def ref01_Mul_r12 : List AIns := [⟨some 19, none, .p (.mv (.t 6))⟩,
  ⟨some 20, none, .p (.bin .add (.t 19) (.c (.int .i64 1)))⟩,
  ⟨some 6, none, .p (.mv (.t 20))⟩]
def ref01_Mul_l0 : ACode := .seq (.seq (.region ref01_Mul_r3 false) (.cond (.t 18) (.skip) (.exit 0))) (.seq (.block 1 (.seq (.region ref01_Mul_r4 false) (.seq (.seq (.region ref01_Mul_r5 false) (.block 2 (.loop ref01_Mul_l1))) (.region ref01_Mul_r11 false)))) (.region ref01_Mul_r12 false))
def ref01_Mul_r13 : List AIns := [⟨some 66, none, .p (.mv (.t 5))⟩,
  ⟨some 67, none, .call F_ref01_Norm [(.t 66)]⟩,
  ⟨some 4, none, .p (.mv (.t 67))⟩]
def ref01_Mul_c : ACode := .seq (.region ref01_Mul_r0 false) (.seq (.region ref01_Mul_r1 false) (.seq (.seq (.region ref01_Mul_r2 false) (.block 0 (.loop ref01_Mul_l0))) (.seq (.region ref01_Mul_r13 false) (.ret))))
theorem ref01_Mul_ok : fchk Pr (fun _ _ => false) Try.f102 = some (ref01_Mul_c, [.tmp 4], 68) := by kernel_rfl
theorem ref01_Mul_fn : Pr.funcs[F_ref01_Mul]? = some Try.f102 := Try.func102
/-! nat.Mul -/
def nat_Mul_r0 : List AIns := [⟨some 4, none, .p (.mv (.c (.nil)))⟩]
def nat_Mul_r1 : List AIns := [⟨some 9, none, .p (.mv (.t 0))⟩,
  ⟨some 10, none, .call F_nat_trim [(.t 9)]⟩,
  ⟨some 11, none, .p (.mv (.t 1))⟩,
  ⟨some 12, none, .call F_nat_trim [(.t 11)]⟩,
  ⟨some 0, none, .p (.mv (.t 10))⟩,
  ⟨some 1, none, .p (.mv (.t 12))⟩]
def nat_Mul_r2 : List AIns := [⟨some 13, none, .p (.mv (.t 0))⟩,
  ⟨some 14, none, .p (.len (.t 13))⟩,
  ⟨some 15, none, .p (.mv (.t 1))⟩,
  ⟨some 16, none, .p (.len (.t 15))⟩,
  ⟨some 17, none, .p (.bin .add (.t 14) (.t 16))⟩,
  ⟨some 18, none, .e (.mksl 1 4 (.int .u32 0) (.t 17) (.t 17))⟩,
  ⟨some 5, none, .p (.mv (.t 18))⟩]
def nat_Mul_r3 : List AIns := [⟨some 19, none, .p (.mv (.t 0))⟩,
  ⟨some 20, none, .p (.len (.t 19))⟩,
  ⟨some 21, none, .p (.mv (.c (.int .i64 0)))⟩]
def nat_Mul_r4 : List AIns := [⟨some 22, none, .p (.bin .lss (.t 21) (.t 20))⟩]
def nat_Mul_r5 : List AIns := [⟨some 23, none, .p (.mv (.t 21))⟩,
  ⟨some 6, none, .p (.mv (.t 23))⟩]
def nat_Mul_r6 : List AIns := [⟨some 7, none, .p (.mv (.c (.int .u64 0)))⟩]
def nat_Mul_r7 : List AIns := [⟨some 24, none, .p (.mv (.t 1))⟩,
  ⟨some 25, none, .p (.len (.t 24))⟩,
  ⟨some 26, none, .p (.mv (.c (.int .i64 0)))⟩]
def nat_Mul_r8 : List AIns := [⟨some 27, none, .p (.bin .lss (.t 26) (.t 25))⟩]
def nat_Mul_r9 : List AIns := [⟨some 28, none, .p (.mv (.t 26))⟩,
  ⟨some 8, none, .p (.mv (.t 28))⟩]
def nat_Mul_r10 : List AIns := [⟨some 29, none, .p (.mv (.t 7))⟩,
  ⟨some 30, none, .p (.mv (.t 0))⟩,
  ⟨some 31, none, .p (.mv (.t 6))⟩,
  ⟨some 32, none, .p (.idxp 1 (.t 30) (.t 31))⟩,
  ⟨some 33, none, .p (.load none (.t 32))⟩,
  ⟨some 34, none, .p (.conv .u64 (.t 33))⟩,
  ⟨some 35, none, .p (.mv (.t 1))⟩,
  ⟨some 36, none, .p (.mv (.t 8))⟩,
  ⟨some 37, none, .p (.idxp 1 (.t 35) (.t 36))⟩,
  ⟨some 38, none, .p (.load none (.t 37))⟩,
  ⟨some 39, none, .p (.conv .u64 (.t 38))⟩,
  ⟨some 40, none, .p (.bin .mul (.t 34) (.t 39))⟩,
  ⟨some 41, none, .p (.mv (.t 5))⟩,
  ⟨some 42, none, .p (.mv (.t 6))⟩,
  ⟨some 43, none, .p (.mv (.t 8))⟩,
  ⟨some 44, none, .p (.bin .add (.t 42) (.t 43))⟩,
  ⟨some 45, none, .p (.idxp 1 (.t 41) (.t 44))⟩,
  ⟨some 46, none, .p (.load none (.t 45))⟩,
  ⟨some 47, none, .p (.conv .u64 (.t 46))⟩,
  ⟨some 48, none, .p (.bin .add (.t 40) (.t 47))⟩,
  ⟨some 49, none, .p (.bin .add (.t 29) (.t 48))⟩,
  ⟨some 7, none, .p (.mv (.t 49))⟩]
def nat_Mul_r11 : List AIns := [⟨some 50, none, .p (.mv (.t 5))⟩,
  ⟨some 51, none, .p (.mv (.t 6))⟩,
  ⟨some 52, none, .p (.mv (.t 8))⟩,
  ⟨some 53, none, .p (.bin .add (.t 51) (.t 52))⟩,
  ⟨some 54, none, .p (.mv (.t 7))⟩,
  ⟨some 55, none, .p (.conv .u32 (.t 54))⟩,
  ⟨some 56, none, .p (.idxp 1 (.t 50) (.t 53))⟩,
  ⟨none, none, .e (.store 1 (.t 56) (.t 55))⟩]
def nat_Mul_r12 : List AIns := [⟨some 57, none, .p (.mv (.t 7))⟩,
  ⟨some 58, none, .p (.bin .shr (.t 57) (.c (.int .u64 32)))⟩,
  ⟨some 7, none, .p (.mv (.t 58))⟩]
def nat_Mul_r13 : List AIns := [⟨some 59, none, .p (.bin .add (.t 26) (.c (.int .i64 1)))⟩,
  ⟨some 26, none, .p (.mv (.t 59))⟩]
def nat_Mul_l1 : ACode := .seq (.region nat_Mul_r8 false) (.seq (.cond (.t 27) (.skip) (.exit 2)) (.seq (.block 3 (.seq (.region nat_Mul_r9 false) (.seq (.region nat_Mul_r10 true) (.seq (.region nat_Mul_r11 false) (.region nat_Mul_r12 false))))) (.region nat_Mul_r13 false)))
def nat_Mul_r14 : List AIns := [⟨some 60, none, .p (.mv (.t 5))⟩,
  ⟨some 61, none, .p (.mv (.t 6))⟩,
  ⟨some 62, none, .p (.mv (.t 1))⟩,
  ⟨some 63, none, .p (.len (.t 62))⟩,
  ⟨some 64, none, .p (.bin .add (.t 61) (.t 63))⟩,
  ⟨some 65, none, .p (.mv (.t 7))⟩,
  ⟨some 66, none, .p (.conv .u32 (.t 65))⟩,
  ⟨some 67, none, .p (.idxp 1 (.t 60) (.t 64))⟩,
  ⟨none, none, .e (.store 1 (.t 67) (.t 66))⟩]
def nat_Mul_r15 : List AIns := [⟨some 68, none, .p (.bin .add (.t 21) (.c (.int .i64 1)))⟩,
  ⟨some 21, none, .p (.mv (.t 68))⟩]
def nat_Mul_l0 : ACode := .seq (.region nat_Mul_r4 false) (.seq (.cond (.t 22) (.skip) (.exit 0)) (.seq (.block 1 (.seq (.region nat_Mul_r5 false) (.seq (.region nat_Mul_r6 false) (.seq (.seq (.region nat_Mul_r7 false) (.block 2 (.loop nat_Mul_l1))) (.region nat_Mul_r14 false))))) (.region nat_Mul_r15 false)))
def nat_Mul_r16 : List AIns := [⟨some 69, none, .p (.mv (.t 5))⟩,
  ⟨some 70, none, .call F_nat_trim [(.t 69)]⟩,
  ⟨some 4, none, .p (.mv (.t 70))⟩]
def nat_Mul_c : ACode := .seq (.region nat_Mul_r0 false) (.seq (.region nat_Mul_r1 false) (.seq (.region nat_Mul_r2 false) (.seq (.seq (.region nat_Mul_r3 false) (.block 0 (.loop nat_Mul_l0))) (.seq (.region nat_Mul_r16 false) (.ret)))))
theorem nat_Mul_ok : fchk Pr (fun _ _ => false) Try.f103 = some (nat_Mul_c, [.tmp 4], 71) := by kernel_rfl
theorem nat_Mul_fn : Pr.funcs[F_nat_Mul]? = some Try.f103 := Try.func103
/-! nat.Add -/
def nat_Add_r0 : List AIns := [⟨some 4, none, .p (.mv (.c (.nil)))⟩]
def nat_Add_r1 : List AIns := [⟨some 8, none, .p (.mv (.t 0))⟩,
  ⟨some 9, none, .p (.len (.t 8))⟩,
  ⟨some 10, none, .p (.mv (.t 1))⟩,
  ⟨some 11, none, .p (.len (.t 10))⟩,
  ⟨some 12, none, .p (.bin .lss (.t 9) (.t 11))⟩]
def nat_Add_r2 : List AIns := [⟨some 13, none, .p (.mv (.t 1))⟩,
  ⟨some 14, none, .p (.mv (.t 0))⟩,
  ⟨some 0, none, .p (.mv (.t 13))⟩,
  ⟨some 1, none, .p (.mv (.t 14))⟩]
def nat_Add_r3 : List AIns := [⟨some 15, none, .p (.mv (.t 0))⟩,
  ⟨some 16, none, .p (.len (.t 15))⟩,
  ⟨some 17, none, .p (.bin .add (.t 16) (.c (.int .i64 1)))⟩,
  ⟨some 18, none, .e (.mksl 1 4 (.int .u32 0) (.t 17) (.t 17))⟩,
  ⟨some 5, none, .p (.mv (.t 18))⟩]
def nat_Add_r4 : List AIns := [⟨some 6, none, .p (.mv (.c (.int .u64 0)))⟩]
def nat_Add_r5 : List AIns := [⟨some 19, none, .p (.mv (.t 0))⟩,
  ⟨some 20, none, .p (.len (.t 19))⟩,
  ⟨some 21, none, .p (.mv (.c (.int .i64 0)))⟩]
def nat_Add_r6 : List AIns := [⟨some 22, none, .p (.bin .lss (.t 21) (.t 20))⟩]
def nat_Add_r7 : List AIns := [⟨some 23, none, .p (.mv (.t 21))⟩,
  ⟨some 7, none, .p (.mv (.t 23))⟩]
def nat_Add_r8 : List AIns := [⟨some 24, none, .p (.mv (.t 6))⟩,
  ⟨some 25, none, .p (.mv (.t 0))⟩,
  ⟨some 26, none, .p (.mv (.t 7))⟩,
  ⟨some 27, none, .p (.idxp 1 (.t 25) (.t 26))⟩,
  ⟨some 28, none, .p (.load none (.t 27))⟩,
  ⟨some 29, none, .p (.conv .u64 (.t 28))⟩,
  ⟨some 30, none, .p (.bin .add (.t 24) (.t 29))⟩,
  ⟨some 6, none, .p (.mv (.t 30))⟩]
def nat_Add_r9 : List AIns := [⟨some 31, none, .p (.mv (.t 7))⟩,
  ⟨some 32, none, .p (.mv (.t 1))⟩,
  ⟨some 33, none, .p (.len (.t 32))⟩,
  ⟨some 34, none, .p (.bin .lss (.t 31) (.t 33))⟩]
def nat_Add_r10 : List AIns := [⟨some 35, none, .p (.mv (.t 6))⟩,
  ⟨some 36, none, .p (.mv (.t 1))⟩,
  ⟨some 37, none, .p (.mv (.t 7))⟩,
  ⟨some 38, none, .p (.idxp 1 (.t 36) (.t 37))⟩,
  ⟨some 39, none, .p (.load none (.t 38))⟩,
  ⟨some 40, none, .p (.conv .u64 (.t 39))⟩,
  ⟨some 41, none, .p (.bin .add (.t 35) (.t 40))⟩,
  ⟨some 6, none, .p (.mv (.t 41))⟩]
def nat_Add_r11 : List AIns := [⟨some 42, none, .p (.mv (.t 5))⟩,
  ⟨some 43, none, .p (.mv (.t 7))⟩,
  ⟨some 44, none, .p (.mv (.t 6))⟩,
  ⟨some 45, none, .p (.conv .u32 (.t 44))⟩,
  ⟨some 46, none, .p (.idxp 1 (.t 42) (.t 43))⟩,
  ⟨none, none, .e (.store 1 (.t 46) (.t 45))⟩]
def nat_Add_r12 : List AIns := [⟨some 47, none, .p (.mv (.t 6))⟩,
  ⟨some 48, none, .p (.bin .shr (.t 47) (.c (.int .u64 32)))⟩,
  ⟨some 6, none, .p (.mv (.t 48))⟩]
def nat_Add_r13 : List AIns := [⟨some 49, none, .p (.bin .add (.t 21) (.c (.int .i64 1)))⟩,
  ⟨some 21, none, .p (.mv (.t 49))⟩]
def nat_Add_l0 : ACode := .seq (.region nat_Add_r6 false) (.seq (.cond (.t 22) (.skip) (.exit 0)) (.seq (.block 1 (.seq (.region nat_Add_r7 false) (.seq (.region nat_Add_r8 false) (.seq (.seq (.region nat_Add_r9 false) (.cond (.t 34) (.region nat_Add_r10 false) (.skip))) (.seq (.region nat_Add_r11 false) (.region nat_Add_r12 false)))))) (.region nat_Add_r13 false)))
def nat_Add_r14 : List AIns := [⟨some 50, none, .p (.mv (.t 5))⟩,
  ⟨some 51, none, .p (.mv (.t 0))⟩,
  ⟨some 52, none, .p (.len (.t 51))⟩,
  ⟨some 53, none, .p (.mv (.t 6))⟩,
  ⟨some 54, none, .p (.conv .u32 (.t 53))⟩,
  ⟨some 55, none, .p (.idxp 1 (.t 50) (.t 52))⟩,
  ⟨none, none, .e (.store 1 (.t 55) (.t 54))⟩]
def nat_Add_r15 : List AIns := [⟨some 56, none, .p (.mv (.t 5))⟩,
  ⟨some 57, none, .call F_nat_trim [(.t 56)]⟩,
  ⟨some 4, none, .p (.mv (.t 57))⟩]
def nat_Add_c : ACode := .seq (.region nat_Add_r0 false) (.seq (.seq (.region nat_Add_r1 false) (.cond (.t 12) (.region nat_Add_r2 false) (.skip))) (.seq (.region nat_Add_r3 false) (.seq (.region nat_Add_r4 false) (.seq (.seq (.region nat_Add_r5 false) (.block 0 (.loop nat_Add_l0))) (.seq (.region nat_Add_r14 false) (.seq (.region nat_Add_r15 false) (.ret)))))))
theorem nat_Add_ok : fchk Pr (fun _ _ => false) Try.f104 = some (nat_Add_c, [.tmp 4], 58) := by kernel_rfl
theorem nat_Add_fn : Pr.funcs[F_nat_Add]? = some Try.f104 := Try.func104
/-! nat.Sub -/
def nat_Sub_r0 : List AIns := [⟨some 4, none, .p (.mv (.c (.nil)))⟩,
  ⟨some 5, none, .p (.mv (.c (.int .i64 0)))⟩]
def nat_Sub_r1 : List AIns := [⟨some 6, none, .p (.mv (.t 0))⟩,
  ⟨some 7, none, .p (.mv (.t 1))⟩,
  ⟨some 8, none, .call F_nat_Cmp [(.t 6), (.t 7)]⟩,
  ⟨some 9, none, .p (.bin .lss (.t 8) (.c (.int .i64 0)))⟩]
def nat_Sub_r2 : List AIns := [⟨some 4, none, .p (.mv (.c (.nil)))⟩,
  ⟨some 5, none, .p (.mv (.c (.int .i64 10)))⟩]
def nat_Sub_r3 : List AIns := [⟨some 10, none, .p (.mv (.t 0))⟩,
  ⟨some 11, none, .call F_nat_trim [(.t 10)]⟩,
  ⟨some 12, none, .p (.mv (.t 1))⟩,
  ⟨some 13, none, .call F_nat_trim [(.t 12)]⟩,
  ⟨some 14, none, .call F_nat_less [(.t 11), (.t 13)]⟩,
  ⟨some 4, none, .p (.mv (.t 14))⟩,
  ⟨some 5, none, .p (.mv (.c (.int .i64 0)))⟩]
def nat_Sub_c : ACode := .seq (.region nat_Sub_r0 false) (.seq (.seq (.region nat_Sub_r1 false) (.cond (.t 9) (.seq (.region nat_Sub_r2 false) (.ret)) (.skip))) (.seq (.region nat_Sub_r3 false) (.ret)))
theorem nat_Sub_ok : fchk Pr (fun _ _ => false) Try.f105 = some (nat_Sub_c, [.tmp 4, .tmp 5], 15) := by kernel_rfl
theorem nat_Sub_fn : Pr.funcs[F_nat_Sub]? = some Try.f105 := Try.func105
/-! nat.Text -/
def nat_Text_r0 : List AIns := [⟨some 2, none, .p (.mv (.c (.str ⟨#[]⟩)))⟩]
def nat_Text_r1 : List AIns := [⟨some 9, none, .p (.mv (.t 0))⟩,
  ⟨some 10, none, .call F_nat_Norm [(.t 9)]⟩,
  ⟨some 0, none, .p (.mv (.t 10))⟩]
def nat_Text_r2 : List AIns := [⟨some 11, none, .p (.mv (.t 0))⟩,
  ⟨some 12, none, .p (.len (.t 11))⟩,
  ⟨some 13, none, .p (.bin .eql (.t 12) (.c (.int .i64 0)))⟩]
def nat_Text_r3 : List AIns := [⟨some 2, none, .p (.mv (.c (.str ⟨#[48]⟩)))⟩]
def nat_Text_r4 : List AIns := [⟨some 3, none, .p (.mv (.c (.nil)))⟩]
def nat_Text_r5 : List AIns := [⟨some 14, none, .p (.mv (.t 0))⟩,
  ⟨some 15, none, .p (.len (.t 14))⟩,
  ⟨some 16, none, .p (.bin .gtr (.t 15) (.c (.int .i64 0)))⟩]
def nat_Text_r6 : List AIns := [⟨some 18, none, .p (.mv (.t 0))⟩,
  ⟨some 19, none, .call F_nat_short [(.t 18), (.c (.int .u32 1000000000))]⟩,
  ⟨some 17, none, .p (.mv (.t 19))⟩,
  ⟨some 20, none, .p (.ext (.t 17) 0)⟩,
  ⟨some 21, none, .p (.ext (.t 17) 1)⟩,
  ⟨some 4, none, .p (.mv (.t 20))⟩,
  ⟨some 5, none, .p (.mv (.t 21))⟩]
def nat_Text_r7 : List AIns := [⟨some 6, none, .p (.mv (.c (.int .i64 0)))⟩]
def nat_Text_r8 : List AIns := [⟨some 22, none, .p (.mv (.t 6))⟩,
  ⟨some 23, none, .p (.bin .lss (.t 22) (.c (.int .i64 9)))⟩,
  ⟨some 24, none, .p (.mv (.t 23))⟩,
  ⟨some 25, some (24, true), .p (.mv (.t 4))⟩,
  ⟨some 26, some (24, true), .p (.len (.t 25))⟩,
  ⟨some 27, some (24, true), .p (.bin .gtr (.t 26) (.c (.int .i64 0)))⟩,
  ⟨some 28, some (24, true), .p (.mv (.t 27))⟩,
  ⟨some 29, some (28, false), .p (.mv (.t 5))⟩,
  ⟨some 30, some (28, false), .p (.bin .gtr (.t 29) (.c (.int .u32 0)))⟩,
  ⟨some 31, some (24, true), .p (.pick (.t 28) (.c (.bool true)) (.t 30))⟩,
  ⟨some 32, none, .p (.pick (.t 24) (.t 31) (.c (.bool false)))⟩]
def nat_Text_r9 : List AIns := [⟨some 35, none, .p (.mv (.t 3))⟩,
  ⟨some 36, none, .p (.mv (.t 5))⟩,
  ⟨some 37, none, .p (.bin .rem (.t 36) (.c (.int .u32 10)))⟩,
  ⟨some 38, none, .p (.bin .add (.c (.int .u32 48)) (.t 37))⟩,
  ⟨some 39, none, .p (.conv .u8 (.t 38))⟩,
  ⟨some 40, none, .e (.bsl 1 [(.t 39)])⟩,
  ⟨some 41, none, .e (.app 1 1 false (.t 35) (.t 40))⟩,
  ⟨some 3, none, .p (.mv (.t 41))⟩]
def nat_Text_r10 : List AIns := [⟨some 42, none, .p (.mv (.t 5))⟩,
  ⟨some 43, none, .p (.bin .quo (.t 42) (.c (.int .u32 10)))⟩,
  ⟨some 5, none, .p (.mv (.t 43))⟩]
def nat_Text_r11 : List AIns := [⟨some 33, none, .p (.mv (.t 6))⟩,
  ⟨some 34, none, .p (.bin .add (.t 33) (.c (.int .i64 1)))⟩,
  ⟨some 6, none, .p (.mv (.t 34))⟩]
def nat_Text_l1 : ACode := .seq (.seq (.region nat_Text_r8 false) (.cond (.t 32) (.skip) (.exit 2))) (.seq (.block 3 (.seq (.region nat_Text_r9 false) (.region nat_Text_r10 false))) (.region nat_Text_r11 false))
def nat_Text_r12 : List AIns := [⟨some 44, none, .p (.mv (.t 4))⟩,
  ⟨some 0, none, .p (.mv (.t 44))⟩]
def nat_Text_l0 : ACode := .seq (.seq (.region nat_Text_r5 false) (.cond (.t 16) (.skip) (.exit 0))) (.block 1 (.seq (.region nat_Text_r6 false) (.seq (.seq (.region nat_Text_r7 false) (.block 2 (.loop nat_Text_l1))) (.region nat_Text_r12 false))))
def nat_Text_r13 : List AIns := [⟨some 45, none, .p (.mv (.t 3))⟩,
  ⟨some 46, none, .p (.len (.t 45))⟩,
  ⟨some 47, none, .p (.bin .sub (.t 46) (.c (.int .i64 1)))⟩,
  ⟨some 7, none, .p (.mv (.c (.int .i64 0)))⟩,
  ⟨some 8, none, .p (.mv (.t 47))⟩]
def nat_Text_r14 : List AIns := [⟨some 48, none, .p (.mv (.t 7))⟩,
  ⟨some 49, none, .p (.mv (.t 8))⟩,
  ⟨some 50, none, .p (.bin .lss (.t 48) (.t 49))⟩]
def nat_Text_r15 : List AIns := [⟨some 55, none, .p (.mv (.t 3))⟩,
  ⟨some 56, none, .p (.mv (.t 7))⟩,
  ⟨some 57, none, .p (.mv (.t 3))⟩,
  ⟨some 58, none, .p (.mv (.t 8))⟩,
  ⟨some 59, none, .p (.mv (.t 3))⟩,
  ⟨some 60, none, .p (.mv (.t 8))⟩,
  ⟨some 61, none, .p (.idxp 1 (.t 59) (.t 60))⟩,
  ⟨some 62, none, .p (.load none (.t 61))⟩,
  ⟨some 63, none, .p (.mv (.t 3))⟩,
  ⟨some 64, none, .p (.mv (.t 7))⟩,
  ⟨some 65, none, .p (.idxp 1 (.t 63) (.t 64))⟩,
  ⟨some 66, none, .p (.load none (.t 65))⟩,
  ⟨some 67, none, .p (.idxp 1 (.t 55) (.t 56))⟩,
  ⟨none, none, .e (.store 1 (.t 67) (.t 62))⟩,
  ⟨some 68, none, .p (.idxp 1 (.t 57) (.t 58))⟩,
  ⟨none, none, .e (.store 1 (.t 68) (.t 66))⟩]
def nat_Text_r16 : List AIns := [⟨some 51, none, .p (.mv (.t 7))⟩,
  ⟨some 52, none, .p (.bin .add (.t 51) (.c (.int .i64 1)))⟩,
  ⟨some 53, none, .p (.mv (.t 8))⟩,
  ⟨some 54, none, .p (.bin .sub (.t 53) (.c (.int .i64 1)))⟩,
  ⟨some 7, none, .p (.mv (.t 52))⟩,
  ⟨some 8, none, .p (.mv (.t 54))⟩]
def nat_Text_l2 : ACode := .seq (.seq (.region nat_Text_r14 false) (.cond (.t 50) (.skip) (.exit 4))) (.seq (.block 5 (.region nat_Text_r15 true)) (.region nat_Text_r16 false))
def nat_Text_r17 : List AIns := [⟨some 69, none, .p (.mv (.t 3))⟩,
  ⟨some 70, none, .p (.b2s (.t 69))⟩,
  ⟨some 2, none, .p (.mv (.t 70))⟩]
def nat_Text_c : ACode := .seq (.region nat_Text_r0 false) (.seq (.region nat_Text_r1 false) (.seq (.seq (.region nat_Text_r2 false) (.cond (.t 13) (.seq (.region nat_Text_r3 false) (.ret)) (.skip))) (.seq (.region nat_Text_r4 false) (.seq (.block 0 (.loop nat_Text_l0)) (.seq (.seq (.region nat_Text_r13 false) (.block 4 (.loop nat_Text_l2))) (.seq (.region nat_Text_r17 false) (.ret)))))))
theorem nat_Text_ok : fchk Pr (fun _ _ => false) Try.f109 = some (nat_Text_c, [.tmp 2], 71) := by kernel_rfl
theorem nat_Text_fn : Pr.funcs[F_nat_Text]? = some Try.f109 := Try.func109
/-! trammelref01.Text -/
def ref01_Text_r0 : List AIns := [⟨some 2, none, .p (.mv (.c (.str ⟨#[]⟩)))⟩]
def ref01_Text_r1 : List AIns := [⟨some 9, none, .p (.mv (.t 0))⟩,
  ⟨some 10, none, .call F_ref01_Norm [(.t 9)]⟩,
  ⟨some 3, none, .p (.mv (.t 10))⟩]
def ref01_Text_r2 : List AIns := [⟨some 11, none, .p (.mv (.t 3))⟩,
  ⟨some 12, none, .p (.len (.t 11))⟩,
  ⟨some 13, none, .p (.bin .eql (.t 12) (.c (.int .i64 0)))⟩]
def ref01_Text_r3 : List AIns := [⟨some 2, none, .p (.mv (.c (.str ⟨#[48]⟩)))⟩]
def ref01_Text_r4 : List AIns := [⟨some 4, none, .p (.mv (.c (.str ⟨#[]⟩)))⟩]
def ref01_Text_r5 : List AIns := [⟨some 14, none, .p (.mv (.t 3))⟩,
  ⟨some 15, none, .p (.len (.t 14))⟩,
  ⟨some 16, none, .p (.bin .gtr (.t 15) (.c (.int .i64 0)))⟩]
def ref01_Text_r6 : List AIns := [⟨some 18, none, .p (.mv (.t 3))⟩,
  ⟨some 19, none, .call F_ref01_small [(.t 18), (.c (.int .u64 1000000000))]⟩,
  ⟨some 17, none, .p (.mv (.t 19))⟩,
  ⟨some 20, none, .p (.ext (.t 17) 0)⟩,
  ⟨some 21, none, .p (.ext (.t 17) 1)⟩,
  ⟨some 5, none, .p (.mv (.t 20))⟩,
  ⟨some 6, none, .p (.mv (.t 21))⟩]
def ref01_Text_r7 : List AIns := [⟨some 22, none, .p (.mv (.t 5))⟩,
  ⟨some 3, none, .p (.mv (.t 22))⟩]
def ref01_Text_r8 : List AIns := [⟨some 7, none, .p (.mv (.c (.str ⟨#[]⟩)))⟩]
def ref01_Text_r9 : List AIns := [⟨some 8, none, .p (.mv (.c (.int .i64 0)))⟩]
def ref01_Text_r10 : List AIns := [⟨some 23, none, .p (.mv (.t 8))⟩,
  ⟨some 24, none, .p (.bin .lss (.t 23) (.c (.int .i64 9)))⟩,
  ⟨some 25, none, .p (.mv (.t 24))⟩,
  ⟨some 26, some (25, true), .p (.mv (.t 6))⟩,
  ⟨some 27, some (25, true), .p (.bin .gtr (.t 26) (.c (.int .u64 0)))⟩,
  ⟨some 28, some (25, true), .p (.mv (.t 27))⟩,
  ⟨some 29, some (28, false), .p (.mv (.t 3))⟩,
  ⟨some 30, some (28, false), .p (.len (.t 29))⟩,
  ⟨some 31, some (28, false), .p (.bin .gtr (.t 30) (.c (.int .i64 0)))⟩,
  ⟨some 32, some (25, true), .p (.pick (.t 28) (.c (.bool true)) (.t 31))⟩,
  ⟨some 33, none, .p (.pick (.t 25) (.t 32) (.c (.bool false)))⟩]
def ref01_Text_r11 : List AIns := [⟨some 36, none, .p (.mv (.t 6))⟩,
  ⟨some 37, none, .p (.bin .rem (.t 36) (.c (.int .u64 10)))⟩,
  ⟨some 38, none, .p (.bin .add (.c (.int .u64 48)) (.t 37))⟩,
  ⟨some 39, none, .p (.conv .u8 (.t 38))⟩,
  ⟨some 40, none, .e (.bsl 1 [(.t 39)])⟩,
  ⟨some 41, none, .p (.b2s (.t 40))⟩,
  ⟨some 42, none, .p (.mv (.t 7))⟩,
  ⟨some 43, none, .p (.bin .add (.t 41) (.t 42))⟩,
  ⟨some 7, none, .p (.mv (.t 43))⟩]
def ref01_Text_r12 : List AIns := [⟨some 44, none, .p (.mv (.t 6))⟩,
  ⟨some 45, none, .p (.bin .quo (.t 44) (.c (.int .u64 10)))⟩,
  ⟨some 6, none, .p (.mv (.t 45))⟩]
def ref01_Text_r13 : List AIns := [⟨some 34, none, .p (.mv (.t 8))⟩,
  ⟨some 35, none, .p (.bin .add (.t 34) (.c (.int .i64 1)))⟩,
  ⟨some 8, none, .p (.mv (.t 35))⟩]
def ref01_Text_l1 : ACode := .seq (.seq (.region ref01_Text_r10 false) (.cond (.t 33) (.skip) (.exit 2))) (.seq (.block 3 (.seq (.region ref01_Text_r11 false) (.region ref01_Text_r12 false))) (.region ref01_Text_r13 false))
def ref01_Text_r14 : List AIns := [⟨some 46, none, .p (.mv (.t 7))⟩,
  ⟨some 47, none, .p (.mv (.t 4))⟩,
  ⟨some 48, none, .p (.bin .add (.t 46) (.t 47))⟩,
  ⟨some 4, none, .p (.mv (.t 48))⟩]
def ref01_Text_l0 : ACode := .seq (.seq (.region ref01_Text_r5 false) (.cond (.t 16) (.skip) (.exit 0))) (.block 1 (.seq (.region ref01_Text_r6 false) (.seq (.region ref01_Text_r7 false) (.seq (.region ref01_Text_r8 false) (.seq (.seq (.region ref01_Text_r9 false) (.block 2 (.loop ref01_Text_l1))) (.region ref01_Text_r14 false))))))
def ref01_Text_r15 : List AIns := [⟨some 49, none, .p (.mv (.t 4))⟩,
  ⟨some 2, none, .p (.mv (.t 49))⟩]
def ref01_Text_c : ACode := .seq (.region ref01_Text_r0 false) (.seq (.region ref01_Text_r1 false) (.seq (.seq (.region ref01_Text_r2 false) (.cond (.t 13) (.seq (.region ref01_Text_r3 false) (.ret)) (.skip))) (.seq (.region ref01_Text_r4 false) (.seq (.block 0 (.loop ref01_Text_l0)) (.seq (.region ref01_Text_r15 false) (.ret))))))
theorem ref01_Text_ok : fchk Pr (fun _ _ => false) Try.f110 = some (ref01_Text_c, [.tmp 2], 50) := by kernel_rfl
theorem ref01_Text_fn : Pr.funcs[F_ref01_Text]? = some Try.f110 := Try.func110
/-! nat.trim -/
def nat_trim_r0 : List AIns := [⟨some 2, none, .p (.mv (.c (.nil)))⟩]
def nat_trim_r1 : List AIns := [⟨some 3, none, .p (.mv (.t 0))⟩,
  ⟨some 4, none, .p (.len (.t 3))⟩,
  ⟨some 5, none, .p (.bin .gtr (.t 4) (.c (.int .i64 0)))⟩,
  ⟨some 6, none, .p (.mv (.t 5))⟩,
  ⟨some 7, some (6, true), .p (.mv (.t 0))⟩,
  ⟨some 8, some (6, true), .p (.mv (.t 0))⟩,
  ⟨some 9, some (6, true), .p (.len (.t 8))⟩,
  ⟨some 10, some (6, true), .p (.bin .sub (.t 9) (.c (.int .i64 1)))⟩,
  ⟨some 11, some (6, true), .p (.idxp 1 (.t 7) (.t 10))⟩,
  ⟨some 12, some (6, true), .p (.load none (.t 11))⟩,
  ⟨some 13, some (6, true), .p (.bin .eql (.t 12) (.c (.int .u32 0)))⟩,
  ⟨some 14, none, .p (.pick (.t 6) (.t 13) (.c (.bool false)))⟩]
def nat_trim_r2 : List AIns := [⟨some 15, none, .p (.mv (.t 0))⟩,
  ⟨some 16, none, .p (.mv (.t 0))⟩,
  ⟨some 17, none, .p (.len (.t 16))⟩,
  ⟨some 18, none, .p (.bin .sub (.t 17) (.c (.int .i64 1)))⟩,
  ⟨some 19, none, .p (.slc 1 (.t 15) none (some (.t 18)) none)⟩,
  ⟨some 0, none, .p (.mv (.t 19))⟩]
def nat_trim_l0 : ACode := .seq (.seq (.region nat_trim_r1 false) (.cond (.t 14) (.skip) (.exit 0))) (.block 1 (.region nat_trim_r2 false))
def nat_trim_r3 : List AIns := [⟨some 20, none, .p (.mv (.t 0))⟩,
  ⟨some 2, none, .p (.mv (.t 20))⟩]
def nat_trim_c : ACode := .seq (.region nat_trim_r0 false) (.seq (.block 0 (.loop nat_trim_l0)) (.seq (.region nat_trim_r3 false) (.ret)))
theorem nat_trim_ok : fchk Pr (fun _ _ => false) Try.f111 = some (nat_trim_c, [.tmp 2], 21) := by kernel_rfl
theorem nat_trim_fn : Pr.funcs[F_nat_trim]? = some Try.f111 := Try.func111
/-! math/bits.Len32 -/
def math_bits_Len32_r0 : List AIns := [⟨some 2, none, .p (.mv (.c (.int .i64 0)))⟩]
def math_bits_Len32_r1 : List AIns := [⟨some 3, none, .p (.mv (.t 0))⟩,
  ⟨some 4, none, .p (.bin .geq (.t 3) (.c (.int .u32 65536)))⟩]
def math_bits_Len32_r2 : List AIns := [⟨some 5, none, .p (.mv (.t 0))⟩,
  ⟨some 6, none, .p (.bin .shr (.t 5) (.c (.int .u64 16)))⟩,
  ⟨some 0, none, .p (.mv (.t 6))⟩]
def math_bits_Len32_r3 : List AIns := [⟨some 2, none, .p (.mv (.c (.int .i64 16)))⟩]
def math_bits_Len32_r4 : List AIns := [⟨some 7, none, .p (.mv (.t 0))⟩,
  ⟨some 8, none, .p (.bin .geq (.t 7) (.c (.int .u32 256)))⟩]
def math_bits_Len32_r5 : List AIns := [⟨some 9, none, .p (.mv (.t 0))⟩,
  ⟨some 10, none, .p (.bin .shr (.t 9) (.c (.int .u64 8)))⟩,
  ⟨some 0, none, .p (.mv (.t 10))⟩]
def math_bits_Len32_r6 : List AIns := [⟨some 11, none, .p (.mv (.t 2))⟩,
  ⟨some 12, none, .p (.bin .add (.t 11) (.c (.int .i64 8)))⟩,
  ⟨some 2, none, .p (.mv (.t 12))⟩]
def math_bits_Len32_r7 : List AIns := [⟨some 13, none, .p (.mv (.t 2))⟩,
  ⟨some 14, none, .p (.mv (.t 0))⟩,
  ⟨some 15, none, .p (.conv .u8 (.t 14))⟩,
  ⟨some 16, none, .p (.idxs (.c (.str str_0)) (.t 15))⟩,
  ⟨some 17, none, .p (.conv .i64 (.t 16))⟩,
  ⟨some 18, none, .p (.bin .add (.t 13) (.t 17))⟩,
  ⟨some 2, none, .p (.mv (.t 18))⟩]
def math_bits_Len32_c : ACode := .seq (.region math_bits_Len32_r0 false) (.seq (.seq (.region math_bits_Len32_r1 false) (.cond (.t 4) (.seq (.region math_bits_Len32_r2 false) (.region math_bits_Len32_r3 false)) (.skip))) (.seq (.seq (.region math_bits_Len32_r4 false) (.cond (.t 8) (.seq (.region math_bits_Len32_r5 false) (.region math_bits_Len32_r6 false)) (.skip))) (.seq (.region math_bits_Len32_r7 false) (.ret))))
theorem math_bits_Len32_ok : fchk Pr (fun _ _ => false) Try.f112 = some (math_bits_Len32_c, [.tmp 2], 19) := by kernel_rfl
theorem math_bits_Len32_fn : Pr.funcs[F_math_bits_Len32]? = some Try.f112 := Try.func112
/-! trammelref02.Neg -/
def ref02_Neg_r0 : List AIns := [⟨some 1, none, .e (.box 2 (.t 0))⟩,
  ⟨some 2, none, .e (.box 2 (.c (.agg [.bool false, .nil])))⟩]
def ref02_Neg_r1 : List AIns := [⟨some 3, none, .p (.fldp (.t 1) 0)⟩,
  ⟨some 4, none, .p (.load none (.t 3))⟩,
  ⟨some 5, none, .p (.un .not (.t 4))⟩,
  ⟨some 6, none, .p (.fldp (.t 1) 1)⟩,
  ⟨some 7, none, .p (.load none (.t 6))⟩,
  ⟨some 8, none, .call F_ref02_made [(.t 5), (.t 7)]⟩,
  ⟨none, none, .e (.store 2 (.t 2) (.t 8))⟩]
def ref02_Neg_c : ACode := .seq (.region ref02_Neg_r0 false) (.seq (.region ref02_Neg_r1 false) (.ret))
theorem ref02_Neg_ok : fchk Pr (fun _ _ => false) Try.f113 = some (ref02_Neg_c, [.cell 2 (some 2)], 9) := by kernel_rfl
theorem ref02_Neg_fn : Pr.funcs[F_ref02_Neg]? = some Try.f113 := Try.func113
/-! trammelref01.most -/
def ref01_most_r0 : List AIns := [⟨some 4, none, .p (.mv (.c (.int .i64 0)))⟩]
def ref01_most_r1 : List AIns := [⟨some 5, none, .p (.mv (.t 0))⟩,
  ⟨some 6, none, .p (.mv (.t 1))⟩,
  ⟨some 7, none, .p (.bin .gtr (.t 5) (.t 6))⟩]
def ref01_most_r2 : List AIns := [⟨some 8, none, .p (.mv (.t 0))⟩,
  ⟨some 4, none, .p (.mv (.t 8))⟩]
def ref01_most_r3 : List AIns := [⟨some 9, none, .p (.mv (.t 1))⟩,
  ⟨some 4, none, .p (.mv (.t 9))⟩]
def ref01_most_c : ACode := .seq (.region ref01_most_r0 false) (.seq (.seq (.region ref01_most_r1 false) (.cond (.t 7) (.seq (.region ref01_most_r2 false) (.ret)) (.skip))) (.seq (.region ref01_most_r3 false) (.ret)))
theorem ref01_most_ok : fchk Pr (fun _ _ => false) Try.f114 = some (ref01_most_c, [.tmp 4], 10) := by kernel_rfl
theorem ref01_most_fn : Pr.funcs[F_ref01_most]? = some Try.f114 := Try.func114
/-! trammelref01.limb -/
def ref01_limb_r0 : List AIns := [⟨some 4, none, .p (.mv (.c (.int .u64 0)))⟩]
def ref01_limb_r1 : List AIns := [⟨some 5, none, .p (.mv (.t 1))⟩,
  ⟨some 6, none, .p (.mv (.t 0))⟩,
  ⟨some 7, none, .p (.len (.t 6))⟩,
  ⟨some 8, none, .p (.bin .lss (.t 5) (.t 7))⟩]
def ref01_limb_r2 : List AIns := [⟨some 9, none, .p (.mv (.t 0))⟩,
  ⟨some 10, none, .p (.mv (.t 1))⟩,
  ⟨some 11, none, .p (.idxp 1 (.t 9) (.t 10))⟩,
  ⟨some 12, none, .p (.load none (.t 11))⟩,
  ⟨some 13, none, .p (.conv .u64 (.t 12))⟩,
  ⟨some 4, none, .p (.mv (.t 13))⟩]
def ref01_limb_r3 : List AIns := [⟨some 4, none, .p (.mv (.c (.int .u64 0)))⟩]
def ref01_limb_c : ACode := .seq (.region ref01_limb_r0 false) (.seq (.seq (.region ref01_limb_r1 false) (.cond (.t 8) (.seq (.region ref01_limb_r2 false) (.ret)) (.skip))) (.seq (.region ref01_limb_r3 false) (.ret)))
theorem ref01_limb_ok : fchk Pr (fun _ _ => false) Try.f115 = some (ref01_limb_c, [.tmp 4], 14) := by kernel_rfl
theorem ref01_limb_fn : Pr.funcs[F_ref01_limb]? = some Try.f115 := Try.func115
/-! trammelref01.less -/
def ref01_less_r0 : List AIns := [⟨some 4, none, .p (.mv (.c (.nil)))⟩]
def ref01_less_r1 : List AIns := [⟨some 5, none, .p (.mv (.c (.nil)))⟩]
def ref01_less_r2 : List AIns := [⟨some 6, none, .p (.mv (.c (.int .u64 0)))⟩]
def ref01_less_r3 : List AIns := [⟨some 7, none, .p (.mv (.c (.int .i64 0)))⟩]
def ref01_less_r4 : List AIns := [⟨some 10, none, .p (.mv (.t 7))⟩,
  ⟨some 11, none, .p (.mv (.t 0))⟩,
  ⟨some 12, none, .p (.len (.t 11))⟩,
  ⟨some 13, none, .p (.bin .lss (.t 10) (.t 12))⟩]
def ref01_less_r5 : List AIns := [⟨some 16, none, .p (.mv (.t 0))⟩,
  ⟨some 17, none, .p (.mv (.t 7))⟩,
  ⟨some 18, none, .call F_ref01_limb [(.t 16), (.t 17)]⟩,
  ⟨some 8, none, .p (.mv (.t 18))⟩]
def ref01_less_r6 : List AIns := [⟨some 19, none, .p (.mv (.t 1))⟩,
  ⟨some 20, none, .p (.mv (.t 7))⟩,
  ⟨some 21, none, .call F_ref01_limb [(.t 19), (.t 20)]⟩,
  ⟨some 22, none, .p (.mv (.t 6))⟩,
  ⟨some 23, none, .p (.bin .add (.t 21) (.t 22))⟩,
  ⟨some 9, none, .p (.mv (.t 23))⟩]
def ref01_less_r7 : List AIns := [⟨some 6, none, .p (.mv (.c (.int .u64 0)))⟩]
def ref01_less_r8 : List AIns := [⟨some 24, none, .p (.mv (.t 8))⟩,
  ⟨some 25, none, .p (.mv (.t 9))⟩,
  ⟨some 26, none, .p (.bin .lss (.t 24) (.t 25))⟩]
def ref01_less_r9 : List AIns := [⟨some 27, none, .p (.mv (.t 8))⟩,
  ⟨some 28, none, .p (.bin .add (.t 27) (.c (.int .u64 4294967296)))⟩,
  ⟨some 8, none, .p (.mv (.t 28))⟩]
def ref01_less_r10 : List AIns := [⟨some 6, none, .p (.mv (.c (.int .u64 1)))⟩]
def ref01_less_r11 : List AIns := [⟨some 29, none, .p (.mv (.t 5))⟩,
  ⟨some 30, none, .p (.mv (.t 8))⟩,
  ⟨some 31, none, .p (.mv (.t 9))⟩,
  ⟨some 32, none, .p (.bin .sub (.t 30) (.t 31))⟩,
  ⟨some 33, none, .p (.conv .u32 (.t 32))⟩,
  ⟨some 34, none, .e (.bsl 1 [(.t 33)])⟩,
  ⟨some 35, none, .e (.app 1 4 false (.t 29) (.t 34))⟩,
  ⟨some 5, none, .p (.mv (.t 35))⟩]
def ref01_less_r12 : List AIns := [⟨some 14, none, .p (.mv (.t 7))⟩,
  ⟨some 15, none, .p (.bin .add (.t 14) (.c (.int .i64 1)))⟩,
  ⟨some 7, none, .p (.mv (.t 15))⟩]
def ref01_less_l0 : ACode := .seq (.seq (.region ref01_less_r4 false) (.cond (.t 13) (.skip) (.exit 0))) (.seq (.block 1 (.seq (.region ref01_less_r5 false) (.seq (.region ref01_less_r6 false) (.seq (.region ref01_less_r7 false) (.seq (.seq (.region ref01_less_r8 false) (.cond (.t 26) (.seq (.region ref01_less_r9 false) (.region ref01_less_r10 false)) (.skip))) (.region ref01_less_r11 false)))))) (.region ref01_less_r12 false))
def ref01_less_r13 : List AIns := [⟨some 36, none, .p (.mv (.t 5))⟩,
  ⟨some 37, none, .call F_ref01_Norm [(.t 36)]⟩,
  ⟨some 4, none, .p (.mv (.t 37))⟩]
def ref01_less_c : ACode := .seq (.region ref01_less_r0 false) (.seq (.region ref01_less_r1 false) (.seq (.region ref01_less_r2 false) (.seq (.seq (.region ref01_less_r3 false) (.block 0 (.loop ref01_less_l0))) (.seq (.region ref01_less_r13 false) (.ret)))))
theorem ref01_less_ok : fchk Pr (fun _ _ => false) Try.f116 = some (ref01_less_c, [.tmp 4], 38) := by kernel_rfl
theorem ref01_less_fn : Pr.funcs[F_ref01_less]? = some Try.f116 := Try.func116
/-! nat.less -/
def nat_less_r0 : List AIns := [⟨some 4, none, .p (.mv (.c (.nil)))⟩]
def nat_less_r1 : List AIns := [⟨some 9, none, .p (.mv (.t 0))⟩,
  ⟨some 10, none, .p (.len (.t 9))⟩,
  ⟨some 11, none, .e (.mksl 1 4 (.int .u32 0) (.t 10) (.t 10))⟩,
  ⟨some 5, none, .p (.mv (.t 11))⟩]
def nat_less_r2 : List AIns := [⟨some 6, none, .p (.mv (.c (.int .u64 0)))⟩]
def nat_less_r3 : List AIns := [⟨some 12, none, .p (.mv (.t 0))⟩,
  ⟨some 13, none, .p (.len (.t 12))⟩,
  ⟨some 14, none, .p (.mv (.c (.int .i64 0)))⟩]
def nat_less_r4 : List AIns := [⟨some 15, none, .p (.bin .lss (.t 14) (.t 13))⟩]
def nat_less_r5 : List AIns := [⟨some 16, none, .p (.mv (.t 14))⟩,
  ⟨some 7, none, .p (.mv (.t 16))⟩]
def nat_less_r6 : List AIns := [⟨some 17, none, .p (.mv (.t 0))⟩,
  ⟨some 18, none, .p (.mv (.t 7))⟩,
  ⟨some 19, none, .p (.idxp 1 (.t 17) (.t 18))⟩,
  ⟨some 20, none, .p (.load none (.t 19))⟩,
  ⟨some 21, none, .p (.conv .u64 (.t 20))⟩,
  ⟨some 22, none, .p (.mv (.t 6))⟩,
  ⟨some 23, none, .p (.bin .sub (.t 21) (.t 22))⟩,
  ⟨some 8, none, .p (.mv (.t 23))⟩]
def nat_less_r7 : List AIns := [⟨some 24, none, .p (.mv (.t 7))⟩,
  ⟨some 25, none, .p (.mv (.t 1))⟩,
  ⟨some 26, none, .p (.len (.t 25))⟩,
  ⟨some 27, none, .p (.bin .lss (.t 24) (.t 26))⟩]
def nat_less_r8 : List AIns := [⟨some 28, none, .p (.mv (.t 8))⟩,
  ⟨some 29, none, .p (.mv (.t 1))⟩,
  ⟨some 30, none, .p (.mv (.t 7))⟩,
  ⟨some 31, none, .p (.idxp 1 (.t 29) (.t 30))⟩,
  ⟨some 32, none, .p (.load none (.t 31))⟩,
  ⟨some 33, none, .p (.conv .u64 (.t 32))⟩,
  ⟨some 34, none, .p (.bin .sub (.t 28) (.t 33))⟩,
  ⟨some 8, none, .p (.mv (.t 34))⟩]
def nat_less_r9 : List AIns := [⟨some 35, none, .p (.mv (.t 5))⟩,
  ⟨some 36, none, .p (.mv (.t 7))⟩,
  ⟨some 37, none, .p (.mv (.t 8))⟩,
  ⟨some 38, none, .p (.conv .u32 (.t 37))⟩,
  ⟨some 39, none, .p (.idxp 1 (.t 35) (.t 36))⟩,
  ⟨none, none, .e (.store 1 (.t 39) (.t 38))⟩]
def nat_less_r10 : List AIns := [⟨some 40, none, .p (.mv (.t 8))⟩,
  ⟨some 41, none, .p (.bin .shr (.t 40) (.c (.int .u64 63)))⟩,
  ⟨some 6, none, .p (.mv (.t 41))⟩]
def nat_less_r11 : List AIns := [⟨some 42, none, .p (.bin .add (.t 14) (.c (.int .i64 1)))⟩,
  ⟨some 14, none, .p (.mv (.t 42))⟩]
def nat_less_l0 : ACode := .seq (.region nat_less_r4 false) (.seq (.cond (.t 15) (.skip) (.exit 0)) (.seq (.block 1 (.seq (.region nat_less_r5 false) (.seq (.region nat_less_r6 false) (.seq (.seq (.region nat_less_r7 false) (.cond (.t 27) (.region nat_less_r8 false) (.skip))) (.seq (.region nat_less_r9 false) (.region nat_less_r10 false)))))) (.region nat_less_r11 false)))
def nat_less_r12 : List AIns := [⟨some 43, none, .p (.mv (.t 5))⟩,
  ⟨some 44, none, .call F_nat_trim [(.t 43)]⟩,
  ⟨some 4, none, .p (.mv (.t 44))⟩]
def nat_less_c : ACode := .seq (.region nat_less_r0 false) (.seq (.region nat_less_r1 false) (.seq (.region nat_less_r2 false) (.seq (.seq (.region nat_less_r3 false) (.block 0 (.loop nat_less_l0))) (.seq (.region nat_less_r12 false) (.ret)))))
theorem nat_less_ok : fchk Pr (fun _ _ => false) Try.f117 = some (nat_less_c, [.tmp 4], 45) := by kernel_rfl
theorem nat_less_fn : Pr.funcs[F_nat_less]? = some Try.f117 := Try.func117
/-! nat.Norm -/
def nat_Norm_r0 : List AIns := [⟨some 2, none, .p (.mv (.c (.nil)))⟩]
def nat_Norm_r1 : List AIns := [⟨some 3, none, .p (.mv (.t 0))⟩,
  ⟨some 4, none, .call F_nat_trim [(.t 3)]⟩,
  ⟨some 5, none, .e (.app 1 4 false (.c (.nil)) (.t 4))⟩,
  ⟨some 2, none, .p (.mv (.t 5))⟩]
def nat_Norm_c : ACode := .seq (.region nat_Norm_r0 false) (.seq (.region nat_Norm_r1 false) (.ret))
theorem nat_Norm_ok : fchk Pr (fun _ _ => false) Try.f120 = some (nat_Norm_c, [.tmp 2], 6) := by kernel_rfl
theorem nat_Norm_fn : Pr.funcs[F_nat_Norm]? = some Try.f120 := Try.func120
/-! nat.short -/
def nat_short_r0 : List AIns := [⟨some 4, none, .p (.mv (.c (.nil)))⟩,
  ⟨some 5, none, .p (.mv (.c (.int .u32 0)))⟩]
def nat_short_r1 : List AIns := [⟨some 9, none, .p (.mv (.t 0))⟩,
  ⟨some 10, none, .p (.len (.t 9))⟩,
  ⟨some 11, none, .e (.mksl 1 4 (.int .u32 0) (.t 10) (.t 10))⟩,
  ⟨some 6, none, .p (.mv (.t 11))⟩]
def nat_short_r2 : List AIns := [⟨some 7, none, .p (.mv (.c (.int .u64 0)))⟩]
def nat_short_r3 : List AIns := [⟨some 12, none, .p (.mv (.t 0))⟩,
  ⟨some 13, none, .p (.len (.t 12))⟩,
  ⟨some 14, none, .p (.bin .sub (.t 13) (.c (.int .i64 1)))⟩,
  ⟨some 8, none, .p (.mv (.t 14))⟩]
def nat_short_r4 : List AIns := [⟨some 15, none, .p (.mv (.t 8))⟩,
  ⟨some 16, none, .p (.bin .geq (.t 15) (.c (.int .i64 0)))⟩]
def nat_short_r5 : List AIns := [⟨some 19, none, .p (.mv (.t 7))⟩,
  ⟨some 20, none, .p (.bin .shl (.t 19) (.c (.int .u64 32)))⟩,
  ⟨some 21, none, .p (.mv (.t 0))⟩,
  ⟨some 22, none, .p (.mv (.t 8))⟩,
  ⟨some 23, none, .p (.idxp 1 (.t 21) (.t 22))⟩,
  ⟨some 24, none, .p (.load none (.t 23))⟩,
  ⟨some 25, none, .p (.conv .u64 (.t 24))⟩,
  ⟨some 26, none, .p (.bin .or (.t 20) (.t 25))⟩,
  ⟨some 7, none, .p (.mv (.t 26))⟩]
def nat_short_r6 : List AIns := [⟨some 27, none, .p (.mv (.t 6))⟩,
  ⟨some 28, none, .p (.mv (.t 8))⟩,
  ⟨some 29, none, .p (.mv (.t 7))⟩,
  ⟨some 30, none, .p (.mv (.t 1))⟩,
  ⟨some 31, none, .p (.conv .u64 (.t 30))⟩,
  ⟨some 32, none, .p (.bin .quo (.t 29) (.t 31))⟩,
  ⟨some 33, none, .p (.conv .u32 (.t 32))⟩,
  ⟨some 34, none, .p (.idxp 1 (.t 27) (.t 28))⟩,
  ⟨none, none, .e (.store 1 (.t 34) (.t 33))⟩]
def nat_short_r7 : List AIns := [⟨some 35, none, .p (.mv (.t 7))⟩,
  ⟨some 36, none, .p (.mv (.t 1))⟩,
  ⟨some 37, none, .p (.conv .u64 (.t 36))⟩,
  ⟨some 38, none, .p (.bin .rem (.t 35) (.t 37))⟩,
  ⟨some 7, none, .p (.mv (.t 38))⟩]
def nat_short_r8 : List AIns := [⟨some 17, none, .p (.mv (.t 8))⟩,
  ⟨some 18, none, .p (.bin .sub (.t 17) (.c (.int .i64 1)))⟩,
  ⟨some 8, none, .p (.mv (.t 18))⟩]
def nat_short_l0 : ACode := .seq (.seq (.region nat_short_r4 false) (.cond (.t 16) (.skip) (.exit 0))) (.seq (.block 1 (.seq (.region nat_short_r5 false) (.seq (.region nat_short_r6 false) (.region nat_short_r7 false)))) (.region nat_short_r8 false))
def nat_short_r9 : List AIns := [⟨some 39, none, .p (.mv (.t 6))⟩,
  ⟨some 40, none, .call F_nat_trim [(.t 39)]⟩,
  ⟨some 41, none, .p (.mv (.t 7))⟩,
  ⟨some 42, none, .p (.conv .u32 (.t 41))⟩,
  ⟨some 4, none, .p (.mv (.t 40))⟩,
  ⟨some 5, none, .p (.mv (.t 42))⟩]
def nat_short_c : ACode := .seq (.region nat_short_r0 false) (.seq (.region nat_short_r1 false) (.seq (.region nat_short_r2 false) (.seq (.seq (.region nat_short_r3 false) (.block 0 (.loop nat_short_l0))) (.seq (.region nat_short_r9 false) (.ret)))))
theorem nat_short_ok : fchk Pr (fun _ _ => false) Try.f121 = some (nat_short_c, [.tmp 4, .tmp 5], 43) := by kernel_rfl
theorem nat_short_fn : Pr.funcs[F_nat_short]? = some Try.f121 := Try.func121
/-! trammelref01.small -/
def ref01_small_r0 : List AIns := [⟨some 4, none, .p (.mv (.c (.nil)))⟩,
  ⟨some 5, none, .p (.mv (.c (.int .u64 0)))⟩]
def ref01_small_r1 : List AIns := [⟨some 9, none, .p (.mv (.t 0))⟩,
  ⟨some 10, none, .p (.len (.t 9))⟩,
  ⟨some 11, none, .e (.mksl 1 4 (.int .u32 0) (.t 10) (.t 10))⟩,
  ⟨some 6, none, .p (.mv (.t 11))⟩]
def ref01_small_r2 : List AIns := [⟨some 7, none, .p (.mv (.c (.int .u64 0)))⟩]
def ref01_small_r3 : List AIns := [⟨some 12, none, .p (.mv (.t 0))⟩,
  ⟨some 13, none, .p (.len (.t 12))⟩,
  ⟨some 14, none, .p (.bin .sub (.t 13) (.c (.int .i64 1)))⟩,
  ⟨some 8, none, .p (.mv (.t 14))⟩]
def ref01_small_r4 : List AIns := [⟨some 15, none, .p (.mv (.t 8))⟩,
  ⟨some 16, none, .p (.bin .geq (.t 15) (.c (.int .i64 0)))⟩]
def ref01_small_r5 : List AIns := [⟨some 19, none, .p (.mv (.t 7))⟩,
  ⟨some 20, none, .p (.bin .mul (.t 19) (.c (.int .u64 4294967296)))⟩,
  ⟨some 21, none, .p (.mv (.t 0))⟩,
  ⟨some 22, none, .p (.mv (.t 8))⟩,
  ⟨some 23, none, .p (.idxp 1 (.t 21) (.t 22))⟩,
  ⟨some 24, none, .p (.load none (.t 23))⟩,
  ⟨some 25, none, .p (.conv .u64 (.t 24))⟩,
  ⟨some 26, none, .p (.bin .add (.t 20) (.t 25))⟩,
  ⟨some 7, none, .p (.mv (.t 26))⟩]
def ref01_small_r6 : List AIns := [⟨some 27, none, .p (.mv (.t 6))⟩,
  ⟨some 28, none, .p (.mv (.t 8))⟩,
  ⟨some 29, none, .p (.mv (.t 7))⟩,
  ⟨some 30, none, .p (.mv (.t 1))⟩,
  ⟨some 31, none, .p (.bin .quo (.t 29) (.t 30))⟩,
  ⟨some 32, none, .p (.conv .u32 (.t 31))⟩,
  ⟨some 33, none, .p (.idxp 1 (.t 27) (.t 28))⟩,
  ⟨none, none, .e (.store 1 (.t 33) (.t 32))⟩]
def ref01_small_r7 : List AIns := [⟨some 34, none, .p (.mv (.t 7))⟩,
  ⟨some 35, none, .p (.mv (.t 1))⟩,
  ⟨some 36, none, .p (.bin .rem (.t 34) (.t 35))⟩,
  ⟨some 7, none, .p (.mv (.t 36))⟩]
def ref01_small_r8 : List AIns := [⟨some 17, none, .p (.mv (.t 8))⟩,
  ⟨some 18, none, .p (.bin .sub (.t 17) (.c (.int .i64 1)))⟩,
  ⟨some 8, none, .p (.mv (.t 18))⟩]
def ref01_small_l0 : ACode := .seq (.seq (.region ref01_small_r4 false) (.cond (.t 16) (.skip) (.exit 0))) (.seq (.block 1 (.seq (.region ref01_small_r5 false) (.seq (.region ref01_small_r6 false) (.region ref01_small_r7 false)))) (.region ref01_small_r8 false))
def ref01_small_r9 : List AIns := [⟨some 37, none, .p (.mv (.t 6))⟩,
  ⟨some 38, none, .call F_ref01_Norm [(.t 37)]⟩,
  ⟨some 39, none, .p (.mv (.t 7))⟩,
  ⟨some 4, none, .p (.mv (.t 38))⟩,
  ⟨some 5, none, .p (.mv (.t 39))⟩]
def ref01_small_c : ACode := .seq (.region ref01_small_r0 false) (.seq (.region ref01_small_r1 false) (.seq (.region ref01_small_r2 false) (.seq (.seq (.region ref01_small_r3 false) (.block 0 (.loop ref01_small_l0))) (.seq (.region ref01_small_r9 false) (.ret)))))
theorem ref01_small_ok : fchk Pr (fun _ _ => false) Try.f122 = some (ref01_small_c, [.tmp 4, .tmp 5], 40) := by kernel_rfl
theorem ref01_small_fn : Pr.funcs[F_ref01_small]? = some Try.f122 := Try.func122
end Go.Abs

/- The abstract code of the functions, printed by gen.py; the kernel checks it against the translation. -/
import Derived.Test.YtmbjamifiadncaaDoorNum
set_option maxRecDepth 100000
noncomputable section
namespace Go.Abs
open Go.Proofs
/-! nat.short -/
def nat_short_r0 : List AIns := [⟨some 4, none, .p (.mv (.c (.nil)))⟩,
  ⟨some 5, none, .p (.mv (.c (.int .u32 0)))⟩]
def nat_short_r1 : List AIns := [⟨some 9, none, .p (.mv (.t 0))⟩,
  ⟨some 10, none, .p (.len (.t 9))⟩,
  ⟨some 11, none, .e (.mksl 1 4 (.int .u32 0) (.t 10) (.t 10))⟩,
  ⟨some 6, none, .p (.mv (.t 11))⟩]
def nat_short_r2 : List AIns := [⟨some 7, none, .p (.mv (.c (.int .u64 0)))⟩]
def nat_short_r3 : List AIns := [⟨some 12, none, .p (.mv (.t 0))⟩,
  ⟨some 13, none, .p (.len (.t 12))⟩,
  ⟨some 14, none, .p (.bin .sub (.t 13) (.c (.int .i64 1)))⟩,
  ⟨some 8, none, .p (.mv (.t 14))⟩]
def nat_short_r4 : List AIns := [⟨some 15, none, .p (.mv (.t 8))⟩,
  ⟨some 16, none, .p (.bin .geq (.t 15) (.c (.int .i64 0)))⟩]
def nat_short_r5 : List AIns := [⟨some 19, none, .p (.mv (.t 7))⟩,
  ⟨some 20, none, .p (.bin .shl (.t 19) (.c (.int .u64 32)))⟩,
  ⟨some 21, none, .p (.mv (.t 0))⟩,
  ⟨some 22, none, .p (.mv (.t 8))⟩,
  ⟨some 23, none, .p (.idxp 1 (.t 21) (.t 22))⟩,
  ⟨some 24, none, .p (.load none (.t 23))⟩,
  ⟨some 25, none, .p (.conv .u64 (.t 24))⟩,
  ⟨some 26, none, .p (.bin .or (.t 20) (.t 25))⟩,
  ⟨some 7, none, .p (.mv (.t 26))⟩]
def nat_short_r6 : List AIns := [⟨some 27, none, .p (.mv (.t 6))⟩,
  ⟨some 28, none, .p (.mv (.t 8))⟩,
  ⟨some 29, none, .p (.mv (.t 7))⟩,
  ⟨some 30, none, .p (.mv (.t 1))⟩,
  ⟨some 31, none, .p (.conv .u64 (.t 30))⟩,
  ⟨some 32, none, .p (.bin .quo (.t 29) (.t 31))⟩,
  ⟨some 33, none, .p (.conv .u32 (.t 32))⟩,
  ⟨some 34, none, .p (.idxp 1 (.t 27) (.t 28))⟩,
  ⟨none, none, .e (.store 1 (.t 34) (.t 33))⟩]
def nat_short_r7 : List AIns := [⟨some 35, none, .p (.mv (.t 7))⟩,
  ⟨some 36, none, .p (.mv (.t 1))⟩,
  ⟨some 37, none, .p (.conv .u64 (.t 36))⟩,
  ⟨some 38, none, .p (.bin .rem (.t 35) (.t 37))⟩,
  ⟨some 7, none, .p (.mv (.t 38))⟩]
def nat_short_r8 : List AIns := [⟨some 17, none, .p (.mv (.t 8))⟩,
  ⟨some 18, none, .p (.bin .sub (.t 17) (.c (.int .i64 1)))⟩,
  ⟨some 8, none, .p (.mv (.t 18))⟩]
def nat_short_l0 : ACode := .seq (.seq (.region nat_short_r4 false) (.cond (.t 16) (.skip) (.exit 0))) (.seq (.block 1 (.seq (.region nat_short_r5 false) (.seq (.region nat_short_r6 false) (.region nat_short_r7 false)))) (.region nat_short_r8 false))
def nat_short_r9 : List AIns := [⟨some 39, none, .p (.mv (.t 6))⟩,
  ⟨some 40, none, .call F_nat_trim [(.t 39)]⟩,
  ⟨some 41, none, .p (.mv (.t 7))⟩,
  ⟨some 42, none, .p (.conv .u32 (.t 41))⟩,
  ⟨some 4, none, .p (.mv (.t 40))⟩,
  ⟨some 5, none, .p (.mv (.t 42))⟩]
def nat_short_c : ACode := .seq (.region nat_short_r0 false) (.seq (.region nat_short_r1 false) (.seq (.region nat_short_r2 false) (.seq (.seq (.region nat_short_r3 false) (.block 0 (.loop nat_short_l0))) (.seq (.region nat_short_r9 false) (.ret)))))
theorem nat_short_ok : fchk Pr (fun _ _ => false) Tryd.f64 = some (nat_short_c, [.tmp 4, .tmp 5], 43) := by kernel_rfl
theorem nat_short_fn : Pr.funcs[F_nat_short]? = some Tryd.f64 := Tryd.func64
/-! math/bits.LeadingZeros32 -/
def math_bits_LeadingZeros32_r0 : List AIns := [⟨some 2, none, .p (.mv (.c (.int .i64 0)))⟩]
def math_bits_LeadingZeros32_r1 : List AIns := [⟨some 3, none, .p (.mv (.t 0))⟩,
  ⟨some 4, none, .call F_math_bits_Len32 [(.t 3)]⟩,
  ⟨some 5, none, .p (.bin .sub (.c (.int .i64 32)) (.t 4))⟩,
  ⟨some 2, none, .p (.mv (.t 5))⟩]
def math_bits_LeadingZeros32_c : ACode := .seq (.region math_bits_LeadingZeros32_r0 false) (.seq (.region math_bits_LeadingZeros32_r1 false) (.ret))
theorem math_bits_LeadingZeros32_ok : fchk Pr (fun _ _ => false) Tryd.f65 = some (math_bits_LeadingZeros32_c, [.tmp 2], 6) := by kernel_rfl
theorem math_bits_LeadingZeros32_fn : Pr.funcs[F_math_bits_LeadingZeros32]? = some Tryd.f65 := Tryd.func65
/-! nat.shl -/
def nat_shl_r0 : List AIns := [⟨some 4, none, .p (.mv (.c (.nil)))⟩]
def nat_shl_r1 : List AIns := [⟨some 10, none, .p (.mv (.t 0))⟩,
  ⟨some 11, none, .call F_nat_trim [(.t 10)]⟩,
  ⟨some 0, none, .p (.mv (.t 11))⟩]
def nat_shl_r2 : List AIns := [⟨some 12, none, .p (.mv (.t 0))⟩,
  ⟨some 13, none, .p (.len (.t 12))⟩,
  ⟨some 14, none, .p (.bin .eql (.t 13) (.c (.int .i64 0)))⟩]
def nat_shl_r3 : List AIns := [⟨some 4, none, .p (.mv (.c (.nil)))⟩]
def nat_shl_r4 : List AIns := [⟨some 15, none, .p (.mv (.t 1))⟩,
  ⟨some 16, none, .p (.bin .quo (.t 15) (.c (.int .i64 32)))⟩,
  ⟨some 17, none, .p (.mv (.t 1))⟩,
  ⟨some 18, none, .p (.bin .rem (.t 17) (.c (.int .i64 32)))⟩,
  ⟨some 19, none, .p (.conv .u64 (.t 18))⟩,
  ⟨some 5, none, .p (.mv (.t 16))⟩,
  ⟨some 6, none, .p (.mv (.t 19))⟩]
def nat_shl_r5 : List AIns := [⟨some 20, none, .p (.mv (.t 0))⟩,
  ⟨some 21, none, .p (.len (.t 20))⟩,
  ⟨some 22, none, .p (.mv (.t 5))⟩,
  ⟨some 23, none, .p (.bin .add (.t 21) (.t 22))⟩,
  ⟨some 24, none, .p (.bin .add (.t 23) (.c (.int .i64 1)))⟩,
  ⟨some 25, none, .e (.mksl 1 4 (.int .u32 0) (.t 24) (.t 24))⟩,
  ⟨some 7, none, .p (.mv (.t 25))⟩]
def nat_shl_r6 : List AIns := [⟨some 26, none, .p (.mv (.t 0))⟩,
  ⟨some 27, none, .p (.len (.t 26))⟩,
  ⟨some 28, none, .p (.mv (.c (.int .i64 0)))⟩]
def nat_shl_r7 : List AIns := [⟨some 29, none, .p (.bin .lss (.t 28) (.t 27))⟩]
def nat_shl_r8 : List AIns := [⟨some 30, none, .p (.mv (.t 28))⟩,
  ⟨some 8, none, .p (.mv (.t 30))⟩]
def nat_shl_r9 : List AIns := [⟨some 31, none, .p (.mv (.t 0))⟩,
  ⟨some 32, none, .p (.mv (.t 8))⟩,
  ⟨some 33, none, .p (.idxp 1 (.t 31) (.t 32))⟩,
  ⟨some 34, none, .p (.load none (.t 33))⟩,
  ⟨some 35, none, .p (.conv .u64 (.t 34))⟩,
  ⟨some 36, none, .p (.mv (.t 6))⟩,
  ⟨some 37, none, .p (.bin .shl (.t 35) (.t 36))⟩,
  ⟨some 9, none, .p (.mv (.t 37))⟩]
def nat_shl_r10 : List AIns := [⟨some 38, none, .p (.mv (.t 7))⟩,
  ⟨some 39, none, .p (.mv (.t 8))⟩,
  ⟨some 40, none, .p (.mv (.t 5))⟩,
  ⟨some 41, none, .p (.bin .add (.t 39) (.t 40))⟩,
  ⟨some 42, none, .p (.idxp 1 (.t 38) (.t 41))⟩,
  ⟨some 43, none, .p (.load none (.t 42))⟩,
  ⟨some 44, none, .p (.mv (.t 9))⟩,
  ⟨some 45, none, .p (.conv .u32 (.t 44))⟩,
  ⟨some 46, none, .p (.bin .or (.t 43) (.t 45))⟩,
  ⟨some 47, none, .p (.idxp 1 (.t 38) (.t 41))⟩,
  ⟨none, none, .e (.store 1 (.t 47) (.t 46))⟩]
def nat_shl_r11 : List AIns := [⟨some 48, none, .p (.mv (.t 7))⟩,
  ⟨some 49, none, .p (.mv (.t 8))⟩,
  ⟨some 50, none, .p (.mv (.t 5))⟩,
  ⟨some 51, none, .p (.bin .add (.t 49) (.t 50))⟩,
  ⟨some 52, none, .p (.bin .add (.t 51) (.c (.int .i64 1)))⟩,
  ⟨some 53, none, .p (.mv (.t 9))⟩,
  ⟨some 54, none, .p (.bin .shr (.t 53) (.c (.int .u64 32)))⟩,
  ⟨some 55, none, .p (.conv .u32 (.t 54))⟩,
  ⟨some 56, none, .p (.idxp 1 (.t 48) (.t 52))⟩,
  ⟨none, none, .e (.store 1 (.t 56) (.t 55))⟩]
def nat_shl_r12 : List AIns := [⟨some 57, none, .p (.bin .add (.t 28) (.c (.int .i64 1)))⟩,
  ⟨some 28, none, .p (.mv (.t 57))⟩]
def nat_shl_l0 : ACode := .seq (.region nat_shl_r7 false) (.seq (.cond (.t 29) (.skip) (.exit 0)) (.seq (.block 1 (.seq (.region nat_shl_r8 false) (.seq (.region nat_shl_r9 false) (.seq (.region nat_shl_r10 false) (.region nat_shl_r11 false))))) (.region nat_shl_r12 false)))
def nat_shl_r13 : List AIns := [⟨some 58, none, .p (.mv (.t 7))⟩,
  ⟨some 59, none, .call F_nat_trim [(.t 58)]⟩,
  ⟨some 4, none, .p (.mv (.t 59))⟩]
def nat_shl_c : ACode := .seq (.region nat_shl_r0 false) (.seq (.region nat_shl_r1 false) (.seq (.seq (.region nat_shl_r2 false) (.cond (.t 14) (.seq (.region nat_shl_r3 false) (.ret)) (.skip))) (.seq (.region nat_shl_r4 false) (.seq (.region nat_shl_r5 false) (.seq (.seq (.region nat_shl_r6 false) (.block 0 (.loop nat_shl_l0))) (.seq (.region nat_shl_r13 false) (.ret)))))))
theorem nat_shl_ok : fchk Pr (fun _ _ => false) Tryd.f66 = some (nat_shl_c, [.tmp 4], 60) := by kernel_rfl
theorem nat_shl_fn : Pr.funcs[F_nat_shl]? = some Tryd.f66 := Tryd.func66
/-! nat.digit -/
def nat_digit_r0 : List AIns := [⟨some 4, none, .p (.mv (.c (.int .u32 0)))⟩]
def nat_digit_r1 : List AIns := [⟨some 15, none, .p (.mv (.t 1))⟩,
  ⟨some 16, none, .p (.len (.t 15))⟩,
  ⟨some 5, none, .p (.mv (.t 16))⟩]
def nat_digit_r2 : List AIns := [⟨some 17, none, .p (.mv (.t 0))⟩,
  ⟨some 18, none, .p (.mv (.t 5))⟩,
  ⟨some 19, none, .p (.idxp 1 (.t 17) (.t 18))⟩,
  ⟨some 20, none, .p (.load none (.t 19))⟩,
  ⟨some 21, none, .p (.conv .u64 (.t 20))⟩,
  ⟨some 22, none, .p (.bin .shl (.t 21) (.c (.int .u64 32)))⟩,
  ⟨some 23, none, .p (.mv (.t 0))⟩,
  ⟨some 24, none, .p (.mv (.t 5))⟩,
  ⟨some 25, none, .p (.bin .sub (.t 24) (.c (.int .i64 1)))⟩,
  ⟨some 26, none, .p (.idxp 1 (.t 23) (.t 25))⟩,
  ⟨some 27, none, .p (.load none (.t 26))⟩,
  ⟨some 28, none, .p (.conv .u64 (.t 27))⟩,
  ⟨some 29, none, .p (.bin .or (.t 22) (.t 28))⟩,
  ⟨some 6, none, .p (.mv (.t 29))⟩]
def nat_digit_r3 : List AIns := [⟨some 30, none, .p (.mv (.t 6))⟩,
  ⟨some 31, none, .p (.mv (.t 1))⟩,
  ⟨some 32, none, .p (.mv (.t 5))⟩,
  ⟨some 33, none, .p (.bin .sub (.t 32) (.c (.int .i64 1)))⟩,
  ⟨some 34, none, .p (.idxp 1 (.t 31) (.t 33))⟩,
  ⟨some 35, none, .p (.load none (.t 34))⟩,
  ⟨some 36, none, .p (.conv .u64 (.t 35))⟩,
  ⟨some 37, none, .p (.bin .quo (.t 30) (.t 36))⟩,
  ⟨some 38, none, .p (.mnx false (.t 37) (.c (.int .u64 4294967295)))⟩,
  ⟨some 7, none, .p (.mv (.t 38))⟩]
def nat_digit_r4 : List AIns := [⟨some 8, none, .p (.mv (.c (.int .u64 0)))⟩,
  ⟨some 9, none, .p (.mv (.c (.int .u64 0)))⟩]
def nat_digit_r5 : List AIns := [⟨some 39, none, .p (.mv (.t 5))⟩,
  ⟨some 40, none, .p (.bin .add (.t 39) (.c (.int .i64 1)))⟩,
  ⟨some 41, none, .p (.mv (.c (.int .i64 0)))⟩]
def nat_digit_r6 : List AIns := [⟨some 42, none, .p (.bin .lss (.t 41) (.t 40))⟩]
def nat_digit_r7 : List AIns := [⟨some 43, none, .p (.mv (.t 41))⟩,
  ⟨some 10, none, .p (.mv (.t 43))⟩]
def nat_digit_r8 : List AIns := [⟨some 44, none, .p (.mv (.t 8))⟩,
  ⟨some 11, none, .p (.mv (.t 44))⟩]
def nat_digit_r9 : List AIns := [⟨some 45, none, .p (.mv (.t 10))⟩,
  ⟨some 46, none, .p (.mv (.t 5))⟩,
  ⟨some 47, none, .p (.bin .lss (.t 45) (.t 46))⟩]
def nat_digit_r10 : List AIns := [⟨some 48, none, .p (.mv (.t 11))⟩,
  ⟨some 49, none, .p (.mv (.t 7))⟩,
  ⟨some 50, none, .p (.mv (.t 1))⟩,
  ⟨some 51, none, .p (.mv (.t 10))⟩,
  ⟨some 52, none, .p (.idxp 1 (.t 50) (.t 51))⟩,
  ⟨some 53, none, .p (.load none (.t 52))⟩,
  ⟨some 54, none, .p (.conv .u64 (.t 53))⟩,
  ⟨some 55, none, .p (.bin .mul (.t 49) (.t 54))⟩,
  ⟨some 56, none, .p (.bin .add (.t 48) (.t 55))⟩,
  ⟨some 11, none, .p (.mv (.t 56))⟩]
def nat_digit_r11 : List AIns := [⟨some 57, none, .p (.mv (.t 11))⟩,
  ⟨some 58, none, .p (.bin .shr (.t 57) (.c (.int .u64 32)))⟩,
  ⟨some 8, none, .p (.mv (.t 58))⟩]
def nat_digit_r12 : List AIns := [⟨some 59, none, .p (.mv (.t 0))⟩,
  ⟨some 60, none, .p (.mv (.t 10))⟩,
  ⟨some 61, none, .p (.idxp 1 (.t 59) (.t 60))⟩,
  ⟨some 62, none, .p (.load none (.t 61))⟩,
  ⟨some 63, none, .p (.conv .u64 (.t 62))⟩,
  ⟨some 64, none, .p (.mv (.t 11))⟩,
  ⟨some 65, none, .p (.conv .u32 (.t 64))⟩,
  ⟨some 66, none, .p (.conv .u64 (.t 65))⟩,
  ⟨some 67, none, .p (.bin .sub (.t 63) (.t 66))⟩,
  ⟨some 68, none, .p (.mv (.t 9))⟩,
  ⟨some 69, none, .p (.bin .sub (.t 67) (.t 68))⟩,
  ⟨some 12, none, .p (.mv (.t 69))⟩]
def nat_digit_r13 : List AIns := [⟨some 70, none, .p (.mv (.t 0))⟩,
  ⟨some 71, none, .p (.mv (.t 10))⟩,
  ⟨some 72, none, .p (.mv (.t 12))⟩,
  ⟨some 73, none, .p (.conv .u32 (.t 72))⟩,
  ⟨some 74, none, .p (.idxp 1 (.t 70) (.t 71))⟩,
  ⟨none, none, .e (.store 1 (.t 74) (.t 73))⟩]
def nat_digit_r14 : List AIns := [⟨some 75, none, .p (.mv (.t 12))⟩,
  ⟨some 76, none, .p (.bin .shr (.t 75) (.c (.int .u64 63)))⟩,
  ⟨some 9, none, .p (.mv (.t 76))⟩]
def nat_digit_r15 : List AIns := [⟨some 77, none, .p (.bin .add (.t 41) (.c (.int .i64 1)))⟩,
  ⟨some 41, none, .p (.mv (.t 77))⟩]
def nat_digit_l0 : ACode := .seq (.region nat_digit_r6 false) (.seq (.cond (.t 42) (.skip) (.exit 0)) (.seq (.block 1 (.seq (.region nat_digit_r7 false) (.seq (.region nat_digit_r8 false) (.seq (.seq (.region nat_digit_r9 false) (.cond (.t 47) (.region nat_digit_r10 false) (.skip))) (.seq (.region nat_digit_r11 false) (.seq (.region nat_digit_r12 false) (.seq (.region nat_digit_r13 false) (.region nat_digit_r14 false)))))))) (.region nat_digit_r15 false)))
def nat_digit_r16 : List AIns := [⟨some 78, none, .p (.mv (.t 9))⟩,
  ⟨some 79, none, .p (.bin .gtr (.t 78) (.c (.int .u64 0)))⟩]
def nat_digit_r17 : List AIns := [⟨some 80, none, .p (.mv (.t 7))⟩,
  ⟨some 81, none, .p (.bin .sub (.t 80) (.c (.int .u64 1)))⟩,
  ⟨some 7, none, .p (.mv (.t 81))⟩]
def nat_digit_r18 : List AIns := [⟨some 13, none, .p (.mv (.c (.int .u64 0)))⟩]
def nat_digit_r19 : List AIns := [⟨some 82, none, .p (.mv (.t 5))⟩,
  ⟨some 83, none, .p (.bin .add (.t 82) (.c (.int .i64 1)))⟩,
  ⟨some 84, none, .p (.mv (.c (.int .i64 0)))⟩]
def nat_digit_r20 : List AIns := [⟨some 85, none, .p (.bin .lss (.t 84) (.t 83))⟩]
def nat_digit_r21 : List AIns := [⟨some 86, none, .p (.mv (.t 84))⟩,
  ⟨some 14, none, .p (.mv (.t 86))⟩]
def nat_digit_r22 : List AIns := [⟨some 87, none, .p (.mv (.t 13))⟩,
  ⟨some 88, none, .p (.mv (.t 0))⟩,
  ⟨some 89, none, .p (.mv (.t 14))⟩,
  ⟨some 90, none, .p (.idxp 1 (.t 88) (.t 89))⟩,
  ⟨some 91, none, .p (.load none (.t 90))⟩,
  ⟨some 92, none, .p (.conv .u64 (.t 91))⟩,
  ⟨some 93, none, .p (.bin .add (.t 87) (.t 92))⟩,
  ⟨some 13, none, .p (.mv (.t 93))⟩]
def nat_digit_r23 : List AIns := [⟨some 94, none, .p (.mv (.t 14))⟩,
  ⟨some 95, none, .p (.mv (.t 5))⟩,
  ⟨some 96, none, .p (.bin .lss (.t 94) (.t 95))⟩]
def nat_digit_r24 : List AIns := [⟨some 97, none, .p (.mv (.t 13))⟩,
  ⟨some 98, none, .p (.mv (.t 1))⟩,
  ⟨some 99, none, .p (.mv (.t 14))⟩,
  ⟨some 100, none, .p (.idxp 1 (.t 98) (.t 99))⟩,
  ⟨some 101, none, .p (.load none (.t 100))⟩,
  ⟨some 102, none, .p (.conv .u64 (.t 101))⟩,
  ⟨some 103, none, .p (.bin .add (.t 97) (.t 102))⟩,
  ⟨some 13, none, .p (.mv (.t 103))⟩]
def nat_digit_r25 : List AIns := [⟨some 104, none, .p (.mv (.t 0))⟩,
  ⟨some 105, none, .p (.mv (.t 14))⟩,
  ⟨some 106, none, .p (.mv (.t 13))⟩,
  ⟨some 107, none, .p (.conv .u32 (.t 106))⟩,
  ⟨some 108, none, .p (.idxp 1 (.t 104) (.t 105))⟩,
  ⟨none, none, .e (.store 1 (.t 108) (.t 107))⟩]
def nat_digit_r26 : List AIns := [⟨some 109, none, .p (.mv (.t 13))⟩,
  ⟨some 110, none, .p (.bin .shr (.t 109) (.c (.int .u64 32)))⟩,
  ⟨some 13, none, .p (.mv (.t 110))⟩]
def nat_digit_r27 : List AIns := [⟨some 111, none, .p (.bin .add (.t 84) (.c (.int .i64 1)))⟩,
  ⟨some 84, none, .p (.mv (.t 111))⟩]
def nat_digit_l2 : ACode := .seq (.region nat_digit_r20 false) (.seq (.cond (.t 85) (.skip) (.exit 4)) (.seq (.block 5 (.seq (.region nat_digit_r21 false) (.seq (.region nat_digit_r22 false) (.seq (.seq (.region nat_digit_r23 false) (.cond (.t 96) (.region nat_digit_r24 false) (.skip))) (.seq (.region nat_digit_r25 false) (.region nat_digit_r26 false)))))) (.region nat_digit_r27 false)))
def nat_digit_r28 : List AIns := [⟨some 112, none, .p (.mv (.t 9))⟩,
  ⟨some 113, none, .p (.mv (.t 13))⟩,
  ⟨some 114, none, .p (.bin .sub (.t 112) (.t 113))⟩,
  ⟨some 9, none, .p (.mv (.t 114))⟩]
def nat_digit_l1 : ACode := .seq (.seq (.region nat_digit_r16 false) (.cond (.t 79) (.skip) (.exit 2))) (.block 3 (.seq (.region nat_digit_r17 false) (.seq (.region nat_digit_r18 false) (.seq (.seq (.region nat_digit_r19 false) (.block 4 (.loop nat_digit_l2))) (.region nat_digit_r28 false)))))
def nat_digit_r29 : List AIns := [⟨some 115, none, .p (.mv (.t 7))⟩,
  ⟨some 116, none, .p (.conv .u32 (.t 115))⟩,
  ⟨some 4, none, .p (.mv (.t 116))⟩]
def nat_digit_c : ACode := .seq (.region nat_digit_r0 false) (.seq (.region nat_digit_r1 false) (.seq (.region nat_digit_r2 true) (.seq (.region nat_digit_r3 false) (.seq (.region nat_digit_r4 false) (.seq (.seq (.region nat_digit_r5 false) (.block 0 (.loop nat_digit_l0))) (.seq (.block 2 (.loop nat_digit_l1)) (.seq (.region nat_digit_r29 false) (.ret))))))))
theorem nat_digit_ok : fchk Pr (fun _ _ => false) Tryd.f67 = some (nat_digit_c, [.tmp 4], 117) := by kernel_rfl
theorem nat_digit_fn : Pr.funcs[F_nat_digit]? = some Tryd.f67 := Tryd.func67
/-! nat.shr -/
def nat_shr_r0 : List AIns := [⟨some 4, none, .p (.mv (.c (.nil)))⟩]
def nat_shr_r1 : List AIns := [⟨some 10, none, .p (.mv (.t 0))⟩,
  ⟨some 11, none, .call F_nat_trim [(.t 10)]⟩,
  ⟨some 0, none, .p (.mv (.t 11))⟩]
def nat_shr_r2 : List AIns := [⟨some 12, none, .p (.mv (.t 1))⟩,
  ⟨some 13, none, .p (.bin .quo (.t 12) (.c (.int .i64 32)))⟩,
  ⟨some 14, none, .p (.mv (.t 1))⟩,
  ⟨some 15, none, .p (.bin .rem (.t 14) (.c (.int .i64 32)))⟩,
  ⟨some 16, none, .p (.conv .u64 (.t 15))⟩,
  ⟨some 5, none, .p (.mv (.t 13))⟩,
  ⟨some 6, none, .p (.mv (.t 16))⟩]
def nat_shr_r3 : List AIns := [⟨some 17, none, .p (.mv (.t 5))⟩,
  ⟨some 18, none, .p (.mv (.t 0))⟩,
  ⟨some 19, none, .p (.len (.t 18))⟩,
  ⟨some 20, none, .p (.bin .geq (.t 17) (.t 19))⟩]
def nat_shr_r4 : List AIns := [⟨some 4, none, .p (.mv (.c (.nil)))⟩]
def nat_shr_r5 : List AIns := [⟨some 21, none, .p (.mv (.t 0))⟩,
  ⟨some 22, none, .p (.len (.t 21))⟩,
  ⟨some 23, none, .p (.mv (.t 5))⟩,
  ⟨some 24, none, .p (.bin .sub (.t 22) (.t 23))⟩,
  ⟨some 25, none, .e (.mksl 1 4 (.int .u32 0) (.t 24) (.t 24))⟩,
  ⟨some 7, none, .p (.mv (.t 25))⟩]
def nat_shr_r6 : List AIns := [⟨some 26, none, .p (.mv (.t 7))⟩,
  ⟨some 27, none, .p (.len (.t 26))⟩,
  ⟨some 28, none, .p (.mv (.c (.int .i64 0)))⟩]
def nat_shr_r7 : List AIns := [⟨some 29, none, .p (.bin .lss (.t 28) (.t 27))⟩]
def nat_shr_r8 : List AIns := [⟨some 30, none, .p (.mv (.t 28))⟩,
  ⟨some 8, none, .p (.mv (.t 30))⟩]
def nat_shr_r9 : List AIns := [⟨some 31, none, .p (.mv (.t 0))⟩,
  ⟨some 32, none, .p (.mv (.t 8))⟩,
  ⟨some 33, none, .p (.mv (.t 5))⟩,
  ⟨some 34, none, .p (.bin .add (.t 32) (.t 33))⟩,
  ⟨some 35, none, .p (.idxp 1 (.t 31) (.t 34))⟩,
  ⟨some 36, none, .p (.load none (.t 35))⟩,
  ⟨some 37, none, .p (.conv .u64 (.t 36))⟩,
  ⟨some 9, none, .p (.mv (.t 37))⟩]
def nat_shr_r10 : List AIns := [⟨some 38, none, .p (.mv (.t 8))⟩,
  ⟨some 39, none, .p (.mv (.t 5))⟩,
  ⟨some 40, none, .p (.bin .add (.t 38) (.t 39))⟩,
  ⟨some 41, none, .p (.bin .add (.t 40) (.c (.int .i64 1)))⟩,
  ⟨some 42, none, .p (.mv (.t 0))⟩,
  ⟨some 43, none, .p (.len (.t 42))⟩,
  ⟨some 44, none, .p (.bin .lss (.t 41) (.t 43))⟩]
def nat_shr_r11 : List AIns := [⟨some 45, none, .p (.mv (.t 9))⟩,
  ⟨some 46, none, .p (.mv (.t 0))⟩,
  ⟨some 47, none, .p (.mv (.t 8))⟩,
  ⟨some 48, none, .p (.mv (.t 5))⟩,
  ⟨some 49, none, .p (.bin .add (.t 47) (.t 48))⟩,
  ⟨some 50, none, .p (.bin .add (.t 49) (.c (.int .i64 1)))⟩,
  ⟨some 51, none, .p (.idxp 1 (.t 46) (.t 50))⟩,
  ⟨some 52, none, .p (.load none (.t 51))⟩,
  ⟨some 53, none, .p (.conv .u64 (.t 52))⟩,
  ⟨some 54, none, .p (.bin .shl (.t 53) (.c (.int .u64 32)))⟩,
  ⟨some 55, none, .p (.bin .or (.t 45) (.t 54))⟩,
  ⟨some 9, none, .p (.mv (.t 55))⟩]
def nat_shr_r12 : List AIns := [⟨some 56, none, .p (.mv (.t 7))⟩,
  ⟨some 57, none, .p (.mv (.t 8))⟩,
  ⟨some 58, none, .p (.mv (.t 9))⟩,
  ⟨some 59, none, .p (.mv (.t 6))⟩,
  ⟨some 60, none, .p (.bin .shr (.t 58) (.t 59))⟩,
  ⟨some 61, none, .p (.conv .u32 (.t 60))⟩,
  ⟨some 62, none, .p (.idxp 1 (.t 56) (.t 57))⟩,
  ⟨none, none, .e (.store 1 (.t 62) (.t 61))⟩]
def nat_shr_r13 : List AIns := [⟨some 63, none, .p (.bin .add (.t 28) (.c (.int .i64 1)))⟩,
  ⟨some 28, none, .p (.mv (.t 63))⟩]
def nat_shr_l0 : ACode := .seq (.region nat_shr_r7 false) (.seq (.cond (.t 29) (.skip) (.exit 0)) (.seq (.block 1 (.seq (.region nat_shr_r8 false) (.seq (.region nat_shr_r9 false) (.seq (.seq (.region nat_shr_r10 false) (.cond (.t 44) (.region nat_shr_r11 false) (.skip))) (.region nat_shr_r12 false))))) (.region nat_shr_r13 false)))
def nat_shr_r14 : List AIns := [⟨some 64, none, .p (.mv (.t 7))⟩,
  ⟨some 65, none, .call F_nat_trim [(.t 64)]⟩,
  ⟨some 4, none, .p (.mv (.t 65))⟩]
def nat_shr_c : ACode := .seq (.region nat_shr_r0 false) (.seq (.region nat_shr_r1 false) (.seq (.region nat_shr_r2 false) (.seq (.seq (.region nat_shr_r3 false) (.cond (.t 20) (.seq (.region nat_shr_r4 false) (.ret)) (.skip))) (.seq (.region nat_shr_r5 false) (.seq (.seq (.region nat_shr_r6 false) (.block 0 (.loop nat_shr_l0))) (.seq (.region nat_shr_r14 false) (.ret)))))))
theorem nat_shr_ok : fchk Pr (fun _ _ => false) Tryd.f68 = some (nat_shr_c, [.tmp 4], 66) := by kernel_rfl
theorem nat_shr_fn : Pr.funcs[F_nat_shr]? = some Tryd.f68 := Tryd.func68
/-! math/bits.Len32 -/
def math_bits_Len32_r0 : List AIns := [⟨some 2, none, .p (.mv (.c (.int .i64 0)))⟩]
def math_bits_Len32_r1 : List AIns := [⟨some 3, none, .p (.mv (.t 0))⟩,
  ⟨some 4, none, .p (.bin .geq (.t 3) (.c (.int .u32 65536)))⟩]
def math_bits_Len32_r2 : List AIns := [⟨some 5, none, .p (.mv (.t 0))⟩,
  ⟨some 6, none, .p (.bin .shr (.t 5) (.c (.int .u64 16)))⟩,
  ⟨some 0, none, .p (.mv (.t 6))⟩]
def math_bits_Len32_r3 : List AIns := [⟨some 2, none, .p (.mv (.c (.int .i64 16)))⟩]
def math_bits_Len32_r4 : List AIns := [⟨some 7, none, .p (.mv (.t 0))⟩,
  ⟨some 8, none, .p (.bin .geq (.t 7) (.c (.int .u32 256)))⟩]
def math_bits_Len32_r5 : List AIns := [⟨some 9, none, .p (.mv (.t 0))⟩,
  ⟨some 10, none, .p (.bin .shr (.t 9) (.c (.int .u64 8)))⟩,
  ⟨some 0, none, .p (.mv (.t 10))⟩]
def math_bits_Len32_r6 : List AIns := [⟨some 11, none, .p (.mv (.t 2))⟩,
  ⟨some 12, none, .p (.bin .add (.t 11) (.c (.int .i64 8)))⟩,
  ⟨some 2, none, .p (.mv (.t 12))⟩]
def math_bits_Len32_r7 : List AIns := [⟨some 13, none, .p (.mv (.t 2))⟩,
  ⟨some 14, none, .p (.mv (.t 0))⟩,
  ⟨some 15, none, .p (.conv .u8 (.t 14))⟩,
  ⟨some 16, none, .p (.idxs (.c (.str str_0)) (.t 15))⟩,
  ⟨some 17, none, .p (.conv .i64 (.t 16))⟩,
  ⟨some 18, none, .p (.bin .add (.t 13) (.t 17))⟩,
  ⟨some 2, none, .p (.mv (.t 18))⟩]
def math_bits_Len32_c : ACode := .seq (.region math_bits_Len32_r0 false) (.seq (.seq (.region math_bits_Len32_r1 false) (.cond (.t 4) (.seq (.region math_bits_Len32_r2 false) (.region math_bits_Len32_r3 false)) (.skip))) (.seq (.seq (.region math_bits_Len32_r4 false) (.cond (.t 8) (.seq (.region math_bits_Len32_r5 false) (.region math_bits_Len32_r6 false)) (.skip))) (.seq (.region math_bits_Len32_r7 false) (.ret))))
theorem math_bits_Len32_ok : fchk Pr (fun _ _ => false) Tryd.f69 = some (math_bits_Len32_c, [.tmp 2], 19) := by kernel_rfl
theorem math_bits_Len32_fn : Pr.funcs[F_math_bits_Len32]? = some Tryd.f69 := Tryd.func69
/-! nat.less -/
def nat_less_r0 : List AIns := [⟨some 4, none, .p (.mv (.c (.nil)))⟩]
def nat_less_r1 : List AIns := [⟨some 9, none, .p (.mv (.t 0))⟩,
  ⟨some 10, none, .p (.len (.t 9))⟩,
  ⟨some 11, none, .e (.mksl 1 4 (.int .u32 0) (.t 10) (.t 10))⟩,
  ⟨some 5, none, .p (.mv (.t 11))⟩]
def nat_less_r2 : List AIns := [⟨some 6, none, .p (.mv (.c (.int .u64 0)))⟩]
def nat_less_r3 : List AIns := [⟨some 12, none, .p (.mv (.t 0))⟩,
  ⟨some 13, none, .p (.len (.t 12))⟩,
  ⟨some 14, none, .p (.mv (.c (.int .i64 0)))⟩]
def nat_less_r4 : List AIns := [⟨some 15, none, .p (.bin .lss (.t 14) (.t 13))⟩]
def nat_less_r5 : List AIns := [⟨some 16, none, .p (.mv (.t 14))⟩,
  ⟨some 7, none, .p (.mv (.t 16))⟩]
def nat_less_r6 : List AIns := [⟨some 17, none, .p (.mv (.t 0))⟩,
  ⟨some 18, none, .p (.mv (.t 7))⟩,
  ⟨some 19, none, .p (.idxp 1 (.t 17) (.t 18))⟩,
  ⟨some 20, none, .p (.load none (.t 19))⟩,
  ⟨some 21, none, .p (.conv .u64 (.t 20))⟩,
  ⟨some 22, none, .p (.mv (.t 6))⟩,
  ⟨some 23, none, .p (.bin .sub (.t 21) (.t 22))⟩,
  ⟨some 8, none, .p (.mv (.t 23))⟩]
def nat_less_r7 : List AIns := [⟨some 24, none, .p (.mv (.t 7))⟩,
  ⟨some 25, none, .p (.mv (.t 1))⟩,
  ⟨some 26, none, .p (.len (.t 25))⟩,
  ⟨some 27, none, .p (.bin .lss (.t 24) (.t 26))⟩]
def nat_less_r8 : List AIns := [⟨some 28, none, .p (.mv (.t 8))⟩,
  ⟨some 29, none, .p (.mv (.t 1))⟩,
  ⟨some 30, none, .p (.mv (.t 7))⟩,
  ⟨some 31, none, .p (.idxp 1 (.t 29) (.t 30))⟩,
  ⟨some 32, none, .p (.load none (.t 31))⟩,
  ⟨some 33, none, .p (.conv .u64 (.t 32))⟩,
  ⟨some 34, none, .p (.bin .sub (.t 28) (.t 33))⟩,
  ⟨some 8, none, .p (.mv (.t 34))⟩]
def nat_less_r9 : List AIns := [⟨some 35, none, .p (.mv (.t 5))⟩,
  ⟨some 36, none, .p (.mv (.t 7))⟩,
  ⟨some 37, none, .p (.mv (.t 8))⟩,
  ⟨some 38, none, .p (.conv .u32 (.t 37))⟩,
  ⟨some 39, none, .p (.idxp 1 (.t 35) (.t 36))⟩,
  ⟨none, none, .e (.store 1 (.t 39) (.t 38))⟩]
def nat_less_r10 : List AIns := [⟨some 40, none, .p (.mv (.t 8))⟩,
  ⟨some 41, none, .p (.bin .shr (.t 40) (.c (.int .u64 63)))⟩,
  ⟨some 6, none, .p (.mv (.t 41))⟩]
def nat_less_r11 : List AIns := [⟨some 42, none, .p (.bin .add (.t 14) (.c (.int .i64 1)))⟩,
  ⟨some 14, none, .p (.mv (.t 42))⟩]
def nat_less_l0 : ACode := .seq (.region nat_less_r4 false) (.seq (.cond (.t 15) (.skip) (.exit 0)) (.seq (.block 1 (.seq (.region nat_less_r5 false) (.seq (.region nat_less_r6 false) (.seq (.seq (.region nat_less_r7 false) (.cond (.t 27) (.region nat_less_r8 false) (.skip))) (.seq (.region nat_less_r9 false) (.region nat_less_r10 false)))))) (.region nat_less_r11 false)))
def nat_less_r12 : List AIns := [⟨some 43, none, .p (.mv (.t 5))⟩,
  ⟨some 44, none, .call F_nat_trim [(.t 43)]⟩,
  ⟨some 4, none, .p (.mv (.t 44))⟩]
def nat_less_c : ACode := .seq (.region nat_less_r0 false) (.seq (.region nat_less_r1 false) (.seq (.region nat_less_r2 false) (.seq (.seq (.region nat_less_r3 false) (.block 0 (.loop nat_less_l0))) (.seq (.region nat_less_r12 false) (.ret)))))
theorem nat_less_ok : fchk Pr (fun _ _ => false) Tryd.f70 = some (nat_less_c, [.tmp 4], 45) := by kernel_rfl
theorem nat_less_fn : Pr.funcs[F_nat_less]? = some Tryd.f70 := Tryd.func70
/-! gosem.cut.vars -/
def gosem_cut_vars_c : ACode := .bad
theorem gosem_cut_vars_ok : fchk Pr (fun _ _ => false) Tryd.f93 = some (gosem_cut_vars_c, [], 6) := by kernel_rfl
theorem gosem_cut_vars_fn : Pr.funcs[F_gosem_cut_vars]? = some Tryd.f93 := Tryd.func93
end Go.Abs

/- Part 4 of the proof of ElimInverses: Code0, Code1, Code2. -/
import Derived.Test.YtkljokmnimblnaaElimInversesK3
set_option maxRecDepth 100000
noncomputable section
namespace Go.Abs
open Go.Proofs
def a4h : List AIns := [⟨some 2, none, .p (.mv (.c (.bool false)))⟩]
def a4g : List AIns := [⟨some 10, none, .p (.mv (.t 0))⟩,
  ⟨some 11, none, .call a6y [(.t 10)]⟩,
  ⟨some 12, none, .call a1S [(.t 11)]⟩,
  ⟨some 9, none, .p (.mv (.t 12))⟩,
  ⟨some 13, none, .p (.ext (.t 9) 0)⟩,
  ⟨some 14, none, .p (.ext (.t 9) 1)⟩,
  ⟨some 15, none, .p (.ext (.t 9) 2)⟩,
  ⟨some 4, none, .e (.box 2 (.c (.agg [.bool false, .nil])))⟩,
  ⟨some 3, none, .p (.mv (.t 13))⟩,
  ⟨none, none, .e (.store 2 (.t 4) (.t 14))⟩,
  ⟨some 5, none, .p (.mv (.t 15))⟩]
def a4f : List AIns := [⟨some 17, none, .p (.mv (.t 0))⟩,
  ⟨some 18, none, .call a1s [(.t 17)]⟩,
  ⟨some 16, none, .p (.mv (.t 18))⟩,
  ⟨some 19, none, .p (.ext (.t 16) 0)⟩,
  ⟨some 20, none, .p (.ext (.t 16) 1)⟩,
  ⟨some 21, none, .p (.ext (.t 16) 2)⟩,
  ⟨some 7, none, .e (.box 2 (.c (.agg [.bool false, .nil])))⟩,
  ⟨some 6, none, .p (.mv (.t 19))⟩,
  ⟨none, none, .e (.store 2 (.t 7) (.t 20))⟩,
  ⟨some 8, none, .p (.mv (.t 21))⟩]
def a4e : List AIns := [⟨some 22, none, .p (.mv (.t 5))⟩,
  ⟨some 23, none, .p (.mv (.t 8))⟩,
  ⟨some 24, none, .p (.bin .eql (.t 22) (.t 23))⟩,
  ⟨some 25, none, .p (.mv (.t 24))⟩,
  ⟨some 26, some (25, true), .p (.mv (.t 3))⟩,
  ⟨some 27, some (25, true), .p (.mv (.t 6))⟩,
  ⟨some 28, some (25, true), .call b3X [(.t 26), (.t 27)]⟩,
  ⟨some 29, none, .p (.pick (.t 25) (.t 28) (.c (.bool false)))⟩,
  ⟨some 30, none, .p (.mv (.t 29))⟩,
  ⟨some 31, some (30, true), .p (.load (some 2) (.t 4))⟩,
  ⟨some 32, some (30, true), .p (.load (some 2) (.t 7))⟩,
  ⟨some 33, some (30, true), .call a7S [(.t 31), (.t 32)]⟩,
  ⟨some 34, none, .p (.pick (.t 30) (.t 33) (.c (.bool false)))⟩,
  ⟨some 2, none, .p (.mv (.t 34))⟩]
def b1S : ACode := .seq (.region a4h false) (.seq (.region a4g false) (.seq (.region a4f false) (.seq (.region a4e false) (.ret))))
theorem b0Y : fchk Pr (fun _ _ => false) Try.f8 = some (b1S, [.tmp 2], 35) := by kernel_rfl
theorem b0Z : Pr.funcs[a4O]? = some Try.f8 := Try.func8
def b6E : List AIns := [⟨some 2, none, .p (.mv (.c (.nil)))⟩]
def b6D : List AIns := [⟨some 3, none, .p (.mv (.c (.nil)))⟩]
def b6C : List AIns := [⟨some 4, none, .p (.mv (.c (.int .i64 0)))⟩]
def a8S : List AIns := [⟨some 5, none, .p (.mv (.t 4))⟩,
  ⟨some 6, none, .p (.mv (.t 0))⟩,
  ⟨some 7, none, .p (.len (.t 6))⟩,
  ⟨some 8, none, .p (.bin .lss (.t 5) (.t 7))⟩]
def b6B : List AIns := [⟨some 11, none, .p (.mv (.t 3))⟩,
  ⟨some 12, none, .p (.mv (.t 0))⟩,
  ⟨some 13, none, .p (.mv (.t 4))⟩,
  ⟨some 14, none, .p (.idxp 1 (.t 12) (.t 13))⟩,
  ⟨some 15, none, .p (.load none (.t 14))⟩,
  ⟨some 16, none, .call a6x [(.t 15)]⟩,
  ⟨some 17, none, .e (.bsl 1 [(.t 16)])⟩,
  ⟨some 18, none, .e (.app 1 24 false (.t 11) (.t 17))⟩,
  ⟨some 3, none, .p (.mv (.t 18))⟩]
def b6A : List AIns := [⟨some 9, none, .p (.mv (.t 4))⟩,
  ⟨some 10, none, .p (.bin .add (.t 9) (.c (.int .i64 1)))⟩,
  ⟨some 4, none, .p (.mv (.t 10))⟩]
def b6F : ACode := .seq (.seq (.region a8S false) (.cond (.t 8) (.skip) (.exit 0))) (.seq (.block 1 (.region b6B false)) (.region b6A false))
def a8R : List AIns := [⟨some 19, none, .p (.mv (.t 3))⟩,
  ⟨some 2, none, .p (.mv (.t 19))⟩]
def d0K : ACode := .seq (.region b6E false) (.seq (.region b6D false) (.seq (.seq (.region b6C false) (.block 0 (.loop b6F))) (.seq (.region a8R false) (.ret))))
theorem c8a : fchk Pr (fun _ _ => false) Try.f15 = some (d0K, [.tmp 2], 20) := by kernel_rfl
theorem c8b : Pr.funcs[a6y]? = some Try.f15 := Try.func15
def b4I : List AIns := [⟨some 2, none, .p (.mv (.c (.int .i64 0)))⟩,
  ⟨some 3, none, .p (.mv (.c (.int .i64 0)))⟩]
def b4H : List AIns := [⟨some 8, none, .p (.mv (.t 0))⟩,
  ⟨some 9, none, .call a5h [(.t 8)]⟩,
  ⟨some 4, none, .p (.mv (.t 9))⟩]
def b4G : List AIns := [⟨some 10, none, .p (.mv (.t 4))⟩,
  ⟨some 11, none, .p (.bin .neq (.t 10) (.c (.int .i64 0)))⟩]
def c7i : List AIns := [⟨some 12, none, .p (.mv (.t 4))⟩,
  ⟨some 2, none, .p (.mv (.c (.int .i64 0)))⟩,
  ⟨some 3, none, .p (.mv (.t 12))⟩]
def b4F : List AIns := [⟨some 14, none, .p (.mv (.t 0))⟩,
  ⟨some 15, none, .call a6t [(.t 14)]⟩,
  ⟨some 16, none, .p (.mv (.t 0))⟩,
  ⟨some 17, none, .call a6v [(.t 16)]⟩,
  ⟨some 18, none, .call a1d [(.t 15), (.t 17)]⟩,
  ⟨some 13, none, .p (.mv (.t 18))⟩,
  ⟨some 19, none, .p (.ext (.t 13) 0)⟩,
  ⟨some 20, none, .p (.ext (.t 13) 1)⟩,
  ⟨some 21, none, .p (.ext (.t 13) 2)⟩,
  ⟨some 7, none, .e (.box 4 (.c (.agg [.bool false, .nil, .bool false, .nil])))⟩,
  ⟨some 5, none, .p (.mv (.t 19))⟩,
  ⟨some 6, none, .p (.mv (.t 20))⟩,
  ⟨none, none, .e (.store 4 (.t 7) (.t 21))⟩]
def b4E : List AIns := [⟨some 22, none, .p (.mv (.t 6))⟩,
  ⟨some 23, none, .p (.len (.t 22))⟩,
  ⟨some 2, none, .p (.mv (.t 23))⟩,
  ⟨some 3, none, .p (.mv (.c (.int .i64 0)))⟩]
def c9m : ACode := .seq (.region b4I false) (.seq (.region b4H false) (.seq (.seq (.region b4G false) (.cond (.t 11) (.seq (.region c7i false) (.ret)) (.skip))) (.seq (.region b4F false) (.seq (.region b4E false) (.ret)))))
theorem c7j : fchk Pr (fun _ _ => false) Try.f16 = some (c9m, [.tmp 2, .tmp 3], 24) := by kernel_rfl
theorem c7k : Pr.funcs[b1z]? = some Try.f16 := Try.func16
def c0V : List AIns := [⟨some 4, none, .p (.mv (.c (.bool false)))⟩]
def c0U : List AIns := [⟨some 6, none, .p (.mv (.t 0))⟩,
  ⟨some 7, none, .p (.len (.t 6))⟩,
  ⟨some 8, none, .p (.mv (.t 1))⟩,
  ⟨some 9, none, .p (.len (.t 8))⟩,
  ⟨some 10, none, .p (.bin .neq (.t 7) (.t 9))⟩]
def d0O : List AIns := [⟨some 4, none, .p (.mv (.c (.bool false)))⟩]
def c0T : List AIns := [⟨some 5, none, .p (.mv (.c (.int .i64 0)))⟩]
def b0W : List AIns := [⟨some 11, none, .p (.mv (.t 5))⟩,
  ⟨some 12, none, .p (.mv (.t 0))⟩,
  ⟨some 13, none, .p (.len (.t 12))⟩,
  ⟨some 14, none, .p (.bin .lss (.t 11) (.t 13))⟩]
def c0S : List AIns := [⟨some 17, none, .p (.mv (.t 0))⟩,
  ⟨some 18, none, .p (.mv (.t 5))⟩,
  ⟨some 19, none, .p (.idxp 2 (.t 17) (.t 18))⟩,
  ⟨some 20, none, .p (.load (some 2) (.t 19))⟩,
  ⟨some 21, none, .p (.mv (.t 1))⟩,
  ⟨some 22, none, .p (.mv (.t 5))⟩,
  ⟨some 23, none, .p (.idxp 2 (.t 21) (.t 22))⟩,
  ⟨some 24, none, .p (.load (some 2) (.t 23))⟩,
  ⟨some 25, none, .call a7S [(.t 20), (.t 24)]⟩,
  ⟨some 26, none, .p (.un .not (.t 25))⟩]
def d0N : List AIns := [⟨some 4, none, .p (.mv (.c (.bool false)))⟩]
def c0R : List AIns := [⟨some 15, none, .p (.mv (.t 5))⟩,
  ⟨some 16, none, .p (.bin .add (.t 15) (.c (.int .i64 1)))⟩,
  ⟨some 5, none, .p (.mv (.t 16))⟩]
def d0Q : ACode := .seq (.seq (.region b0W false) (.cond (.t 14) (.skip) (.exit 0))) (.seq (.block 1 (.seq (.region c0S true) (.cond (.t 26) (.seq (.region d0N false) (.ret)) (.skip)))) (.region c0R false))
def c0Q : List AIns := [⟨some 4, none, .p (.mv (.c (.bool true)))⟩]
def d2U : ACode := .seq (.region c0V false) (.seq (.seq (.region c0U false) (.cond (.t 10) (.seq (.region d0O false) (.ret)) (.skip))) (.seq (.seq (.region c0T false) (.block 0 (.loop d0Q))) (.seq (.region c0Q false) (.ret))))
theorem d0P : fchk Pr (fun _ _ => false) Try.f19 = some (d2U, [.tmp 4], 27) := by kernel_rfl
theorem d0R : Pr.funcs[b3W]? = some Try.f19 := Try.func19
def b6y : List AIns := [⟨some 2, none, .p (.mv (.c (.nil)))⟩]
def b6x : List AIns := [⟨some 3, none, .p (.mv (.c (.nil)))⟩]
def b6w : List AIns := [⟨some 4, none, .p (.mv (.c (.int .i64 0)))⟩]
def a8Q : List AIns := [⟨some 5, none, .p (.mv (.t 4))⟩,
  ⟨some 6, none, .p (.mv (.t 0))⟩,
  ⟨some 7, none, .p (.len (.t 6))⟩,
  ⟨some 8, none, .p (.bin .lss (.t 5) (.t 7))⟩]
def b6v : List AIns := [⟨some 11, none, .p (.mv (.t 3))⟩,
  ⟨some 12, none, .p (.mv (.t 0))⟩,
  ⟨some 13, none, .p (.mv (.t 4))⟩,
  ⟨some 14, none, .p (.idxp 2 (.t 12) (.t 13))⟩,
  ⟨some 15, none, .p (.load (some 2) (.t 14))⟩,
  ⟨some 16, none, .call b3V [(.t 15)]⟩,
  ⟨some 17, none, .e (.bsl 2 [(.t 16)])⟩,
  ⟨some 18, none, .e (.app 2 32 false (.t 11) (.t 17))⟩,
  ⟨some 3, none, .p (.mv (.t 18))⟩]
def b6u : List AIns := [⟨some 9, none, .p (.mv (.t 4))⟩,
  ⟨some 10, none, .p (.bin .add (.t 9) (.c (.int .i64 1)))⟩,
  ⟨some 4, none, .p (.mv (.t 10))⟩]
def b6z : ACode := .seq (.seq (.region a8Q false) (.cond (.t 8) (.skip) (.exit 0))) (.seq (.block 1 (.region b6v false)) (.region b6u false))
def a8P : List AIns := [⟨some 19, none, .p (.mv (.t 3))⟩,
  ⟨some 2, none, .p (.mv (.t 19))⟩]
def d0J : ACode := .seq (.region b6y false) (.seq (.region b6x false) (.seq (.seq (.region b6w false) (.block 0 (.loop b6z))) (.seq (.region a8P false) (.ret))))
theorem c7Y : fchk Pr (fun _ _ => false) Try.f21 = some (d0J, [.tmp 2], 20) := by kernel_rfl
theorem c7Z : Pr.funcs[a6x]? = some Try.f21 := Try.func21
def c3K : List AIns := [⟨some 2, none, .e (.box 2 (.t 0))⟩,
  ⟨some 3, none, .e (.box 2 (.t 1))⟩,
  ⟨some 4, none, .p (.mv (.c (.bool false)))⟩]
def c3J : List AIns := [⟨some 6, none, .p (.fldp (.t 2) 0)⟩,
  ⟨some 7, none, .p (.load none (.t 6))⟩,
  ⟨some 8, none, .p (.fldp (.t 3) 0)⟩,
  ⟨some 9, none, .p (.load none (.t 8))⟩,
  ⟨some 10, none, .p (.beq true (.t 7) (.t 9))⟩,
  ⟨some 11, none, .p (.mv (.t 10))⟩,
  ⟨some 12, some (11, false), .p (.fldp (.t 2) 1)⟩,
  ⟨some 13, some (11, false), .p (.load none (.t 12))⟩,
  ⟨some 14, some (11, false), .p (.len (.t 13))⟩,
  ⟨some 15, some (11, false), .p (.fldp (.t 3) 1)⟩,
  ⟨some 16, some (11, false), .p (.load none (.t 15))⟩,
  ⟨some 17, some (11, false), .p (.len (.t 16))⟩,
  ⟨some 18, some (11, false), .p (.bin .neq (.t 14) (.t 17))⟩,
  ⟨some 19, none, .p (.pick (.t 11) (.c (.bool true)) (.t 18))⟩]
def d2X : List AIns := [⟨some 4, none, .p (.mv (.c (.bool false)))⟩]
def c3I : List AIns := [⟨some 5, none, .p (.mv (.c (.int .i64 0)))⟩]
def b3G : List AIns := [⟨some 20, none, .p (.mv (.t 5))⟩,
  ⟨some 21, none, .p (.fldp (.t 2) 1)⟩,
  ⟨some 22, none, .p (.load none (.t 21))⟩,
  ⟨some 23, none, .p (.len (.t 22))⟩,
  ⟨some 24, none, .p (.bin .lss (.t 20) (.t 23))⟩]
def c3H : List AIns := [⟨some 27, none, .p (.fldp (.t 2) 1)⟩,
  ⟨some 28, none, .p (.load none (.t 27))⟩,
  ⟨some 29, none, .p (.mv (.t 5))⟩,
  ⟨some 30, none, .p (.idxp 1 (.t 28) (.t 29))⟩,
  ⟨some 31, none, .p (.load none (.t 30))⟩,
  ⟨some 32, none, .p (.fldp (.t 3) 1)⟩,
  ⟨some 33, none, .p (.load none (.t 32))⟩,
  ⟨some 34, none, .p (.mv (.t 5))⟩,
  ⟨some 35, none, .p (.idxp 1 (.t 33) (.t 34))⟩,
  ⟨some 36, none, .p (.load none (.t 35))⟩,
  ⟨some 37, none, .p (.bin .neq (.t 31) (.t 36))⟩]
def d2W : List AIns := [⟨some 4, none, .p (.mv (.c (.bool false)))⟩]
def c3G : List AIns := [⟨some 25, none, .p (.mv (.t 5))⟩,
  ⟨some 26, none, .p (.bin .add (.t 25) (.c (.int .i64 1)))⟩,
  ⟨some 5, none, .p (.mv (.t 26))⟩]
def d2Z : ACode := .seq (.seq (.region b3G false) (.cond (.t 24) (.skip) (.exit 0))) (.seq (.block 1 (.seq (.region c3H true) (.cond (.t 37) (.seq (.region d2W false) (.ret)) (.skip)))) (.region c3G false))
def c3F : List AIns := [⟨some 4, none, .p (.mv (.c (.bool true)))⟩]
def d6b : ACode := .seq (.region c3K false) (.seq (.seq (.region c3J false) (.cond (.t 19) (.seq (.region d2X false) (.ret)) (.skip))) (.seq (.seq (.region c3I false) (.block 0 (.loop d2Z))) (.seq (.region c3F false) (.ret))))
theorem d2Y : fchk Pr (fun _ _ => false) Try.f23 = some (d6b, [.tmp 4], 38) := by kernel_rfl
theorem d3a : Pr.funcs[a7S]? = some Try.f23 := Try.func23
def c1b : List AIns := [⟨some 4, none, .p (.mv (.c (.bool false)))⟩]
def c1a : List AIns := [⟨some 6, none, .p (.mv (.t 0))⟩,
  ⟨some 7, none, .p (.len (.t 6))⟩,
  ⟨some 8, none, .p (.mv (.t 1))⟩,
  ⟨some 9, none, .p (.len (.t 8))⟩,
  ⟨some 10, none, .p (.bin .neq (.t 7) (.t 9))⟩]
def d0T : List AIns := [⟨some 4, none, .p (.mv (.c (.bool false)))⟩]
def c0Z : List AIns := [⟨some 5, none, .p (.mv (.c (.int .i64 0)))⟩]
def b0X : List AIns := [⟨some 11, none, .p (.mv (.t 5))⟩,
  ⟨some 12, none, .p (.mv (.t 0))⟩,
  ⟨some 13, none, .p (.len (.t 12))⟩,
  ⟨some 14, none, .p (.bin .lss (.t 11) (.t 13))⟩]
def c0Y : List AIns := [⟨some 17, none, .p (.mv (.t 0))⟩,
  ⟨some 18, none, .p (.mv (.t 5))⟩,
  ⟨some 19, none, .p (.idxp 1 (.t 17) (.t 18))⟩,
  ⟨some 20, none, .p (.load none (.t 19))⟩,
  ⟨some 21, none, .p (.mv (.t 1))⟩,
  ⟨some 22, none, .p (.mv (.t 5))⟩,
  ⟨some 23, none, .p (.idxp 1 (.t 21) (.t 22))⟩,
  ⟨some 24, none, .p (.load none (.t 23))⟩,
  ⟨some 25, none, .call b3W [(.t 20), (.t 24)]⟩,
  ⟨some 26, none, .p (.un .not (.t 25))⟩]
def d0S : List AIns := [⟨some 4, none, .p (.mv (.c (.bool false)))⟩]
def c0X : List AIns := [⟨some 15, none, .p (.mv (.t 5))⟩,
  ⟨some 16, none, .p (.bin .add (.t 15) (.c (.int .i64 1)))⟩,
  ⟨some 5, none, .p (.mv (.t 16))⟩]
def d0V : ACode := .seq (.seq (.region b0X false) (.cond (.t 14) (.skip) (.exit 0))) (.seq (.block 1 (.seq (.region c0Y true) (.cond (.t 26) (.seq (.region d0S false) (.ret)) (.skip)))) (.region c0X false))
def c0W : List AIns := [⟨some 4, none, .p (.mv (.c (.bool true)))⟩]
def d2V : ACode := .seq (.region c1b false) (.seq (.seq (.region c1a false) (.cond (.t 10) (.seq (.region d0T false) (.ret)) (.skip))) (.seq (.seq (.region c0Z false) (.block 0 (.loop d0V))) (.seq (.region c0W false) (.ret))))
theorem d0U : fchk Pr (fun _ _ => false) Try.f30 = some (d2V, [.tmp 4], 27) := by kernel_rfl
theorem d0W : Pr.funcs[b3X]? = some Try.f30 := Try.func30
def a3k : List AIns := [⟨some 2, none, .p (.mv (.c (.nil)))⟩,
  ⟨some 3, none, .e (.box 2 (.c (.agg [.bool false, .nil])))⟩,
  ⟨some 4, none, .p (.mv (.c (.int .i64 0)))⟩]
def a3j : List AIns := [⟨some 14, none, .p (.mv (.t 0))⟩,
  ⟨some 15, none, .call a9k [(.t 14)]⟩,
  ⟨some 13, none, .p (.mv (.t 15))⟩,
  ⟨some 16, none, .p (.ext (.t 13) 0)⟩,
  ⟨some 17, none, .p (.ext (.t 13) 1)⟩,
  ⟨some 5, none, .p (.mv (.t 16))⟩,
  ⟨some 6, none, .p (.mv (.t 17))⟩]
def a3i : List AIns := [⟨some 18, none, .p (.mv (.t 6))⟩,
  ⟨some 19, none, .p (.bin .neq (.t 18) (.c (.int .i64 0)))⟩]
def b1p : List AIns := [⟨some 20, none, .p (.bld [.bool false, .nil] [])⟩,
  ⟨some 21, none, .p (.mv (.t 6))⟩,
  ⟨some 2, none, .p (.mv (.c (.nil)))⟩,
  ⟨none, none, .e (.store 2 (.t 3) (.t 20))⟩,
  ⟨some 4, none, .p (.mv (.t 21))⟩]
def a5K : List AIns := [⟨some 22, none, .p (.mv (.t 0))⟩,
  ⟨some 23, none, .call b1R [(.t 22)]⟩,
  ⟨some 7, none, .e (.box 2 (.c (.agg [.bool false, .nil])))⟩,
  ⟨none, none, .e (.store 2 (.t 7) (.t 23))⟩]
def a5J : List AIns := [⟨some 24, none, .p (.load (some 2) (.t 7))⟩,
  ⟨some 25, none, .call a2i [(.t 24)]⟩,
  ⟨some 26, none, .p (.bin .eql (.t 25) (.c (.int .i64 0)))⟩]
def b1o : List AIns := [⟨some 27, none, .p (.bld [.bool false, .nil] [])⟩,
  ⟨some 2, none, .p (.mv (.c (.nil)))⟩,
  ⟨none, none, .e (.store 2 (.t 3) (.t 27))⟩,
  ⟨some 4, none, .p (.mv (.c (.int .i64 50)))⟩]
def b1n : List AIns := [⟨some 8, none, .p (.mv (.c (.nil)))⟩]
def b1m : List AIns := [⟨some 28, none, .p (.mv (.t 5))⟩,
  ⟨some 29, none, .p (.mv (.c (.int .i64 0)))⟩]
def a5I : List AIns := [⟨some 30, none, .p (.bin .lss (.t 29) (.t 28))⟩]
def b0e : List AIns := [⟨some 31, none, .p (.mv (.t 29))⟩,
  ⟨some 9, none, .p (.mv (.t 31))⟩]
def b0d : List AIns := [⟨some 32, none, .p (.mv (.t 5))⟩,
  ⟨some 33, none, .p (.mv (.c (.int .i64 0)))⟩]
def a4J : List AIns := [⟨some 34, none, .p (.bin .lss (.t 33) (.t 32))⟩]
def b0c : List AIns := [⟨some 35, none, .p (.mv (.t 33))⟩,
  ⟨some 10, none, .p (.mv (.t 35))⟩]
def b0b : List AIns := [⟨some 36, none, .p (.mv (.t 8))⟩,
  ⟨some 37, none, .p (.mv (.t 0))⟩,
  ⟨some 38, none, .p (.mv (.t 10))⟩,
  ⟨some 39, none, .p (.mv (.t 9))⟩,
  ⟨some 40, none, .call a5P [(.t 37), (.t 38), (.t 39)]⟩,
  ⟨some 41, none, .e (.bsl 2 [(.t 40)])⟩,
  ⟨some 42, none, .e (.app 2 32 false (.t 36) (.t 41))⟩,
  ⟨some 8, none, .p (.mv (.t 42))⟩]
def b0a : List AIns := [⟨some 43, none, .p (.bin .add (.t 33) (.c (.int .i64 1)))⟩,
  ⟨some 33, none, .p (.mv (.t 43))⟩]
def c4g : ACode := .seq (.region a4J false) (.seq (.cond (.t 34) (.skip) (.exit 2)) (.seq (.block 3 (.seq (.region b0c false) (.region b0b false))) (.region b0a false)))
def a9Z : List AIns := [⟨some 44, none, .p (.bin .add (.t 29) (.c (.int .i64 1)))⟩,
  ⟨some 29, none, .p (.mv (.t 44))⟩]
def c4h : ACode := .seq (.region a5I false) (.seq (.cond (.t 30) (.skip) (.exit 0)) (.seq (.block 1 (.seq (.region b0e false) (.seq (.region b0d false) (.block 2 (.loop c4g))))) (.region a9Z false)))
def a9Y : List AIns := [⟨some 46, none, .p (.mv (.t 8))⟩,
  ⟨some 47, none, .p (.load (some 2) (.t 7))⟩,
  ⟨some 48, none, .call a6z [(.t 46), (.t 47)]⟩,
  ⟨some 45, none, .p (.mv (.t 48))⟩,
  ⟨some 49, none, .p (.ext (.t 45) 0)⟩,
  ⟨some 50, none, .p (.ext (.t 45) 1)⟩,
  ⟨some 8, none, .p (.mv (.t 49))⟩,
  ⟨none, none, .e (.store 2 (.t 7) (.t 50))⟩]
def a9X : List AIns := [⟨some 11, none, .p (.mv (.c (.nil)))⟩]
def a9W : List AIns := [⟨some 51, none, .p (.mv (.t 5))⟩,
  ⟨some 52, none, .p (.mv (.c (.int .i64 0)))⟩]
def a4I : List AIns := [⟨some 53, none, .p (.bin .lss (.t 52) (.t 51))⟩]
def a9V : List AIns := [⟨some 54, none, .p (.mv (.t 52))⟩,
  ⟨some 12, none, .p (.mv (.t 54))⟩]
def a9U : List AIns := [⟨some 55, none, .p (.mv (.t 11))⟩,
  ⟨some 56, none, .p (.mv (.t 8))⟩,
  ⟨some 57, none, .p (.mv (.t 12))⟩,
  ⟨some 58, none, .p (.mv (.t 5))⟩,
  ⟨some 59, none, .p (.bin .mul (.t 57) (.t 58))⟩,
  ⟨some 60, none, .p (.mv (.t 12))⟩,
  ⟨some 61, none, .p (.bin .add (.t 60) (.c (.int .i64 1)))⟩,
  ⟨some 62, none, .p (.mv (.t 5))⟩,
  ⟨some 63, none, .p (.bin .mul (.t 61) (.t 62))⟩,
  ⟨some 64, none, .p (.mv (.t 12))⟩,
  ⟨some 65, none, .p (.bin .add (.t 64) (.c (.int .i64 1)))⟩,
  ⟨some 66, none, .p (.mv (.t 5))⟩,
  ⟨some 67, none, .p (.bin .mul (.t 65) (.t 66))⟩,
  ⟨some 68, none, .p (.slc 2 (.t 56) (some (.t 59)) (some (.t 63)) (some (.t 67)))⟩,
  ⟨some 69, none, .e (.bsl 1 [(.t 68)])⟩,
  ⟨some 70, none, .e (.app 1 24 false (.t 55) (.t 69))⟩,
  ⟨some 11, none, .p (.mv (.t 70))⟩]
def a9T : List AIns := [⟨some 71, none, .p (.bin .add (.t 52) (.c (.int .i64 1)))⟩,
  ⟨some 52, none, .p (.mv (.t 71))⟩]
def c4f : ACode := .seq (.region a4I false) (.seq (.cond (.t 53) (.skip) (.exit 4)) (.seq (.block 5 (.seq (.region a9V false) (.region a9U false))) (.region a9T false)))
def a9S : List AIns := [⟨some 72, none, .p (.mv (.t 11))⟩,
  ⟨some 73, none, .p (.load (some 2) (.t 7))⟩,
  ⟨some 2, none, .p (.mv (.t 72))⟩,
  ⟨none, none, .e (.store 2 (.t 3) (.t 73))⟩,
  ⟨some 4, none, .p (.mv (.c (.int .i64 0)))⟩]
def c4R : ACode := .seq (.region a3k false) (.seq (.region a3j false) (.seq (.seq (.region a3i false) (.cond (.t 19) (.seq (.region b1p false) (.ret)) (.skip))) (.seq (.region a5K false) (.seq (.seq (.region a5J false) (.cond (.t 26) (.seq (.region b1o false) (.ret)) (.skip))) (.seq (.region b1n false) (.seq (.seq (.region b1m false) (.block 0 (.loop c4h))) (.seq (.region a9Y false) (.seq (.region a9X false) (.seq (.seq (.region a9W false) (.block 4 (.loop c4f))) (.seq (.region a9S true) (.ret)))))))))))
theorem a5L : fchk Pr (fun _ _ => false) Try.f31 = some (c4R, [.tmp 2, .cell 3 (some 2), .tmp 4], 74) := by kernel_rfl
theorem a5M : Pr.funcs[a1S]? = some Try.f31 := Try.func31
def a1N : List AIns := [⟨some 2, none, .p (.mv (.c (.nil)))⟩,
  ⟨some 3, none, .e (.box 2 (.c (.agg [.bool false, .nil])))⟩,
  ⟨some 4, none, .p (.mv (.c (.int .i64 0)))⟩]
def a1M : List AIns := [⟨some 23, none, .p (.mv (.t 0))⟩,
  ⟨some 24, none, .call a5h [(.t 23)]⟩,
  ⟨some 5, none, .p (.mv (.t 24))⟩]
def a1L : List AIns := [⟨some 25, none, .p (.mv (.t 5))⟩,
  ⟨some 26, none, .p (.bin .neq (.t 25) (.c (.int .i64 0)))⟩]
def a9E : List AIns := [⟨some 27, none, .p (.bld [.bool false, .nil] [])⟩,
  ⟨some 28, none, .p (.mv (.t 5))⟩,
  ⟨some 2, none, .p (.mv (.c (.nil)))⟩,
  ⟨none, none, .e (.store 2 (.t 3) (.t 27))⟩,
  ⟨some 4, none, .p (.mv (.t 28))⟩]
def a2D : List AIns := [⟨some 29, none, .p (.mv (.t 0))⟩,
  ⟨some 30, none, .p (.len (.t 29))⟩,
  ⟨some 6, none, .p (.mv (.t 30))⟩]
def a2C : List AIns := [⟨some 31, none, .p (.mv (.t 6))⟩,
  ⟨some 32, none, .p (.mv (.t 0))⟩,
  ⟨some 33, none, .call a6v [(.t 32)]⟩,
  ⟨some 34, none, .p (.bin .neq (.t 31) (.t 33))⟩]
def a9D : List AIns := [⟨some 35, none, .p (.bld [.bool false, .nil] [])⟩,
  ⟨some 2, none, .p (.mv (.c (.nil)))⟩,
  ⟨none, none, .e (.store 2 (.t 3) (.t 35))⟩,
  ⟨some 4, none, .p (.mv (.c (.int .i64 8)))⟩]
def a4u : List AIns := [⟨some 37, none, .p (.mv (.t 0))⟩,
  ⟨some 38, none, .call b1z [(.t 37)]⟩,
  ⟨some 36, none, .p (.mv (.t 38))⟩,
  ⟨some 39, none, .p (.ext (.t 36) 0)⟩,
  ⟨some 40, none, .p (.ext (.t 36) 1)⟩,
  ⟨some 7, none, .p (.mv (.t 39))⟩,
  ⟨some 8, none, .p (.mv (.t 40))⟩]
def a4t : List AIns := [⟨some 41, none, .p (.mv (.t 7))⟩,
  ⟨some 42, none, .p (.mv (.t 6))⟩,
  ⟨some 43, none, .p (.bin .lss (.t 41) (.t 42))⟩]
def a9C : List AIns := [⟨some 44, none, .p (.bld [.bool false, .nil] [])⟩,
  ⟨some 2, none, .p (.mv (.c (.nil)))⟩,
  ⟨none, none, .e (.store 2 (.t 3) (.t 44))⟩,
  ⟨some 4, none, .p (.mv (.c (.int .i64 50)))⟩]
def a7y : List AIns := [⟨some 46, none, .p (.mv (.t 6))⟩,
  ⟨some 47, none, .call b1A [(.t 46)]⟩,
  ⟨some 45, none, .p (.mv (.t 47))⟩,
  ⟨some 48, none, .p (.ext (.t 45) 0)⟩,
  ⟨some 49, none, .p (.ext (.t 45) 1)⟩,
  ⟨some 9, none, .p (.mv (.t 48))⟩,
  ⟨some 10, none, .p (.mv (.t 49))⟩]
def a7x : List AIns := [⟨some 11, none, .p (.mv (.c (.nil)))⟩]
def a7w : List AIns := [⟨some 12, none, .p (.mv (.c (.int .i64 0)))⟩]
def a3F : List AIns := [⟨some 50, none, .p (.mv (.t 12))⟩,
  ⟨some 51, none, .p (.mv (.t 6))⟩,
  ⟨some 52, none, .p (.bin .lss (.t 50) (.t 51))⟩]
def a7v : List AIns := [⟨some 13, none, .p (.mv (.c (.nil)))⟩]
def a7u : List AIns := [⟨some 55, none, .p (.mv (.t 13))⟩,
  ⟨some 56, none, .p (.mv (.t 0))⟩,
  ⟨some 57, none, .p (.mv (.t 12))⟩,
  ⟨some 58, none, .p (.idxp 1 (.t 56) (.t 57))⟩,
  ⟨some 59, none, .p (.load none (.t 58))⟩,
  ⟨some 60, none, .e (.app 2 32 false (.t 55) (.t 59))⟩,
  ⟨some 13, none, .p (.mv (.t 60))⟩]
def a7t : List AIns := [⟨some 61, none, .p (.mv (.t 11))⟩,
  ⟨some 62, none, .p (.mv (.t 13))⟩,
  ⟨some 63, none, .p (.mv (.t 9))⟩,
  ⟨some 64, none, .p (.mv (.t 12))⟩,
  ⟨some 65, none, .p (.idxp 1 (.t 63) (.t 64))⟩,
  ⟨some 66, none, .p (.load none (.t 65))⟩,
  ⟨some 67, none, .e (.app 2 32 false (.t 62) (.t 66))⟩,
  ⟨some 68, none, .e (.bslm 1 [(.t 67)])⟩,
  ⟨some 69, none, .e (.app 1 24 false (.t 61) (.t 68))⟩,
  ⟨some 11, none, .p (.mv (.t 69))⟩]
def a7s : List AIns := [⟨some 53, none, .p (.mv (.t 12))⟩,
  ⟨some 54, none, .p (.bin .add (.t 53) (.c (.int .i64 1)))⟩,
  ⟨some 12, none, .p (.mv (.t 54))⟩]
def c1k : ACode := .seq (.seq (.region a3F false) (.cond (.t 52) (.skip) (.exit 0))) (.seq (.block 1 (.seq (.region a7v false) (.seq (.region a7u false) (.region a7t false)))) (.region a7s false))
def a7r : List AIns := [⟨some 71, none, .p (.mv (.t 11))⟩,
  ⟨some 72, none, .call a6t [(.t 71)]⟩,
  ⟨some 73, none, .p (.mv (.t 6))⟩,
  ⟨some 74, none, .p (.bin .mul (.c (.int .i64 2)) (.t 73))⟩,
  ⟨some 75, none, .call a1d [(.t 72), (.t 74)]⟩,
  ⟨some 70, none, .p (.mv (.t 75))⟩,
  ⟨some 76, none, .p (.ext (.t 70) 0)⟩,
  ⟨some 77, none, .p (.ext (.t 70) 1)⟩,
  ⟨some 78, none, .p (.ext (.t 70) 2)⟩,
  ⟨some 16, none, .e (.box 4 (.c (.agg [.bool false, .nil, .bool false, .nil])))⟩,
  ⟨some 14, none, .p (.mv (.t 76))⟩,
  ⟨some 15, none, .p (.mv (.t 77))⟩,
  ⟨none, none, .e (.store 4 (.t 16) (.t 78))⟩]
def a7q : List AIns := [⟨some 17, none, .p (.mv (.c (.nil)))⟩]
def a7p : List AIns := [⟨some 18, none, .p (.mv (.c (.int .i64 0)))⟩]
def a3E : List AIns := [⟨some 79, none, .p (.mv (.t 18))⟩,
  ⟨some 80, none, .p (.mv (.t 6))⟩,
  ⟨some 81, none, .p (.bin .lss (.t 79) (.t 80))⟩]
def a7o : List AIns := [⟨some 84, none, .p (.mv (.t 17))⟩,
  ⟨some 85, none, .p (.mv (.t 14))⟩,
  ⟨some 86, none, .p (.mv (.t 18))⟩,
  ⟨some 87, none, .p (.idxp 1 (.t 85) (.t 86))⟩,
  ⟨some 88, none, .p (.load none (.t 87))⟩,
  ⟨some 89, none, .p (.mv (.t 6))⟩,
  ⟨some 90, none, .p (.slc 4 (.t 88) (some (.t 89)) none none)⟩,
  ⟨some 91, none, .e (.app 4 64 false (.t 84) (.t 90))⟩,
  ⟨some 17, none, .p (.mv (.t 91))⟩]
def a7n : List AIns := [⟨some 82, none, .p (.mv (.t 18))⟩,
  ⟨some 83, none, .p (.bin .add (.t 82) (.c (.int .i64 1)))⟩,
  ⟨some 18, none, .p (.mv (.t 83))⟩]
def c1j : ACode := .seq (.seq (.region a3E false) (.cond (.t 81) (.skip) (.exit 2))) (.seq (.block 3 (.region a7o false)) (.region a7n false))
def a7m : List AIns := [⟨some 93, none, .p (.mv (.t 17))⟩,
  ⟨some 94, none, .call a6U [(.t 93)]⟩,
  ⟨some 92, none, .p (.mv (.t 94))⟩,
  ⟨some 95, none, .p (.ext (.t 92) 0)⟩,
  ⟨some 96, none, .p (.ext (.t 92) 1)⟩,
  ⟨some 20, none, .e (.box 2 (.c (.agg [.bool false, .nil])))⟩,
  ⟨some 19, none, .p (.mv (.t 95))⟩,
  ⟨none, none, .e (.store 2 (.t 20) (.t 96))⟩]
def a7l : List AIns := [⟨some 21, none, .p (.mv (.c (.nil)))⟩]
def a7k : List AIns := [⟨some 22, none, .p (.mv (.c (.int .i64 0)))⟩]
def a3D : List AIns := [⟨some 97, none, .p (.mv (.t 22))⟩,
  ⟨some 98, none, .p (.mv (.t 6))⟩,
  ⟨some 99, none, .p (.bin .lss (.t 97) (.t 98))⟩]
def a7j : List AIns := [⟨some 102, none, .p (.mv (.t 21))⟩,
  ⟨some 103, none, .p (.mv (.t 19))⟩,
  ⟨some 104, none, .p (.mv (.t 22))⟩,
  ⟨some 105, none, .p (.mv (.t 6))⟩,
  ⟨some 106, none, .p (.bin .mul (.t 104) (.t 105))⟩,
  ⟨some 107, none, .p (.mv (.t 22))⟩,
  ⟨some 108, none, .p (.bin .add (.t 107) (.c (.int .i64 1)))⟩,
  ⟨some 109, none, .p (.mv (.t 6))⟩,
  ⟨some 110, none, .p (.bin .mul (.t 108) (.t 109))⟩,
  ⟨some 111, none, .p (.slc 2 (.t 103) (some (.t 106)) (some (.t 110)) none)⟩,
  ⟨some 112, none, .e (.bsl 1 [(.t 111)])⟩,
  ⟨some 113, none, .e (.app 1 24 false (.t 102) (.t 112))⟩,
  ⟨some 21, none, .p (.mv (.t 113))⟩]
def a7i : List AIns := [⟨some 100, none, .p (.mv (.t 22))⟩,
  ⟨some 101, none, .p (.bin .add (.t 100) (.c (.int .i64 1)))⟩,
  ⟨some 22, none, .p (.mv (.t 101))⟩]
def c1i : ACode := .seq (.seq (.region a3D false) (.cond (.t 99) (.skip) (.exit 4))) (.seq (.block 5 (.region a7j false)) (.region a7i false))
def a7h : List AIns := [⟨some 114, none, .p (.mv (.t 21))⟩,
  ⟨some 115, none, .p (.load (some 2) (.t 20))⟩,
  ⟨some 2, none, .p (.mv (.t 114))⟩,
  ⟨none, none, .e (.store 2 (.t 3) (.t 115))⟩,
  ⟨some 4, none, .p (.mv (.c (.int .i64 0)))⟩]
def c2u : ACode := .seq (.region a1N false) (.seq (.region a1M false) (.seq (.seq (.region a1L false) (.cond (.t 26) (.seq (.region a9E false) (.ret)) (.skip))) (.seq (.region a2D false) (.seq (.seq (.region a2C false) (.cond (.t 34) (.seq (.region a9D false) (.ret)) (.skip))) (.seq (.region a4u false) (.seq (.seq (.region a4t false) (.cond (.t 43) (.seq (.region a9C false) (.ret)) (.skip))) (.seq (.region a7y false) (.seq (.region a7x false) (.seq (.seq (.region a7w false) (.block 0 (.loop c1k))) (.seq (.region a7r false) (.seq (.region a7q false) (.seq (.seq (.region a7p false) (.block 2 (.loop c1j))) (.seq (.region a7m false) (.seq (.region a7l false) (.seq (.seq (.region a7k false) (.block 4 (.loop c1i))) (.seq (.region a7h true) (.ret)))))))))))))))))
theorem a2E : fchk Pr (fun _ k => (k == 7)) Try.f32 = some (c2u, [.tmp 2, .cell 3 (some 2), .tmp 4], 116) := by kernel_rfl
theorem a2F : Pr.funcs[a1s]? = some Try.f32 := Try.func32
def c1M : List AIns := [⟨some 1, none, .e (.box 2 (.t 0))⟩,
  ⟨some 2, none, .e (.box 2 (.c (.agg [.bool false, .nil])))⟩]
def c1L : List AIns := [⟨some 3, none, .p (.fldp (.t 1) 0)⟩,
  ⟨some 4, none, .p (.load none (.t 3))⟩,
  ⟨some 5, none, .p (.un .not (.t 4))⟩,
  ⟨some 6, none, .p (.fldp (.t 1) 1)⟩,
  ⟨some 7, none, .p (.load none (.t 6))⟩,
  ⟨some 8, none, .call a0T [(.t 5), (.t 7)]⟩,
  ⟨none, none, .e (.store 2 (.t 2) (.t 8))⟩]
def d4K : ACode := .seq (.region c1M false) (.seq (.region c1L false) (.ret))
theorem d1H : fchk Pr (fun _ _ => false) Try.f36 = some (d4K, [.cell 2 (some 2)], 9) := by kernel_rfl
theorem d1I : Pr.funcs[a5l]? = some Try.f36 := Try.func36
def c1O : List AIns := [⟨some 2, none, .e (.box 2 (.t 0))⟩,
  ⟨some 3, none, .e (.box 2 (.t 1))⟩,
  ⟨some 4, none, .e (.box 2 (.c (.agg [.bool false, .nil])))⟩]
def c1N : List AIns := [⟨some 5, none, .p (.fldp (.t 2) 0)⟩,
  ⟨some 6, none, .p (.load none (.t 5))⟩,
  ⟨some 7, none, .p (.fldp (.t 3) 0)⟩,
  ⟨some 8, none, .p (.load none (.t 7))⟩,
  ⟨some 9, none, .p (.beq true (.t 6) (.t 8))⟩,
  ⟨some 10, none, .p (.fldp (.t 2) 1)⟩,
  ⟨some 11, none, .p (.load none (.t 10))⟩,
  ⟨some 12, none, .p (.fldp (.t 3) 1)⟩,
  ⟨some 13, none, .p (.load none (.t 12))⟩,
  ⟨some 14, none, .call a7P [(.t 11), (.t 13)]⟩,
  ⟨some 15, none, .call a0T [(.t 9), (.t 14)]⟩,
  ⟨none, none, .e (.store 2 (.t 4) (.t 15))⟩]
def d4L : ACode := .seq (.region c1O false) (.seq (.region c1N true) (.ret))
theorem d1J : fchk Pr (fun _ _ => false) Try.f38 = some (d4L, [.cell 4 (some 2)], 16) := by kernel_rfl
theorem d1K : Pr.funcs[b1P]? = some Try.f38 := Try.func38
end Go.Abs
set_option maxRecDepth 100000
noncomputable section
namespace Go.Abs
open Go.Proofs
def b8s : List AIns := [⟨some 1, none, .e (.box 2 (.t 0))⟩,
  ⟨some 2, none, .p (.mv (.c (.int .i64 0)))⟩]
def b8r : List AIns := [⟨some 4, none, .p (.fldp (.t 1) 1)⟩,
  ⟨some 5, none, .p (.load none (.t 4))⟩,
  ⟨some 6, none, .call b8i [(.t 5)]⟩,
  ⟨some 7, none, .p (.bin .eql (.t 6) (.c (.int .i64 0)))⟩,
  ⟨some 3, none, .p (.mv (.t 7))⟩]
def b8q : List AIns := [⟨some 2, none, .p (.mv (.c (.int .i64 0)))⟩]
def b8p : List AIns := [⟨some 9, none, .p (.fldp (.t 1) 0)⟩,
  ⟨some 10, none, .p (.load none (.t 9))⟩,
  ⟨some 8, none, .p (.mv (.t 10))⟩]
def b8o : List AIns := [⟨some 2, none, .p (.mv (.c (.int .i64 (-1))))⟩]
def b8n : List AIns := [⟨some 2, none, .p (.mv (.c (.int .i64 1)))⟩]
def d1G : ACode := .seq (.region b8s false) (.seq (.block 0 (.seq (.region b8r false) (.cond (.t 3) (.seq (.region b8q false) (.ret)) (.seq (.region b8p false) (.cond (.t 8) (.seq (.region b8o false) (.ret)) (.skip)))))) (.seq (.region b8n false) (.ret)))
theorem c8N : fchk Pr (fun _ _ => false) Try.f44 = some (d1G, [.tmp 2], 11) := by kernel_rfl
theorem c8O : Pr.funcs[a2i]? = some Try.f44 := Try.func44
def a5e : List AIns := [⟨some 2, none, .p (.mv (.c (.int .i64 0)))⟩,
  ⟨some 3, none, .p (.mv (.c (.int .i64 0)))⟩,
  ⟨some 4, none, .p (.mv (.c (.int .i64 0)))⟩]
def a5d : List AIns := [⟨some 9, none, .p (.mv (.t 0))⟩,
  ⟨some 10, none, .call a9j [(.t 9)]⟩,
  ⟨some 8, none, .p (.mv (.t 10))⟩,
  ⟨some 11, none, .p (.ext (.t 8) 0)⟩,
  ⟨some 12, none, .p (.ext (.t 8) 1)⟩,
  ⟨some 13, none, .p (.ext (.t 8) 2)⟩,
  ⟨some 5, none, .p (.mv (.t 11))⟩,
  ⟨some 6, none, .p (.mv (.t 12))⟩,
  ⟨some 7, none, .p (.mv (.t 13))⟩]
def a5c : List AIns := [⟨some 14, none, .p (.mv (.t 7))⟩,
  ⟨some 15, none, .p (.bin .neq (.t 14) (.c (.int .i64 0)))⟩]
def b6X : List AIns := [⟨some 16, none, .p (.mv (.t 7))⟩,
  ⟨some 2, none, .p (.mv (.c (.int .i64 0)))⟩,
  ⟨some 3, none, .p (.mv (.c (.int .i64 0)))⟩,
  ⟨some 4, none, .p (.mv (.t 16))⟩]
def a5b : List AIns := [⟨some 17, none, .p (.mv (.t 5))⟩,
  ⟨some 18, none, .p (.bin .gtr (.t 17) (.c (.int .i64 64)))⟩,
  ⟨some 19, none, .p (.mv (.t 18))⟩,
  ⟨some 20, some (19, false), .p (.mv (.t 6))⟩,
  ⟨some 21, some (19, false), .p (.bin .gtr (.t 20) (.c (.int .i64 64)))⟩,
  ⟨some 22, none, .p (.pick (.t 19) (.c (.bool true)) (.t 21))⟩]
def a8X : List AIns := [⟨some 2, none, .p (.mv (.c (.int .i64 0)))⟩,
  ⟨some 3, none, .p (.mv (.c (.int .i64 0)))⟩,
  ⟨some 4, none, .p (.mv (.c (.int .i64 60)))⟩]
def b6W : List AIns := [⟨some 23, none, .p (.mv (.t 5))⟩,
  ⟨some 24, none, .p (.mv (.t 6))⟩,
  ⟨some 2, none, .p (.mv (.t 23))⟩,
  ⟨some 3, none, .p (.mv (.t 24))⟩,
  ⟨some 4, none, .p (.mv (.c (.int .i64 0)))⟩]
def d1k : ACode := .seq (.region a5e false) (.seq (.region a5d false) (.seq (.seq (.region a5c false) (.cond (.t 15) (.seq (.region b6X false) (.ret)) (.skip))) (.seq (.seq (.region a5b false) (.cond (.t 22) (.seq (.region a8X false) (.ret)) (.skip))) (.seq (.region b6W false) (.ret)))))
theorem a8Y : fchk Pr (fun _ _ => false) Try.f49 = some (d1k, [.tmp 2, .tmp 3, .tmp 4], 25) := by kernel_rfl
theorem a8Z : Pr.funcs[b1B]? = some Try.f49 := Try.func49
def b1k : List AIns := [⟨some 4, none, .p (.mv (.c (.nil)))⟩,
  ⟨some 5, none, .p (.mv (.c (.nil)))⟩,
  ⟨some 6, none, .e (.box 2 (.c (.agg [.bool false, .nil])))⟩,
  ⟨some 7, none, .p (.mv (.c (.bool false)))⟩]
def a5G : List AIns := [⟨some 18, none, .p (.mv (.t 0))⟩,
  ⟨some 19, none, .call a9l [(.t 18)]⟩,
  ⟨some 8, none, .p (.mv (.t 19))⟩]
def a5F : List AIns := [⟨some 9, none, .p (.mv (.c (.nil)))⟩]
def a5E : List AIns := [⟨some 20, none, .call b1y [(.c (.int .i64 1))]⟩,
  ⟨some 10, none, .e (.box 2 (.c (.agg [.bool false, .nil])))⟩,
  ⟨none, none, .e (.store 2 (.t 10) (.t 20))⟩,
  ⟨some 11, none, .p (.mv (.c (.bool false)))⟩]
def a5D : List AIns := [⟨some 21, none, .p (.mv (.t 1))⟩,
  ⟨some 22, none, .p (.mv (.c (.int .i64 0)))⟩]
def a5C : List AIns := [⟨some 23, none, .p (.bin .lss (.t 22) (.t 21))⟩]
def b1j : List AIns := [⟨some 24, none, .p (.mv (.t 22))⟩,
  ⟨some 12, none, .p (.mv (.t 24))⟩]
def b1i : List AIns := [⟨some 25, none, .p (.mv (.t 9))⟩,
  ⟨some 26, none, .p (.len (.t 25))⟩,
  ⟨some 13, none, .p (.mv (.t 26))⟩]
def b1h : List AIns := [⟨some 27, none, .p (.mv (.t 13))⟩,
  ⟨some 14, none, .p (.mv (.t 27))⟩]
def a2f : List AIns := [⟨some 28, none, .p (.mv (.t 14))⟩,
  ⟨some 29, none, .p (.mv (.t 8))⟩,
  ⟨some 30, none, .p (.len (.t 29))⟩,
  ⟨some 31, none, .p (.bin .lss (.t 28) (.t 30))⟩,
  ⟨some 32, none, .p (.mv (.t 31))⟩,
  ⟨some 33, some (32, true), .p (.mv (.t 8))⟩,
  ⟨some 34, some (32, true), .p (.mv (.t 14))⟩,
  ⟨some 35, some (32, true), .p (.idxp 1 (.t 33) (.t 34))⟩,
  ⟨some 36, some (32, true), .p (.load none (.t 35))⟩,
  ⟨some 37, some (32, true), .p (.mv (.t 12))⟩,
  ⟨some 38, some (32, true), .p (.idxp 2 (.t 36) (.t 37))⟩,
  ⟨some 39, some (32, true), .p (.load (some 2) (.t 38))⟩,
  ⟨some 40, some (32, true), .call a2i [(.t 39)]⟩,
  ⟨some 41, some (32, true), .p (.bin .eql (.t 40) (.c (.int .i64 0)))⟩,
  ⟨some 42, none, .p (.pick (.t 32) (.t 41) (.c (.bool false)))⟩]
def a4H : List AIns := [⟨some 43, none, .p (.mv (.t 14))⟩,
  ⟨some 44, none, .p (.bin .add (.t 43) (.c (.int .i64 1)))⟩,
  ⟨some 14, none, .p (.mv (.t 44))⟩]
def c4d : ACode := .seq (.seq (.region a2f false) (.cond (.t 42) (.skip) (.exit 2))) (.block 3 (.region a4H false))
def a4G : List AIns := [⟨some 45, none, .p (.mv (.t 14))⟩,
  ⟨some 46, none, .p (.mv (.t 8))⟩,
  ⟨some 47, none, .p (.len (.t 46))⟩,
  ⟨some 48, none, .p (.bin .eql (.t 45) (.t 47))⟩]
def a4F : List AIns := [⟨some 49, none, .p (.mv (.t 14))⟩,
  ⟨some 50, none, .p (.mv (.t 13))⟩,
  ⟨some 51, none, .p (.bin .neq (.t 49) (.t 50))⟩]
def a9R : List AIns := [⟨some 52, none, .p (.mv (.t 8))⟩,
  ⟨some 53, none, .p (.mv (.t 14))⟩,
  ⟨some 54, none, .p (.mv (.t 8))⟩,
  ⟨some 55, none, .p (.mv (.t 13))⟩,
  ⟨some 56, none, .p (.mv (.t 8))⟩,
  ⟨some 57, none, .p (.mv (.t 13))⟩,
  ⟨some 58, none, .p (.idxp 1 (.t 56) (.t 57))⟩,
  ⟨some 59, none, .p (.load none (.t 58))⟩,
  ⟨some 60, none, .p (.mv (.t 8))⟩,
  ⟨some 61, none, .p (.mv (.t 14))⟩,
  ⟨some 62, none, .p (.idxp 1 (.t 60) (.t 61))⟩,
  ⟨some 63, none, .p (.load none (.t 62))⟩,
  ⟨some 64, none, .p (.idxp 1 (.t 52) (.t 53))⟩,
  ⟨none, none, .e (.store 1 (.t 64) (.t 59))⟩,
  ⟨some 65, none, .p (.idxp 1 (.t 54) (.t 55))⟩,
  ⟨none, none, .e (.store 1 (.t 65) (.t 63))⟩]
def a9Q : List AIns := [⟨some 66, none, .p (.mv (.t 11))⟩,
  ⟨some 67, none, .p (.un .not (.t 66))⟩,
  ⟨some 11, none, .p (.mv (.t 67))⟩]
def a4E : List AIns := [⟨some 68, none, .p (.mv (.t 13))⟩,
  ⟨some 69, none, .p (.bin .add (.t 68) (.c (.int .i64 1)))⟩,
  ⟨some 15, none, .p (.mv (.t 69))⟩]
def a4D : List AIns := [⟨some 70, none, .p (.mv (.t 15))⟩,
  ⟨some 71, none, .p (.mv (.t 8))⟩,
  ⟨some 72, none, .p (.len (.t 71))⟩,
  ⟨some 73, none, .p (.bin .lss (.t 70) (.t 72))⟩]
def a9P : List AIns := [⟨some 76, none, .p (.mv (.t 8))⟩,
  ⟨some 77, none, .p (.mv (.t 15))⟩,
  ⟨some 78, none, .p (.idxp 1 (.t 76) (.t 77))⟩,
  ⟨some 79, none, .p (.load none (.t 78))⟩,
  ⟨some 80, none, .p (.len (.t 79))⟩,
  ⟨some 81, none, .p (.bin .sub (.t 80) (.c (.int .i64 1)))⟩,
  ⟨some 16, none, .p (.mv (.t 81))⟩]
def a4C : List AIns := [⟨some 82, none, .p (.mv (.t 16))⟩,
  ⟨some 83, none, .p (.mv (.t 12))⟩,
  ⟨some 84, none, .p (.bin .geq (.t 82) (.t 83))⟩]
def a9O : List AIns := [⟨some 87, none, .p (.mv (.t 8))⟩,
  ⟨some 88, none, .p (.mv (.t 13))⟩,
  ⟨some 89, none, .p (.idxp 1 (.t 87) (.t 88))⟩,
  ⟨some 90, none, .p (.load none (.t 89))⟩,
  ⟨some 91, none, .p (.mv (.t 12))⟩,
  ⟨some 92, none, .p (.idxp 2 (.t 90) (.t 91))⟩,
  ⟨some 93, none, .p (.load (some 2) (.t 92))⟩,
  ⟨some 94, none, .p (.mv (.t 8))⟩,
  ⟨some 95, none, .p (.mv (.t 15))⟩,
  ⟨some 96, none, .p (.idxp 1 (.t 94) (.t 95))⟩,
  ⟨some 97, none, .p (.load none (.t 96))⟩,
  ⟨some 98, none, .p (.mv (.t 16))⟩,
  ⟨some 99, none, .p (.idxp 2 (.t 97) (.t 98))⟩,
  ⟨some 100, none, .p (.load (some 2) (.t 99))⟩,
  ⟨some 101, none, .call b1P [(.t 93), (.t 100)]⟩,
  ⟨some 102, none, .p (.mv (.t 8))⟩,
  ⟨some 103, none, .p (.mv (.t 15))⟩,
  ⟨some 104, none, .p (.idxp 1 (.t 102) (.t 103))⟩,
  ⟨some 105, none, .p (.load none (.t 104))⟩,
  ⟨some 106, none, .p (.mv (.t 12))⟩,
  ⟨some 107, none, .p (.idxp 2 (.t 105) (.t 106))⟩,
  ⟨some 108, none, .p (.load (some 2) (.t 107))⟩,
  ⟨some 109, none, .p (.mv (.t 8))⟩,
  ⟨some 110, none, .p (.mv (.t 13))⟩,
  ⟨some 111, none, .p (.idxp 1 (.t 109) (.t 110))⟩,
  ⟨some 112, none, .p (.load none (.t 111))⟩,
  ⟨some 113, none, .p (.mv (.t 16))⟩,
  ⟨some 114, none, .p (.idxp 2 (.t 112) (.t 113))⟩,
  ⟨some 115, none, .p (.load (some 2) (.t 114))⟩,
  ⟨some 116, none, .call b1P [(.t 108), (.t 115)]⟩,
  ⟨some 117, none, .call a7L [(.t 101), (.t 116)]⟩,
  ⟨some 17, none, .e (.box 2 (.c (.agg [.bool false, .nil])))⟩,
  ⟨none, none, .e (.store 2 (.t 17) (.t 117))⟩]
def a9N : List AIns := [⟨some 119, none, .p (.mv (.t 8))⟩,
  ⟨some 120, none, .p (.mv (.t 15))⟩,
  ⟨some 121, none, .p (.idxp 1 (.t 119) (.t 120))⟩,
  ⟨some 122, none, .p (.load none (.t 121))⟩,
  ⟨some 123, none, .p (.mv (.t 16))⟩,
  ⟨some 124, none, .p (.load (some 2) (.t 17))⟩,
  ⟨some 125, none, .p (.load (some 2) (.t 10))⟩,
  ⟨some 126, none, .call a4n [(.t 124), (.t 125)]⟩,
  ⟨some 118, none, .p (.mv (.t 126))⟩,
  ⟨some 127, none, .p (.ext (.t 118) 0)⟩,
  ⟨some 128, none, .p (.ext (.t 118) 1)⟩,
  ⟨some 129, none, .p (.ext (.t 118) 2)⟩,
  ⟨some 130, none, .p (.idxp 2 (.t 122) (.t 123))⟩,
  ⟨none, none, .e (.store 2 (.t 130) (.t 127))⟩]
def a9M : List AIns := [⟨some 85, none, .p (.mv (.t 16))⟩,
  ⟨some 86, none, .p (.bin .sub (.t 85) (.c (.int .i64 1)))⟩,
  ⟨some 16, none, .p (.mv (.t 86))⟩]
def c4c : ACode := .seq (.seq (.region a4C false) (.cond (.t 84) (.skip) (.exit 6))) (.seq (.block 7 (.seq (.region a9O true) (.region a9N true))) (.region a9M false))
def a9L : List AIns := [⟨some 74, none, .p (.mv (.t 15))⟩,
  ⟨some 75, none, .p (.bin .add (.t 74) (.c (.int .i64 1)))⟩,
  ⟨some 15, none, .p (.mv (.t 75))⟩]
def b1l : ACode := .seq (.seq (.region a4D false) (.cond (.t 73) (.skip) (.exit 4))) (.seq (.block 5 (.seq (.region a9P false) (.block 6 (.loop c4c)))) (.region a9L false))
def a4B : List AIns := [⟨some 131, none, .p (.mv (.t 8))⟩,
  ⟨some 132, none, .p (.mv (.t 13))⟩,
  ⟨some 133, none, .p (.idxp 1 (.t 131) (.t 132))⟩,
  ⟨some 134, none, .p (.load none (.t 133))⟩,
  ⟨some 135, none, .p (.mv (.t 12))⟩,
  ⟨some 136, none, .p (.idxp 2 (.t 134) (.t 135))⟩,
  ⟨some 137, none, .p (.load (some 2) (.t 136))⟩,
  ⟨none, none, .e (.store 2 (.t 10) (.t 137))⟩]
def a4A : List AIns := [⟨some 138, none, .p (.mv (.t 9))⟩,
  ⟨some 139, none, .p (.mv (.t 12))⟩,
  ⟨some 140, none, .e (.bsl 1 [(.t 139)])⟩,
  ⟨some 141, none, .e (.app 1 8 false (.t 138) (.t 140))⟩,
  ⟨some 9, none, .p (.mv (.t 141))⟩]
def a2I : List AIns := [⟨some 142, none, .p (.bin .add (.t 22) (.c (.int .i64 1)))⟩,
  ⟨some 22, none, .p (.mv (.t 142))⟩]
def a5H : ACode := .seq (.region a5C false) (.seq (.cond (.t 23) (.skip) (.exit 0)) (.seq (.block 1 (.seq (.region b1j false) (.seq (.region b1i false) (.seq (.region b1h false) (.seq (.block 2 (.loop c4d)) (.seq (.seq (.region a4G false) (.cond (.t 48) (.exit 1) (.skip))) (.seq (.seq (.region a4F false) (.cond (.t 51) (.seq (.region a9R true) (.region a9Q false)) (.skip))) (.seq (.seq (.region a4E false) (.block 4 (.loop b1l))) (.seq (.region a4B false) (.region a4A false)))))))))) (.region a2I false)))
def a2H : List AIns := [⟨some 143, none, .p (.mv (.t 8))⟩,
  ⟨some 144, none, .p (.mv (.t 9))⟩,
  ⟨some 145, none, .p (.load (some 2) (.t 10))⟩,
  ⟨some 146, none, .p (.mv (.t 11))⟩,
  ⟨some 4, none, .p (.mv (.t 143))⟩,
  ⟨some 5, none, .p (.mv (.t 144))⟩,
  ⟨none, none, .e (.store 2 (.t 6) (.t 145))⟩,
  ⟨some 7, none, .p (.mv (.t 146))⟩]
def c4Q : ACode := .seq (.region b1k false) (.scope (.seq (.region a5G false) (.seq (.region a5F false) (.seq (.region a5E false) (.seq (.label 0) (.seq (.seq (.region a5D false) (.block 0 (.loop a5H))) (.seq (.region a2H true) (.ret))))))))
theorem c4b : fchk Pr (fun _ _ => false) Try.f50 = some (c4Q, [.tmp 4, .tmp 5, .cell 6 (some 2), .tmp 7], 147) := by kernel_rfl
theorem c4e : Pr.funcs[a3Z]? = some Try.f50 := Try.func50
def a3Q : List AIns := [⟨some 2, none, .p (.mv (.c (.int .i64 0)))⟩]
def a3P : List AIns := [⟨some 7, none, .p (.mv (.t 0))⟩,
  ⟨some 8, none, .call a3n [(.t 7)]⟩,
  ⟨some 6, none, .p (.mv (.t 8))⟩,
  ⟨some 9, none, .p (.ext (.t 6) 0)⟩,
  ⟨some 10, none, .p (.ext (.t 6) 1)⟩,
  ⟨some 11, none, .p (.ext (.t 6) 2)⟩,
  ⟨some 3, none, .p (.mv (.t 9))⟩,
  ⟨some 4, none, .p (.mv (.t 10))⟩,
  ⟨some 5, none, .p (.mv (.t 11))⟩]
def a3O : List AIns := [⟨some 12, none, .p (.mv (.t 5))⟩,
  ⟨some 13, none, .p (.bin .neq (.t 12) (.c (.int .i64 0)))⟩]
def b2d : List AIns := [⟨some 2, none, .p (.mv (.c (.int .i64 8)))⟩]
def a3N : List AIns := [⟨some 14, none, .p (.mv (.t 3))⟩,
  ⟨some 15, none, .p (.bin .gtr (.t 14) (.c (.int .i64 64)))⟩,
  ⟨some 16, none, .p (.mv (.t 15))⟩,
  ⟨some 17, some (16, false), .p (.mv (.t 4))⟩,
  ⟨some 18, some (16, false), .p (.bin .gtr (.t 17) (.c (.int .i64 64)))⟩,
  ⟨some 19, none, .p (.pick (.t 16) (.c (.bool true)) (.t 18))⟩]
def a6A : List AIns := [⟨some 2, none, .p (.mv (.c (.int .i64 60)))⟩]
def b2c : List AIns := [⟨some 2, none, .p (.mv (.c (.int .i64 0)))⟩]
def c7l : ACode := .seq (.region a3Q false) (.seq (.region a3P false) (.seq (.seq (.region a3O false) (.cond (.t 13) (.seq (.region b2d false) (.ret)) (.skip))) (.seq (.seq (.region a3N false) (.cond (.t 19) (.seq (.region a6A false) (.ret)) (.skip))) (.seq (.region b2c false) (.ret)))))
theorem a6B : fchk Pr (fun _ _ => false) Try.f51 = some (c7l, [.tmp 2], 20) := by kernel_rfl
theorem a6C : Pr.funcs[a5h]? = some Try.f51 := Try.func51
def a9s : List AIns := [⟨some 4, none, .p (.mv (.c (.nil)))⟩,
  ⟨some 5, none, .p (.mv (.c (.nil)))⟩,
  ⟨some 6, none, .e (.box 4 (.c (.agg [.bool false, .nil, .bool false, .nil])))⟩]
def a9r : List AIns := [⟨some 15, none, .call a1v [(.c (.int .i64 1))]⟩,
  ⟨some 16, none, .call a7M [(.t 15)]⟩,
  ⟨some 7, none, .e (.box 4 (.c (.agg [.bool false, .nil, .bool false, .nil])))⟩,
  ⟨none, none, .e (.store 4 (.t 7) (.t 16))⟩]
def a9q : List AIns := [⟨some 8, none, .p (.mv (.c (.nil)))⟩]
def a9p : List AIns := [⟨some 9, none, .p (.mv (.c (.int .i64 0)))⟩]
def a9o : List AIns := [⟨some 10, none, .p (.mv (.c (.int .i64 0)))⟩]
def a4r : List AIns := [⟨some 17, none, .p (.mv (.t 10))⟩,
  ⟨some 18, none, .p (.mv (.t 1))⟩,
  ⟨some 19, none, .p (.bin .lss (.t 17) (.t 18))⟩]
def a9n : List AIns := [⟨some 22, none, .p (.mv (.t 9))⟩,
  ⟨some 11, none, .p (.mv (.t 22))⟩]
def a1K : List AIns := [⟨some 23, none, .p (.mv (.t 11))⟩,
  ⟨some 24, none, .p (.mv (.t 0))⟩,
  ⟨some 25, none, .p (.len (.t 24))⟩,
  ⟨some 26, none, .p (.bin .lss (.t 23) (.t 25))⟩,
  ⟨some 27, none, .p (.mv (.t 26))⟩,
  ⟨some 28, some (27, true), .p (.mv (.t 0))⟩,
  ⟨some 29, some (27, true), .p (.mv (.t 11))⟩,
  ⟨some 30, some (27, true), .p (.idxp 1 (.t 28) (.t 29))⟩,
  ⟨some 31, some (27, true), .p (.load none (.t 30))⟩,
  ⟨some 32, some (27, true), .p (.mv (.t 10))⟩,
  ⟨some 33, some (27, true), .p (.idxp 4 (.t 31) (.t 32))⟩,
  ⟨some 34, some (27, true), .p (.load (some 4) (.t 33))⟩,
  ⟨some 35, some (27, true), .call a6s [(.t 34)]⟩,
  ⟨some 36, none, .p (.pick (.t 27) (.t 35) (.c (.bool false)))⟩]
def a4q : List AIns := [⟨some 37, none, .p (.mv (.t 11))⟩,
  ⟨some 38, none, .p (.bin .add (.t 37) (.c (.int .i64 1)))⟩,
  ⟨some 11, none, .p (.mv (.t 38))⟩]
def c1g : ACode := .seq (.seq (.region a1K false) (.cond (.t 36) (.skip) (.exit 2))) (.block 3 (.region a4q false))
def a4p : List AIns := [⟨some 39, none, .p (.mv (.t 11))⟩,
  ⟨some 40, none, .p (.mv (.t 0))⟩,
  ⟨some 41, none, .p (.len (.t 40))⟩,
  ⟨some 42, none, .p (.bin .eql (.t 39) (.t 41))⟩]
def a7e : List AIns := [⟨some 43, none, .call a1v [(.c (.int .i64 0))]⟩,
  ⟨some 44, none, .call a7M [(.t 43)]⟩,
  ⟨none, none, .e (.store 4 (.t 7) (.t 44))⟩]
def a3C : List AIns := [⟨some 45, none, .p (.mv (.t 11))⟩,
  ⟨some 46, none, .p (.mv (.t 9))⟩,
  ⟨some 47, none, .p (.bin .neq (.t 45) (.t 46))⟩]
def a7d : List AIns := [⟨some 48, none, .p (.mv (.t 0))⟩,
  ⟨some 49, none, .p (.mv (.t 11))⟩,
  ⟨some 50, none, .p (.mv (.t 0))⟩,
  ⟨some 51, none, .p (.mv (.t 9))⟩,
  ⟨some 52, none, .p (.mv (.t 0))⟩,
  ⟨some 53, none, .p (.mv (.t 9))⟩,
  ⟨some 54, none, .p (.idxp 1 (.t 52) (.t 53))⟩,
  ⟨some 55, none, .p (.load none (.t 54))⟩,
  ⟨some 56, none, .p (.mv (.t 0))⟩,
  ⟨some 57, none, .p (.mv (.t 11))⟩,
  ⟨some 58, none, .p (.idxp 1 (.t 56) (.t 57))⟩,
  ⟨some 59, none, .p (.load none (.t 58))⟩,
  ⟨some 60, none, .p (.idxp 1 (.t 48) (.t 49))⟩,
  ⟨none, none, .e (.store 1 (.t 60) (.t 55))⟩,
  ⟨some 61, none, .p (.idxp 1 (.t 50) (.t 51))⟩,
  ⟨none, none, .e (.store 1 (.t 61) (.t 59))⟩]
def a7c : List AIns := [⟨some 62, none, .p (.load (some 4) (.t 7))⟩,
  ⟨some 63, none, .call a9c [(.t 62)]⟩,
  ⟨none, none, .e (.store 4 (.t 7) (.t 63))⟩]
def a3B : List AIns := [⟨some 64, none, .p (.mv (.t 0))⟩,
  ⟨some 65, none, .p (.mv (.t 9))⟩,
  ⟨some 66, none, .p (.idxp 1 (.t 64) (.t 65))⟩,
  ⟨some 67, none, .p (.load none (.t 66))⟩,
  ⟨some 68, none, .p (.mv (.t 10))⟩,
  ⟨some 69, none, .p (.idxp 4 (.t 67) (.t 68))⟩,
  ⟨some 70, none, .p (.load (some 4) (.t 69))⟩,
  ⟨some 12, none, .e (.box 4 (.c (.agg [.bool false, .nil, .bool false, .nil])))⟩,
  ⟨none, none, .e (.store 4 (.t 12) (.t 70))⟩]
def a3A : List AIns := [⟨some 71, none, .p (.load (some 4) (.t 7))⟩,
  ⟨some 72, none, .p (.load (some 4) (.t 12))⟩,
  ⟨some 73, none, .call a9d [(.t 71), (.t 72)]⟩,
  ⟨none, none, .e (.store 4 (.t 7) (.t 73))⟩]
def a3z : List AIns := [⟨some 13, none, .p (.mv (.c (.int .i64 0)))⟩]
def a3y : List AIns := [⟨some 74, none, .p (.mv (.t 13))⟩,
  ⟨some 75, none, .p (.mv (.t 1))⟩,
  ⟨some 76, none, .p (.bin .lss (.t 74) (.t 75))⟩]
def a7b : List AIns := [⟨some 79, none, .p (.mv (.t 0))⟩,
  ⟨some 80, none, .p (.mv (.t 9))⟩,
  ⟨some 81, none, .p (.idxp 1 (.t 79) (.t 80))⟩,
  ⟨some 82, none, .p (.load none (.t 81))⟩,
  ⟨some 83, none, .p (.mv (.t 13))⟩,
  ⟨some 84, none, .p (.mv (.t 0))⟩,
  ⟨some 85, none, .p (.mv (.t 9))⟩,
  ⟨some 86, none, .p (.idxp 1 (.t 84) (.t 85))⟩,
  ⟨some 87, none, .p (.load none (.t 86))⟩,
  ⟨some 88, none, .p (.mv (.t 13))⟩,
  ⟨some 89, none, .p (.idxp 4 (.t 87) (.t 88))⟩,
  ⟨some 90, none, .p (.load (some 4) (.t 89))⟩,
  ⟨some 91, none, .p (.load (some 4) (.t 12))⟩,
  ⟨some 92, none, .call b3P [(.t 90), (.t 91)]⟩,
  ⟨some 93, none, .p (.idxp 4 (.t 82) (.t 83))⟩,
  ⟨none, none, .e (.store 4 (.t 93) (.t 92))⟩]
def a7a : List AIns := [⟨some 77, none, .p (.mv (.t 13))⟩,
  ⟨some 78, none, .p (.bin .add (.t 77) (.c (.int .i64 1)))⟩,
  ⟨some 13, none, .p (.mv (.t 78))⟩]
def a9u : ACode := .seq (.seq (.region a3y false) (.cond (.t 76) (.skip) (.exit 4))) (.seq (.block 5 (.region a7b true)) (.region a7a false))
def a3x : List AIns := [⟨some 14, none, .p (.mv (.c (.int .i64 0)))⟩]
def a3w : List AIns := [⟨some 94, none, .p (.mv (.t 14))⟩,
  ⟨some 95, none, .p (.mv (.t 0))⟩,
  ⟨some 96, none, .p (.len (.t 95))⟩,
  ⟨some 97, none, .p (.bin .lss (.t 94) (.t 96))⟩]
def a3v : List AIns := [⟨some 100, none, .p (.mv (.t 14))⟩,
  ⟨some 101, none, .p (.mv (.t 9))⟩,
  ⟨some 102, none, .p (.bin .neq (.t 100) (.t 101))⟩,
  ⟨some 103, none, .p (.mv (.t 102))⟩,
  ⟨some 104, some (103, true), .p (.mv (.t 0))⟩,
  ⟨some 105, some (103, true), .p (.mv (.t 14))⟩,
  ⟨some 106, some (103, true), .p (.idxp 1 (.t 104) (.t 105))⟩,
  ⟨some 107, some (103, true), .p (.load none (.t 106))⟩,
  ⟨some 108, some (103, true), .p (.mv (.t 10))⟩,
  ⟨some 109, some (103, true), .p (.idxp 4 (.t 107) (.t 108))⟩,
  ⟨some 110, some (103, true), .p (.load (some 4) (.t 109))⟩,
  ⟨some 111, some (103, true), .call a6s [(.t 110)]⟩,
  ⟨some 112, some (103, true), .p (.un .not (.t 111))⟩,
  ⟨some 113, none, .p (.pick (.t 103) (.t 112) (.c (.bool false)))⟩]
def a6Z : List AIns := [⟨some 114, none, .p (.mv (.t 0))⟩,
  ⟨some 115, none, .p (.mv (.t 14))⟩,
  ⟨some 116, none, .p (.mv (.t 9))⟩,
  ⟨some 117, none, .p (.mv (.t 0))⟩,
  ⟨some 118, none, .p (.mv (.t 14))⟩,
  ⟨some 119, none, .p (.idxp 1 (.t 117) (.t 118))⟩,
  ⟨some 120, none, .p (.load none (.t 119))⟩,
  ⟨some 121, none, .p (.mv (.t 10))⟩,
  ⟨some 122, none, .p (.idxp 4 (.t 120) (.t 121))⟩,
  ⟨some 123, none, .p (.load (some 4) (.t 122))⟩,
  ⟨some 124, none, .call a6u [(.t 114), (.t 115), (.t 116), (.t 123)]⟩]
def a2q : List AIns := [⟨some 98, none, .p (.mv (.t 14))⟩,
  ⟨some 99, none, .p (.bin .add (.t 98) (.c (.int .i64 1)))⟩,
  ⟨some 14, none, .p (.mv (.t 99))⟩]
def a9t : ACode := .seq (.seq (.region a3w false) (.cond (.t 97) (.skip) (.exit 6))) (.seq (.block 7 (.seq (.region a3v false) (.cond (.t 113) (.region a6Z false) (.skip)))) (.region a2q false))
def a3u : List AIns := [⟨some 125, none, .p (.mv (.t 8))⟩,
  ⟨some 126, none, .p (.mv (.t 10))⟩,
  ⟨some 127, none, .e (.bsl 1 [(.t 126)])⟩,
  ⟨some 128, none, .e (.app 1 8 false (.t 125) (.t 127))⟩,
  ⟨some 8, none, .p (.mv (.t 128))⟩]
def a3t : List AIns := [⟨some 129, none, .p (.mv (.t 9))⟩,
  ⟨some 130, none, .p (.bin .add (.t 129) (.c (.int .i64 1)))⟩,
  ⟨some 9, none, .p (.mv (.t 130))⟩]
def a2p : List AIns := [⟨some 20, none, .p (.mv (.t 10))⟩,
  ⟨some 21, none, .p (.bin .add (.t 20) (.c (.int .i64 1)))⟩,
  ⟨some 10, none, .p (.mv (.t 21))⟩]
def a9v : ACode := .seq (.seq (.region a4r false) (.cond (.t 19) (.skip) (.exit 0))) (.seq (.block 1 (.seq (.region a9n false) (.seq (.block 2 (.loop c1g)) (.seq (.seq (.region a4p false) (.cond (.t 42) (.seq (.region a7e false) (.exit 1)) (.skip))) (.seq (.seq (.region a3C false) (.cond (.t 47) (.seq (.region a7d true) (.region a7c false)) (.skip))) (.seq (.region a3B false) (.seq (.region a3A false) (.seq (.seq (.region a3z false) (.block 4 (.loop a9u))) (.seq (.seq (.region a3x false) (.block 6 (.loop a9t))) (.seq (.region a3u false) (.region a3t false))))))))))) (.region a2p false))
def a3s : List AIns := [⟨some 131, none, .p (.mv (.t 0))⟩,
  ⟨some 132, none, .p (.mv (.t 9))⟩,
  ⟨some 133, none, .p (.slc 1 (.t 131) none (some (.t 132)) none)⟩,
  ⟨some 134, none, .p (.mv (.t 8))⟩,
  ⟨some 135, none, .p (.load (some 4) (.t 7))⟩,
  ⟨some 4, none, .p (.mv (.t 133))⟩,
  ⟨some 5, none, .p (.mv (.t 134))⟩,
  ⟨none, none, .e (.store 4 (.t 6) (.t 135))⟩]
def c2p : ACode := .seq (.region a9s false) (.seq (.region a9r false) (.seq (.region a9q false) (.seq (.region a9p false) (.seq (.seq (.region a9o false) (.block 0 (.loop a9v))) (.seq (.region a3s true) (.ret))))))
theorem c1f : fchk Pr (fun _ _ => false) Try.f52 = some (c2p, [.tmp 4, .tmp 5, .cell 6 (some 4)], 136) := by kernel_rfl
theorem c1h : Pr.funcs[a1d]? = some Try.f52 := Try.func52
def b4w : List AIns := [⟨some 2, none, .p (.mv (.c (.nil)))⟩]
def b4v : List AIns := [⟨some 3, none, .p (.mv (.c (.nil)))⟩]
def b4u : List AIns := [⟨some 4, none, .p (.mv (.c (.int .i64 0)))⟩]
def a8c : List AIns := [⟨some 7, none, .p (.mv (.t 4))⟩,
  ⟨some 8, none, .p (.mv (.t 0))⟩,
  ⟨some 9, none, .p (.len (.t 8))⟩,
  ⟨some 10, none, .p (.bin .lss (.t 7) (.t 9))⟩]
def b4t : List AIns := [⟨some 5, none, .p (.mv (.c (.nil)))⟩]
def b4s : List AIns := [⟨some 6, none, .p (.mv (.c (.int .i64 0)))⟩]
def a8b : List AIns := [⟨some 13, none, .p (.mv (.t 6))⟩,
  ⟨some 14, none, .p (.mv (.t 0))⟩,
  ⟨some 15, none, .p (.mv (.t 4))⟩,
  ⟨some 16, none, .p (.idxp 1 (.t 14) (.t 15))⟩,
  ⟨some 17, none, .p (.load none (.t 16))⟩,
  ⟨some 18, none, .p (.len (.t 17))⟩,
  ⟨some 19, none, .p (.bin .lss (.t 13) (.t 18))⟩]
def b4r : List AIns := [⟨some 22, none, .p (.mv (.t 5))⟩,
  ⟨some 23, none, .p (.mv (.t 0))⟩,
  ⟨some 24, none, .p (.mv (.t 4))⟩,
  ⟨some 25, none, .p (.idxp 1 (.t 23) (.t 24))⟩,
  ⟨some 26, none, .p (.load none (.t 25))⟩,
  ⟨some 27, none, .p (.mv (.t 6))⟩,
  ⟨some 28, none, .p (.idxp 2 (.t 26) (.t 27))⟩,
  ⟨some 29, none, .p (.load (some 2) (.t 28))⟩,
  ⟨some 30, none, .call a7M [(.t 29)]⟩,
  ⟨some 31, none, .e (.bsl 4 [(.t 30)])⟩,
  ⟨some 32, none, .e (.app 4 64 false (.t 22) (.t 31))⟩,
  ⟨some 5, none, .p (.mv (.t 32))⟩]
def b4q : List AIns := [⟨some 20, none, .p (.mv (.t 6))⟩,
  ⟨some 21, none, .p (.bin .add (.t 20) (.c (.int .i64 1)))⟩,
  ⟨some 6, none, .p (.mv (.t 21))⟩]
def c7a : ACode := .seq (.seq (.region a8b false) (.cond (.t 19) (.skip) (.exit 2))) (.seq (.block 3 (.region b4r false)) (.region b4q false))
def b4p : List AIns := [⟨some 33, none, .p (.mv (.t 3))⟩,
  ⟨some 34, none, .p (.mv (.t 5))⟩,
  ⟨some 35, none, .e (.bslm 1 [(.t 34)])⟩,
  ⟨some 36, none, .e (.app 1 24 false (.t 33) (.t 35))⟩,
  ⟨some 3, none, .p (.mv (.t 36))⟩]
def b2b : List AIns := [⟨some 11, none, .p (.mv (.t 4))⟩,
  ⟨some 12, none, .p (.bin .add (.t 11) (.c (.int .i64 1)))⟩,
  ⟨some 4, none, .p (.mv (.t 12))⟩]
def c7b : ACode := .seq (.seq (.region a8c false) (.cond (.t 10) (.skip) (.exit 0))) (.seq (.block 1 (.seq (.region b4t false) (.seq (.seq (.region b4s false) (.block 2 (.loop c7a))) (.region b4p false)))) (.region b2b false))
def b2a : List AIns := [⟨some 37, none, .p (.mv (.t 3))⟩,
  ⟨some 2, none, .p (.mv (.t 37))⟩]
def c9j : ACode := .seq (.region b4w false) (.seq (.region b4v false) (.seq (.seq (.region b4u false) (.block 0 (.loop c7b))) (.seq (.region b2a false) (.ret))))
theorem c6Z : fchk Pr (fun _ k => (k == 2)) Try.f53 = some (c9j, [.tmp 2], 38) := by kernel_rfl
theorem c7c : Pr.funcs[a6t]? = some Try.f53 := Try.func53
def b4D : List AIns := [⟨some 2, none, .p (.mv (.c (.int .i64 0)))⟩]
def b4C : List AIns := [⟨some 7, none, .p (.mv (.t 0))⟩,
  ⟨some 8, none, .call a3n [(.t 7)]⟩,
  ⟨some 6, none, .p (.mv (.t 8))⟩,
  ⟨some 9, none, .p (.ext (.t 6) 0)⟩,
  ⟨some 10, none, .p (.ext (.t 6) 1)⟩,
  ⟨some 11, none, .p (.ext (.t 6) 2)⟩,
  ⟨some 3, none, .p (.mv (.t 9))⟩,
  ⟨some 4, none, .p (.mv (.t 10))⟩,
  ⟨some 5, none, .p (.mv (.t 11))⟩]
def b4B : List AIns := [⟨some 12, none, .p (.mv (.t 4))⟩,
  ⟨some 2, none, .p (.mv (.t 12))⟩]
def c9l : ACode := .seq (.region b4D false) (.seq (.region b4C false) (.seq (.region b4B false) (.ret)))
theorem c7g : fchk Pr (fun _ _ => false) Try.f54 = some (c9l, [.tmp 2], 13) := by kernel_rfl
theorem c7h : Pr.funcs[a6v]? = some Try.f54 := Try.func54
def a3Y : List AIns := [⟨some 2, none, .p (.mv (.c (.int .i64 0)))⟩,
  ⟨some 3, none, .p (.mv (.c (.int .i64 0)))⟩]
def a3X : List AIns := [⟨some 8, none, .p (.mv (.t 0))⟩,
  ⟨some 9, none, .call b1B [(.t 8)]⟩,
  ⟨some 7, none, .p (.mv (.t 9))⟩,
  ⟨some 10, none, .p (.ext (.t 7) 0)⟩,
  ⟨some 11, none, .p (.ext (.t 7) 1)⟩,
  ⟨some 12, none, .p (.ext (.t 7) 2)⟩,
  ⟨some 4, none, .p (.mv (.t 10))⟩,
  ⟨some 5, none, .p (.mv (.t 11))⟩,
  ⟨some 6, none, .p (.mv (.t 12))⟩]
def a3W : List AIns := [⟨some 13, none, .p (.mv (.t 6))⟩,
  ⟨some 14, none, .p (.bin .eql (.t 13) (.c (.int .i64 0)))⟩,
  ⟨some 15, none, .p (.mv (.t 14))⟩,
  ⟨some 16, some (15, true), .p (.mv (.t 4))⟩,
  ⟨some 17, some (15, true), .p (.mv (.t 5))⟩,
  ⟨some 18, some (15, true), .p (.bin .neq (.t 16) (.t 17))⟩,
  ⟨some 19, none, .p (.pick (.t 15) (.t 18) (.c (.bool false)))⟩]
def b2S : List AIns := [⟨some 6, none, .p (.mv (.c (.int .i64 8)))⟩]
def a3V : List AIns := [⟨some 20, none, .p (.mv (.t 4))⟩,
  ⟨some 21, none, .p (.mv (.t 6))⟩,
  ⟨some 2, none, .p (.mv (.t 20))⟩,
  ⟨some 3, none, .p (.mv (.t 21))⟩]
def c8s : ACode := .seq (.region a3Y false) (.seq (.region a3X false) (.seq (.seq (.region a3W false) (.cond (.t 19) (.region b2S false) (.skip))) (.seq (.region a3V false) (.ret))))
theorem a6Q : fchk Pr (fun _ _ => false) Try.f55 = some (c8s, [.tmp 2, .tmp 3], 22) := by kernel_rfl
theorem a6R : Pr.funcs[a9k]? = some Try.f55 := Try.func55
def c3Z : List AIns := [⟨some 2, none, .e (.box 2 (.c (.agg [.bool false, .nil])))⟩]
def c3Y : List AIns := [⟨some 8, none, .p (.mv (.t 0))⟩,
  ⟨some 9, none, .p (.len (.t 8))⟩,
  ⟨some 3, none, .p (.mv (.t 9))⟩]
def c3X : List AIns := [⟨some 11, none, .p (.mv (.t 0))⟩,
  ⟨some 12, none, .p (.mv (.t 3))⟩,
  ⟨some 13, none, .call a3Z [(.t 11), (.t 12)]⟩,
  ⟨some 10, none, .p (.mv (.t 13))⟩,
  ⟨some 14, none, .p (.ext (.t 10) 0)⟩,
  ⟨some 15, none, .p (.ext (.t 10) 1)⟩,
  ⟨some 16, none, .p (.ext (.t 10) 2)⟩,
  ⟨some 17, none, .p (.ext (.t 10) 3)⟩,
  ⟨some 6, none, .e (.box 2 (.c (.agg [.bool false, .nil])))⟩,
  ⟨some 4, none, .p (.mv (.t 14))⟩,
  ⟨some 5, none, .p (.mv (.t 15))⟩,
  ⟨none, none, .e (.store 2 (.t 6) (.t 16))⟩,
  ⟨some 7, none, .p (.mv (.t 17))⟩]
def c3W : List AIns := [⟨some 19, none, .p (.mv (.t 5))⟩,
  ⟨some 20, none, .p (.len (.t 19))⟩,
  ⟨some 21, none, .p (.mv (.t 3))⟩,
  ⟨some 22, none, .p (.bin .lss (.t 20) (.t 21))⟩,
  ⟨some 18, none, .p (.mv (.t 22))⟩]
def c3V : List AIns := [⟨some 23, none, .p (.bld [.bool false, .nil] [])⟩,
  ⟨none, none, .e (.store 2 (.t 2) (.t 23))⟩]
def c3U : List AIns := [⟨some 25, none, .p (.mv (.t 7))⟩,
  ⟨some 24, none, .p (.mv (.t 25))⟩]
def c3T : List AIns := [⟨some 26, none, .p (.load (some 2) (.t 6))⟩,
  ⟨some 27, none, .call a5l [(.t 26)]⟩,
  ⟨none, none, .e (.store 2 (.t 2) (.t 27))⟩]
def c3S : List AIns := [⟨some 28, none, .p (.load (some 2) (.t 6))⟩,
  ⟨some 29, none, .call b3M [(.t 28)]⟩,
  ⟨none, none, .e (.store 2 (.t 2) (.t 29))⟩]
def d6m : ACode := .seq (.region c3Z false) (.seq (.region c3Y false) (.seq (.region c3X false) (.seq (.block 0 (.seq (.region c3W false) (.cond (.t 18) (.seq (.region c3V false) (.ret)) (.seq (.region c3U false) (.cond (.t 24) (.seq (.region c3T false) (.ret)) (.skip)))))) (.seq (.region c3S false) (.ret)))))
theorem d3o : fchk Pr (fun _ _ => false) Try.f56 = some (d6m, [.cell 2 (some 2)], 30) := by kernel_rfl
theorem d3p : Pr.funcs[b1R]? = some Try.f56 := Try.func56
def c0P : List AIns := [⟨some 1, none, .e (.box 2 (.t 0))⟩,
  ⟨some 2, none, .e (.box 2 (.c (.agg [.bool false, .nil])))⟩]
def c0O : List AIns := [⟨some 3, none, .p (.mv (.c (.nil)))⟩]
def c0N : List AIns := [⟨some 4, none, .p (.mv (.t 3))⟩,
  ⟨some 5, none, .p (.fldp (.t 1) 1)⟩,
  ⟨some 6, none, .p (.load none (.t 5))⟩,
  ⟨some 7, none, .e (.app 1 4 false (.t 4) (.t 6))⟩,
  ⟨some 3, none, .p (.mv (.t 7))⟩]
def c0M : List AIns := [⟨some 8, none, .p (.mv (.t 3))⟩,
  ⟨some 9, none, .e (.bsl 1 [(.c (.int .u32 77)), (.c (.int .u32 78)), (.c (.int .u32 79)), (.c (.int .u32 80)), (.c (.int .u32 81)), (.c (.int .u32 82)), (.c (.int .u32 83)), (.c (.int .u32 84)), (.c (.int .u32 85))])⟩,
  ⟨some 10, none, .e (.app 1 4 false (.t 8) (.t 9))⟩,
  ⟨some 3, none, .p (.mv (.t 10))⟩]
def c0L : List AIns := [⟨some 11, none, .p (.fldp (.t 1) 0)⟩,
  ⟨some 12, none, .p (.load none (.t 11))⟩,
  ⟨some 13, none, .p (.mv (.t 3))⟩,
  ⟨some 14, none, .p (.fldp (.t 1) 1)⟩,
  ⟨some 15, none, .p (.load none (.t 14))⟩,
  ⟨some 16, none, .p (.len (.t 15))⟩,
  ⟨some 17, none, .p (.slc 1 (.t 13) none (some (.t 16)) none)⟩,
  ⟨some 18, none, .p (.bld [.bool false, .nil] [(0, 1, (.t 12)), (1, 1, (.t 17))])⟩,
  ⟨none, none, .e (.store 2 (.t 2) (.t 18))⟩]
def d2T : ACode := .seq (.region c0P false) (.seq (.region c0O false) (.seq (.region c0N false) (.seq (.region c0M false) (.seq (.region c0L true) (.ret)))))
theorem d0L : fchk Pr (fun _ _ => false) Try.f57 = some (d2T, [.cell 2 (some 2)], 19) := by kernel_rfl
theorem d0M : Pr.funcs[b3V]? = some Try.f57 := Try.func57
def c1X : List AIns := [⟨some 1, none, .e (.box 2 (.t 0))⟩,
  ⟨some 2, none, .e (.box 2 (.c (.agg [.bool false, .nil])))⟩]
def c1W : List AIns := [⟨some 3, none, .p (.fldp (.t 1) 1)⟩,
  ⟨some 4, none, .p (.load none (.t 3))⟩,
  ⟨some 5, none, .call a0T [(.c (.bool false)), (.t 4)]⟩,
  ⟨none, none, .e (.store 2 (.t 2) (.t 5))⟩]
def d4O : ACode := .seq (.region c1X false) (.seq (.region c1W false) (.ret))
theorem d1Q : fchk Pr (fun _ _ => false) Try.f59 = some (d4O, [.cell 2 (some 2)], 6) := by kernel_rfl
theorem d1R : Pr.funcs[b8h]? = some Try.f59 := Try.func59
def c4Y : List AIns := [⟨some 2, none, .e (.box 2 (.c (.agg [.bool false, .nil])))⟩]
def c4X : List AIns := [⟨some 4, none, .p (.mv (.t 0))⟩,
  ⟨some 5, none, .p (.conv .u64 (.t 4))⟩,
  ⟨some 3, none, .p (.mv (.t 5))⟩]
def c4W : List AIns := [⟨some 6, none, .p (.mv (.t 0))⟩,
  ⟨some 7, none, .p (.bin .lss (.t 6) (.c (.int .i64 0)))⟩]
def c4V : List AIns := [⟨some 8, none, .p (.mv (.t 3))⟩,
  ⟨some 9, none, .p (.un .neg (.t 8))⟩,
  ⟨some 3, none, .p (.mv (.t 9))⟩]
def b7j : List AIns := [⟨some 10, none, .p (.mv (.t 0))⟩,
  ⟨some 11, none, .p (.bin .lss (.t 10) (.c (.int .i64 0)))⟩,
  ⟨some 12, none, .p (.mv (.t 3))⟩,
  ⟨some 13, none, .p (.conv .u32 (.t 12))⟩,
  ⟨some 14, none, .p (.mv (.t 3))⟩,
  ⟨some 15, none, .p (.bin .shr (.t 14) (.c (.int .u64 32)))⟩,
  ⟨some 16, none, .p (.conv .u32 (.t 15))⟩,
  ⟨some 17, none, .e (.bsl 1 [(.t 13), (.t 16)])⟩,
  ⟨some 18, none, .call a0T [(.t 11), (.t 17)]⟩,
  ⟨none, none, .e (.store 2 (.t 2) (.t 18))⟩]
def d6B : ACode := .seq (.region c4Y false) (.seq (.region c4X false) (.seq (.seq (.region c4W false) (.cond (.t 7) (.region c4V false) (.skip))) (.seq (.region b7j false) (.ret))))
theorem d4I : fchk Pr (fun _ _ => false) Try.f60 = some (d6B, [.cell 2 (some 2)], 19) := by kernel_rfl
theorem d4J : Pr.funcs[b1y]? = some Try.f60 := Try.func60
def c2A : List AIns := [⟨some 2, none, .e (.box 2 (.c (.agg [.bool false, .nil])))⟩]
def c2z : List AIns := [⟨some 4, none, .p (.mv (.t 0))⟩,
  ⟨some 5, none, .p (.conv .u64 (.t 4))⟩,
  ⟨some 3, none, .p (.mv (.t 5))⟩]
def c2y : List AIns := [⟨some 6, none, .p (.mv (.t 0))⟩,
  ⟨some 7, none, .p (.bin .lss (.t 6) (.c (.int .i64 0)))⟩]
def c2x : List AIns := [⟨some 8, none, .p (.mv (.t 3))⟩,
  ⟨some 9, none, .p (.un .neg (.t 8))⟩,
  ⟨some 3, none, .p (.mv (.t 9))⟩]
def b3l : List AIns := [⟨some 10, none, .p (.mv (.t 0))⟩,
  ⟨some 11, none, .p (.bin .lss (.t 10) (.c (.int .i64 0)))⟩,
  ⟨some 12, none, .p (.mv (.t 3))⟩,
  ⟨some 13, none, .p (.conv .u32 (.t 12))⟩,
  ⟨some 14, none, .p (.mv (.t 3))⟩,
  ⟨some 15, none, .p (.bin .shr (.t 14) (.c (.int .u64 32)))⟩,
  ⟨some 16, none, .p (.conv .u32 (.t 15))⟩,
  ⟨some 17, none, .e (.bsl 1 [(.t 13), (.t 16)])⟩,
  ⟨some 18, none, .call a1e [(.t 11), (.t 17)]⟩,
  ⟨none, none, .e (.store 2 (.t 2) (.t 18))⟩]
def d5i : ACode := .seq (.region c2A false) (.seq (.region c2z false) (.seq (.seq (.region c2y false) (.cond (.t 7) (.region c2x false) (.skip))) (.seq (.region b3l false) (.ret))))
theorem d2l : fchk Pr (fun _ _ => false) Try.f63 = some (d5i, [.cell 2 (some 2)], 19) := by kernel_rfl
theorem d2m : Pr.funcs[a1v]? = some Try.f63 := Try.func63
def a9K : List AIns := [⟨some 6, none, .e (.box 2 (.c (.agg [.bool false, .nil])))⟩]
def a9J : List AIns := [⟨some 7, none, .p (.mv (.c (.nil)))⟩]
def a9I : List AIns := [⟨some 10, none, .p (.mv (.t 0))⟩,
  ⟨some 11, none, .p (.len (.t 10))⟩,
  ⟨some 12, none, .p (.mv (.c (.int .i64 0)))⟩]
def a4z : List AIns := [⟨some 13, none, .p (.bin .lss (.t 12) (.t 11))⟩]
def a9H : List AIns := [⟨some 14, none, .p (.mv (.t 12))⟩,
  ⟨some 8, none, .p (.mv (.t 14))⟩]
def a4y : List AIns := [⟨some 15, none, .p (.mv (.t 8))⟩,
  ⟨some 16, none, .p (.mv (.t 1))⟩,
  ⟨some 17, none, .p (.bin .neq (.t 15) (.t 16))⟩]
def a9G : List AIns := [⟨some 18, none, .p (.mv (.t 7))⟩,
  ⟨some 19, none, .p (.mv (.t 0))⟩,
  ⟨some 20, none, .p (.mv (.t 8))⟩,
  ⟨some 21, none, .p (.idxp 1 (.t 19) (.t 20))⟩,
  ⟨some 22, none, .p (.load none (.t 21))⟩,
  ⟨some 23, none, .p (.mv (.t 2))⟩,
  ⟨some 24, none, .p (.slc 2 (.t 22) none (some (.t 23)) none)⟩,
  ⟨some 25, none, .e (.app 2 32 false (.c (.nil)) (.t 24))⟩,
  ⟨some 26, none, .p (.mv (.t 0))⟩,
  ⟨some 27, none, .p (.mv (.t 8))⟩,
  ⟨some 28, none, .p (.idxp 1 (.t 26) (.t 27))⟩,
  ⟨some 29, none, .p (.load none (.t 28))⟩,
  ⟨some 30, none, .p (.mv (.t 2))⟩,
  ⟨some 31, none, .p (.bin .add (.t 30) (.c (.int .i64 1)))⟩,
  ⟨some 32, none, .p (.slc 2 (.t 29) (some (.t 31)) none none)⟩,
  ⟨some 33, none, .e (.app 2 32 false (.t 25) (.t 32))⟩,
  ⟨some 34, none, .e (.bslm 1 [(.t 33)])⟩,
  ⟨some 35, none, .e (.app 1 24 false (.t 18) (.t 34))⟩,
  ⟨some 7, none, .p (.mv (.t 35))⟩]
def a7H : List AIns := []
def a7G : List AIns := []
def a4x : List AIns := [⟨some 36, none, .p (.bin .add (.t 12) (.c (.int .i64 1)))⟩,
  ⟨some 12, none, .p (.mv (.t 36))⟩]
def c1p : ACode := .seq (.region a4z false) (.seq (.cond (.t 13) (.skip) (.exit 0)) (.seq (.block 1 (.seq (.region a9H false) (.seq (.region a4y false) (.cond (.t 17) (.regionX a9G a7H a7G [(0, 0), (8, 8), (26, 26), (27, 27), (28, 28), (2, 2), (30, 30), (29, 29), (31, 31)]) (.skip))))) (.region a4x false)))
def a9F : List AIns := [⟨some 37, none, .p (.mv (.t 7))⟩,
  ⟨some 38, none, .call b1R [(.t 37)]⟩,
  ⟨some 9, none, .e (.box 2 (.c (.agg [.bool false, .nil])))⟩,
  ⟨none, none, .e (.store 2 (.t 9) (.t 38))⟩]
def a4w : List AIns := [⟨some 39, none, .p (.mv (.t 1))⟩,
  ⟨some 40, none, .p (.mv (.t 2))⟩,
  ⟨some 41, none, .p (.bin .add (.t 39) (.t 40))⟩,
  ⟨some 42, none, .p (.bin .rem (.t 41) (.c (.int .i64 2)))⟩,
  ⟨some 43, none, .p (.bin .eql (.t 42) (.c (.int .i64 1)))⟩]
def a7J : List AIns := [⟨some 44, none, .p (.load (some 2) (.t 9))⟩,
  ⟨some 45, none, .call a5l [(.t 44)]⟩,
  ⟨none, none, .e (.store 2 (.t 6) (.t 45))⟩]
def a7I : List AIns := [⟨some 46, none, .p (.load (some 2) (.t 9))⟩,
  ⟨none, none, .e (.store 2 (.t 6) (.t 46))⟩]
def c4a : ACode := .seq (.region a9K false) (.seq (.region a9J false) (.seq (.seq (.region a9I false) (.block 0 (.loop c1p))) (.seq (.region a9F false) (.seq (.seq (.region a4w false) (.cond (.t 43) (.seq (.region a7J false) (.ret)) (.skip))) (.seq (.region a7I false) (.ret))))))
theorem c1o : fchk Pr (fun _ k => (k == 16)) Try.f66 = some (c4a, [.cell 6 (some 2)], 47) := by kernel_rfl
theorem c1q : Pr.funcs[a5P]? = some Try.f66 := Try.func66
def b6U : List AIns := [⟨some 3, none, .e (.box 2 (.t 1))⟩,
  ⟨some 4, none, .p (.mv (.c (.nil)))⟩,
  ⟨some 5, none, .e (.box 2 (.c (.agg [.bool false, .nil])))⟩]
def b6T : List AIns := [⟨some 18, none, .p (.load (some 2) (.t 3))⟩,
  ⟨some 19, none, .call b8h [(.t 18)]⟩,
  ⟨some 6, none, .e (.box 2 (.c (.agg [.bool false, .nil])))⟩,
  ⟨none, none, .e (.store 2 (.t 6) (.t 19))⟩]
def b6S : List AIns := [⟨some 20, none, .p (.mv (.t 0))⟩,
  ⟨some 21, none, .p (.len (.t 20))⟩,
  ⟨some 22, none, .p (.mv (.c (.int .i64 0)))⟩]
def a8W : List AIns := [⟨some 23, none, .p (.bin .lss (.t 22) (.t 21))⟩]
def b6R : List AIns := [⟨some 24, none, .p (.idxp 2 (.t 20) (.t 22))⟩,
  ⟨some 25, none, .p (.load (some 2) (.t 24))⟩,
  ⟨some 8, none, .e (.box 2 (.c (.agg [.bool false, .nil])))⟩,
  ⟨none, none, .e (.store 2 (.t 8) (.t 25))⟩]
def b6Q : List AIns := [⟨some 26, none, .p (.load (some 2) (.t 6))⟩,
  ⟨some 27, none, .p (.load (some 2) (.t 8))⟩,
  ⟨some 28, none, .call b8g [(.t 26), (.t 27)]⟩,
  ⟨none, none, .e (.store 2 (.t 6) (.t 28))⟩]
def b6P : List AIns := [⟨some 29, none, .p (.bin .add (.t 22) (.c (.int .i64 1)))⟩,
  ⟨some 22, none, .p (.mv (.t 29))⟩]
def c8q : ACode := .seq (.region a8W false) (.seq (.cond (.t 23) (.skip) (.exit 0)) (.seq (.block 1 (.seq (.region b6R false) (.region b6Q false))) (.region b6P false)))
def b6O : List AIns := [⟨some 30, none, .p (.load (some 2) (.t 3))⟩,
  ⟨some 31, none, .call a2i [(.t 30)]⟩,
  ⟨some 32, none, .p (.bin .lss (.t 31) (.c (.int .i64 0)))⟩]
def b6N : List AIns := [⟨some 33, none, .p (.load (some 2) (.t 6))⟩,
  ⟨some 34, none, .call a5l [(.t 33)]⟩,
  ⟨none, none, .e (.store 2 (.t 6) (.t 34))⟩]
def a8V : List AIns := [⟨some 9, none, .p (.mv (.c (.nil)))⟩]
def a6P : List AIns := [⟨some 35, none, .p (.mv (.t 0))⟩,
  ⟨some 36, none, .p (.len (.t 35))⟩,
  ⟨some 37, none, .p (.mv (.c (.int .i64 0)))⟩]
def a6O : List AIns := [⟨some 38, none, .p (.bin .lss (.t 37) (.t 36))⟩]
def b2R : List AIns := [⟨some 39, none, .p (.idxp 2 (.t 35) (.t 37))⟩,
  ⟨some 40, none, .p (.load (some 2) (.t 39))⟩,
  ⟨some 11, none, .e (.box 2 (.c (.agg [.bool false, .nil])))⟩,
  ⟨none, none, .e (.store 2 (.t 11) (.t 40))⟩]
def b2Q : List AIns := [⟨some 42, none, .p (.load (some 2) (.t 11))⟩,
  ⟨some 43, none, .p (.load (some 2) (.t 6))⟩,
  ⟨some 44, none, .call a4n [(.t 42), (.t 43)]⟩,
  ⟨some 41, none, .p (.mv (.t 44))⟩,
  ⟨some 45, none, .p (.ext (.t 41) 0)⟩,
  ⟨some 46, none, .p (.ext (.t 41) 1)⟩,
  ⟨some 47, none, .p (.ext (.t 41) 2)⟩,
  ⟨some 12, none, .e (.box 2 (.c (.agg [.bool false, .nil])))⟩,
  ⟨some 13, none, .e (.box 2 (.c (.agg [.bool false, .nil])))⟩,
  ⟨none, none, .e (.store 2 (.t 12) (.t 45))⟩,
  ⟨none, none, .e (.store 2 (.t 13) (.t 46))⟩,
  ⟨some 14, none, .p (.mv (.t 47))⟩]
def b2P : List AIns := [⟨some 48, none, .p (.mv (.t 9))⟩,
  ⟨some 49, none, .p (.load (some 2) (.t 12))⟩,
  ⟨some 50, none, .e (.bsl 2 [(.t 49)])⟩,
  ⟨some 51, none, .e (.app 2 32 false (.t 48) (.t 50))⟩,
  ⟨some 9, none, .p (.mv (.t 51))⟩]
def b2O : List AIns := [⟨some 52, none, .p (.bin .add (.t 37) (.c (.int .i64 1)))⟩,
  ⟨some 37, none, .p (.mv (.t 52))⟩]
def b6V : ACode := .seq (.region a6O false) (.seq (.cond (.t 38) (.skip) (.exit 2)) (.seq (.block 3 (.seq (.region b2R false) (.seq (.region b2Q false) (.region b2P false)))) (.region b2O false)))
def a6N : List AIns := [⟨some 54, none, .p (.load (some 2) (.t 3))⟩,
  ⟨some 55, none, .p (.load (some 2) (.t 6))⟩,
  ⟨some 56, none, .call a4n [(.t 54), (.t 55)]⟩,
  ⟨some 53, none, .p (.mv (.t 56))⟩,
  ⟨some 57, none, .p (.ext (.t 53) 0)⟩,
  ⟨some 58, none, .p (.ext (.t 53) 1)⟩,
  ⟨some 59, none, .p (.ext (.t 53) 2)⟩,
  ⟨some 15, none, .e (.box 2 (.c (.agg [.bool false, .nil])))⟩,
  ⟨some 16, none, .e (.box 2 (.c (.agg [.bool false, .nil])))⟩,
  ⟨none, none, .e (.store 2 (.t 15) (.t 57))⟩,
  ⟨none, none, .e (.store 2 (.t 16) (.t 58))⟩,
  ⟨some 17, none, .p (.mv (.t 59))⟩]
def a6M : List AIns := [⟨some 60, none, .p (.mv (.t 9))⟩,
  ⟨some 61, none, .p (.load (some 2) (.t 15))⟩,
  ⟨some 4, none, .p (.mv (.t 60))⟩,
  ⟨none, none, .e (.store 2 (.t 5) (.t 61))⟩]
def d1j : ACode := .seq (.region b6U false) (.seq (.region b6T false) (.seq (.seq (.region b6S false) (.block 0 (.loop c8q))) (.seq (.seq (.region b6O false) (.cond (.t 32) (.region b6N false) (.skip))) (.seq (.region a8V false) (.seq (.seq (.region a6P false) (.block 2 (.loop b6V))) (.seq (.region a6N false) (.seq (.region a6M true) (.ret))))))))
theorem c8p : fchk Pr (fun _ _ => false) Try.f67 = some (d1j, [.tmp 4, .cell 5 (some 2)], 62) := by kernel_rfl
theorem c8r : Pr.funcs[a6z]? = some Try.f67 := Try.func67
def b4P : List AIns := [⟨some 2, none, .p (.mv (.c (.nil)))⟩,
  ⟨some 3, none, .p (.mv (.c (.int .i64 0)))⟩]
def b4O : List AIns := [⟨some 8, none, .p (.mv (.t 0))⟩,
  ⟨some 9, none, .p (.bin .lss (.t 8) (.c (.int .i64 0)))⟩]
def c7n : List AIns := [⟨some 2, none, .p (.mv (.c (.nil)))⟩,
  ⟨some 3, none, .p (.mv (.c (.int .i64 1)))⟩]
def b4N : List AIns := [⟨some 10, none, .p (.mv (.t 0))⟩,
  ⟨some 11, none, .p (.bin .gtr (.t 10) (.c (.int .i64 64)))⟩]
def c7m : List AIns := [⟨some 2, none, .p (.mv (.c (.nil)))⟩,
  ⟨some 3, none, .p (.mv (.c (.int .i64 2)))⟩]
def b4M : List AIns := [⟨some 4, none, .p (.mv (.c (.nil)))⟩]
def b4L : List AIns := [⟨some 5, none, .p (.mv (.c (.int .i64 0)))⟩]
def a8e : List AIns := [⟨some 12, none, .p (.mv (.t 5))⟩,
  ⟨some 13, none, .p (.mv (.t 0))⟩,
  ⟨some 14, none, .p (.bin .lss (.t 12) (.t 13))⟩]
def b4K : List AIns := [⟨some 6, none, .p (.mv (.c (.nil)))⟩]
def b4J : List AIns := [⟨some 7, none, .p (.mv (.c (.int .i64 0)))⟩]
def a6E : List AIns := [⟨some 17, none, .p (.mv (.t 7))⟩,
  ⟨some 18, none, .p (.mv (.t 0))⟩,
  ⟨some 19, none, .p (.bin .lss (.t 17) (.t 18))⟩]
def b2j : List AIns := [⟨some 22, none, .p (.mv (.t 5))⟩,
  ⟨some 23, none, .p (.mv (.t 7))⟩,
  ⟨some 24, none, .p (.bin .eql (.t 22) (.t 23))⟩]
def b2i : List AIns := [⟨some 25, none, .p (.mv (.t 6))⟩,
  ⟨some 26, none, .call a1v [(.c (.int .i64 1))]⟩,
  ⟨some 27, none, .e (.bsl 2 [(.t 26)])⟩,
  ⟨some 28, none, .e (.app 2 32 false (.t 25) (.t 27))⟩,
  ⟨some 6, none, .p (.mv (.t 28))⟩]
def b2h : List AIns := [⟨some 29, none, .p (.mv (.t 6))⟩,
  ⟨some 30, none, .call a1v [(.c (.int .i64 0))]⟩,
  ⟨some 31, none, .e (.bsl 2 [(.t 30)])⟩,
  ⟨some 32, none, .e (.app 2 32 false (.t 29) (.t 31))⟩,
  ⟨some 6, none, .p (.mv (.t 32))⟩]
def a6D : List AIns := [⟨some 20, none, .p (.mv (.t 7))⟩,
  ⟨some 21, none, .p (.bin .add (.t 20) (.c (.int .i64 1)))⟩,
  ⟨some 7, none, .p (.mv (.t 21))⟩]
def c7p : ACode := .seq (.seq (.region a6E false) (.cond (.t 19) (.skip) (.exit 2))) (.seq (.block 3 (.seq (.region b2j false) (.cond (.t 24) (.region b2i false) (.region b2h false)))) (.region a6D false))
def b2g : List AIns := [⟨some 33, none, .p (.mv (.t 4))⟩,
  ⟨some 34, none, .p (.mv (.t 6))⟩,
  ⟨some 35, none, .e (.bsl 1 [(.t 34)])⟩,
  ⟨some 36, none, .e (.app 1 24 false (.t 33) (.t 35))⟩,
  ⟨some 4, none, .p (.mv (.t 36))⟩]
def b2f : List AIns := [⟨some 15, none, .p (.mv (.t 5))⟩,
  ⟨some 16, none, .p (.bin .add (.t 15) (.c (.int .i64 1)))⟩,
  ⟨some 5, none, .p (.mv (.t 16))⟩]
def c7q : ACode := .seq (.seq (.region a8e false) (.cond (.t 14) (.skip) (.exit 0))) (.seq (.block 1 (.seq (.region b4K false) (.seq (.seq (.region b4J false) (.block 2 (.loop c7p))) (.region b2g false)))) (.region b2f false))
def b2e : List AIns := [⟨some 37, none, .p (.mv (.t 4))⟩,
  ⟨some 2, none, .p (.mv (.t 37))⟩,
  ⟨some 3, none, .p (.mv (.c (.int .i64 0)))⟩]
def c9n : ACode := .seq (.region b4P false) (.seq (.seq (.region b4O false) (.cond (.t 9) (.seq (.region c7n false) (.ret)) (.skip))) (.seq (.seq (.region b4N false) (.cond (.t 11) (.seq (.region c7m false) (.ret)) (.skip))) (.seq (.region b4M false) (.seq (.seq (.region b4L false) (.block 0 (.loop c7q))) (.seq (.region b2e false) (.ret))))))
theorem c7o : fchk Pr (fun _ _ => false) Try.f68 = some (c9n, [.tmp 2, .tmp 3], 38) := by kernel_rfl
theorem c7r : Pr.funcs[b1A]? = some Try.f68 := Try.func68
def b0z : List AIns := [⟨some 2, none, .p (.mv (.c (.nil)))⟩,
  ⟨some 3, none, .e (.box 2 (.c (.agg [.bool false, .nil])))⟩]
def b0y : List AIns := [⟨some 13, none, .call a1v [(.c (.int .i64 1))]⟩,
  ⟨some 4, none, .e (.box 2 (.c (.agg [.bool false, .nil])))⟩,
  ⟨none, none, .e (.store 2 (.t 4) (.t 13))⟩]
def b0x : List AIns := [⟨some 5, none, .p (.mv (.c (.int .i64 0)))⟩]
def a5q : List AIns := [⟨some 14, none, .p (.mv (.t 5))⟩,
  ⟨some 15, none, .p (.mv (.t 0))⟩,
  ⟨some 16, none, .p (.len (.t 15))⟩,
  ⟨some 17, none, .p (.bin .lss (.t 14) (.t 16))⟩]
def b0w : List AIns := [⟨some 20, none, .p (.load (some 2) (.t 4))⟩,
  ⟨some 21, none, .p (.mv (.t 0))⟩,
  ⟨some 22, none, .p (.mv (.t 5))⟩,
  ⟨some 23, none, .p (.idxp 4 (.t 21) (.t 22))⟩,
  ⟨some 24, none, .p (.fldp (.t 23) 2)⟩,
  ⟨some 25, none, .p (.load (some 2) (.t 24))⟩,
  ⟨some 26, none, .call b3R [(.t 20), (.t 25)]⟩,
  ⟨some 6, none, .e (.box 2 (.c (.agg [.bool false, .nil])))⟩,
  ⟨none, none, .e (.store 2 (.t 6) (.t 26))⟩]
def b0v : List AIns := [⟨some 28, none, .p (.mv (.t 0))⟩,
  ⟨some 29, none, .p (.mv (.t 5))⟩,
  ⟨some 30, none, .p (.idxp 4 (.t 28) (.t 29))⟩,
  ⟨some 31, none, .p (.fldp (.t 30) 2)⟩,
  ⟨some 32, none, .p (.load (some 2) (.t 31))⟩,
  ⟨some 33, none, .p (.load (some 2) (.t 6))⟩,
  ⟨some 34, none, .call a5i [(.t 32), (.t 33)]⟩,
  ⟨some 27, none, .p (.mv (.t 34))⟩,
  ⟨some 35, none, .p (.ext (.t 27) 0)⟩,
  ⟨some 36, none, .p (.ext (.t 27) 1)⟩]
def a9x : List AIns := [⟨some 7, none, .e (.box 2 (.c (.agg [.bool false, .nil])))⟩,
  ⟨some 8, none, .e (.box 2 (.c (.agg [.bool false, .nil])))⟩,
  ⟨none, none, .e (.store 2 (.t 7) (.t 35))⟩,
  ⟨none, none, .e (.store 2 (.t 8) (.t 36))⟩]
def a9w : List AIns := [⟨some 8, none, .e (.box 2 (.c (.agg [.bool false, .nil])))⟩,
  ⟨some 7, none, .e (.box 2 (.c (.agg [.bool false, .nil])))⟩,
  ⟨none, none, .e (.store 2 (.t 7) (.t 35))⟩,
  ⟨none, none, .e (.store 2 (.t 8) (.t 36))⟩]
def b0u : List AIns := [⟨some 37, none, .p (.load (some 2) (.t 4))⟩,
  ⟨some 38, none, .p (.load (some 2) (.t 7))⟩,
  ⟨some 39, none, .call a1a [(.t 37), (.t 38)]⟩,
  ⟨none, none, .e (.store 2 (.t 4) (.t 39))⟩]
def b0t : List AIns := [⟨some 18, none, .p (.mv (.t 5))⟩,
  ⟨some 19, none, .p (.bin .add (.t 18) (.c (.int .i64 1)))⟩,
  ⟨some 5, none, .p (.mv (.t 19))⟩]
def c2s : ACode := .seq (.seq (.region a5q false) (.cond (.t 17) (.skip) (.exit 0))) (.seq (.block 1 (.seq (.region b0w true) (.seq (.regionX b0v a9x a9w []) (.region b0u false)))) (.region b0t false))
def b0s : List AIns := [⟨some 9, none, .p (.mv (.c (.nil)))⟩]
def b0r : List AIns := [⟨some 10, none, .p (.mv (.c (.int .i64 0)))⟩]
def a4s : List AIns := [⟨some 40, none, .p (.mv (.t 10))⟩,
  ⟨some 41, none, .p (.mv (.t 0))⟩,
  ⟨some 42, none, .p (.len (.t 41))⟩,
  ⟨some 43, none, .p (.bin .lss (.t 40) (.t 42))⟩]
def a9B : List AIns := [⟨some 47, none, .p (.load (some 2) (.t 4))⟩,
  ⟨some 48, none, .p (.mv (.t 0))⟩,
  ⟨some 49, none, .p (.mv (.t 10))⟩,
  ⟨some 50, none, .p (.idxp 4 (.t 48) (.t 49))⟩,
  ⟨some 51, none, .p (.fldp (.t 50) 2)⟩,
  ⟨some 52, none, .p (.load (some 2) (.t 51))⟩,
  ⟨some 53, none, .call a5i [(.t 47), (.t 52)]⟩,
  ⟨some 46, none, .p (.mv (.t 53))⟩,
  ⟨some 54, none, .p (.ext (.t 46) 0)⟩,
  ⟨some 55, none, .p (.ext (.t 46) 1)⟩]
def a7g : List AIns := [⟨some 11, none, .e (.box 2 (.c (.agg [.bool false, .nil])))⟩,
  ⟨some 12, none, .e (.box 2 (.c (.agg [.bool false, .nil])))⟩,
  ⟨none, none, .e (.store 2 (.t 11) (.t 54))⟩,
  ⟨none, none, .e (.store 2 (.t 12) (.t 55))⟩]
def a7f : List AIns := [⟨some 12, none, .e (.box 2 (.c (.agg [.bool false, .nil])))⟩,
  ⟨some 11, none, .e (.box 2 (.c (.agg [.bool false, .nil])))⟩,
  ⟨none, none, .e (.store 2 (.t 11) (.t 54))⟩,
  ⟨none, none, .e (.store 2 (.t 12) (.t 55))⟩]
def a9A : List AIns := [⟨some 56, none, .p (.mv (.t 9))⟩,
  ⟨some 57, none, .p (.mv (.t 0))⟩,
  ⟨some 58, none, .p (.mv (.t 10))⟩,
  ⟨some 59, none, .p (.idxp 4 (.t 57) (.t 58))⟩,
  ⟨some 60, none, .p (.fldp (.t 59) 0)⟩,
  ⟨some 61, none, .p (.load (some 2) (.t 60))⟩,
  ⟨some 62, none, .p (.load (some 2) (.t 11))⟩,
  ⟨some 63, none, .call a1a [(.t 61), (.t 62)]⟩,
  ⟨some 64, none, .e (.bsl 2 [(.t 63)])⟩,
  ⟨some 65, none, .e (.app 2 32 false (.t 56) (.t 64))⟩,
  ⟨some 9, none, .p (.mv (.t 65))⟩]
def a9z : List AIns := [⟨some 44, none, .p (.mv (.t 10))⟩,
  ⟨some 45, none, .p (.bin .add (.t 44) (.c (.int .i64 1)))⟩,
  ⟨some 10, none, .p (.mv (.t 45))⟩]
def c2r : ACode := .seq (.seq (.region a4s false) (.cond (.t 43) (.skip) (.exit 2))) (.seq (.block 3 (.seq (.regionX a9B a7g a7f []) (.region a9A true))) (.region a9z false))
def a9y : List AIns := [⟨some 66, none, .p (.mv (.t 9))⟩,
  ⟨some 67, none, .p (.load (some 2) (.t 4))⟩,
  ⟨some 2, none, .p (.mv (.t 66))⟩,
  ⟨none, none, .e (.store 2 (.t 3) (.t 67))⟩]
def c4E : ACode := .seq (.region b0z false) (.seq (.region b0y false) (.seq (.seq (.region b0x false) (.block 0 (.loop c2s))) (.seq (.region b0s false) (.seq (.seq (.region b0r false) (.block 2 (.loop c2r))) (.seq (.region a9y true) (.ret))))))
theorem c2q : fchk Pr (fun _ _ => false) Try.f69 = some (c4E, [.tmp 2, .cell 3 (some 2)], 68) := by kernel_rfl
theorem c2t : Pr.funcs[a6U]? = some Try.f69 := Try.func69
def b0T : List AIns := [⟨some 2, none, .p (.mv (.c (.int .i64 0)))⟩,
  ⟨some 3, none, .p (.mv (.c (.int .i64 0)))⟩,
  ⟨some 4, none, .p (.mv (.c (.int .i64 0)))⟩]
def b0S : List AIns := [⟨some 7, none, .p (.mv (.t 0))⟩,
  ⟨some 8, none, .p (.len (.t 7))⟩,
  ⟨some 9, none, .p (.bin .eql (.t 8) (.c (.int .i64 0)))⟩]
def c0I : List AIns := [⟨some 2, none, .p (.mv (.c (.int .i64 0)))⟩,
  ⟨some 3, none, .p (.mv (.c (.int .i64 0)))⟩,
  ⟨some 4, none, .p (.mv (.c (.int .i64 0)))⟩]
def b0R : List AIns := [⟨some 10, none, .p (.mv (.t 0))⟩,
  ⟨some 11, none, .p (.len (.t 10))⟩,
  ⟨some 12, none, .p (.mv (.c (.int .i64 0)))⟩]
def a4d : List AIns := [⟨some 13, none, .p (.bin .lss (.t 12) (.t 11))⟩]
def a6l : List AIns := [⟨some 14, none, .p (.idxp 1 (.t 10) (.t 12))⟩,
  ⟨some 15, none, .p (.load none (.t 14))⟩,
  ⟨some 6, none, .p (.mv (.t 15))⟩]
def a6k : List AIns := [⟨some 16, none, .p (.mv (.t 6))⟩,
  ⟨some 17, none, .p (.len (.t 16))⟩,
  ⟨some 18, none, .p (.mv (.t 0))⟩,
  ⟨some 19, none, .p (.idxp 1 (.t 18) (.c (.int .i64 0)))⟩,
  ⟨some 20, none, .p (.load none (.t 19))⟩,
  ⟨some 21, none, .p (.len (.t 20))⟩,
  ⟨some 22, none, .p (.bin .neq (.t 17) (.t 21))⟩]
def c0H : List AIns := [⟨some 2, none, .p (.mv (.c (.int .i64 0)))⟩,
  ⟨some 3, none, .p (.mv (.c (.int .i64 0)))⟩,
  ⟨some 4, none, .p (.mv (.c (.int .i64 8)))⟩]
def b0Q : List AIns := [⟨some 23, none, .p (.bin .add (.t 12) (.c (.int .i64 1)))⟩,
  ⟨some 12, none, .p (.mv (.t 23))⟩]
def d0E : ACode := .seq (.region a4d false) (.seq (.cond (.t 13) (.skip) (.exit 0)) (.seq (.block 1 (.seq (.region a6l false) (.seq (.region a6k false) (.cond (.t 22) (.seq (.region c0H false) (.ret)) (.skip))))) (.region b0Q false)))
def c0G : List AIns := [⟨some 24, none, .p (.mv (.t 0))⟩,
  ⟨some 25, none, .p (.len (.t 24))⟩,
  ⟨some 26, none, .p (.mv (.t 0))⟩,
  ⟨some 27, none, .p (.idxp 1 (.t 26) (.c (.int .i64 0)))⟩,
  ⟨some 28, none, .p (.load none (.t 27))⟩,
  ⟨some 29, none, .p (.len (.t 28))⟩,
  ⟨some 2, none, .p (.mv (.t 25))⟩,
  ⟨some 3, none, .p (.mv (.t 29))⟩,
  ⟨some 4, none, .p (.mv (.c (.int .i64 0)))⟩]
def d2O : ACode := .seq (.region b0T false) (.seq (.seq (.region b0S false) (.cond (.t 9) (.seq (.region c0I false) (.ret)) (.skip))) (.seq (.seq (.region b0R false) (.block 0 (.loop d0E))) (.seq (.region c0G true) (.ret))))
theorem c0J : fchk Pr (fun _ _ => false) Try.f70 = some (d2O, [.tmp 2, .tmp 3, .tmp 4], 30) := by kernel_rfl
theorem c0K : Pr.funcs[a9j]? = some Try.f70 := Try.func70
def b8u : List AIns := [⟨some 1, none, .e (.box 2 (.t 0))⟩,
  ⟨some 2, none, .e (.box 2 (.c (.agg [.bool false, .nil])))⟩]
def b8t : List AIns := [⟨some 3, none, .p (.fldp (.t 1) 0)⟩,
  ⟨some 4, none, .p (.load none (.t 3))⟩,
  ⟨some 5, none, .p (.fldp (.t 1) 1)⟩,
  ⟨some 6, none, .p (.load none (.t 5))⟩,
  ⟨some 7, none, .call a0T [(.t 4), (.t 6)]⟩,
  ⟨none, none, .e (.store 2 (.t 2) (.t 7))⟩]
def d1N : ACode := .seq (.region b8u false) (.seq (.region b8t false) (.ret))
theorem c8P : fchk Pr (fun _ _ => false) Try.f71 = some (d1N, [.cell 2 (some 2)], 8) := by kernel_rfl
theorem c8Q : Pr.funcs[b3M]? = some Try.f71 := Try.func71
def b8l : List AIns := [⟨some 4, none, .e (.box 2 (.c (.agg [.bool false, .nil])))⟩]
def b8k : List AIns := [⟨some 7, none, .p (.mv (.t 1))⟩,
  ⟨some 8, none, .p (.len (.t 7))⟩,
  ⟨some 5, none, .p (.mv (.t 8))⟩]
def b0j : List AIns := [⟨some 9, none, .p (.mv (.t 5))⟩,
  ⟨some 10, none, .p (.bin .gtr (.t 9) (.c (.int .i64 0)))⟩,
  ⟨some 11, none, .p (.mv (.t 10))⟩,
  ⟨some 12, some (11, true), .p (.mv (.t 1))⟩,
  ⟨some 13, some (11, true), .p (.mv (.t 5))⟩,
  ⟨some 14, some (11, true), .p (.bin .sub (.t 13) (.c (.int .i64 1)))⟩,
  ⟨some 15, some (11, true), .p (.idxp 1 (.t 12) (.t 14))⟩,
  ⟨some 16, some (11, true), .p (.load none (.t 15))⟩,
  ⟨some 17, some (11, true), .p (.bin .eql (.t 16) (.c (.int .u32 0)))⟩,
  ⟨some 18, none, .p (.pick (.t 11) (.t 17) (.c (.bool false)))⟩]
def b8j : List AIns := [⟨some 19, none, .p (.mv (.t 5))⟩,
  ⟨some 20, none, .p (.bin .sub (.t 19) (.c (.int .i64 1)))⟩,
  ⟨some 5, none, .p (.mv (.t 20))⟩]
def b8m : ACode := .seq (.seq (.region b0j false) (.cond (.t 18) (.skip) (.exit 0))) (.block 1 (.region b8j false))
def a5Y : List AIns := [⟨some 21, none, .p (.mv (.t 5))⟩,
  ⟨some 22, none, .p (.bin .eql (.t 21) (.c (.int .i64 0)))⟩]
def a5X : List AIns := [⟨some 23, none, .p (.bld [.bool false, .nil] [])⟩,
  ⟨none, none, .e (.store 2 (.t 4) (.t 23))⟩]
def a5W : List AIns := [⟨some 24, none, .p (.mv (.t 5))⟩,
  ⟨some 25, none, .e (.mksl 1 4 (.int .u32 0) (.t 24) (.t 24))⟩,
  ⟨some 6, none, .p (.mv (.t 25))⟩]
def a5V : List AIns := [⟨some 26, none, .p (.mv (.t 6))⟩,
  ⟨some 27, none, .p (.mv (.t 1))⟩,
  ⟨some 28, none, .e (.cpy 1 (.t 26) (.t 27))⟩]
def a5U : List AIns := [⟨some 29, none, .p (.mv (.t 0))⟩,
  ⟨some 30, none, .p (.mv (.t 6))⟩,
  ⟨some 31, none, .p (.bld [.bool false, .nil] [(0, 1, (.t 29)), (1, 1, (.t 30))])⟩,
  ⟨none, none, .e (.store 2 (.t 4) (.t 31))⟩]
def d1D : ACode := .seq (.region b8l false) (.seq (.region b8k false) (.seq (.block 0 (.loop b8m)) (.seq (.seq (.region a5Y false) (.cond (.t 22) (.seq (.region a5X false) (.ret)) (.skip))) (.seq (.region a5W false) (.seq (.region a5V false) (.seq (.region a5U false) (.ret)))))))
theorem c8L : fchk Pr (fun _ _ => false) Try.f73 = some (d1D, [.cell 4 (some 2)], 32) := by kernel_rfl
theorem c8M : Pr.funcs[a0T]? = some Try.f73 := Try.func73
def c5R : List AIns := [⟨some 4, none, .p (.mv (.c (.nil)))⟩]
def c5Q : List AIns := [⟨some 9, none, .p (.mv (.t 0))⟩,
  ⟨some 10, none, .call a0o [(.t 9)]⟩,
  ⟨some 11, none, .p (.mv (.t 1))⟩,
  ⟨some 12, none, .call a0o [(.t 11)]⟩,
  ⟨some 0, none, .p (.mv (.t 10))⟩,
  ⟨some 1, none, .p (.mv (.t 12))⟩]
def c5P : List AIns := [⟨some 13, none, .p (.mv (.t 0))⟩,
  ⟨some 14, none, .p (.len (.t 13))⟩,
  ⟨some 15, none, .p (.mv (.t 1))⟩,
  ⟨some 16, none, .p (.len (.t 15))⟩,
  ⟨some 17, none, .p (.bin .add (.t 14) (.t 16))⟩,
  ⟨some 18, none, .e (.mksl 1 4 (.int .u32 0) (.t 17) (.t 17))⟩,
  ⟨some 5, none, .p (.mv (.t 18))⟩]
def c5O : List AIns := [⟨some 19, none, .p (.mv (.t 0))⟩,
  ⟨some 20, none, .p (.len (.t 19))⟩,
  ⟨some 21, none, .p (.mv (.c (.int .i64 0)))⟩]
def b7A : List AIns := [⟨some 22, none, .p (.bin .lss (.t 21) (.t 20))⟩]
def c5N : List AIns := [⟨some 23, none, .p (.mv (.t 21))⟩,
  ⟨some 6, none, .p (.mv (.t 23))⟩]
def c5M : List AIns := [⟨some 7, none, .p (.mv (.c (.int .u64 0)))⟩]
def c5L : List AIns := [⟨some 24, none, .p (.mv (.t 1))⟩,
  ⟨some 25, none, .p (.len (.t 24))⟩,
  ⟨some 26, none, .p (.mv (.c (.int .i64 0)))⟩]
def b7z : List AIns := [⟨some 27, none, .p (.bin .lss (.t 26) (.t 25))⟩]
def c5K : List AIns := [⟨some 28, none, .p (.mv (.t 26))⟩,
  ⟨some 8, none, .p (.mv (.t 28))⟩]
def c3h : List AIns := [⟨some 29, none, .p (.mv (.t 7))⟩,
  ⟨some 30, none, .p (.mv (.t 0))⟩,
  ⟨some 31, none, .p (.mv (.t 6))⟩,
  ⟨some 32, none, .p (.idxp 1 (.t 30) (.t 31))⟩,
  ⟨some 33, none, .p (.load none (.t 32))⟩,
  ⟨some 34, none, .p (.conv .u64 (.t 33))⟩,
  ⟨some 35, none, .p (.mv (.t 1))⟩,
  ⟨some 36, none, .p (.mv (.t 8))⟩,
  ⟨some 37, none, .p (.idxp 1 (.t 35) (.t 36))⟩,
  ⟨some 38, none, .p (.load none (.t 37))⟩,
  ⟨some 39, none, .p (.conv .u64 (.t 38))⟩,
  ⟨some 40, none, .p (.bin .mul (.t 34) (.t 39))⟩,
  ⟨some 41, none, .p (.mv (.t 5))⟩,
  ⟨some 42, none, .p (.mv (.t 6))⟩,
  ⟨some 43, none, .p (.mv (.t 8))⟩,
  ⟨some 44, none, .p (.bin .add (.t 42) (.t 43))⟩,
  ⟨some 45, none, .p (.idxp 1 (.t 41) (.t 44))⟩,
  ⟨some 46, none, .p (.load none (.t 45))⟩,
  ⟨some 47, none, .p (.conv .u64 (.t 46))⟩,
  ⟨some 48, none, .p (.bin .add (.t 40) (.t 47))⟩,
  ⟨some 49, none, .p (.bin .add (.t 29) (.t 48))⟩,
  ⟨some 7, none, .p (.mv (.t 49))⟩]
def c3g : List AIns := [⟨some 50, none, .p (.mv (.t 5))⟩,
  ⟨some 51, none, .p (.mv (.t 6))⟩,
  ⟨some 52, none, .p (.mv (.t 8))⟩,
  ⟨some 53, none, .p (.bin .add (.t 51) (.t 52))⟩,
  ⟨some 54, none, .p (.mv (.t 7))⟩,
  ⟨some 55, none, .p (.conv .u32 (.t 54))⟩,
  ⟨some 56, none, .p (.idxp 1 (.t 50) (.t 53))⟩,
  ⟨none, none, .e (.store 1 (.t 56) (.t 55))⟩]
def c3f : List AIns := [⟨some 57, none, .p (.mv (.t 7))⟩,
  ⟨some 58, none, .p (.bin .shr (.t 57) (.c (.int .u64 32)))⟩,
  ⟨some 7, none, .p (.mv (.t 58))⟩]
def c3e : List AIns := [⟨some 59, none, .p (.bin .add (.t 26) (.c (.int .i64 1)))⟩,
  ⟨some 26, none, .p (.mv (.t 59))⟩]
def c5S : ACode := .seq (.region b7z false) (.seq (.cond (.t 27) (.skip) (.exit 2)) (.seq (.block 3 (.seq (.region c5K false) (.seq (.region c3h true) (.seq (.region c3g false) (.region c3f false))))) (.region c3e false)))
def c3d : List AIns := [⟨some 60, none, .p (.mv (.t 5))⟩,
  ⟨some 61, none, .p (.mv (.t 6))⟩,
  ⟨some 62, none, .p (.mv (.t 1))⟩,
  ⟨some 63, none, .p (.len (.t 62))⟩,
  ⟨some 64, none, .p (.bin .add (.t 61) (.t 63))⟩,
  ⟨some 65, none, .p (.mv (.t 7))⟩,
  ⟨some 66, none, .p (.conv .u32 (.t 65))⟩,
  ⟨some 67, none, .p (.idxp 1 (.t 60) (.t 64))⟩,
  ⟨none, none, .e (.store 1 (.t 67) (.t 66))⟩]
def c3c : List AIns := [⟨some 68, none, .p (.bin .add (.t 21) (.c (.int .i64 1)))⟩,
  ⟨some 21, none, .p (.mv (.t 68))⟩]
def c5T : ACode := .seq (.region b7A false) (.seq (.cond (.t 22) (.skip) (.exit 0)) (.seq (.block 1 (.seq (.region c5N false) (.seq (.region c5M false) (.seq (.seq (.region c5L false) (.block 2 (.loop c5S))) (.region c3d false))))) (.region c3c false)))
def b3y : List AIns := [⟨some 69, none, .p (.mv (.t 5))⟩,
  ⟨some 70, none, .call a0o [(.t 69)]⟩,
  ⟨some 4, none, .p (.mv (.t 70))⟩]
def d7A : ACode := .seq (.region c5R false) (.seq (.region c5Q false) (.seq (.region c5P false) (.seq (.seq (.region c5O false) (.block 0 (.loop c5T))) (.seq (.region b3y false) (.ret)))))
theorem d5F : fchk Pr (fun _ _ => false) Try.f77 = some (d7A, [.tmp 4], 71) := by kernel_rfl
theorem d5G : Pr.funcs[a7P]? = some Try.f77 := Try.func77
def b4e : List AIns := [⟨some 2, none, .e (.box 2 (.t 0))⟩,
  ⟨some 3, none, .e (.box 2 (.t 1))⟩,
  ⟨some 4, none, .e (.box 2 (.c (.agg [.bool false, .nil])))⟩,
  ⟨some 5, none, .e (.box 2 (.c (.agg [.bool false, .nil])))⟩,
  ⟨some 6, none, .p (.mv (.c (.int .i64 0)))⟩]
def b4d : List AIns := [⟨some 13, none, .p (.fldp (.t 2) 1)⟩,
  ⟨some 14, none, .p (.load none (.t 13))⟩,
  ⟨some 15, none, .p (.fldp (.t 3) 1)⟩,
  ⟨some 16, none, .p (.load none (.t 15))⟩,
  ⟨some 17, none, .call b7i [(.t 14), (.t 16)]⟩,
  ⟨some 12, none, .p (.mv (.t 17))⟩,
  ⟨some 18, none, .p (.ext (.t 12) 0)⟩,
  ⟨some 19, none, .p (.ext (.t 12) 1)⟩,
  ⟨some 20, none, .p (.ext (.t 12) 2)⟩,
  ⟨some 7, none, .p (.mv (.t 18))⟩,
  ⟨some 8, none, .p (.mv (.t 19))⟩,
  ⟨some 9, none, .p (.mv (.t 20))⟩]
def b4c : List AIns := [⟨some 21, none, .p (.mv (.t 9))⟩,
  ⟨some 22, none, .p (.bin .neq (.t 21) (.c (.int .i64 0)))⟩]
def c6J : List AIns := [⟨some 23, none, .p (.bld [.bool false, .nil] [])⟩,
  ⟨some 24, none, .p (.bld [.bool false, .nil] [])⟩,
  ⟨none, none, .e (.store 2 (.t 4) (.t 23))⟩,
  ⟨none, none, .e (.store 2 (.t 5) (.t 24))⟩,
  ⟨some 6, none, .p (.mv (.c (.int .i64 11)))⟩]
def b4b : List AIns := [⟨some 25, none, .p (.fldp (.t 2) 0)⟩,
  ⟨some 26, none, .p (.load none (.t 25))⟩,
  ⟨some 27, none, .p (.fldp (.t 3) 0)⟩,
  ⟨some 28, none, .p (.load none (.t 27))⟩,
  ⟨some 29, none, .p (.beq true (.t 26) (.t 28))⟩,
  ⟨some 30, none, .p (.mv (.t 7))⟩,
  ⟨some 31, none, .call a0T [(.t 29), (.t 30)]⟩,
  ⟨some 32, none, .p (.fldp (.t 2) 0)⟩,
  ⟨some 33, none, .p (.load none (.t 32))⟩,
  ⟨some 34, none, .p (.mv (.t 8))⟩,
  ⟨some 35, none, .call a0T [(.t 33), (.t 34)]⟩]
def b1Y : List AIns := [⟨some 10, none, .e (.box 2 (.c (.agg [.bool false, .nil])))⟩,
  ⟨some 11, none, .e (.box 2 (.c (.agg [.bool false, .nil])))⟩,
  ⟨none, none, .e (.store 2 (.t 10) (.t 31))⟩,
  ⟨none, none, .e (.store 2 (.t 11) (.t 35))⟩]
def b1X : List AIns := [⟨some 11, none, .e (.box 2 (.c (.agg [.bool false, .nil])))⟩,
  ⟨some 10, none, .e (.box 2 (.c (.agg [.bool false, .nil])))⟩,
  ⟨none, none, .e (.store 2 (.t 10) (.t 31))⟩,
  ⟨none, none, .e (.store 2 (.t 11) (.t 35))⟩]
def b4a : List AIns := [⟨some 36, none, .p (.load (some 2) (.t 11))⟩,
  ⟨some 37, none, .call a2i [(.t 36)]⟩,
  ⟨some 38, none, .p (.bin .neq (.t 37) (.c (.int .i64 0)))⟩,
  ⟨some 39, none, .p (.mv (.t 38))⟩,
  ⟨some 40, some (39, true), .p (.load (some 2) (.t 11))⟩,
  ⟨some 41, some (39, true), .call a2i [(.t 40)]⟩,
  ⟨some 42, some (39, true), .p (.load (some 2) (.t 3))⟩,
  ⟨some 43, some (39, true), .call a2i [(.t 42)]⟩,
  ⟨some 44, some (39, true), .p (.bin .neq (.t 41) (.t 43))⟩,
  ⟨some 45, none, .p (.pick (.t 39) (.t 44) (.c (.bool false)))⟩]
def c6I : List AIns := [⟨some 46, none, .p (.load (some 2) (.t 10))⟩,
  ⟨some 47, none, .call b1y [(.c (.int .i64 1))]⟩,
  ⟨some 48, none, .call a7L [(.t 46), (.t 47)]⟩,
  ⟨some 49, none, .p (.load (some 2) (.t 11))⟩,
  ⟨some 50, none, .p (.load (some 2) (.t 3))⟩,
  ⟨some 51, none, .call b1Q [(.t 49), (.t 50)]⟩,
  ⟨none, none, .e (.store 2 (.t 10) (.t 48))⟩,
  ⟨none, none, .e (.store 2 (.t 11) (.t 51))⟩]
def b3Z : List AIns := [⟨some 52, none, .p (.load (some 2) (.t 10))⟩,
  ⟨some 53, none, .p (.load (some 2) (.t 11))⟩,
  ⟨none, none, .e (.store 2 (.t 4) (.t 52))⟩,
  ⟨none, none, .e (.store 2 (.t 5) (.t 53))⟩,
  ⟨some 6, none, .p (.mv (.c (.int .i64 0)))⟩]
def b1W : List AIns := []
def b1V : List AIns := []
def c8R : ACode := .seq (.region b4e false) (.seq (.region b4d false) (.seq (.seq (.region b4c false) (.cond (.t 22) (.seq (.region c6J false) (.ret)) (.skip))) (.seq (.regionX b4b b1Y b1X []) (.seq (.seq (.region b4a true) (.cond (.t 45) (.region c6I true) (.skip))) (.seq (.regionX b3Z b1W b1V [(11, 4)]) (.ret))))))
theorem c6K : fchk Pr (fun _ _ => false) Try.f78 = some (c8R, [.cell 4 (some 2), .cell 5 (some 2), .tmp 6], 54) := by kernel_rfl
theorem c6L : Pr.funcs[a4n]? = some Try.f78 := Try.func78
def c2w : List AIns := [⟨some 1, none, .e (.box 2 (.t 0))⟩,
  ⟨some 2, none, .e (.box 4 (.c (.agg [.bool false, .nil, .bool false, .nil])))⟩]
def c2v : List AIns := [⟨some 3, none, .p (.load (some 2) (.t 1))⟩,
  ⟨some 4, none, .call a2V [(.t 3)]⟩,
  ⟨some 5, none, .call b3N []⟩,
  ⟨some 6, none, .p (.bld [.bool false, .nil, .bool false, .nil] [(0, 2, (.t 4)), (2, 2, (.t 5))])⟩,
  ⟨none, none, .e (.store 4 (.t 2) (.t 6))⟩]
def d5h : ACode := .seq (.region c2w false) (.seq (.region c2v false) (.ret))
theorem d2e : fchk Pr (fun _ _ => false) Try.f80 = some (d5h, [.cell 2 (some 4)], 7) := by kernel_rfl
theorem d2f : Pr.funcs[a7M]? = some Try.f80 := Try.func80
def b8B : List AIns := [⟨some 1, none, .e (.box 4 (.t 0))⟩,
  ⟨some 2, none, .e (.box 4 (.c (.agg [.bool false, .nil, .bool false, .nil])))⟩]
def b8A : List AIns := [⟨some 3, none, .p (.fldp (.t 1) 0)⟩,
  ⟨some 4, none, .p (.load (some 2) (.t 3))⟩,
  ⟨some 5, none, .call a3L [(.t 4)]⟩,
  ⟨some 6, none, .p (.fldp (.t 1) 2)⟩,
  ⟨some 7, none, .p (.load (some 2) (.t 6))⟩,
  ⟨some 8, none, .call a2j [(.t 5), (.t 7)]⟩,
  ⟨none, none, .e (.store 4 (.t 2) (.t 8))⟩]
def d2g : ACode := .seq (.region b8B false) (.seq (.region b8A true) (.ret))
theorem c9s : fchk Pr (fun _ _ => false) Try.f81 = some (d2g, [.cell 2 (some 4)], 9) := by kernel_rfl
theorem c9t : Pr.funcs[a9c]? = some Try.f81 := Try.func81
def c3w : List AIns := [⟨some 2, none, .p (.mv (.c (.int .i64 0)))⟩]
def c3v : List AIns := [⟨some 3, none, .p (.mv (.t 0))⟩,
  ⟨some 4, none, .call a0o [(.t 3)]⟩,
  ⟨some 0, none, .p (.mv (.t 4))⟩]
def c3u : List AIns := [⟨some 5, none, .p (.mv (.t 0))⟩,
  ⟨some 6, none, .p (.len (.t 5))⟩,
  ⟨some 7, none, .p (.bin .eql (.t 6) (.c (.int .i64 0)))⟩]
def c3t : List AIns := [⟨some 2, none, .p (.mv (.c (.int .i64 0)))⟩]
def c3s : List AIns := [⟨some 8, none, .p (.mv (.t 0))⟩,
  ⟨some 9, none, .p (.len (.t 8))⟩,
  ⟨some 10, none, .p (.bin .sub (.t 9) (.c (.int .i64 1)))⟩,
  ⟨some 11, none, .p (.bin .mul (.c (.int .i64 32)) (.t 10))⟩,
  ⟨some 12, none, .p (.mv (.t 0))⟩,
  ⟨some 13, none, .p (.mv (.t 0))⟩,
  ⟨some 14, none, .p (.len (.t 13))⟩,
  ⟨some 15, none, .p (.bin .sub (.t 14) (.c (.int .i64 1)))⟩,
  ⟨some 16, none, .p (.idxp 1 (.t 12) (.t 15))⟩,
  ⟨some 17, none, .p (.load none (.t 16))⟩,
  ⟨some 18, none, .call a1p [(.t 17)]⟩,
  ⟨some 19, none, .p (.bin .add (.t 11) (.t 18))⟩,
  ⟨some 2, none, .p (.mv (.t 19))⟩]
def d5Q : ACode := .seq (.region c3w false) (.seq (.region c3v false) (.seq (.seq (.region c3u false) (.cond (.t 7) (.seq (.region c3t false) (.ret)) (.skip))) (.seq (.region c3s false) (.ret))))
theorem d2J : fchk Pr (fun _ _ => false) Try.f82 = some (d5Q, [.tmp 2], 20) := by kernel_rfl
theorem d2K : Pr.funcs[b8i]? = some Try.f82 := Try.func82
def b3a : List AIns := [⟨some 2, none, .p (.mv (.c (.nil)))⟩]
def b2Z : List AIns := [⟨some 6, none, .p (.mv (.t 0))⟩,
  ⟨some 7, none, .p (.len (.t 6))⟩,
  ⟨some 8, none, .e (.mksl 1 24 (.nil) (.t 7) (.t 7))⟩,
  ⟨some 3, none, .p (.mv (.t 8))⟩]
def b2Y : List AIns := [⟨some 9, none, .p (.mv (.t 0))⟩,
  ⟨some 10, none, .p (.len (.t 9))⟩,
  ⟨some 11, none, .p (.mv (.c (.int .i64 0)))⟩]
def a6S : List AIns := [⟨some 12, none, .p (.bin .lss (.t 11) (.t 10))⟩]
def b2X : List AIns := [⟨some 13, none, .p (.mv (.t 11))⟩,
  ⟨some 14, none, .p (.idxp 1 (.t 9) (.t 11))⟩,
  ⟨some 15, none, .p (.load none (.t 14))⟩,
  ⟨some 4, none, .p (.mv (.t 13))⟩,
  ⟨some 5, none, .p (.mv (.t 15))⟩]
def b2W : List AIns := [⟨some 16, none, .p (.mv (.t 3))⟩,
  ⟨some 17, none, .p (.mv (.t 4))⟩,
  ⟨some 18, none, .p (.mv (.t 5))⟩,
  ⟨some 19, none, .p (.len (.t 18))⟩,
  ⟨some 20, none, .e (.mksl 2 32 (.agg [.bool false, .nil]) (.t 19) (.t 19))⟩,
  ⟨some 21, none, .p (.idxp 1 (.t 16) (.t 17))⟩,
  ⟨none, none, .e (.store 1 (.t 21) (.t 20))⟩]
def b2V : List AIns := [⟨some 22, none, .p (.mv (.t 3))⟩,
  ⟨some 23, none, .p (.mv (.t 4))⟩,
  ⟨some 24, none, .p (.idxp 1 (.t 22) (.t 23))⟩,
  ⟨some 25, none, .p (.load none (.t 24))⟩,
  ⟨some 26, none, .p (.mv (.t 5))⟩,
  ⟨some 27, none, .e (.cpy 2 (.t 25) (.t 26))⟩]
def b2U : List AIns := [⟨some 28, none, .p (.bin .add (.t 11) (.c (.int .i64 1)))⟩,
  ⟨some 11, none, .p (.mv (.t 28))⟩]
def c4O : ACode := .seq (.region a6S false) (.seq (.cond (.t 12) (.skip) (.exit 0)) (.seq (.block 1 (.seq (.region b2X false) (.seq (.region b2W false) (.region b2V false)))) (.region b2U false)))
def b2T : List AIns := [⟨some 29, none, .p (.mv (.t 3))⟩,
  ⟨some 2, none, .p (.mv (.t 29))⟩]
def c8t : ACode := .seq (.region b3a false) (.seq (.region b2Z false) (.seq (.seq (.region b2Y false) (.block 0 (.loop c4O))) (.seq (.region b2T false) (.ret))))
theorem c4N : fchk Pr (fun _ _ => false) Try.f85 = some (c8t, [.tmp 2], 30) := by kernel_rfl
theorem c4P : Pr.funcs[a9l]? = some Try.f85 := Try.func85
def c1K : List AIns := [⟨some 2, none, .e (.box 2 (.t 0))⟩,
  ⟨some 3, none, .e (.box 2 (.t 1))⟩,
  ⟨some 4, none, .e (.box 2 (.c (.agg [.bool false, .nil])))⟩]
def c1J : List AIns := [⟨some 5, none, .p (.load (some 2) (.t 2))⟩,
  ⟨some 6, none, .p (.load (some 2) (.t 3))⟩,
  ⟨some 7, none, .call a5l [(.t 6)]⟩,
  ⟨some 8, none, .call b1Q [(.t 5), (.t 7)]⟩,
  ⟨none, none, .e (.store 2 (.t 4) (.t 8))⟩]
def d4H : ACode := .seq (.region c1K false) (.seq (.region c1J true) (.ret))
theorem d1E : fchk Pr (fun _ _ => false) Try.f86 = some (d4H, [.cell 4 (some 2)], 9) := by kernel_rfl
theorem d1F : Pr.funcs[a7L]? = some Try.f86 := Try.func86
def a6H : List AIns := [⟨some 2, none, .p (.mv (.c (.int .i64 0)))⟩,
  ⟨some 3, none, .p (.mv (.c (.int .i64 0)))⟩,
  ⟨some 4, none, .p (.mv (.c (.int .i64 0)))⟩]
def a6G : List AIns := [⟨some 5, none, .p (.mv (.c (.int .i64 0)))⟩]
def a2y : List AIns := [⟨some 6, none, .p (.mv (.t 5))⟩,
  ⟨some 7, none, .p (.mv (.t 0))⟩,
  ⟨some 8, none, .p (.len (.t 7))⟩,
  ⟨some 9, none, .p (.bin .lss (.t 6) (.t 8))⟩]
def a3R : List AIns := [⟨some 12, none, .p (.mv (.t 0))⟩,
  ⟨some 13, none, .p (.mv (.t 5))⟩,
  ⟨some 14, none, .p (.idxp 1 (.t 12) (.t 13))⟩,
  ⟨some 15, none, .p (.load none (.t 14))⟩,
  ⟨some 16, none, .p (.len (.t 15))⟩,
  ⟨some 17, none, .p (.mv (.t 0))⟩,
  ⟨some 18, none, .p (.idxp 1 (.t 17) (.c (.int .i64 0)))⟩,
  ⟨some 19, none, .p (.load none (.t 18))⟩,
  ⟨some 20, none, .p (.len (.t 19))⟩,
  ⟨some 21, none, .p (.bin .neq (.t 16) (.t 20))⟩]
def b2n : List AIns := [⟨some 2, none, .p (.mv (.c (.int .i64 0)))⟩,
  ⟨some 3, none, .p (.mv (.c (.int .i64 0)))⟩,
  ⟨some 4, none, .p (.mv (.c (.int .i64 8)))⟩]
def a6F : List AIns := [⟨some 10, none, .p (.mv (.t 5))⟩,
  ⟨some 11, none, .p (.bin .add (.t 10) (.c (.int .i64 1)))⟩,
  ⟨some 5, none, .p (.mv (.t 11))⟩]
def c4F : ACode := .seq (.seq (.region a2y false) (.cond (.t 9) (.skip) (.exit 0))) (.seq (.block 1 (.seq (.region a3R true) (.cond (.t 21) (.seq (.region b2n false) (.ret)) (.skip)))) (.region a6F false))
def b2m : List AIns := [⟨some 22, none, .p (.mv (.t 0))⟩,
  ⟨some 23, none, .p (.len (.t 22))⟩,
  ⟨some 24, none, .p (.bin .eql (.t 23) (.c (.int .i64 0)))⟩]
def b2l : List AIns := [⟨some 2, none, .p (.mv (.c (.int .i64 0)))⟩,
  ⟨some 3, none, .p (.mv (.c (.int .i64 0)))⟩,
  ⟨some 4, none, .p (.mv (.c (.int .i64 0)))⟩]
def b2k : List AIns := [⟨some 25, none, .p (.mv (.t 0))⟩,
  ⟨some 26, none, .p (.len (.t 25))⟩,
  ⟨some 27, none, .p (.mv (.t 0))⟩,
  ⟨some 28, none, .p (.idxp 1 (.t 27) (.c (.int .i64 0)))⟩,
  ⟨some 29, none, .p (.load none (.t 28))⟩,
  ⟨some 30, none, .p (.len (.t 29))⟩,
  ⟨some 2, none, .p (.mv (.t 26))⟩,
  ⟨some 3, none, .p (.mv (.t 30))⟩,
  ⟨some 4, none, .p (.mv (.c (.int .i64 0)))⟩]
def c7s : ACode := .seq (.region a6H false) (.seq (.seq (.region a6G false) (.block 0 (.loop c4F))) (.seq (.seq (.region b2m false) (.cond (.t 24) (.seq (.region b2l false) (.ret)) (.skip))) (.seq (.region b2k true) (.ret))))
theorem b2o : fchk Pr (fun _ _ => false) Try.f87 = some (c7s, [.tmp 2, .tmp 3, .tmp 4], 31) := by kernel_rfl
theorem b2p : Pr.funcs[a3n]? = some Try.f87 := Try.func87
def b4o : List AIns := [⟨some 1, none, .e (.box 4 (.t 0))⟩,
  ⟨some 2, none, .p (.mv (.c (.bool false)))⟩]
def b4n : List AIns := [⟨some 3, none, .p (.fldp (.t 1) 0)⟩,
  ⟨some 4, none, .p (.load (some 2) (.t 3))⟩,
  ⟨some 5, none, .call a2k [(.t 4)]⟩,
  ⟨some 6, none, .p (.bin .eql (.t 5) (.c (.int .i64 0)))⟩,
  ⟨some 2, none, .p (.mv (.t 6))⟩]
def c9i : ACode := .seq (.region b4o false) (.seq (.region b4n false) (.ret))
theorem c6X : fchk Pr (fun _ _ => false) Try.f88 = some (c9i, [.tmp 2], 7) := by kernel_rfl
theorem c6Y : Pr.funcs[a6s]? = some Try.f88 := Try.func88
def b8D : List AIns := [⟨some 2, none, .e (.box 4 (.t 0))⟩,
  ⟨some 3, none, .e (.box 4 (.t 1))⟩,
  ⟨some 4, none, .e (.box 4 (.c (.agg [.bool false, .nil, .bool false, .nil])))⟩]
def b8C : List AIns := [⟨some 5, none, .p (.fldp (.t 2) 0)⟩,
  ⟨some 6, none, .p (.load (some 2) (.t 5))⟩,
  ⟨some 7, none, .p (.fldp (.t 3) 0)⟩,
  ⟨some 8, none, .p (.load (some 2) (.t 7))⟩,
  ⟨some 9, none, .call a1a [(.t 6), (.t 8)]⟩,
  ⟨some 10, none, .p (.fldp (.t 2) 2)⟩,
  ⟨some 11, none, .p (.load (some 2) (.t 10))⟩,
  ⟨some 12, none, .p (.fldp (.t 3) 2)⟩,
  ⟨some 13, none, .p (.load (some 2) (.t 12))⟩,
  ⟨some 14, none, .call a1a [(.t 11), (.t 13)]⟩,
  ⟨some 15, none, .call a2j [(.t 9), (.t 14)]⟩,
  ⟨none, none, .e (.store 4 (.t 4) (.t 15))⟩]
def d2h : ACode := .seq (.region b8D false) (.seq (.region b8C true) (.ret))
theorem c9u : fchk Pr (fun _ _ => false) Try.f89 = some (d2h, [.cell 4 (some 4)], 16) := by kernel_rfl
theorem c9v : Pr.funcs[a9d]? = some Try.f89 := Try.func89
def b8F : List AIns := [⟨some 2, none, .e (.box 4 (.t 0))⟩,
  ⟨some 3, none, .e (.box 4 (.t 1))⟩,
  ⟨some 4, none, .e (.box 4 (.c (.agg [.bool false, .nil, .bool false, .nil])))⟩]
def b8E : List AIns := [⟨some 5, none, .p (.fldp (.t 2) 0)⟩,
  ⟨some 6, none, .p (.load (some 2) (.t 5))⟩,
  ⟨some 7, none, .p (.fldp (.t 3) 2)⟩,
  ⟨some 8, none, .p (.load (some 2) (.t 7))⟩,
  ⟨some 9, none, .call a1a [(.t 6), (.t 8)]⟩,
  ⟨some 10, none, .p (.fldp (.t 2) 2)⟩,
  ⟨some 11, none, .p (.load (some 2) (.t 10))⟩,
  ⟨some 12, none, .p (.fldp (.t 3) 0)⟩,
  ⟨some 13, none, .p (.load (some 2) (.t 12))⟩,
  ⟨some 14, none, .call a1a [(.t 11), (.t 13)]⟩,
  ⟨some 15, none, .call a2j [(.t 9), (.t 14)]⟩,
  ⟨none, none, .e (.store 4 (.t 4) (.t 15))⟩]
def d2i : ACode := .seq (.region b8F false) (.seq (.region b8E true) (.ret))
theorem c9x : fchk Pr (fun _ _ => false) Try.f90 = some (d2i, [.cell 4 (some 4)], 16) := by kernel_rfl
theorem c9y : Pr.funcs[b3P]? = some Try.f90 := Try.func90
def b4A : List AIns := [⟨some 7, none, .e (.box 4 (.t 3))⟩]
def b4z : List AIns := [⟨some 8, none, .p (.mv (.c (.int .i64 0)))⟩]
def a8d : List AIns := [⟨some 9, none, .p (.mv (.t 8))⟩,
  ⟨some 10, none, .p (.mv (.t 0))⟩,
  ⟨some 11, none, .p (.mv (.t 1))⟩,
  ⟨some 12, none, .p (.idxp 1 (.t 10) (.t 11))⟩,
  ⟨some 13, none, .p (.load none (.t 12))⟩,
  ⟨some 14, none, .p (.len (.t 13))⟩,
  ⟨some 15, none, .p (.bin .lss (.t 9) (.t 14))⟩]
def b4y : List AIns := [⟨some 18, none, .p (.mv (.t 0))⟩,
  ⟨some 19, none, .p (.mv (.t 1))⟩,
  ⟨some 20, none, .p (.idxp 1 (.t 18) (.t 19))⟩,
  ⟨some 21, none, .p (.load none (.t 20))⟩,
  ⟨some 22, none, .p (.mv (.t 8))⟩,
  ⟨some 23, none, .p (.mv (.t 0))⟩,
  ⟨some 24, none, .p (.mv (.t 1))⟩,
  ⟨some 25, none, .p (.idxp 1 (.t 23) (.t 24))⟩,
  ⟨some 26, none, .p (.load none (.t 25))⟩,
  ⟨some 27, none, .p (.mv (.t 8))⟩,
  ⟨some 28, none, .p (.idxp 4 (.t 26) (.t 27))⟩,
  ⟨some 29, none, .p (.load (some 4) (.t 28))⟩,
  ⟨some 30, none, .p (.load (some 4) (.t 7))⟩,
  ⟨some 31, none, .p (.mv (.t 0))⟩,
  ⟨some 32, none, .p (.mv (.t 2))⟩,
  ⟨some 33, none, .p (.idxp 1 (.t 31) (.t 32))⟩,
  ⟨some 34, none, .p (.load none (.t 33))⟩,
  ⟨some 35, none, .p (.mv (.t 8))⟩,
  ⟨some 36, none, .p (.idxp 4 (.t 34) (.t 35))⟩,
  ⟨some 37, none, .p (.load (some 4) (.t 36))⟩,
  ⟨some 38, none, .call a9d [(.t 30), (.t 37)]⟩,
  ⟨some 39, none, .call b3O [(.t 29), (.t 38)]⟩,
  ⟨some 40, none, .p (.idxp 4 (.t 21) (.t 22))⟩,
  ⟨none, none, .e (.store 4 (.t 40) (.t 39))⟩]
def b4x : List AIns := [⟨some 16, none, .p (.mv (.t 8))⟩,
  ⟨some 17, none, .p (.bin .add (.t 16) (.c (.int .i64 1)))⟩,
  ⟨some 8, none, .p (.mv (.t 17))⟩]
def c7e : ACode := .seq (.seq (.region a8d false) (.cond (.t 15) (.skip) (.exit 0))) (.seq (.block 1 (.region b4y true)) (.region b4x false))
def c9k : ACode := .seq (.region b4A false) (.seq (.region b4z false) (.block 0 (.loop c7e)))
theorem c7d : fchk Pr (fun _ _ => false) Try.f91 = some (c9k, [], 41) := by kernel_rfl
theorem c7f : Pr.funcs[a6u]? = some Try.f91 := Try.func91
def c6p : List AIns := [⟨some 4, none, .p (.mv (.c (.int .i64 0)))⟩]
def c6o : List AIns := [⟨some 6, none, .p (.mv (.t 0))⟩,
  ⟨some 7, none, .call a0o [(.t 6)]⟩,
  ⟨some 8, none, .p (.mv (.t 1))⟩,
  ⟨some 9, none, .call a0o [(.t 8)]⟩,
  ⟨some 0, none, .p (.mv (.t 7))⟩,
  ⟨some 1, none, .p (.mv (.t 9))⟩]
def c6n : List AIns := [⟨some 10, none, .p (.mv (.t 0))⟩,
  ⟨some 11, none, .p (.len (.t 10))⟩,
  ⟨some 12, none, .p (.mv (.t 1))⟩,
  ⟨some 13, none, .p (.len (.t 12))⟩,
  ⟨some 14, none, .p (.bin .neq (.t 11) (.t 13))⟩]
def c6m : List AIns := [⟨some 15, none, .p (.mv (.t 0))⟩,
  ⟨some 16, none, .p (.len (.t 15))⟩,
  ⟨some 17, none, .p (.mv (.t 1))⟩,
  ⟨some 18, none, .p (.len (.t 17))⟩,
  ⟨some 19, none, .p (.bin .lss (.t 16) (.t 18))⟩]
def c6l : List AIns := [⟨some 4, none, .p (.mv (.c (.int .i64 (-1))))⟩]
def c6k : List AIns := [⟨some 4, none, .p (.mv (.c (.int .i64 1)))⟩]
def c6j : List AIns := [⟨some 20, none, .p (.mv (.t 0))⟩,
  ⟨some 21, none, .p (.len (.t 20))⟩,
  ⟨some 22, none, .p (.bin .sub (.t 21) (.c (.int .i64 1)))⟩,
  ⟨some 5, none, .p (.mv (.t 22))⟩]
def b7D : List AIns := [⟨some 23, none, .p (.mv (.t 5))⟩,
  ⟨some 24, none, .p (.bin .geq (.t 23) (.c (.int .i64 0)))⟩]
def c6i : List AIns := [⟨some 27, none, .p (.mv (.t 0))⟩,
  ⟨some 28, none, .p (.mv (.t 5))⟩,
  ⟨some 29, none, .p (.idxp 1 (.t 27) (.t 28))⟩,
  ⟨some 30, none, .p (.load none (.t 29))⟩,
  ⟨some 31, none, .p (.mv (.t 1))⟩,
  ⟨some 32, none, .p (.mv (.t 5))⟩,
  ⟨some 33, none, .p (.idxp 1 (.t 31) (.t 32))⟩,
  ⟨some 34, none, .p (.load none (.t 33))⟩,
  ⟨some 35, none, .p (.bin .neq (.t 30) (.t 34))⟩]
def c6h : List AIns := [⟨some 36, none, .p (.mv (.t 0))⟩,
  ⟨some 37, none, .p (.mv (.t 5))⟩,
  ⟨some 38, none, .p (.idxp 1 (.t 36) (.t 37))⟩,
  ⟨some 39, none, .p (.load none (.t 38))⟩,
  ⟨some 40, none, .p (.mv (.t 1))⟩,
  ⟨some 41, none, .p (.mv (.t 5))⟩,
  ⟨some 42, none, .p (.idxp 1 (.t 40) (.t 41))⟩,
  ⟨some 43, none, .p (.load none (.t 42))⟩,
  ⟨some 44, none, .p (.bin .lss (.t 39) (.t 43))⟩]
def c3r : List AIns := [⟨some 4, none, .p (.mv (.c (.int .i64 (-1))))⟩]
def c3q : List AIns := [⟨some 4, none, .p (.mv (.c (.int .i64 1)))⟩]
def c3p : List AIns := [⟨some 25, none, .p (.mv (.t 5))⟩,
  ⟨some 26, none, .p (.bin .sub (.t 25) (.c (.int .i64 1)))⟩,
  ⟨some 5, none, .p (.mv (.t 26))⟩]
def c6q : ACode := .seq (.seq (.region b7D false) (.cond (.t 24) (.skip) (.exit 0))) (.seq (.block 1 (.seq (.region c6i true) (.cond (.t 35) (.seq (.seq (.region c6h true) (.cond (.t 44) (.seq (.region c3r false) (.ret)) (.skip))) (.seq (.region c3q false) (.ret))) (.skip)))) (.region c3p false))
def b3A : List AIns := [⟨some 4, none, .p (.mv (.c (.int .i64 0)))⟩]
def d7D : ACode := .seq (.region c6p false) (.seq (.region c6o false) (.seq (.seq (.region c6n false) (.cond (.t 14) (.seq (.seq (.region c6m false) (.cond (.t 19) (.seq (.region c6l false) (.ret)) (.skip))) (.seq (.region c6k false) (.ret))) (.skip))) (.seq (.seq (.region c6j false) (.block 0 (.loop c6q))) (.seq (.region b3A false) (.ret)))))
theorem d5O : fchk Pr (fun _ _ => false) Try.f92 = some (d7D, [.tmp 4], 45) := by kernel_rfl
theorem d5P : Pr.funcs[a7Q]? = some Try.f92 := Try.func92
def b5e : List AIns := [⟨some 1, none, .e (.box 2 (.t 0))⟩,
  ⟨some 2, none, .p (.mv (.c (.int .i64 0)))⟩]
def b5d : List AIns := [⟨some 4, none, .p (.fldp (.t 1) 1)⟩,
  ⟨some 5, none, .p (.load none (.t 4))⟩,
  ⟨some 6, none, .call a0x [(.t 5)]⟩,
  ⟨some 3, none, .p (.mv (.t 6))⟩]
def b5c : List AIns := [⟨some 8, none, .p (.mv (.t 3))⟩,
  ⟨some 9, none, .p (.len (.t 8))⟩,
  ⟨some 10, none, .p (.bin .eql (.t 9) (.c (.int .i64 0)))⟩,
  ⟨some 7, none, .p (.mv (.t 10))⟩]
def b5b : List AIns := [⟨some 2, none, .p (.mv (.c (.int .i64 0)))⟩]
def b5a : List AIns := [⟨some 12, none, .p (.fldp (.t 1) 0)⟩,
  ⟨some 13, none, .p (.load none (.t 12))⟩,
  ⟨some 11, none, .p (.mv (.t 13))⟩]
def b4Z : List AIns := [⟨some 2, none, .p (.mv (.c (.int .i64 (-1))))⟩]
def b4Y : List AIns := [⟨some 2, none, .p (.mv (.c (.int .i64 1)))⟩]
def c9E : ACode := .seq (.region b5e false) (.seq (.region b5d false) (.seq (.block 0 (.seq (.region b5c false) (.cond (.t 7) (.seq (.region b5b false) (.ret)) (.seq (.region b5a false) (.cond (.t 11) (.seq (.region b4Z false) (.ret)) (.skip)))))) (.seq (.region b4Y false) (.ret))))
theorem c7x : fchk Pr (fun _ _ => false) Try.f93 = some (c9E, [.tmp 2], 14) := by kernel_rfl
theorem c7y : Pr.funcs[a2k]? = some Try.f93 := Try.func93
end Go.Abs
set_option maxRecDepth 100000
noncomputable section
namespace Go.Abs
open Go.Proofs
def b8L : List AIns := [⟨some 2, none, .e (.box 2 (.t 0))⟩,
  ⟨some 3, none, .e (.box 2 (.t 1))⟩,
  ⟨some 4, none, .e (.box 2 (.c (.agg [.bool false, .nil])))⟩]
def b8K : List AIns := [⟨some 5, none, .p (.load (some 2) (.t 2))⟩,
  ⟨some 6, none, .p (.load (some 2) (.t 3))⟩,
  ⟨some 7, none, .call a3L [(.t 6)]⟩,
  ⟨some 8, none, .call a3M [(.t 5), (.t 7)]⟩,
  ⟨none, none, .e (.store 2 (.t 4) (.t 8))⟩]
def d2k : ACode := .seq (.region b8L false) (.seq (.region b8K true) (.ret))
theorem c9C : fchk Pr (fun _ _ => false) Try.f94 = some (d2k, [.cell 4 (some 2)], 9) := by kernel_rfl
theorem c9D : Pr.funcs[a5O]? = some Try.f94 := Try.func94
def b4X : List AIns := [⟨some 4, none, .e (.box 2 (.c (.agg [.bool false, .nil])))⟩]
def b4W : List AIns := [⟨some 6, none, .p (.mv (.t 1))⟩,
  ⟨some 7, none, .call a0x [(.t 6)]⟩,
  ⟨some 5, none, .p (.mv (.t 7))⟩]
def a8j : List AIns := [⟨some 8, none, .p (.mv (.t 0))⟩,
  ⟨some 9, none, .p (.mv (.t 8))⟩,
  ⟨some 10, some (9, true), .p (.mv (.t 5))⟩,
  ⟨some 11, some (9, true), .p (.len (.t 10))⟩,
  ⟨some 12, some (9, true), .p (.bin .gtr (.t 11) (.c (.int .i64 0)))⟩,
  ⟨some 13, none, .p (.pick (.t 9) (.t 12) (.c (.bool false)))⟩,
  ⟨some 14, none, .p (.mv (.t 5))⟩,
  ⟨some 15, none, .p (.bld [.bool false, .nil] [(0, 1, (.t 13)), (1, 1, (.t 14))])⟩,
  ⟨none, none, .e (.store 2 (.t 4) (.t 15))⟩]
def c9B : ACode := .seq (.region b4X false) (.seq (.region b4W false) (.seq (.region a8j false) (.ret)))
theorem c7v : fchk Pr (fun _ _ => false) Try.f95 = some (c9B, [.cell 4 (some 2)], 16) := by kernel_rfl
theorem c7w : Pr.funcs[a1e]? = some Try.f95 := Try.func95
def b8R : List AIns := [⟨some 2, none, .e (.box 2 (.t 0))⟩,
  ⟨some 3, none, .e (.box 2 (.t 1))⟩,
  ⟨some 4, none, .e (.box 2 (.c (.agg [.bool false, .nil])))⟩]
def b8Q : List AIns := [⟨some 5, none, .p (.fldp (.t 2) 1)⟩,
  ⟨some 6, none, .p (.load none (.t 5))⟩,
  ⟨some 7, none, .p (.fldp (.t 3) 1)⟩,
  ⟨some 8, none, .p (.load none (.t 7))⟩,
  ⟨some 9, none, .call a9g [(.t 6), (.t 8)]⟩,
  ⟨some 10, none, .call a1e [(.c (.bool false)), (.t 9)]⟩,
  ⟨none, none, .e (.store 2 (.t 4) (.t 10))⟩]
def d2p : ACode := .seq (.region b8R false) (.seq (.region b8Q false) (.ret))
theorem c9K : fchk Pr (fun _ _ => false) Try.f97 = some (d2p, [.cell 4 (some 2)], 11) := by kernel_rfl
theorem c9L : Pr.funcs[b3R]? = some Try.f97 := Try.func97
def b2x : List AIns := [⟨some 2, none, .e (.box 2 (.t 0))⟩,
  ⟨some 3, none, .e (.box 2 (.t 1))⟩,
  ⟨some 4, none, .e (.box 2 (.c (.agg [.bool false, .nil])))⟩,
  ⟨some 5, none, .e (.box 2 (.c (.agg [.bool false, .nil])))⟩]
def b2w : List AIns := [⟨some 12, none, .p (.fldp (.t 2) 1)⟩,
  ⟨some 13, none, .p (.load none (.t 12))⟩,
  ⟨some 14, none, .p (.fldp (.t 3) 1)⟩,
  ⟨some 15, none, .p (.load none (.t 14))⟩,
  ⟨some 16, none, .call a2P [(.t 13), (.t 15)]⟩,
  ⟨some 11, none, .p (.mv (.t 16))⟩,
  ⟨some 17, none, .p (.ext (.t 11) 0)⟩,
  ⟨some 18, none, .p (.ext (.t 11) 1)⟩,
  ⟨some 19, none, .p (.ext (.t 11) 2)⟩,
  ⟨some 6, none, .p (.mv (.t 17))⟩,
  ⟨some 7, none, .p (.mv (.t 18))⟩,
  ⟨some 8, none, .p (.mv (.t 19))⟩]
def b2v : List AIns := [⟨some 20, none, .p (.fldp (.t 2) 0)⟩,
  ⟨some 21, none, .p (.load none (.t 20))⟩,
  ⟨some 22, none, .p (.fldp (.t 3) 0)⟩,
  ⟨some 23, none, .p (.load none (.t 22))⟩,
  ⟨some 24, none, .p (.beq true (.t 21) (.t 23))⟩,
  ⟨some 25, none, .p (.mv (.t 6))⟩,
  ⟨some 26, none, .call a1e [(.t 24), (.t 25)]⟩,
  ⟨some 9, none, .e (.box 2 (.c (.agg [.bool false, .nil])))⟩,
  ⟨none, none, .e (.store 2 (.t 9) (.t 26))⟩]
def b2u : List AIns := [⟨some 27, none, .p (.load (some 2) (.t 2))⟩,
  ⟨some 28, none, .p (.load (some 2) (.t 9))⟩,
  ⟨some 29, none, .p (.load (some 2) (.t 3))⟩,
  ⟨some 30, none, .call a1a [(.t 28), (.t 29)]⟩,
  ⟨some 31, none, .call a5O [(.t 27), (.t 30)]⟩,
  ⟨some 10, none, .e (.box 2 (.c (.agg [.bool false, .nil])))⟩,
  ⟨none, none, .e (.store 2 (.t 10) (.t 31))⟩]
def b2t : List AIns := [⟨some 32, none, .p (.load (some 2) (.t 10))⟩,
  ⟨some 33, none, .call a2k [(.t 32)]⟩,
  ⟨some 34, none, .p (.bin .neq (.t 33) (.c (.int .i64 0)))⟩,
  ⟨some 35, none, .p (.mv (.t 34))⟩,
  ⟨some 36, some (35, true), .p (.load (some 2) (.t 10))⟩,
  ⟨some 37, some (35, true), .call a2k [(.t 36)]⟩,
  ⟨some 38, some (35, true), .p (.load (some 2) (.t 3))⟩,
  ⟨some 39, some (35, true), .call a2k [(.t 38)]⟩,
  ⟨some 40, some (35, true), .p (.bin .neq (.t 37) (.t 39))⟩,
  ⟨some 41, none, .p (.pick (.t 35) (.t 40) (.c (.bool false)))⟩]
def b2r : List AIns := [⟨some 42, none, .p (.load (some 2) (.t 9))⟩,
  ⟨some 43, none, .call a1v [(.c (.int .i64 1))]⟩,
  ⟨some 44, none, .call a5O [(.t 42), (.t 43)]⟩,
  ⟨none, none, .e (.store 2 (.t 9) (.t 44))⟩]
def b2q : List AIns := [⟨some 45, none, .p (.load (some 2) (.t 10))⟩,
  ⟨some 46, none, .p (.load (some 2) (.t 3))⟩,
  ⟨some 47, none, .call a3M [(.t 45), (.t 46)]⟩,
  ⟨none, none, .e (.store 2 (.t 10) (.t 47))⟩]
def a3S : List AIns := [⟨some 48, none, .p (.load (some 2) (.t 9))⟩,
  ⟨some 49, none, .p (.load (some 2) (.t 10))⟩,
  ⟨none, none, .e (.store 2 (.t 4) (.t 48))⟩,
  ⟨none, none, .e (.store 2 (.t 5) (.t 49))⟩]
def a3c : List AIns := []
def a3b : List AIns := []
def c7B : ACode := .seq (.region b2x false) (.seq (.region b2w false) (.seq (.region b2v false) (.seq (.region b2u true) (.seq (.seq (.region b2t true) (.cond (.t 41) (.seq (.region b2r true) (.region b2q false)) (.skip))) (.seq (.regionX a3S a3c a3b [(10, 4)]) (.ret))))))
theorem c4G : fchk Pr (fun _ _ => false) Try.f98 = some (c7B, [.cell 4 (some 2), .cell 5 (some 2)], 50) := by kernel_rfl
theorem c4H : Pr.funcs[a5i]? = some Try.f98 := Try.func98
def b8P : List AIns := [⟨some 2, none, .e (.box 2 (.t 0))⟩,
  ⟨some 3, none, .e (.box 2 (.t 1))⟩,
  ⟨some 4, none, .e (.box 2 (.c (.agg [.bool false, .nil])))⟩]
def b8O : List AIns := [⟨some 5, none, .p (.fldp (.t 2) 0)⟩,
  ⟨some 6, none, .p (.load none (.t 5))⟩,
  ⟨some 7, none, .p (.fldp (.t 3) 0)⟩,
  ⟨some 8, none, .p (.load none (.t 7))⟩,
  ⟨some 9, none, .p (.beq true (.t 6) (.t 8))⟩,
  ⟨some 10, none, .p (.fldp (.t 2) 1)⟩,
  ⟨some 11, none, .p (.load none (.t 10))⟩,
  ⟨some 12, none, .p (.fldp (.t 3) 1)⟩,
  ⟨some 13, none, .p (.load none (.t 12))⟩,
  ⟨some 14, none, .call a1J [(.t 11), (.t 13)]⟩,
  ⟨some 15, none, .call a1e [(.t 9), (.t 14)]⟩,
  ⟨none, none, .e (.store 2 (.t 4) (.t 15))⟩]
def d2o : ACode := .seq (.region b8P false) (.seq (.region b8O true) (.ret))
theorem c9I : fchk Pr (fun _ _ => false) Try.f99 = some (d2o, [.cell 4 (some 2)], 16) := by kernel_rfl
theorem c9J : Pr.funcs[a1a]? = some Try.f99 := Try.func99
def c1Q : List AIns := [⟨some 2, none, .e (.box 2 (.t 0))⟩,
  ⟨some 3, none, .e (.box 2 (.t 1))⟩,
  ⟨some 4, none, .e (.box 2 (.c (.agg [.bool false, .nil])))⟩]
def c1P : List AIns := [⟨some 5, none, .p (.fldp (.t 2) 1)⟩,
  ⟨some 6, none, .p (.load none (.t 5))⟩,
  ⟨some 7, none, .p (.fldp (.t 3) 1)⟩,
  ⟨some 8, none, .p (.load none (.t 7))⟩,
  ⟨some 9, none, .call c4B [(.t 6), (.t 8)]⟩,
  ⟨some 10, none, .call a0T [(.c (.bool false)), (.t 9)]⟩,
  ⟨none, none, .e (.store 2 (.t 4) (.t 10))⟩]
def d4M : ACode := .seq (.region c1Q false) (.seq (.region c1P false) (.ret))
theorem d1L : fchk Pr (fun _ _ => false) Try.f101 = some (d4M, [.cell 4 (some 2)], 11) := by kernel_rfl
theorem d1M : Pr.funcs[b8g]? = some Try.f101 := Try.func101
def c1V : List AIns := [⟨some 2, none, .e (.box 2 (.t 0))⟩,
  ⟨some 3, none, .e (.box 2 (.t 1))⟩,
  ⟨some 4, none, .e (.box 2 (.c (.agg [.bool false, .nil])))⟩]
def c1U : List AIns := [⟨some 7, none, .p (.fldp (.t 2) 0)⟩,
  ⟨some 8, none, .p (.load none (.t 7))⟩,
  ⟨some 9, none, .p (.fldp (.t 3) 0)⟩,
  ⟨some 10, none, .p (.load none (.t 9))⟩,
  ⟨some 11, none, .p (.beq false (.t 8) (.t 10))⟩]
def c1T : List AIns := [⟨some 12, none, .p (.fldp (.t 2) 0)⟩,
  ⟨some 13, none, .p (.load none (.t 12))⟩,
  ⟨some 14, none, .p (.fldp (.t 2) 1)⟩,
  ⟨some 15, none, .p (.load none (.t 14))⟩,
  ⟨some 16, none, .p (.fldp (.t 3) 1)⟩,
  ⟨some 17, none, .p (.load none (.t 16))⟩,
  ⟨some 18, none, .call a7R [(.t 15), (.t 17)]⟩,
  ⟨some 19, none, .call a0T [(.t 13), (.t 18)]⟩,
  ⟨none, none, .e (.store 2 (.t 4) (.t 19))⟩]
def c1S : List AIns := [⟨some 20, none, .p (.fldp (.t 2) 1)⟩,
  ⟨some 21, none, .p (.load none (.t 20))⟩,
  ⟨some 22, none, .p (.fldp (.t 3) 1)⟩,
  ⟨some 23, none, .p (.load none (.t 22))⟩,
  ⟨some 24, none, .call a7Q [(.t 21), (.t 23)]⟩,
  ⟨some 25, none, .p (.bin .lss (.t 24) (.c (.int .i64 0)))⟩]
def c1R : List AIns := [⟨some 26, none, .p (.load (some 2) (.t 3))⟩,
  ⟨some 27, none, .p (.load (some 2) (.t 2))⟩,
  ⟨none, none, .e (.store 2 (.t 2) (.t 26))⟩,
  ⟨none, none, .e (.store 2 (.t 3) (.t 27))⟩]
def b3c : List AIns := [⟨some 29, none, .p (.fldp (.t 2) 1)⟩,
  ⟨some 30, none, .p (.load none (.t 29))⟩,
  ⟨some 31, none, .p (.fldp (.t 3) 1)⟩,
  ⟨some 32, none, .p (.load none (.t 31))⟩,
  ⟨some 33, none, .call c4A [(.t 30), (.t 32)]⟩,
  ⟨some 28, none, .p (.mv (.t 33))⟩,
  ⟨some 34, none, .p (.ext (.t 28) 0)⟩,
  ⟨some 35, none, .p (.ext (.t 28) 1)⟩,
  ⟨some 5, none, .p (.mv (.t 34))⟩,
  ⟨some 6, none, .p (.mv (.t 35))⟩]
def b3b : List AIns := [⟨some 36, none, .p (.fldp (.t 2) 0)⟩,
  ⟨some 37, none, .p (.load none (.t 36))⟩,
  ⟨some 38, none, .p (.mv (.t 5))⟩,
  ⟨some 39, none, .call a0T [(.t 37), (.t 38)]⟩,
  ⟨none, none, .e (.store 2 (.t 4) (.t 39))⟩]
def d4N : ACode := .seq (.region c1V false) (.seq (.seq (.region c1U false) (.cond (.t 11) (.seq (.region c1T true) (.ret)) (.skip))) (.seq (.seq (.region c1S false) (.cond (.t 25) (.region c1R false) (.skip))) (.seq (.region b3c false) (.seq (.region b3b false) (.ret)))))
theorem d1O : fchk Pr (fun _ _ => false) Try.f102 = some (d4N, [.cell 4 (some 2)], 40) := by kernel_rfl
theorem d1P : Pr.funcs[b1Q]? = some Try.f102 := Try.func102
def b3q : List AIns := [⟨some 2, none, .p (.mv (.c (.nil)))⟩]
def a5s : List AIns := [⟨some 3, none, .p (.mv (.t 0))⟩,
  ⟨some 4, none, .p (.len (.t 3))⟩,
  ⟨some 5, none, .p (.bin .gtr (.t 4) (.c (.int .i64 0)))⟩,
  ⟨some 6, none, .p (.mv (.t 5))⟩,
  ⟨some 7, some (6, true), .p (.mv (.t 0))⟩,
  ⟨some 8, some (6, true), .p (.mv (.t 0))⟩,
  ⟨some 9, some (6, true), .p (.len (.t 8))⟩,
  ⟨some 10, some (6, true), .p (.bin .sub (.t 9) (.c (.int .i64 1)))⟩,
  ⟨some 11, some (6, true), .p (.idxp 1 (.t 7) (.t 10))⟩,
  ⟨some 12, some (6, true), .p (.load none (.t 11))⟩,
  ⟨some 13, some (6, true), .p (.bin .eql (.t 12) (.c (.int .u32 0)))⟩,
  ⟨some 14, none, .p (.pick (.t 6) (.t 13) (.c (.bool false)))⟩]
def b3p : List AIns := [⟨some 15, none, .p (.mv (.t 0))⟩,
  ⟨some 16, none, .p (.mv (.t 0))⟩,
  ⟨some 17, none, .p (.len (.t 16))⟩,
  ⟨some 18, none, .p (.bin .sub (.t 17) (.c (.int .i64 1)))⟩,
  ⟨some 19, none, .p (.slc 1 (.t 15) none (some (.t 18)) none)⟩,
  ⟨some 0, none, .p (.mv (.t 19))⟩]
def c2L : ACode := .seq (.seq (.region a5s false) (.cond (.t 14) (.skip) (.exit 0))) (.block 1 (.region b3p false))
def a3G : List AIns := [⟨some 20, none, .p (.mv (.t 0))⟩,
  ⟨some 2, none, .p (.mv (.t 20))⟩]
def d5t : ACode := .seq (.region b3q false) (.seq (.block 0 (.loop c2L)) (.seq (.region a3G false) (.ret)))
theorem c2K : fchk Pr (fun _ _ => false) Try.f103 = some (d5t, [.tmp 2], 21) := by kernel_rfl
theorem c2M : Pr.funcs[a0o]? = some Try.f103 := Try.func103
def c6g : List AIns := [⟨some 4, none, .p (.mv (.c (.nil)))⟩,
  ⟨some 5, none, .p (.mv (.c (.nil)))⟩,
  ⟨some 6, none, .p (.mv (.c (.int .i64 0)))⟩]
def c6f : List AIns := [⟨some 14, none, .p (.mv (.t 0))⟩,
  ⟨some 15, none, .call a0o [(.t 14)]⟩,
  ⟨some 16, none, .p (.mv (.t 1))⟩,
  ⟨some 17, none, .call a0o [(.t 16)]⟩,
  ⟨some 0, none, .p (.mv (.t 15))⟩,
  ⟨some 1, none, .p (.mv (.t 17))⟩]
def c6e : List AIns := [⟨some 19, none, .p (.mv (.t 1))⟩,
  ⟨some 20, none, .p (.len (.t 19))⟩,
  ⟨some 21, none, .p (.bin .eql (.t 20) (.c (.int .i64 0)))⟩,
  ⟨some 18, none, .p (.mv (.t 21))⟩]
def d5K : List AIns := [⟨some 4, none, .p (.mv (.c (.nil)))⟩,
  ⟨some 5, none, .p (.mv (.c (.nil)))⟩,
  ⟨some 6, none, .p (.mv (.c (.int .i64 11)))⟩]
def c6d : List AIns := [⟨some 23, none, .p (.mv (.t 0))⟩,
  ⟨some 24, none, .p (.mv (.t 1))⟩,
  ⟨some 25, none, .call a7Q [(.t 23), (.t 24)]⟩,
  ⟨some 26, none, .p (.bin .lss (.t 25) (.c (.int .i64 0)))⟩,
  ⟨some 22, none, .p (.mv (.t 26))⟩]
def c6c : List AIns := [⟨some 27, none, .p (.mv (.t 0))⟩,
  ⟨some 28, none, .call a7O [(.t 27)]⟩,
  ⟨some 4, none, .p (.mv (.c (.nil)))⟩,
  ⟨some 5, none, .p (.mv (.t 28))⟩,
  ⟨some 6, none, .p (.mv (.c (.int .i64 0)))⟩]
def b7C : List AIns := [⟨some 30, none, .p (.mv (.t 1))⟩,
  ⟨some 31, none, .p (.len (.t 30))⟩,
  ⟨some 32, none, .p (.bin .eql (.t 31) (.c (.int .i64 1)))⟩,
  ⟨some 29, none, .p (.mv (.t 32))⟩]
def c6b : List AIns := [⟨some 34, none, .p (.mv (.t 0))⟩,
  ⟨some 35, none, .p (.mv (.t 1))⟩,
  ⟨some 36, none, .p (.idxp 1 (.t 35) (.c (.int .i64 0)))⟩,
  ⟨some 37, none, .p (.load none (.t 36))⟩,
  ⟨some 38, none, .call b3U [(.t 34), (.t 37)]⟩,
  ⟨some 33, none, .p (.mv (.t 38))⟩,
  ⟨some 39, none, .p (.ext (.t 33) 0)⟩,
  ⟨some 40, none, .p (.ext (.t 33) 1)⟩,
  ⟨some 7, none, .p (.mv (.t 39))⟩,
  ⟨some 8, none, .p (.mv (.t 40))⟩]
def c6a : List AIns := [⟨some 41, none, .p (.mv (.t 7))⟩,
  ⟨some 42, none, .p (.mv (.t 8))⟩,
  ⟨some 43, none, .e (.bsl 1 [(.t 42)])⟩,
  ⟨some 44, none, .call a0o [(.t 43)]⟩,
  ⟨some 4, none, .p (.mv (.t 41))⟩,
  ⟨some 5, none, .p (.mv (.t 44))⟩,
  ⟨some 6, none, .p (.mv (.c (.int .i64 0)))⟩]
def c5Z : List AIns := [⟨some 45, none, .p (.mv (.t 1))⟩,
  ⟨some 46, none, .p (.mv (.t 1))⟩,
  ⟨some 47, none, .p (.len (.t 46))⟩,
  ⟨some 48, none, .p (.bin .sub (.t 47) (.c (.int .i64 1)))⟩,
  ⟨some 49, none, .p (.idxp 1 (.t 45) (.t 48))⟩,
  ⟨some 50, none, .p (.load none (.t 49))⟩,
  ⟨some 51, none, .call a1u [(.t 50)]⟩,
  ⟨some 9, none, .p (.mv (.t 51))⟩]
def c3o : List AIns := [⟨some 52, none, .p (.mv (.t 1))⟩,
  ⟨some 53, none, .p (.mv (.t 9))⟩,
  ⟨some 54, none, .call b7h [(.t 52), (.t 53)]⟩,
  ⟨some 10, none, .p (.mv (.t 54))⟩]
def c3n : List AIns := [⟨some 55, none, .p (.mv (.t 0))⟩,
  ⟨some 56, none, .p (.mv (.t 9))⟩,
  ⟨some 57, none, .call b7h [(.t 55), (.t 56)]⟩,
  ⟨some 58, none, .e (.bsl 1 [(.c (.int .u32 0)), (.c (.int .u32 0))])⟩,
  ⟨some 59, none, .e (.app 1 4 false (.t 57) (.t 58))⟩,
  ⟨some 60, none, .p (.mv (.t 0))⟩,
  ⟨some 61, none, .p (.len (.t 60))⟩,
  ⟨some 62, none, .p (.bin .add (.t 61) (.c (.int .i64 1)))⟩,
  ⟨some 63, none, .p (.slc 1 (.t 59) none (some (.t 62)) none)⟩,
  ⟨some 11, none, .p (.mv (.t 63))⟩]
def c3m : List AIns := [⟨some 64, none, .p (.mv (.t 0))⟩,
  ⟨some 65, none, .p (.len (.t 64))⟩,
  ⟨some 66, none, .p (.mv (.t 1))⟩,
  ⟨some 67, none, .p (.len (.t 66))⟩,
  ⟨some 68, none, .p (.bin .sub (.t 65) (.t 67))⟩,
  ⟨some 69, none, .p (.bin .add (.t 68) (.c (.int .i64 1)))⟩,
  ⟨some 70, none, .e (.mksl 1 4 (.int .u32 0) (.t 69) (.t 69))⟩,
  ⟨some 12, none, .p (.mv (.t 70))⟩]
def c3l : List AIns := [⟨some 71, none, .p (.mv (.t 0))⟩,
  ⟨some 72, none, .p (.len (.t 71))⟩,
  ⟨some 73, none, .p (.mv (.t 1))⟩,
  ⟨some 74, none, .p (.len (.t 73))⟩,
  ⟨some 75, none, .p (.bin .sub (.t 72) (.t 74))⟩,
  ⟨some 13, none, .p (.mv (.t 75))⟩]
def b3z : List AIns := [⟨some 76, none, .p (.mv (.t 13))⟩,
  ⟨some 77, none, .p (.bin .geq (.t 76) (.c (.int .i64 0)))⟩]
def c3k : List AIns := [⟨some 80, none, .p (.mv (.t 12))⟩,
  ⟨some 81, none, .p (.mv (.t 13))⟩,
  ⟨some 82, none, .p (.mv (.t 11))⟩,
  ⟨some 83, none, .p (.mv (.t 13))⟩,
  ⟨some 84, none, .p (.mv (.t 13))⟩,
  ⟨some 85, none, .p (.mv (.t 10))⟩,
  ⟨some 86, none, .p (.len (.t 85))⟩,
  ⟨some 87, none, .p (.bin .add (.t 84) (.t 86))⟩,
  ⟨some 88, none, .p (.bin .add (.t 87) (.c (.int .i64 1)))⟩,
  ⟨some 89, none, .p (.slc 1 (.t 82) (some (.t 83)) (some (.t 88)) none)⟩,
  ⟨some 90, none, .p (.mv (.t 10))⟩,
  ⟨some 91, none, .call a9i [(.t 89), (.t 90)]⟩,
  ⟨some 92, none, .p (.idxp 1 (.t 80) (.t 81))⟩,
  ⟨none, none, .e (.store 1 (.t 92) (.t 91))⟩]
def c3j : List AIns := [⟨some 78, none, .p (.mv (.t 13))⟩,
  ⟨some 79, none, .p (.bin .sub (.t 78) (.c (.int .i64 1)))⟩,
  ⟨some 13, none, .p (.mv (.t 79))⟩]
def d5M : ACode := .seq (.seq (.region b3z false) (.cond (.t 77) (.skip) (.exit 1))) (.seq (.block 2 (.region c3k false)) (.region c3j false))
def c3i : List AIns := [⟨some 93, none, .p (.mv (.t 12))⟩,
  ⟨some 94, none, .call a0o [(.t 93)]⟩,
  ⟨some 95, none, .p (.mv (.t 11))⟩,
  ⟨some 96, none, .call a0o [(.t 95)]⟩,
  ⟨some 97, none, .p (.mv (.t 9))⟩,
  ⟨some 98, none, .call b7g [(.t 96), (.t 97)]⟩,
  ⟨some 4, none, .p (.mv (.t 94))⟩,
  ⟨some 5, none, .p (.mv (.t 98))⟩,
  ⟨some 6, none, .p (.mv (.c (.int .i64 0)))⟩]
def d7C : ACode := .seq (.region c6g false) (.seq (.region c6f false) (.seq (.block 0 (.seq (.region c6e false) (.cond (.t 18) (.seq (.region d5K false) (.ret)) (.seq (.region c6d false) (.cond (.t 22) (.seq (.region c6c false) (.ret)) (.seq (.region b7C false) (.cond (.t 29) (.seq (.region c6b false) (.seq (.region c6a false) (.ret))) (.skip)))))))) (.seq (.region c5Z false) (.seq (.region c3o false) (.seq (.region c3n false) (.seq (.region c3m false) (.seq (.seq (.region c3l false) (.block 1 (.loop d5M))) (.seq (.region c3i false) (.ret)))))))))
theorem d5L : fchk Pr (fun _ _ => false) Try.f104 = some (d7C, [.tmp 4, .tmp 5, .tmp 6], 99) := by kernel_rfl
theorem d5N : Pr.funcs[b7i]? = some Try.f104 := Try.func104
def b5g : List AIns := [⟨some 1, none, .e (.box 2 (.t 0))⟩,
  ⟨some 2, none, .e (.box 2 (.c (.agg [.bool false, .nil])))⟩]
def b5f : List AIns := [⟨some 3, none, .p (.fldp (.t 1) 0)⟩,
  ⟨some 4, none, .p (.load none (.t 3))⟩,
  ⟨some 5, none, .p (.fldp (.t 1) 1)⟩,
  ⟨some 6, none, .p (.load none (.t 5))⟩,
  ⟨some 7, none, .call a1e [(.t 4), (.t 6)]⟩,
  ⟨none, none, .e (.store 2 (.t 2) (.t 7))⟩]
def c9F : ACode := .seq (.region b5g false) (.seq (.region b5f false) (.ret))
theorem c7z : fchk Pr (fun _ _ => false) Try.f105 = some (c9F, [.cell 2 (some 2)], 8) := by kernel_rfl
theorem c7A : Pr.funcs[a2V]? = some Try.f105 := Try.func105
def b8x : List AIns := [⟨some 0, none, .e (.box 2 (.c (.agg [.bool false, .nil])))⟩]
def b8w : List AIns := [⟨some 1, none, .call a1v [(.c (.int .i64 1))]⟩,
  ⟨none, none, .e (.store 2 (.t 0) (.t 1))⟩]
def d2c : ACode := .seq (.region b8x false) (.seq (.region b8w false) (.ret))
theorem c9o : fchk Pr (fun _ _ => false) Try.f106 = some (d2c, [.cell 0 (some 2)], 2) := by kernel_rfl
theorem c9p : Pr.funcs[b3N]? = some Try.f106 := Try.func106
def b4V : List AIns := [⟨some 2, none, .e (.box 2 (.t 0))⟩,
  ⟨some 3, none, .e (.box 2 (.t 1))⟩,
  ⟨some 4, none, .e (.box 4 (.c (.agg [.bool false, .nil, .bool false, .nil])))⟩]
def b4U : List AIns := [⟨some 14, none, .p (.load (some 2) (.t 2))⟩,
  ⟨some 15, none, .call a2V [(.t 14)]⟩,
  ⟨some 5, none, .e (.box 2 (.c (.agg [.bool false, .nil])))⟩,
  ⟨none, none, .e (.store 2 (.t 5) (.t 15))⟩]
def b4T : List AIns := [⟨some 16, none, .p (.load (some 2) (.t 3))⟩,
  ⟨some 17, none, .call a2V [(.t 16)]⟩,
  ⟨some 6, none, .e (.box 2 (.c (.agg [.bool false, .nil])))⟩,
  ⟨none, none, .e (.store 2 (.t 6) (.t 17))⟩]
def b4S : List AIns := [⟨some 18, none, .p (.load (some 2) (.t 6))⟩,
  ⟨some 19, none, .call a2k [(.t 18)]⟩,
  ⟨some 20, none, .p (.bin .lss (.t 19) (.c (.int .i64 0)))⟩]
def b4R : List AIns := [⟨some 21, none, .p (.load (some 2) (.t 5))⟩,
  ⟨some 22, none, .call a3L [(.t 21)]⟩,
  ⟨none, none, .e (.store 2 (.t 5) (.t 22))⟩]
def b4Q : List AIns := [⟨some 23, none, .p (.load (some 2) (.t 6))⟩,
  ⟨some 24, none, .call a3L [(.t 23)]⟩,
  ⟨none, none, .e (.store 2 (.t 6) (.t 24))⟩]
def a8i : List AIns := [⟨some 25, none, .p (.fldp (.t 5) 1)⟩,
  ⟨some 26, none, .p (.load none (.t 25))⟩,
  ⟨some 27, none, .p (.fldp (.t 6) 1)⟩,
  ⟨some 28, none, .p (.load none (.t 27))⟩,
  ⟨some 29, none, .call a9g [(.t 26), (.t 28)]⟩,
  ⟨some 7, none, .p (.mv (.t 29))⟩]
def a8h : List AIns := [⟨some 31, none, .p (.fldp (.t 5) 1)⟩,
  ⟨some 32, none, .p (.load none (.t 31))⟩,
  ⟨some 33, none, .p (.mv (.t 7))⟩,
  ⟨some 34, none, .call a2P [(.t 32), (.t 33)]⟩,
  ⟨some 30, none, .p (.mv (.t 34))⟩,
  ⟨some 35, none, .p (.ext (.t 30) 0)⟩,
  ⟨some 36, none, .p (.ext (.t 30) 1)⟩,
  ⟨some 37, none, .p (.ext (.t 30) 2)⟩,
  ⟨some 8, none, .p (.mv (.t 35))⟩,
  ⟨some 9, none, .p (.mv (.t 36))⟩,
  ⟨some 10, none, .p (.mv (.t 37))⟩]
def a8g : List AIns := [⟨some 39, none, .p (.fldp (.t 6) 1)⟩,
  ⟨some 40, none, .p (.load none (.t 39))⟩,
  ⟨some 41, none, .p (.mv (.t 7))⟩,
  ⟨some 42, none, .call a2P [(.t 40), (.t 41)]⟩,
  ⟨some 38, none, .p (.mv (.t 42))⟩,
  ⟨some 43, none, .p (.ext (.t 38) 0)⟩,
  ⟨some 44, none, .p (.ext (.t 38) 1)⟩,
  ⟨some 45, none, .p (.ext (.t 38) 2)⟩,
  ⟨some 11, none, .p (.mv (.t 43))⟩,
  ⟨some 12, none, .p (.mv (.t 44))⟩,
  ⟨some 13, none, .p (.mv (.t 45))⟩]
def a8f : List AIns := [⟨some 46, none, .p (.fldp (.t 5) 0)⟩,
  ⟨some 47, none, .p (.load none (.t 46))⟩,
  ⟨some 48, none, .p (.mv (.t 8))⟩,
  ⟨some 49, none, .p (.bld [.bool false, .nil] [(0, 1, (.t 47)), (1, 1, (.t 48))])⟩,
  ⟨some 50, none, .call a2V [(.t 49)]⟩,
  ⟨some 51, none, .p (.mv (.t 11))⟩,
  ⟨some 52, none, .p (.bld [.bool false, .nil] [(1, 1, (.t 51))])⟩,
  ⟨some 53, none, .p (.bld [.bool false, .nil, .bool false, .nil] [(0, 2, (.t 50)), (2, 2, (.t 52))])⟩,
  ⟨none, none, .e (.store 4 (.t 4) (.t 53))⟩]
def c9w : ACode := .seq (.region b4V false) (.seq (.region b4U false) (.seq (.region b4T false) (.seq (.seq (.region b4S false) (.cond (.t 20) (.seq (.region b4R false) (.region b4Q false)) (.skip))) (.seq (.region a8i false) (.seq (.region a8h false) (.seq (.region a8g false) (.seq (.region a8f false) (.ret))))))))
theorem c7t : fchk Pr (fun _ _ => false) Try.f107 = some (c9w, [.cell 4 (some 4)], 54) := by kernel_rfl
theorem c7u : Pr.funcs[a2j]? = some Try.f107 := Try.func107
def b8N : List AIns := [⟨some 1, none, .e (.box 2 (.t 0))⟩,
  ⟨some 2, none, .e (.box 2 (.c (.agg [.bool false, .nil])))⟩]
def b8M : List AIns := [⟨some 3, none, .p (.fldp (.t 1) 0)⟩,
  ⟨some 4, none, .p (.load none (.t 3))⟩,
  ⟨some 5, none, .p (.un .not (.t 4))⟩,
  ⟨some 6, none, .p (.fldp (.t 1) 1)⟩,
  ⟨some 7, none, .p (.load none (.t 6))⟩,
  ⟨some 8, none, .call a1e [(.t 5), (.t 7)]⟩,
  ⟨none, none, .e (.store 2 (.t 2) (.t 8))⟩]
def d2n : ACode := .seq (.region b8N false) (.seq (.region b8M false) (.ret))
theorem c9G : fchk Pr (fun _ _ => false) Try.f108 = some (d2n, [.cell 2 (some 2)], 9) := by kernel_rfl
theorem c9H : Pr.funcs[a3L]? = some Try.f108 := Try.func108
def a6i : List AIns := [⟨some 2, none, .p (.mv (.c (.int .i64 0)))⟩]
def a6h : List AIns := [⟨some 3, none, .p (.mv (.t 0))⟩,
  ⟨some 4, none, .p (.bin .geq (.t 3) (.c (.int .u32 65536)))⟩]
def a6g : List AIns := [⟨some 5, none, .p (.mv (.t 0))⟩,
  ⟨some 6, none, .p (.bin .shr (.t 5) (.c (.int .u64 16)))⟩,
  ⟨some 0, none, .p (.mv (.t 6))⟩]
def a6f : List AIns := [⟨some 2, none, .p (.mv (.c (.int .i64 16)))⟩]
def a3g : List AIns := [⟨some 7, none, .p (.mv (.t 0))⟩,
  ⟨some 8, none, .p (.bin .geq (.t 7) (.c (.int .u32 256)))⟩]
def a3f : List AIns := [⟨some 9, none, .p (.mv (.t 0))⟩,
  ⟨some 10, none, .p (.bin .shr (.t 9) (.c (.int .u64 8)))⟩,
  ⟨some 0, none, .p (.mv (.t 10))⟩]
def a3e : List AIns := [⟨some 11, none, .p (.mv (.t 2))⟩,
  ⟨some 12, none, .p (.bin .add (.t 11) (.c (.int .i64 8)))⟩,
  ⟨some 2, none, .p (.mv (.t 12))⟩]
def a1W : List AIns := [⟨some 13, none, .p (.mv (.t 2))⟩,
  ⟨some 14, none, .p (.mv (.t 0))⟩,
  ⟨some 15, none, .p (.conv .u8 (.t 14))⟩,
  ⟨some 16, none, .p (.idxs (.c (.str d9w)) (.t 15))⟩,
  ⟨some 17, none, .p (.conv .i64 (.t 16))⟩,
  ⟨some 18, none, .p (.bin .add (.t 13) (.t 17))⟩,
  ⟨some 2, none, .p (.mv (.t 18))⟩]
def b7J : ACode := .seq (.region a6i false) (.seq (.seq (.region a6h false) (.cond (.t 4) (.seq (.region a6g false) (.region a6f false)) (.skip))) (.seq (.seq (.region a3g false) (.cond (.t 8) (.seq (.region a3f false) (.region a3e false)) (.skip))) (.seq (.region a1W false) (.ret))))
theorem b6q : fchk Pr (fun _ _ => false) Try.f109 = some (b7J, [.tmp 2], 19) := by kernel_rfl
theorem b6r : Pr.funcs[a1p]? = some Try.f109 := Try.func109
def b8z : List AIns := [⟨some 2, none, .e (.box 4 (.t 0))⟩,
  ⟨some 3, none, .e (.box 4 (.t 1))⟩,
  ⟨some 4, none, .e (.box 4 (.c (.agg [.bool false, .nil, .bool false, .nil])))⟩]
def b8y : List AIns := [⟨some 5, none, .p (.load (some 4) (.t 2))⟩,
  ⟨some 6, none, .p (.load (some 4) (.t 3))⟩,
  ⟨some 7, none, .call a9c [(.t 6)]⟩,
  ⟨some 8, none, .call b3Q [(.t 5), (.t 7)]⟩,
  ⟨none, none, .e (.store 4 (.t 4) (.t 8))⟩]
def d2d : ACode := .seq (.region b8z false) (.seq (.region b8y true) (.ret))
theorem c9q : fchk Pr (fun _ _ => false) Try.f110 = some (d2d, [.cell 4 (some 4)], 9) := by kernel_rfl
theorem c9r : Pr.funcs[b3O]? = some Try.f110 := Try.func110
def b5E : List AIns := [⟨some 2, none, .p (.mv (.c (.nil)))⟩]
def b5D : List AIns := [⟨some 6, none, .p (.mv (.t 0))⟩,
  ⟨some 7, none, .p (.len (.t 6))⟩,
  ⟨some 3, none, .p (.mv (.t 7))⟩]
def a8n : List AIns := [⟨some 8, none, .p (.mv (.t 3))⟩,
  ⟨some 9, none, .p (.bin .gtr (.t 8) (.c (.int .i64 0)))⟩,
  ⟨some 10, none, .p (.mv (.t 9))⟩,
  ⟨some 11, some (10, true), .p (.mv (.t 0))⟩,
  ⟨some 12, some (10, true), .p (.mv (.t 3))⟩,
  ⟨some 13, some (10, true), .p (.bin .sub (.t 12) (.c (.int .i64 1)))⟩,
  ⟨some 14, some (10, true), .p (.idxp 1 (.t 11) (.t 13))⟩,
  ⟨some 15, some (10, true), .p (.load none (.t 14))⟩,
  ⟨some 16, some (10, true), .p (.bin .eql (.t 15) (.c (.int .u32 0)))⟩,
  ⟨some 17, none, .p (.pick (.t 10) (.t 16) (.c (.bool false)))⟩]
def b5C : List AIns := [⟨some 18, none, .p (.mv (.t 3))⟩,
  ⟨some 19, none, .p (.bin .sub (.t 18) (.c (.int .i64 1)))⟩,
  ⟨some 3, none, .p (.mv (.t 19))⟩]
def b5F : ACode := .seq (.seq (.region a8n false) (.cond (.t 17) (.skip) (.exit 0))) (.block 1 (.region b5C false))
def a4S : List AIns := [⟨some 4, none, .p (.mv (.c (.nil)))⟩]
def a4R : List AIns := [⟨some 5, none, .p (.mv (.c (.int .i64 0)))⟩]
def a8m : List AIns := [⟨some 20, none, .p (.mv (.t 5))⟩,
  ⟨some 21, none, .p (.mv (.t 3))⟩,
  ⟨some 22, none, .p (.bin .lss (.t 20) (.t 21))⟩]
def b5B : List AIns := [⟨some 25, none, .p (.mv (.t 4))⟩,
  ⟨some 26, none, .p (.mv (.t 0))⟩,
  ⟨some 27, none, .p (.mv (.t 5))⟩,
  ⟨some 28, none, .p (.idxp 1 (.t 26) (.t 27))⟩,
  ⟨some 29, none, .p (.load none (.t 28))⟩,
  ⟨some 30, none, .e (.bsl 1 [(.t 29)])⟩,
  ⟨some 31, none, .e (.app 1 4 false (.t 25) (.t 30))⟩,
  ⟨some 4, none, .p (.mv (.t 31))⟩]
def b5A : List AIns := [⟨some 23, none, .p (.mv (.t 5))⟩,
  ⟨some 24, none, .p (.bin .add (.t 23) (.c (.int .i64 1)))⟩,
  ⟨some 5, none, .p (.mv (.t 24))⟩]
def a4T : ACode := .seq (.seq (.region a8m false) (.cond (.t 22) (.skip) (.exit 2))) (.seq (.block 3 (.region b5B false)) (.region b5A false))
def a3d : List AIns := [⟨some 32, none, .p (.mv (.t 4))⟩,
  ⟨some 2, none, .p (.mv (.t 32))⟩]
def d0d : ACode := .seq (.region b5E false) (.seq (.region b5D false) (.seq (.block 0 (.loop b5F)) (.seq (.region a4S false) (.seq (.seq (.region a4R false) (.block 2 (.loop a4T))) (.seq (.region a3d false) (.ret))))))
theorem c7J : fchk Pr (fun _ _ => false) Try.f111 = some (d0d, [.tmp 2], 33) := by kernel_rfl
theorem c7K : Pr.funcs[a0x]? = some Try.f111 := Try.func111
def b8Z : List AIns := [⟨some 2, none, .e (.box 2 (.t 0))⟩,
  ⟨some 3, none, .e (.box 2 (.t 1))⟩,
  ⟨some 4, none, .e (.box 2 (.c (.agg [.bool false, .nil])))⟩]
def b8Y : List AIns := [⟨some 9, none, .p (.fldp (.t 2) 0)⟩,
  ⟨some 10, none, .p (.load none (.t 9))⟩,
  ⟨some 11, none, .p (.fldp (.t 3) 0)⟩,
  ⟨some 12, none, .p (.load none (.t 11))⟩,
  ⟨some 13, none, .p (.beq false (.t 10) (.t 12))⟩]
def b8X : List AIns := [⟨some 14, none, .p (.fldp (.t 2) 0)⟩,
  ⟨some 15, none, .p (.load none (.t 14))⟩,
  ⟨some 16, none, .p (.fldp (.t 2) 1)⟩,
  ⟨some 17, none, .p (.load none (.t 16))⟩,
  ⟨some 18, none, .p (.fldp (.t 3) 1)⟩,
  ⟨some 19, none, .p (.load none (.t 18))⟩,
  ⟨some 20, none, .call a9h [(.t 17), (.t 19)]⟩,
  ⟨some 21, none, .call a1e [(.t 15), (.t 20)]⟩,
  ⟨none, none, .e (.store 2 (.t 4) (.t 21))⟩]
def b8W : List AIns := [⟨some 22, none, .p (.fldp (.t 2) 1)⟩,
  ⟨some 23, none, .p (.load none (.t 22))⟩,
  ⟨some 24, none, .p (.fldp (.t 3) 1)⟩,
  ⟨some 25, none, .p (.load none (.t 24))⟩,
  ⟨some 26, none, .call a2Q [(.t 23), (.t 25)]⟩,
  ⟨some 27, none, .p (.bin .geq (.t 26) (.c (.int .i64 0)))⟩]
def b8V : List AIns := [⟨some 29, none, .p (.fldp (.t 2) 1)⟩,
  ⟨some 30, none, .p (.load none (.t 29))⟩,
  ⟨some 31, none, .p (.fldp (.t 3) 1)⟩,
  ⟨some 32, none, .p (.load none (.t 31))⟩,
  ⟨some 33, none, .call a9f [(.t 30), (.t 32)]⟩,
  ⟨some 28, none, .p (.mv (.t 33))⟩,
  ⟨some 34, none, .p (.ext (.t 28) 0)⟩,
  ⟨some 35, none, .p (.ext (.t 28) 1)⟩,
  ⟨some 5, none, .p (.mv (.t 34))⟩,
  ⟨some 6, none, .p (.mv (.t 35))⟩]
def b8U : List AIns := [⟨some 36, none, .p (.fldp (.t 2) 0)⟩,
  ⟨some 37, none, .p (.load none (.t 36))⟩,
  ⟨some 38, none, .p (.mv (.t 5))⟩,
  ⟨some 39, none, .call a1e [(.t 37), (.t 38)]⟩,
  ⟨none, none, .e (.store 2 (.t 4) (.t 39))⟩]
def b8T : List AIns := [⟨some 41, none, .p (.fldp (.t 3) 1)⟩,
  ⟨some 42, none, .p (.load none (.t 41))⟩,
  ⟨some 43, none, .p (.fldp (.t 2) 1)⟩,
  ⟨some 44, none, .p (.load none (.t 43))⟩,
  ⟨some 45, none, .call a9f [(.t 42), (.t 44)]⟩,
  ⟨some 40, none, .p (.mv (.t 45))⟩,
  ⟨some 46, none, .p (.ext (.t 40) 0)⟩,
  ⟨some 47, none, .p (.ext (.t 40) 1)⟩,
  ⟨some 7, none, .p (.mv (.t 46))⟩,
  ⟨some 8, none, .p (.mv (.t 47))⟩]
def b8S : List AIns := [⟨some 48, none, .p (.fldp (.t 3) 0)⟩,
  ⟨some 49, none, .p (.load none (.t 48))⟩,
  ⟨some 50, none, .p (.mv (.t 7))⟩,
  ⟨some 51, none, .call a1e [(.t 49), (.t 50)]⟩,
  ⟨none, none, .e (.store 2 (.t 4) (.t 51))⟩]
def d2q : ACode := .seq (.region b8Z false) (.seq (.seq (.region b8Y false) (.cond (.t 13) (.seq (.region b8X true) (.ret)) (.skip))) (.seq (.seq (.region b8W false) (.cond (.t 27) (.seq (.region b8V false) (.seq (.region b8U false) (.ret))) (.skip))) (.seq (.region b8T false) (.seq (.region b8S false) (.ret)))))
theorem c9M : fchk Pr (fun _ _ => false) Try.f112 = some (d2q, [.cell 4 (some 2)], 52) := by kernel_rfl
theorem c9N : Pr.funcs[a3M]? = some Try.f112 := Try.func112
def b9G : List AIns := [⟨some 4, none, .p (.mv (.c (.nil)))⟩]
def b9F : List AIns := [⟨some 10, none, .p (.mv (.t 0))⟩,
  ⟨some 11, none, .call a0x [(.t 10)]⟩,
  ⟨some 5, none, .p (.mv (.t 11))⟩]
def b9E : List AIns := [⟨some 12, none, .p (.mv (.t 1))⟩,
  ⟨some 13, none, .call a0x [(.t 12)]⟩,
  ⟨some 6, none, .p (.mv (.t 13))⟩]
def b0D : List AIns := [⟨some 14, none, .p (.mv (.t 6))⟩,
  ⟨some 15, none, .p (.len (.t 14))⟩,
  ⟨some 16, none, .p (.bin .gtr (.t 15) (.c (.int .i64 0)))⟩]
def b9D : List AIns := [⟨some 18, none, .p (.mv (.t 5))⟩,
  ⟨some 19, none, .p (.mv (.t 6))⟩,
  ⟨some 20, none, .call a2P [(.t 18), (.t 19)]⟩,
  ⟨some 17, none, .p (.mv (.t 20))⟩,
  ⟨some 21, none, .p (.ext (.t 17) 0)⟩,
  ⟨some 22, none, .p (.ext (.t 17) 1)⟩,
  ⟨some 23, none, .p (.ext (.t 17) 2)⟩,
  ⟨some 7, none, .p (.mv (.t 21))⟩,
  ⟨some 8, none, .p (.mv (.t 22))⟩,
  ⟨some 9, none, .p (.mv (.t 23))⟩]
def b9C : List AIns := [⟨some 24, none, .p (.mv (.t 6))⟩,
  ⟨some 5, none, .p (.mv (.t 24))⟩]
def b9B : List AIns := [⟨some 25, none, .p (.mv (.t 8))⟩,
  ⟨some 6, none, .p (.mv (.t 25))⟩]
def d0h : ACode := .seq (.seq (.region b0D false) (.cond (.t 16) (.skip) (.exit 0))) (.block 1 (.seq (.region b9D false) (.seq (.region b9C false) (.region b9B false))))
def b9A : List AIns := [⟨some 26, none, .p (.mv (.t 5))⟩,
  ⟨some 4, none, .p (.mv (.t 26))⟩]
def d2v : ACode := .seq (.region b9G false) (.seq (.region b9F false) (.seq (.region b9E false) (.seq (.block 0 (.loop d0h)) (.seq (.region b9A false) (.ret)))))
theorem d0g : fchk Pr (fun _ _ => false) Try.f113 = some (d2v, [.tmp 4], 27) := by kernel_rfl
theorem d0i : Pr.funcs[a9g]? = some Try.f113 := Try.func113
def b9O : List AIns := [⟨some 4, none, .p (.mv (.c (.nil)))⟩,
  ⟨some 5, none, .p (.mv (.c (.nil)))⟩,
  ⟨some 6, none, .p (.mv (.c (.int .i64 0)))⟩]
def b9N : List AIns := [⟨some 20, none, .p (.mv (.t 1))⟩,
  ⟨some 21, none, .call a0x [(.t 20)]⟩,
  ⟨some 7, none, .p (.mv (.t 21))⟩]
def b9M : List AIns := [⟨some 22, none, .p (.mv (.t 7))⟩,
  ⟨some 23, none, .p (.len (.t 22))⟩,
  ⟨some 24, none, .p (.bin .eql (.t 23) (.c (.int .i64 0)))⟩]
def d0j : List AIns := [⟨some 4, none, .p (.mv (.c (.nil)))⟩,
  ⟨some 5, none, .p (.mv (.c (.nil)))⟩,
  ⟨some 6, none, .p (.mv (.c (.int .i64 11)))⟩]
def b0E : List AIns := [⟨some 25, none, .p (.mv (.t 7))⟩,
  ⟨some 26, none, .p (.len (.t 25))⟩,
  ⟨some 27, none, .p (.bin .eql (.t 26) (.c (.int .i64 1)))⟩]
def b9L : List AIns := [⟨some 29, none, .p (.mv (.t 0))⟩,
  ⟨some 30, none, .p (.mv (.t 7))⟩,
  ⟨some 31, none, .p (.idxp 1 (.t 30) (.c (.int .i64 0)))⟩,
  ⟨some 32, none, .p (.load none (.t 31))⟩,
  ⟨some 33, none, .p (.conv .u64 (.t 32))⟩,
  ⟨some 34, none, .call a9e [(.t 29), (.t 33)]⟩,
  ⟨some 28, none, .p (.mv (.t 34))⟩,
  ⟨some 35, none, .p (.ext (.t 28) 0)⟩,
  ⟨some 36, none, .p (.ext (.t 28) 1)⟩,
  ⟨some 8, none, .p (.mv (.t 35))⟩,
  ⟨some 9, none, .p (.mv (.t 36))⟩]
def b9K : List AIns := [⟨some 37, none, .p (.mv (.t 8))⟩,
  ⟨some 38, none, .p (.mv (.t 9))⟩,
  ⟨some 39, none, .p (.conv .u32 (.t 38))⟩,
  ⟨some 40, none, .e (.bsl 1 [(.t 39)])⟩,
  ⟨some 41, none, .call a0x [(.t 40)]⟩,
  ⟨some 4, none, .p (.mv (.t 37))⟩,
  ⟨some 5, none, .p (.mv (.t 41))⟩,
  ⟨some 6, none, .p (.mv (.c (.int .i64 0)))⟩]
def b9J : List AIns := [⟨some 42, none, .p (.mv (.t 7))⟩,
  ⟨some 43, none, .p (.len (.t 42))⟩,
  ⟨some 44, none, .p (.bin .mul (.c (.int .i64 32)) (.t 43))⟩,
  ⟨some 45, none, .p (.mv (.t 7))⟩,
  ⟨some 46, none, .call a2m [(.t 45)]⟩,
  ⟨some 47, none, .p (.bin .sub (.t 44) (.t 46))⟩,
  ⟨some 48, none, .call b3S [(.t 47)]⟩,
  ⟨some 10, none, .p (.mv (.t 48))⟩]
def b9I : List AIns := [⟨some 49, none, .p (.mv (.t 0))⟩,
  ⟨some 50, none, .p (.mv (.t 10))⟩,
  ⟨some 51, none, .call a1J [(.t 49), (.t 50)]⟩,
  ⟨some 11, none, .p (.mv (.t 51))⟩]
def b9H : List AIns := [⟨some 52, none, .p (.mv (.t 7))⟩,
  ⟨some 53, none, .p (.mv (.t 10))⟩,
  ⟨some 54, none, .call a1J [(.t 52), (.t 53)]⟩,
  ⟨some 12, none, .p (.mv (.t 54))⟩]
def b5S : List AIns := [⟨some 55, none, .p (.mv (.t 11))⟩,
  ⟨some 56, none, .p (.len (.t 55))⟩,
  ⟨some 57, none, .e (.mksl 1 4 (.int .u32 0) (.t 56) (.t 56))⟩,
  ⟨some 13, none, .p (.mv (.t 57))⟩]
def b5R : List AIns := [⟨some 14, none, .p (.mv (.c (.nil)))⟩]
def b5Q : List AIns := [⟨some 58, none, .p (.mv (.t 11))⟩,
  ⟨some 59, none, .p (.len (.t 58))⟩,
  ⟨some 60, none, .p (.bin .sub (.t 59) (.c (.int .i64 1)))⟩,
  ⟨some 15, none, .p (.mv (.t 60))⟩]
def a8v : List AIns := [⟨some 61, none, .p (.mv (.t 15))⟩,
  ⟨some 62, none, .p (.bin .geq (.t 61) (.c (.int .i64 0)))⟩]
def b5P : List AIns := [⟨some 65, none, .p (.mv (.t 11))⟩,
  ⟨some 66, none, .p (.mv (.t 15))⟩,
  ⟨some 67, none, .p (.idxp 1 (.t 65) (.t 66))⟩,
  ⟨some 68, none, .p (.load none (.t 67))⟩,
  ⟨some 69, none, .e (.bslm 1 [(.t 68)])⟩,
  ⟨some 70, none, .p (.mv (.t 14))⟩,
  ⟨some 71, none, .e (.app 1 4 false (.t 69) (.t 70))⟩,
  ⟨some 72, none, .call a0x [(.t 71)]⟩,
  ⟨some 14, none, .p (.mv (.t 72))⟩]
def b5O : List AIns := [⟨some 73, none, .p (.mv (.t 14))⟩,
  ⟨some 74, none, .p (.mv (.t 12))⟩,
  ⟨some 75, none, .call a2Q [(.t 73), (.t 74)]⟩,
  ⟨some 76, none, .p (.bin .lss (.t 75) (.c (.int .i64 0)))⟩]
def b5N : List AIns := [⟨some 77, none, .p (.mv (.t 14))⟩,
  ⟨some 78, none, .p (.mv (.t 12))⟩,
  ⟨some 79, none, .p (.len (.t 78))⟩,
  ⟨some 80, none, .call a0M [(.t 77), (.t 79)]⟩,
  ⟨some 81, none, .p (.bin .mul (.t 80) (.c (.int .u64 4294967296)))⟩,
  ⟨some 82, none, .p (.mv (.t 14))⟩,
  ⟨some 83, none, .p (.mv (.t 12))⟩,
  ⟨some 84, none, .p (.len (.t 83))⟩,
  ⟨some 85, none, .p (.bin .sub (.t 84) (.c (.int .i64 1)))⟩,
  ⟨some 86, none, .call a0M [(.t 82), (.t 85)]⟩,
  ⟨some 87, none, .p (.bin .add (.t 81) (.t 86))⟩,
  ⟨some 88, none, .p (.mv (.t 12))⟩,
  ⟨some 89, none, .p (.mv (.t 12))⟩,
  ⟨some 90, none, .p (.len (.t 89))⟩,
  ⟨some 91, none, .p (.bin .sub (.t 90) (.c (.int .i64 1)))⟩,
  ⟨some 92, none, .call a0M [(.t 88), (.t 91)]⟩,
  ⟨some 93, none, .p (.bin .quo (.t 87) (.t 92))⟩,
  ⟨some 16, none, .p (.mv (.t 93))⟩]
def a8u : List AIns := [⟨some 94, none, .p (.mv (.t 16))⟩,
  ⟨some 95, none, .p (.bin .geq (.t 94) (.c (.int .u64 4294967296)))⟩]
def b5M : List AIns := [⟨some 16, none, .p (.mv (.c (.int .u64 4294967295)))⟩]
def a8t : List AIns := [⟨some 96, none, .p (.mv (.t 12))⟩,
  ⟨some 97, none, .p (.mv (.t 16))⟩,
  ⟨some 98, none, .p (.conv .u32 (.t 97))⟩,
  ⟨some 99, none, .e (.bsl 1 [(.t 98)])⟩,
  ⟨some 100, none, .call a1J [(.t 96), (.t 99)]⟩,
  ⟨some 17, none, .p (.mv (.t 100))⟩]
def b5L : List AIns := [⟨some 101, none, .p (.mv (.t 17))⟩,
  ⟨some 102, none, .p (.mv (.t 14))⟩,
  ⟨some 103, none, .call a2Q [(.t 101), (.t 102)]⟩,
  ⟨some 104, none, .p (.bin .gtr (.t 103) (.c (.int .i64 0)))⟩]
def b5K : List AIns := [⟨some 105, none, .p (.mv (.t 16))⟩,
  ⟨some 106, none, .p (.bin .sub (.t 105) (.c (.int .u64 1)))⟩,
  ⟨some 16, none, .p (.mv (.t 106))⟩]
def b5J : List AIns := [⟨some 107, none, .p (.mv (.t 17))⟩,
  ⟨some 108, none, .p (.mv (.t 12))⟩,
  ⟨some 109, none, .call a2l [(.t 107), (.t 108)]⟩,
  ⟨some 17, none, .p (.mv (.t 109))⟩]
def b9P : ACode := .seq (.seq (.region b5L false) (.cond (.t 104) (.skip) (.exit 2))) (.block 3 (.seq (.region b5K false) (.region b5J false)))
def a8s : List AIns := [⟨some 110, none, .p (.mv (.t 13))⟩,
  ⟨some 111, none, .p (.mv (.t 15))⟩,
  ⟨some 112, none, .p (.mv (.t 16))⟩,
  ⟨some 113, none, .p (.conv .u32 (.t 112))⟩,
  ⟨some 114, none, .p (.idxp 1 (.t 110) (.t 111))⟩,
  ⟨none, none, .e (.store 1 (.t 114) (.t 113))⟩]
def a8r : List AIns := [⟨some 115, none, .p (.mv (.t 14))⟩,
  ⟨some 116, none, .p (.mv (.t 17))⟩,
  ⟨some 117, none, .call a2l [(.t 115), (.t 116)]⟩,
  ⟨some 14, none, .p (.mv (.t 117))⟩]
def a4U : List AIns := [⟨some 63, none, .p (.mv (.t 15))⟩,
  ⟨some 64, none, .p (.bin .sub (.t 63) (.c (.int .i64 1)))⟩,
  ⟨some 15, none, .p (.mv (.t 64))⟩]
def b9Q : ACode := .seq (.seq (.region a8v false) (.cond (.t 62) (.skip) (.exit 0))) (.seq (.block 1 (.seq (.region b5P false) (.seq (.seq (.region b5O false) (.cond (.t 76) (.exit 1) (.skip))) (.seq (.region b5N false) (.seq (.seq (.region a8u false) (.cond (.t 95) (.region b5M false) (.skip))) (.seq (.region a8t false) (.seq (.block 2 (.loop b9P)) (.seq (.region a8s false) (.region a8r false))))))))) (.region a4U false))
def a8q : List AIns := [⟨some 119, none, .p (.mv (.t 14))⟩,
  ⟨some 120, none, .p (.mv (.t 7))⟩,
  ⟨some 121, none, .p (.len (.t 120))⟩,
  ⟨some 122, none, .p (.bin .mul (.c (.int .i64 32)) (.t 121))⟩,
  ⟨some 123, none, .p (.mv (.t 7))⟩,
  ⟨some 124, none, .call a2m [(.t 123)]⟩,
  ⟨some 125, none, .p (.bin .sub (.t 122) (.t 124))⟩,
  ⟨some 126, none, .call b3T [(.t 119), (.t 125)]⟩,
  ⟨some 118, none, .p (.mv (.t 126))⟩,
  ⟨some 127, none, .p (.ext (.t 118) 0)⟩,
  ⟨some 128, none, .p (.ext (.t 118) 1)⟩,
  ⟨some 18, none, .p (.mv (.t 127))⟩,
  ⟨some 19, none, .p (.mv (.t 128))⟩]
def a8p : List AIns := [⟨some 129, none, .p (.mv (.t 13))⟩,
  ⟨some 130, none, .call a0x [(.t 129)]⟩,
  ⟨some 131, none, .p (.mv (.t 18))⟩,
  ⟨some 4, none, .p (.mv (.t 130))⟩,
  ⟨some 5, none, .p (.mv (.t 131))⟩,
  ⟨some 6, none, .p (.mv (.c (.int .i64 0)))⟩]
def d2w : ACode := .seq (.region b9O false) (.seq (.region b9N false) (.seq (.seq (.region b9M false) (.cond (.t 24) (.seq (.region d0j false) (.ret)) (.skip))) (.seq (.seq (.region b0E false) (.cond (.t 27) (.seq (.region b9L false) (.seq (.region b9K false) (.ret))) (.skip))) (.seq (.region b9J false) (.seq (.region b9I false) (.seq (.region b9H false) (.seq (.region b5S false) (.seq (.region b5R false) (.seq (.seq (.region b5Q false) (.block 0 (.loop b9Q))) (.seq (.region a8q false) (.seq (.region a8p false) (.ret))))))))))))
theorem d0k : fchk Pr (fun _ k => (k == 4)) Try.f114 = some (d2w, [.tmp 4, .tmp 5, .tmp 6], 132) := by kernel_rfl
theorem d0l : Pr.funcs[a2P]? = some Try.f114 := Try.func114
def b9x : List AIns := [⟨some 4, none, .p (.mv (.c (.nil)))⟩]
def b9w : List AIns := [⟨some 9, none, .p (.mv (.t 0))⟩,
  ⟨some 10, none, .p (.len (.t 9))⟩,
  ⟨some 11, none, .p (.mv (.t 1))⟩,
  ⟨some 12, none, .p (.len (.t 11))⟩,
  ⟨some 13, none, .p (.bin .add (.t 10) (.t 12))⟩,
  ⟨some 14, none, .e (.mksl 1 4 (.int .u32 0) (.t 13) (.t 13))⟩,
  ⟨some 5, none, .p (.mv (.t 14))⟩]
def b9v : List AIns := [⟨some 6, none, .p (.mv (.c (.int .i64 0)))⟩]
def b0C : List AIns := [⟨some 15, none, .p (.mv (.t 6))⟩,
  ⟨some 16, none, .p (.mv (.t 0))⟩,
  ⟨some 17, none, .p (.len (.t 16))⟩,
  ⟨some 18, none, .p (.bin .lss (.t 15) (.t 17))⟩]
def b9u : List AIns := [⟨some 7, none, .p (.mv (.c (.int .u64 0)))⟩]
def b9t : List AIns := [⟨some 8, none, .p (.mv (.c (.int .i64 0)))⟩]
def b0B : List AIns := [⟨some 21, none, .p (.mv (.t 8))⟩,
  ⟨some 22, none, .p (.mv (.t 1))⟩,
  ⟨some 23, none, .p (.len (.t 22))⟩,
  ⟨some 24, none, .p (.bin .lss (.t 21) (.t 23))⟩]
def b9s : List AIns := [⟨some 27, none, .p (.mv (.t 7))⟩,
  ⟨some 28, none, .p (.mv (.t 5))⟩,
  ⟨some 29, none, .p (.mv (.t 6))⟩,
  ⟨some 30, none, .p (.mv (.t 8))⟩,
  ⟨some 31, none, .p (.bin .add (.t 29) (.t 30))⟩,
  ⟨some 32, none, .p (.idxp 1 (.t 28) (.t 31))⟩,
  ⟨some 33, none, .p (.load none (.t 32))⟩,
  ⟨some 34, none, .p (.conv .u64 (.t 33))⟩,
  ⟨some 35, none, .p (.bin .add (.t 27) (.t 34))⟩,
  ⟨some 36, none, .p (.mv (.t 0))⟩,
  ⟨some 37, none, .p (.mv (.t 6))⟩,
  ⟨some 38, none, .p (.idxp 1 (.t 36) (.t 37))⟩,
  ⟨some 39, none, .p (.load none (.t 38))⟩,
  ⟨some 40, none, .p (.conv .u64 (.t 39))⟩,
  ⟨some 41, none, .p (.mv (.t 1))⟩,
  ⟨some 42, none, .p (.mv (.t 8))⟩,
  ⟨some 43, none, .p (.idxp 1 (.t 41) (.t 42))⟩,
  ⟨some 44, none, .p (.load none (.t 43))⟩,
  ⟨some 45, none, .p (.conv .u64 (.t 44))⟩,
  ⟨some 46, none, .p (.bin .mul (.t 40) (.t 45))⟩,
  ⟨some 47, none, .p (.bin .add (.t 35) (.t 46))⟩,
  ⟨some 7, none, .p (.mv (.t 47))⟩]
def b9r : List AIns := [⟨some 48, none, .p (.mv (.t 5))⟩,
  ⟨some 49, none, .p (.mv (.t 6))⟩,
  ⟨some 50, none, .p (.mv (.t 8))⟩,
  ⟨some 51, none, .p (.bin .add (.t 49) (.t 50))⟩,
  ⟨some 52, none, .p (.mv (.t 7))⟩,
  ⟨some 53, none, .p (.bin .rem (.t 52) (.c (.int .u64 4294967296)))⟩,
  ⟨some 54, none, .p (.conv .u32 (.t 53))⟩,
  ⟨some 55, none, .p (.idxp 1 (.t 48) (.t 51))⟩,
  ⟨none, none, .e (.store 1 (.t 55) (.t 54))⟩]
def b9q : List AIns := [⟨some 56, none, .p (.mv (.t 7))⟩,
  ⟨some 57, none, .p (.bin .quo (.t 56) (.c (.int .u64 4294967296)))⟩,
  ⟨some 7, none, .p (.mv (.t 57))⟩]
def b5I : List AIns := [⟨some 25, none, .p (.mv (.t 8))⟩,
  ⟨some 26, none, .p (.bin .add (.t 25) (.c (.int .i64 1)))⟩,
  ⟨some 8, none, .p (.mv (.t 26))⟩]
def b9y : ACode := .seq (.seq (.region b0B false) (.cond (.t 24) (.skip) (.exit 2))) (.seq (.block 3 (.seq (.region b9s true) (.seq (.region b9r false) (.region b9q false)))) (.region b5I false))
def b5H : List AIns := [⟨some 58, none, .p (.mv (.t 5))⟩,
  ⟨some 59, none, .p (.mv (.t 6))⟩,
  ⟨some 60, none, .p (.mv (.t 1))⟩,
  ⟨some 61, none, .p (.len (.t 60))⟩,
  ⟨some 62, none, .p (.bin .add (.t 59) (.t 61))⟩,
  ⟨some 63, none, .p (.mv (.t 7))⟩,
  ⟨some 64, none, .p (.conv .u32 (.t 63))⟩,
  ⟨some 65, none, .p (.idxp 1 (.t 58) (.t 62))⟩,
  ⟨none, none, .e (.store 1 (.t 65) (.t 64))⟩]
def b5G : List AIns := [⟨some 19, none, .p (.mv (.t 6))⟩,
  ⟨some 20, none, .p (.bin .add (.t 19) (.c (.int .i64 1)))⟩,
  ⟨some 6, none, .p (.mv (.t 20))⟩]
def b9z : ACode := .seq (.seq (.region b0C false) (.cond (.t 18) (.skip) (.exit 0))) (.seq (.block 1 (.seq (.region b9u false) (.seq (.seq (.region b9t false) (.block 2 (.loop b9y))) (.region b5H false)))) (.region b5G false))
def a8o : List AIns := [⟨some 66, none, .p (.mv (.t 5))⟩,
  ⟨some 67, none, .call a0x [(.t 66)]⟩,
  ⟨some 4, none, .p (.mv (.t 67))⟩]
def d2u : ACode := .seq (.region b9x false) (.seq (.region b9w false) (.seq (.seq (.region b9v false) (.block 0 (.loop b9z))) (.seq (.region a8o false) (.ret))))
theorem d0e : fchk Pr (fun _ _ => false) Try.f115 = some (d2u, [.tmp 4], 68) := by kernel_rfl
theorem d0f : Pr.funcs[a1J]? = some Try.f115 := Try.func115
def c5Y : List AIns := [⟨some 4, none, .p (.mv (.c (.nil)))⟩]
def c5X : List AIns := [⟨some 10, none, .p (.mv (.t 0))⟩,
  ⟨some 11, none, .call a7O [(.t 10)]⟩,
  ⟨some 12, none, .p (.mv (.t 1))⟩,
  ⟨some 13, none, .call a7O [(.t 12)]⟩,
  ⟨some 5, none, .p (.mv (.t 11))⟩,
  ⟨some 6, none, .p (.mv (.t 13))⟩]
def b7B : List AIns := [⟨some 14, none, .p (.mv (.t 6))⟩,
  ⟨some 15, none, .p (.len (.t 14))⟩,
  ⟨some 16, none, .p (.bin .gtr (.t 15) (.c (.int .i64 0)))⟩]
def c5W : List AIns := [⟨some 18, none, .p (.mv (.t 5))⟩,
  ⟨some 19, none, .p (.mv (.t 6))⟩,
  ⟨some 20, none, .call b7i [(.t 18), (.t 19)]⟩,
  ⟨some 17, none, .p (.mv (.t 20))⟩,
  ⟨some 21, none, .p (.ext (.t 17) 0)⟩,
  ⟨some 22, none, .p (.ext (.t 17) 1)⟩,
  ⟨some 23, none, .p (.ext (.t 17) 2)⟩,
  ⟨some 7, none, .p (.mv (.t 21))⟩,
  ⟨some 8, none, .p (.mv (.t 22))⟩,
  ⟨some 9, none, .p (.mv (.t 23))⟩]
def c5V : List AIns := [⟨some 24, none, .p (.mv (.t 6))⟩,
  ⟨some 25, none, .p (.mv (.t 8))⟩,
  ⟨some 5, none, .p (.mv (.t 24))⟩,
  ⟨some 6, none, .p (.mv (.t 25))⟩]
def d5I : ACode := .seq (.seq (.region b7B false) (.cond (.t 16) (.skip) (.exit 0))) (.block 1 (.seq (.region c5W false) (.region c5V false)))
def c5U : List AIns := [⟨some 26, none, .p (.mv (.t 5))⟩,
  ⟨some 4, none, .p (.mv (.t 26))⟩]
def d7B : ACode := .seq (.region c5Y false) (.seq (.region c5X false) (.seq (.block 0 (.loop d5I)) (.seq (.region c5U false) (.ret))))
theorem d5H : fchk Pr (fun _ _ => false) Try.f117 = some (d7B, [.tmp 4], 27) := by kernel_rfl
theorem d5J : Pr.funcs[c4B]? = some Try.f117 := Try.func117
def c6w : List AIns := [⟨some 4, none, .p (.mv (.c (.nil)))⟩]
def c6v : List AIns := [⟨some 8, none, .p (.mv (.t 0))⟩,
  ⟨some 9, none, .p (.len (.t 8))⟩,
  ⟨some 10, none, .p (.mv (.t 1))⟩,
  ⟨some 11, none, .p (.len (.t 10))⟩,
  ⟨some 12, none, .p (.bin .lss (.t 9) (.t 11))⟩]
def c6u : List AIns := [⟨some 13, none, .p (.mv (.t 1))⟩,
  ⟨some 14, none, .p (.mv (.t 0))⟩,
  ⟨some 0, none, .p (.mv (.t 13))⟩,
  ⟨some 1, none, .p (.mv (.t 14))⟩]
def b7H : List AIns := [⟨some 15, none, .p (.mv (.t 0))⟩,
  ⟨some 16, none, .p (.len (.t 15))⟩,
  ⟨some 17, none, .p (.bin .add (.t 16) (.c (.int .i64 1)))⟩,
  ⟨some 18, none, .e (.mksl 1 4 (.int .u32 0) (.t 17) (.t 17))⟩,
  ⟨some 5, none, .p (.mv (.t 18))⟩]
def b7G : List AIns := [⟨some 6, none, .p (.mv (.c (.int .u64 0)))⟩]
def b7F : List AIns := [⟨some 19, none, .p (.mv (.t 0))⟩,
  ⟨some 20, none, .p (.len (.t 19))⟩,
  ⟨some 21, none, .p (.mv (.c (.int .i64 0)))⟩]
def b7E : List AIns := [⟨some 22, none, .p (.bin .lss (.t 21) (.t 20))⟩]
def c6t : List AIns := [⟨some 23, none, .p (.mv (.t 21))⟩,
  ⟨some 7, none, .p (.mv (.t 23))⟩]
def c6s : List AIns := [⟨some 24, none, .p (.mv (.t 6))⟩,
  ⟨some 25, none, .p (.mv (.t 0))⟩,
  ⟨some 26, none, .p (.mv (.t 7))⟩,
  ⟨some 27, none, .p (.idxp 1 (.t 25) (.t 26))⟩,
  ⟨some 28, none, .p (.load none (.t 27))⟩,
  ⟨some 29, none, .p (.conv .u64 (.t 28))⟩,
  ⟨some 30, none, .p (.bin .add (.t 24) (.t 29))⟩,
  ⟨some 6, none, .p (.mv (.t 30))⟩]
def c6r : List AIns := [⟨some 31, none, .p (.mv (.t 7))⟩,
  ⟨some 32, none, .p (.mv (.t 1))⟩,
  ⟨some 33, none, .p (.len (.t 32))⟩,
  ⟨some 34, none, .p (.bin .lss (.t 31) (.t 33))⟩]
def c3x : List AIns := [⟨some 35, none, .p (.mv (.t 6))⟩,
  ⟨some 36, none, .p (.mv (.t 1))⟩,
  ⟨some 37, none, .p (.mv (.t 7))⟩,
  ⟨some 38, none, .p (.idxp 1 (.t 36) (.t 37))⟩,
  ⟨some 39, none, .p (.load none (.t 38))⟩,
  ⟨some 40, none, .p (.conv .u64 (.t 39))⟩,
  ⟨some 41, none, .p (.bin .add (.t 35) (.t 40))⟩,
  ⟨some 6, none, .p (.mv (.t 41))⟩]
def b3D : List AIns := [⟨some 42, none, .p (.mv (.t 5))⟩,
  ⟨some 43, none, .p (.mv (.t 7))⟩,
  ⟨some 44, none, .p (.mv (.t 6))⟩,
  ⟨some 45, none, .p (.conv .u32 (.t 44))⟩,
  ⟨some 46, none, .p (.idxp 1 (.t 42) (.t 43))⟩,
  ⟨none, none, .e (.store 1 (.t 46) (.t 45))⟩]
def b3C : List AIns := [⟨some 47, none, .p (.mv (.t 6))⟩,
  ⟨some 48, none, .p (.bin .shr (.t 47) (.c (.int .u64 32)))⟩,
  ⟨some 6, none, .p (.mv (.t 48))⟩]
def b3B : List AIns := [⟨some 49, none, .p (.bin .add (.t 21) (.c (.int .i64 1)))⟩,
  ⟨some 21, none, .p (.mv (.t 49))⟩]
def b1F : ACode := .seq (.region b7E false) (.seq (.cond (.t 22) (.skip) (.exit 0)) (.seq (.block 1 (.seq (.region c6t false) (.seq (.region c6s false) (.seq (.seq (.region c6r false) (.cond (.t 34) (.region c3x false) (.skip))) (.seq (.region b3D false) (.region b3C false)))))) (.region b3B false)))
def a5u : List AIns := [⟨some 50, none, .p (.mv (.t 5))⟩,
  ⟨some 51, none, .p (.mv (.t 0))⟩,
  ⟨some 52, none, .p (.len (.t 51))⟩,
  ⟨some 53, none, .p (.mv (.t 6))⟩,
  ⟨some 54, none, .p (.conv .u32 (.t 53))⟩,
  ⟨some 55, none, .p (.idxp 1 (.t 50) (.t 52))⟩,
  ⟨none, none, .e (.store 1 (.t 55) (.t 54))⟩]
def a5t : List AIns := [⟨some 56, none, .p (.mv (.t 5))⟩,
  ⟨some 57, none, .call a0o [(.t 56)]⟩,
  ⟨some 4, none, .p (.mv (.t 57))⟩]
def d7E : ACode := .seq (.region c6w false) (.seq (.seq (.region c6v false) (.cond (.t 12) (.region c6u false) (.skip))) (.seq (.region b7H false) (.seq (.region b7G false) (.seq (.seq (.region b7F false) (.block 0 (.loop b1F))) (.seq (.region a5u false) (.seq (.region a5t false) (.ret)))))))
theorem d5R : fchk Pr (fun _ _ => false) Try.f118 = some (d7E, [.tmp 4], 58) := by kernel_rfl
theorem d5S : Pr.funcs[a7R]? = some Try.f118 := Try.func118
def c5J : List AIns := [⟨some 4, none, .p (.mv (.c (.nil)))⟩,
  ⟨some 5, none, .p (.mv (.c (.int .i64 0)))⟩]
def c5I : List AIns := [⟨some 6, none, .p (.mv (.t 0))⟩,
  ⟨some 7, none, .p (.mv (.t 1))⟩,
  ⟨some 8, none, .call a7Q [(.t 6), (.t 7)]⟩,
  ⟨some 9, none, .p (.bin .lss (.t 8) (.c (.int .i64 0)))⟩]
def d5B : List AIns := [⟨some 4, none, .p (.mv (.c (.nil)))⟩,
  ⟨some 5, none, .p (.mv (.c (.int .i64 10)))⟩]
def c5H : List AIns := [⟨some 10, none, .p (.mv (.t 0))⟩,
  ⟨some 11, none, .call a0o [(.t 10)]⟩,
  ⟨some 12, none, .p (.mv (.t 1))⟩,
  ⟨some 13, none, .call a0o [(.t 12)]⟩,
  ⟨some 14, none, .call a7N [(.t 11), (.t 13)]⟩,
  ⟨some 4, none, .p (.mv (.t 14))⟩,
  ⟨some 5, none, .p (.mv (.c (.int .i64 0)))⟩]
def d7z : ACode := .seq (.region c5J false) (.seq (.seq (.region c5I false) (.cond (.t 9) (.seq (.region d5B false) (.ret)) (.skip))) (.seq (.region c5H false) (.ret)))
theorem d5C : fchk Pr (fun _ _ => false) Try.f119 = some (d7z, [.tmp 4, .tmp 5], 15) := by kernel_rfl
theorem d5D : Pr.funcs[c4A]? = some Try.f119 := Try.func119
def c3b : List AIns := [⟨some 2, none, .p (.mv (.c (.nil)))⟩]
def c3a : List AIns := [⟨some 3, none, .p (.mv (.t 0))⟩,
  ⟨some 4, none, .call a0o [(.t 3)]⟩,
  ⟨some 5, none, .e (.app 1 4 false (.c (.nil)) (.t 4))⟩,
  ⟨some 2, none, .p (.mv (.t 5))⟩]
def d5E : ACode := .seq (.region c3b false) (.seq (.region c3a false) (.ret))
theorem d2H : fchk Pr (fun _ _ => false) Try.f120 = some (d5E, [.tmp 2], 6) := by kernel_rfl
theorem d2I : Pr.funcs[a7O]? = some Try.f120 := Try.func120
def c0w : List AIns := [⟨some 4, none, .p (.mv (.c (.nil)))⟩,
  ⟨some 5, none, .p (.mv (.c (.int .u32 0)))⟩]
def c0v : List AIns := [⟨some 9, none, .p (.mv (.t 0))⟩,
  ⟨some 10, none, .p (.len (.t 9))⟩,
  ⟨some 11, none, .e (.mksl 1 4 (.int .u32 0) (.t 10) (.t 10))⟩,
  ⟨some 6, none, .p (.mv (.t 11))⟩]
def c0u : List AIns := [⟨some 7, none, .p (.mv (.c (.int .u64 0)))⟩]
def c0t : List AIns := [⟨some 12, none, .p (.mv (.t 0))⟩,
  ⟨some 13, none, .p (.len (.t 12))⟩,
  ⟨some 14, none, .p (.bin .sub (.t 13) (.c (.int .i64 1)))⟩,
  ⟨some 8, none, .p (.mv (.t 14))⟩]
def b0L : List AIns := [⟨some 15, none, .p (.mv (.t 8))⟩,
  ⟨some 16, none, .p (.bin .geq (.t 15) (.c (.int .i64 0)))⟩]
def c0s : List AIns := [⟨some 19, none, .p (.mv (.t 7))⟩,
  ⟨some 20, none, .p (.bin .shl (.t 19) (.c (.int .u64 32)))⟩,
  ⟨some 21, none, .p (.mv (.t 0))⟩,
  ⟨some 22, none, .p (.mv (.t 8))⟩,
  ⟨some 23, none, .p (.idxp 1 (.t 21) (.t 22))⟩,
  ⟨some 24, none, .p (.load none (.t 23))⟩,
  ⟨some 25, none, .p (.conv .u64 (.t 24))⟩,
  ⟨some 26, none, .p (.bin .or (.t 20) (.t 25))⟩,
  ⟨some 7, none, .p (.mv (.t 26))⟩]
def c0r : List AIns := [⟨some 27, none, .p (.mv (.t 6))⟩,
  ⟨some 28, none, .p (.mv (.t 8))⟩,
  ⟨some 29, none, .p (.mv (.t 7))⟩,
  ⟨some 30, none, .p (.mv (.t 1))⟩,
  ⟨some 31, none, .p (.conv .u64 (.t 30))⟩,
  ⟨some 32, none, .p (.bin .quo (.t 29) (.t 31))⟩,
  ⟨some 33, none, .p (.conv .u32 (.t 32))⟩,
  ⟨some 34, none, .p (.idxp 1 (.t 27) (.t 28))⟩,
  ⟨none, none, .e (.store 1 (.t 34) (.t 33))⟩]
def c0q : List AIns := [⟨some 35, none, .p (.mv (.t 7))⟩,
  ⟨some 36, none, .p (.mv (.t 1))⟩,
  ⟨some 37, none, .p (.conv .u64 (.t 36))⟩,
  ⟨some 38, none, .p (.bin .rem (.t 35) (.t 37))⟩,
  ⟨some 7, none, .p (.mv (.t 38))⟩]
def c0p : List AIns := [⟨some 17, none, .p (.mv (.t 8))⟩,
  ⟨some 18, none, .p (.bin .sub (.t 17) (.c (.int .i64 1)))⟩,
  ⟨some 8, none, .p (.mv (.t 18))⟩]
def d0z : ACode := .seq (.seq (.region b0L false) (.cond (.t 16) (.skip) (.exit 0))) (.seq (.block 1 (.seq (.region c0s false) (.seq (.region c0r false) (.region c0q false)))) (.region c0p false))
def c0o : List AIns := [⟨some 39, none, .p (.mv (.t 6))⟩,
  ⟨some 40, none, .call a0o [(.t 39)]⟩,
  ⟨some 41, none, .p (.mv (.t 7))⟩,
  ⟨some 42, none, .p (.conv .u32 (.t 41))⟩,
  ⟨some 4, none, .p (.mv (.t 40))⟩,
  ⟨some 5, none, .p (.mv (.t 42))⟩]
def d2D : ACode := .seq (.region c0w false) (.seq (.region c0v false) (.seq (.region c0u false) (.seq (.seq (.region c0t false) (.block 0 (.loop d0z))) (.seq (.region c0o false) (.ret)))))
theorem d0y : fchk Pr (fun _ _ => false) Try.f121 = some (d2D, [.tmp 4, .tmp 5], 43) := by kernel_rfl
theorem d0A : Pr.funcs[b3U]? = some Try.f121 := Try.func121
def a2e : List AIns := [⟨some 2, none, .p (.mv (.c (.int .i64 0)))⟩]
def a2d : List AIns := [⟨some 3, none, .p (.mv (.t 0))⟩,
  ⟨some 4, none, .call a1p [(.t 3)]⟩,
  ⟨some 5, none, .p (.bin .sub (.c (.int .i64 32)) (.t 4))⟩,
  ⟨some 2, none, .p (.mv (.t 5))⟩]
def a5R : ACode := .seq (.region a2e false) (.seq (.region a2d false) (.ret))
theorem a5x : fchk Pr (fun _ _ => false) Try.f122 = some (a5R, [.tmp 2], 6) := by kernel_rfl
theorem a5y : Pr.funcs[a1u]? = some Try.f122 := Try.func122
def c5G : List AIns := [⟨some 4, none, .p (.mv (.c (.nil)))⟩]
def c5F : List AIns := [⟨some 10, none, .p (.mv (.t 0))⟩,
  ⟨some 11, none, .call a0o [(.t 10)]⟩,
  ⟨some 0, none, .p (.mv (.t 11))⟩]
def c5E : List AIns := [⟨some 12, none, .p (.mv (.t 0))⟩,
  ⟨some 13, none, .p (.len (.t 12))⟩,
  ⟨some 14, none, .p (.bin .eql (.t 13) (.c (.int .i64 0)))⟩]
def d5w : List AIns := [⟨some 4, none, .p (.mv (.c (.nil)))⟩]
def c5D : List AIns := [⟨some 15, none, .p (.mv (.t 1))⟩,
  ⟨some 16, none, .p (.bin .quo (.t 15) (.c (.int .i64 32)))⟩,
  ⟨some 17, none, .p (.mv (.t 1))⟩,
  ⟨some 18, none, .p (.bin .rem (.t 17) (.c (.int .i64 32)))⟩,
  ⟨some 19, none, .p (.conv .u64 (.t 18))⟩,
  ⟨some 5, none, .p (.mv (.t 16))⟩,
  ⟨some 6, none, .p (.mv (.t 19))⟩]
def c5C : List AIns := [⟨some 20, none, .p (.mv (.t 0))⟩,
  ⟨some 21, none, .p (.len (.t 20))⟩,
  ⟨some 22, none, .p (.mv (.t 5))⟩,
  ⟨some 23, none, .p (.bin .add (.t 21) (.t 22))⟩,
  ⟨some 24, none, .p (.bin .add (.t 23) (.c (.int .i64 1)))⟩,
  ⟨some 25, none, .e (.mksl 1 4 (.int .u32 0) (.t 24) (.t 24))⟩,
  ⟨some 7, none, .p (.mv (.t 25))⟩]
def c5B : List AIns := [⟨some 26, none, .p (.mv (.t 0))⟩,
  ⟨some 27, none, .p (.len (.t 26))⟩,
  ⟨some 28, none, .p (.mv (.c (.int .i64 0)))⟩]
def b7y : List AIns := [⟨some 29, none, .p (.bin .lss (.t 28) (.t 27))⟩]
def c5A : List AIns := [⟨some 30, none, .p (.mv (.t 28))⟩,
  ⟨some 8, none, .p (.mv (.t 30))⟩]
def c5z : List AIns := [⟨some 31, none, .p (.mv (.t 0))⟩,
  ⟨some 32, none, .p (.mv (.t 8))⟩,
  ⟨some 33, none, .p (.idxp 1 (.t 31) (.t 32))⟩,
  ⟨some 34, none, .p (.load none (.t 33))⟩,
  ⟨some 35, none, .p (.conv .u64 (.t 34))⟩,
  ⟨some 36, none, .p (.mv (.t 6))⟩,
  ⟨some 37, none, .p (.bin .shl (.t 35) (.t 36))⟩,
  ⟨some 9, none, .p (.mv (.t 37))⟩]
def c2R : List AIns := [⟨some 38, none, .p (.mv (.t 7))⟩,
  ⟨some 39, none, .p (.mv (.t 8))⟩,
  ⟨some 40, none, .p (.mv (.t 5))⟩,
  ⟨some 41, none, .p (.bin .add (.t 39) (.t 40))⟩,
  ⟨some 42, none, .p (.idxp 1 (.t 38) (.t 41))⟩,
  ⟨some 43, none, .p (.load none (.t 42))⟩,
  ⟨some 44, none, .p (.mv (.t 9))⟩,
  ⟨some 45, none, .p (.conv .u32 (.t 44))⟩,
  ⟨some 46, none, .p (.bin .or (.t 43) (.t 45))⟩,
  ⟨some 47, none, .p (.idxp 1 (.t 38) (.t 41))⟩,
  ⟨none, none, .e (.store 1 (.t 47) (.t 46))⟩]
def c2Q : List AIns := [⟨some 48, none, .p (.mv (.t 7))⟩,
  ⟨some 49, none, .p (.mv (.t 8))⟩,
  ⟨some 50, none, .p (.mv (.t 5))⟩,
  ⟨some 51, none, .p (.bin .add (.t 49) (.t 50))⟩,
  ⟨some 52, none, .p (.bin .add (.t 51) (.c (.int .i64 1)))⟩,
  ⟨some 53, none, .p (.mv (.t 9))⟩,
  ⟨some 54, none, .p (.bin .shr (.t 53) (.c (.int .u64 32)))⟩,
  ⟨some 55, none, .p (.conv .u32 (.t 54))⟩,
  ⟨some 56, none, .p (.idxp 1 (.t 48) (.t 52))⟩,
  ⟨none, none, .e (.store 1 (.t 56) (.t 55))⟩]
def c2P : List AIns := [⟨some 57, none, .p (.bin .add (.t 28) (.c (.int .i64 1)))⟩,
  ⟨some 28, none, .p (.mv (.t 57))⟩]
def d5y : ACode := .seq (.region b7y false) (.seq (.cond (.t 29) (.skip) (.exit 0)) (.seq (.block 1 (.seq (.region c5A false) (.seq (.region c5z false) (.seq (.region c2R false) (.region c2Q false))))) (.region c2P false)))
def c2O : List AIns := [⟨some 58, none, .p (.mv (.t 7))⟩,
  ⟨some 59, none, .call a0o [(.t 58)]⟩,
  ⟨some 4, none, .p (.mv (.t 59))⟩]
def d7y : ACode := .seq (.region c5G false) (.seq (.region c5F false) (.seq (.seq (.region c5E false) (.cond (.t 14) (.seq (.region d5w false) (.ret)) (.skip))) (.seq (.region c5D false) (.seq (.region c5C false) (.seq (.seq (.region c5B false) (.block 0 (.loop d5y))) (.seq (.region c2O false) (.ret)))))))
theorem d5x : fchk Pr (fun _ _ => false) Try.f123 = some (d7y, [.tmp 4], 60) := by kernel_rfl
theorem d5z : Pr.funcs[b7h]? = some Try.f123 := Try.func123
def c0E : List AIns := [⟨some 4, none, .p (.mv (.c (.int .u32 0)))⟩]
def c0D : List AIns := [⟨some 15, none, .p (.mv (.t 1))⟩,
  ⟨some 16, none, .p (.len (.t 15))⟩,
  ⟨some 5, none, .p (.mv (.t 16))⟩]
def c0C : List AIns := [⟨some 17, none, .p (.mv (.t 0))⟩,
  ⟨some 18, none, .p (.mv (.t 5))⟩,
  ⟨some 19, none, .p (.idxp 1 (.t 17) (.t 18))⟩,
  ⟨some 20, none, .p (.load none (.t 19))⟩,
  ⟨some 21, none, .p (.conv .u64 (.t 20))⟩,
  ⟨some 22, none, .p (.bin .shl (.t 21) (.c (.int .u64 32)))⟩,
  ⟨some 23, none, .p (.mv (.t 0))⟩,
  ⟨some 24, none, .p (.mv (.t 5))⟩,
  ⟨some 25, none, .p (.bin .sub (.t 24) (.c (.int .i64 1)))⟩,
  ⟨some 26, none, .p (.idxp 1 (.t 23) (.t 25))⟩,
  ⟨some 27, none, .p (.load none (.t 26))⟩,
  ⟨some 28, none, .p (.conv .u64 (.t 27))⟩,
  ⟨some 29, none, .p (.bin .or (.t 22) (.t 28))⟩,
  ⟨some 6, none, .p (.mv (.t 29))⟩]
def c0B : List AIns := [⟨some 30, none, .p (.mv (.t 6))⟩,
  ⟨some 31, none, .p (.mv (.t 1))⟩,
  ⟨some 32, none, .p (.mv (.t 5))⟩,
  ⟨some 33, none, .p (.bin .sub (.t 32) (.c (.int .i64 1)))⟩,
  ⟨some 34, none, .p (.idxp 1 (.t 31) (.t 33))⟩,
  ⟨some 35, none, .p (.load none (.t 34))⟩,
  ⟨some 36, none, .p (.conv .u64 (.t 35))⟩,
  ⟨some 37, none, .p (.bin .quo (.t 30) (.t 36))⟩,
  ⟨some 38, none, .p (.mnx false (.t 37) (.c (.int .u64 4294967295)))⟩,
  ⟨some 7, none, .p (.mv (.t 38))⟩]
def c0A : List AIns := [⟨some 8, none, .p (.mv (.c (.int .u64 0)))⟩,
  ⟨some 9, none, .p (.mv (.c (.int .u64 0)))⟩]
def c0z : List AIns := [⟨some 39, none, .p (.mv (.t 5))⟩,
  ⟨some 40, none, .p (.bin .add (.t 39) (.c (.int .i64 1)))⟩,
  ⟨some 41, none, .p (.mv (.c (.int .i64 0)))⟩]
def b0P : List AIns := [⟨some 42, none, .p (.bin .lss (.t 41) (.t 40))⟩]
def c0y : List AIns := [⟨some 43, none, .p (.mv (.t 41))⟩,
  ⟨some 10, none, .p (.mv (.t 43))⟩]
def c0x : List AIns := [⟨some 44, none, .p (.mv (.t 8))⟩,
  ⟨some 11, none, .p (.mv (.t 44))⟩]
def b0O : List AIns := [⟨some 45, none, .p (.mv (.t 10))⟩,
  ⟨some 46, none, .p (.mv (.t 5))⟩,
  ⟨some 47, none, .p (.bin .lss (.t 45) (.t 46))⟩]
def b6n : List AIns := [⟨some 48, none, .p (.mv (.t 11))⟩,
  ⟨some 49, none, .p (.mv (.t 7))⟩,
  ⟨some 50, none, .p (.mv (.t 1))⟩,
  ⟨some 51, none, .p (.mv (.t 10))⟩,
  ⟨some 52, none, .p (.idxp 1 (.t 50) (.t 51))⟩,
  ⟨some 53, none, .p (.load none (.t 52))⟩,
  ⟨some 54, none, .p (.conv .u64 (.t 53))⟩,
  ⟨some 55, none, .p (.bin .mul (.t 49) (.t 54))⟩,
  ⟨some 56, none, .p (.bin .add (.t 48) (.t 55))⟩,
  ⟨some 11, none, .p (.mv (.t 56))⟩]
def a8O : List AIns := [⟨some 57, none, .p (.mv (.t 11))⟩,
  ⟨some 58, none, .p (.bin .shr (.t 57) (.c (.int .u64 32)))⟩,
  ⟨some 8, none, .p (.mv (.t 58))⟩]
def a8N : List AIns := [⟨some 59, none, .p (.mv (.t 0))⟩,
  ⟨some 60, none, .p (.mv (.t 10))⟩,
  ⟨some 61, none, .p (.idxp 1 (.t 59) (.t 60))⟩,
  ⟨some 62, none, .p (.load none (.t 61))⟩,
  ⟨some 63, none, .p (.conv .u64 (.t 62))⟩,
  ⟨some 64, none, .p (.mv (.t 11))⟩,
  ⟨some 65, none, .p (.conv .u32 (.t 64))⟩,
  ⟨some 66, none, .p (.conv .u64 (.t 65))⟩,
  ⟨some 67, none, .p (.bin .sub (.t 63) (.t 66))⟩,
  ⟨some 68, none, .p (.mv (.t 9))⟩,
  ⟨some 69, none, .p (.bin .sub (.t 67) (.t 68))⟩,
  ⟨some 12, none, .p (.mv (.t 69))⟩]
def a8M : List AIns := [⟨some 70, none, .p (.mv (.t 0))⟩,
  ⟨some 71, none, .p (.mv (.t 10))⟩,
  ⟨some 72, none, .p (.mv (.t 12))⟩,
  ⟨some 73, none, .p (.conv .u32 (.t 72))⟩,
  ⟨some 74, none, .p (.idxp 1 (.t 70) (.t 71))⟩,
  ⟨none, none, .e (.store 1 (.t 74) (.t 73))⟩]
def a8L : List AIns := [⟨some 75, none, .p (.mv (.t 12))⟩,
  ⟨some 76, none, .p (.bin .shr (.t 75) (.c (.int .u64 63)))⟩,
  ⟨some 9, none, .p (.mv (.t 76))⟩]
def a8K : List AIns := [⟨some 77, none, .p (.bin .add (.t 41) (.c (.int .i64 1)))⟩,
  ⟨some 41, none, .p (.mv (.t 77))⟩]
def a6d : ACode := .seq (.region b0P false) (.seq (.cond (.t 42) (.skip) (.exit 0)) (.seq (.block 1 (.seq (.region c0y false) (.seq (.region c0x false) (.seq (.seq (.region b0O false) (.cond (.t 47) (.region b6n false) (.skip))) (.seq (.region a8O false) (.seq (.region a8N false) (.seq (.region a8M false) (.region a8L false)))))))) (.region a8K false)))
def a4X : List AIns := [⟨some 78, none, .p (.mv (.t 9))⟩,
  ⟨some 79, none, .p (.bin .gtr (.t 78) (.c (.int .u64 0)))⟩]
def b6m : List AIns := [⟨some 80, none, .p (.mv (.t 7))⟩,
  ⟨some 81, none, .p (.bin .sub (.t 80) (.c (.int .u64 1)))⟩,
  ⟨some 7, none, .p (.mv (.t 81))⟩]
def b6l : List AIns := [⟨some 13, none, .p (.mv (.c (.int .u64 0)))⟩]
def b6k : List AIns := [⟨some 82, none, .p (.mv (.t 5))⟩,
  ⟨some 83, none, .p (.bin .add (.t 82) (.c (.int .i64 1)))⟩,
  ⟨some 84, none, .p (.mv (.c (.int .i64 0)))⟩]
def a8J : List AIns := [⟨some 85, none, .p (.bin .lss (.t 84) (.t 83))⟩]
def b6j : List AIns := [⟨some 86, none, .p (.mv (.t 84))⟩,
  ⟨some 14, none, .p (.mv (.t 86))⟩]
def b6i : List AIns := [⟨some 87, none, .p (.mv (.t 13))⟩,
  ⟨some 88, none, .p (.mv (.t 0))⟩,
  ⟨some 89, none, .p (.mv (.t 14))⟩,
  ⟨some 90, none, .p (.idxp 1 (.t 88) (.t 89))⟩,
  ⟨some 91, none, .p (.load none (.t 90))⟩,
  ⟨some 92, none, .p (.conv .u64 (.t 91))⟩,
  ⟨some 93, none, .p (.bin .add (.t 87) (.t 92))⟩,
  ⟨some 13, none, .p (.mv (.t 93))⟩]
def a8I : List AIns := [⟨some 94, none, .p (.mv (.t 14))⟩,
  ⟨some 95, none, .p (.mv (.t 5))⟩,
  ⟨some 96, none, .p (.bin .lss (.t 94) (.t 95))⟩]
def b6h : List AIns := [⟨some 97, none, .p (.mv (.t 13))⟩,
  ⟨some 98, none, .p (.mv (.t 1))⟩,
  ⟨some 99, none, .p (.mv (.t 14))⟩,
  ⟨some 100, none, .p (.idxp 1 (.t 98) (.t 99))⟩,
  ⟨some 101, none, .p (.load none (.t 100))⟩,
  ⟨some 102, none, .p (.conv .u64 (.t 101))⟩,
  ⟨some 103, none, .p (.bin .add (.t 97) (.t 102))⟩,
  ⟨some 13, none, .p (.mv (.t 103))⟩]
def a8H : List AIns := [⟨some 104, none, .p (.mv (.t 0))⟩,
  ⟨some 105, none, .p (.mv (.t 14))⟩,
  ⟨some 106, none, .p (.mv (.t 13))⟩,
  ⟨some 107, none, .p (.conv .u32 (.t 106))⟩,
  ⟨some 108, none, .p (.idxp 1 (.t 104) (.t 105))⟩,
  ⟨none, none, .e (.store 1 (.t 108) (.t 107))⟩]
def a8G : List AIns := [⟨some 109, none, .p (.mv (.t 13))⟩,
  ⟨some 110, none, .p (.bin .shr (.t 109) (.c (.int .u64 32)))⟩,
  ⟨some 13, none, .p (.mv (.t 110))⟩]
def a8F : List AIns := [⟨some 111, none, .p (.bin .add (.t 84) (.c (.int .i64 1)))⟩,
  ⟨some 84, none, .p (.mv (.t 111))⟩]
def a6c : ACode := .seq (.region a8J false) (.seq (.cond (.t 85) (.skip) (.exit 4)) (.seq (.block 5 (.seq (.region b6j false) (.seq (.region b6i false) (.seq (.seq (.region a8I false) (.cond (.t 96) (.region b6h false) (.skip))) (.seq (.region a8H false) (.region a8G false)))))) (.region a8F false)))
def b6g : List AIns := [⟨some 112, none, .p (.mv (.t 9))⟩,
  ⟨some 113, none, .p (.mv (.t 13))⟩,
  ⟨some 114, none, .p (.bin .sub (.t 112) (.t 113))⟩,
  ⟨some 9, none, .p (.mv (.t 114))⟩]
def c0F : ACode := .seq (.seq (.region a4X false) (.cond (.t 79) (.skip) (.exit 2))) (.block 3 (.seq (.region b6m false) (.seq (.region b6l false) (.seq (.seq (.region b6k false) (.block 4 (.loop a6c))) (.region b6g false)))))
def a4W : List AIns := [⟨some 115, none, .p (.mv (.t 7))⟩,
  ⟨some 116, none, .p (.conv .u32 (.t 115))⟩,
  ⟨some 4, none, .p (.mv (.t 116))⟩]
def d2G : ACode := .seq (.region c0E false) (.seq (.region c0D false) (.seq (.region c0C true) (.seq (.region c0B false) (.seq (.region c0A false) (.seq (.seq (.region c0z false) (.block 0 (.loop a6d))) (.seq (.block 2 (.loop c0F)) (.seq (.region a4W false) (.ret))))))))
theorem d0B : fchk Pr (fun _ _ => false) Try.f124 = some (d2G, [.tmp 4], 117) := by kernel_rfl
theorem d0C : Pr.funcs[a9i]? = some Try.f124 := Try.func124
def c5x : List AIns := [⟨some 4, none, .p (.mv (.c (.nil)))⟩]
def c5w : List AIns := [⟨some 10, none, .p (.mv (.t 0))⟩,
  ⟨some 11, none, .call a0o [(.t 10)]⟩,
  ⟨some 0, none, .p (.mv (.t 11))⟩]
def c5v : List AIns := [⟨some 12, none, .p (.mv (.t 1))⟩,
  ⟨some 13, none, .p (.bin .quo (.t 12) (.c (.int .i64 32)))⟩,
  ⟨some 14, none, .p (.mv (.t 1))⟩,
  ⟨some 15, none, .p (.bin .rem (.t 14) (.c (.int .i64 32)))⟩,
  ⟨some 16, none, .p (.conv .u64 (.t 15))⟩,
  ⟨some 5, none, .p (.mv (.t 13))⟩,
  ⟨some 6, none, .p (.mv (.t 16))⟩]
def b7x : List AIns := [⟨some 17, none, .p (.mv (.t 5))⟩,
  ⟨some 18, none, .p (.mv (.t 0))⟩,
  ⟨some 19, none, .p (.len (.t 18))⟩,
  ⟨some 20, none, .p (.bin .geq (.t 17) (.t 19))⟩]
def c5u : List AIns := [⟨some 4, none, .p (.mv (.c (.nil)))⟩]
def c5t : List AIns := [⟨some 21, none, .p (.mv (.t 0))⟩,
  ⟨some 22, none, .p (.len (.t 21))⟩,
  ⟨some 23, none, .p (.mv (.t 5))⟩,
  ⟨some 24, none, .p (.bin .sub (.t 22) (.t 23))⟩,
  ⟨some 25, none, .e (.mksl 1 4 (.int .u32 0) (.t 24) (.t 24))⟩,
  ⟨some 7, none, .p (.mv (.t 25))⟩]
def c5s : List AIns := [⟨some 26, none, .p (.mv (.t 7))⟩,
  ⟨some 27, none, .p (.len (.t 26))⟩,
  ⟨some 28, none, .p (.mv (.c (.int .i64 0)))⟩]
def b7w : List AIns := [⟨some 29, none, .p (.bin .lss (.t 28) (.t 27))⟩]
def c5r : List AIns := [⟨some 30, none, .p (.mv (.t 28))⟩,
  ⟨some 8, none, .p (.mv (.t 30))⟩]
def c5q : List AIns := [⟨some 31, none, .p (.mv (.t 0))⟩,
  ⟨some 32, none, .p (.mv (.t 8))⟩,
  ⟨some 33, none, .p (.mv (.t 5))⟩,
  ⟨some 34, none, .p (.bin .add (.t 32) (.t 33))⟩,
  ⟨some 35, none, .p (.idxp 1 (.t 31) (.t 34))⟩,
  ⟨some 36, none, .p (.load none (.t 35))⟩,
  ⟨some 37, none, .p (.conv .u64 (.t 36))⟩,
  ⟨some 9, none, .p (.mv (.t 37))⟩]
def b3u : List AIns := [⟨some 38, none, .p (.mv (.t 8))⟩,
  ⟨some 39, none, .p (.mv (.t 5))⟩,
  ⟨some 40, none, .p (.bin .add (.t 38) (.t 39))⟩,
  ⟨some 41, none, .p (.bin .add (.t 40) (.c (.int .i64 1)))⟩,
  ⟨some 42, none, .p (.mv (.t 0))⟩,
  ⟨some 43, none, .p (.len (.t 42))⟩,
  ⟨some 44, none, .p (.bin .lss (.t 41) (.t 43))⟩]
def c2N : List AIns := [⟨some 45, none, .p (.mv (.t 9))⟩,
  ⟨some 46, none, .p (.mv (.t 0))⟩,
  ⟨some 47, none, .p (.mv (.t 8))⟩,
  ⟨some 48, none, .p (.mv (.t 5))⟩,
  ⟨some 49, none, .p (.bin .add (.t 47) (.t 48))⟩,
  ⟨some 50, none, .p (.bin .add (.t 49) (.c (.int .i64 1)))⟩,
  ⟨some 51, none, .p (.idxp 1 (.t 46) (.t 50))⟩,
  ⟨some 52, none, .p (.load none (.t 51))⟩,
  ⟨some 53, none, .p (.conv .u64 (.t 52))⟩,
  ⟨some 54, none, .p (.bin .shl (.t 53) (.c (.int .u64 32)))⟩,
  ⟨some 55, none, .p (.bin .or (.t 45) (.t 54))⟩,
  ⟨some 9, none, .p (.mv (.t 55))⟩]
def b3t : List AIns := [⟨some 56, none, .p (.mv (.t 7))⟩,
  ⟨some 57, none, .p (.mv (.t 8))⟩,
  ⟨some 58, none, .p (.mv (.t 9))⟩,
  ⟨some 59, none, .p (.mv (.t 6))⟩,
  ⟨some 60, none, .p (.bin .shr (.t 58) (.t 59))⟩,
  ⟨some 61, none, .p (.conv .u32 (.t 60))⟩,
  ⟨some 62, none, .p (.idxp 1 (.t 56) (.t 57))⟩,
  ⟨none, none, .e (.store 1 (.t 62) (.t 61))⟩]
def b3s : List AIns := [⟨some 63, none, .p (.bin .add (.t 28) (.c (.int .i64 1)))⟩,
  ⟨some 28, none, .p (.mv (.t 63))⟩]
def c5y : ACode := .seq (.region b7w false) (.seq (.cond (.t 29) (.skip) (.exit 0)) (.seq (.block 1 (.seq (.region c5r false) (.seq (.region c5q false) (.seq (.seq (.region b3u false) (.cond (.t 44) (.region c2N false) (.skip))) (.region b3t false))))) (.region b3s false)))
def b3r : List AIns := [⟨some 64, none, .p (.mv (.t 7))⟩,
  ⟨some 65, none, .call a0o [(.t 64)]⟩,
  ⟨some 4, none, .p (.mv (.t 65))⟩]
def d7x : ACode := .seq (.region c5x false) (.seq (.region c5w false) (.seq (.region c5v false) (.seq (.seq (.region b7x false) (.cond (.t 20) (.seq (.region c5u false) (.ret)) (.skip))) (.seq (.region c5t false) (.seq (.seq (.region c5s false) (.block 0 (.loop c5y))) (.seq (.region b3r false) (.ret)))))))
theorem d5u : fchk Pr (fun _ _ => false) Try.f125 = some (d7x, [.tmp 4], 66) := by kernel_rfl
theorem d5v : Pr.funcs[b7g]? = some Try.f125 := Try.func125
def b8J : List AIns := [⟨some 2, none, .e (.box 4 (.t 0))⟩,
  ⟨some 3, none, .e (.box 4 (.t 1))⟩,
  ⟨some 4, none, .e (.box 4 (.c (.agg [.bool false, .nil, .bool false, .nil])))⟩]
def b8I : List AIns := [⟨some 7, none, .p (.fldp (.t 2) 0)⟩,
  ⟨some 8, none, .p (.load (some 2) (.t 7))⟩,
  ⟨some 9, none, .p (.fldp (.t 3) 2)⟩,
  ⟨some 10, none, .p (.load (some 2) (.t 9))⟩,
  ⟨some 11, none, .call a1a [(.t 8), (.t 10)]⟩,
  ⟨some 5, none, .e (.box 2 (.c (.agg [.bool false, .nil])))⟩,
  ⟨none, none, .e (.store 2 (.t 5) (.t 11))⟩]
def b8H : List AIns := [⟨some 12, none, .p (.fldp (.t 3) 0)⟩,
  ⟨some 13, none, .p (.load (some 2) (.t 12))⟩,
  ⟨some 14, none, .p (.fldp (.t 2) 2)⟩,
  ⟨some 15, none, .p (.load (some 2) (.t 14))⟩,
  ⟨some 16, none, .call a1a [(.t 13), (.t 15)]⟩,
  ⟨some 6, none, .e (.box 2 (.c (.agg [.bool false, .nil])))⟩,
  ⟨none, none, .e (.store 2 (.t 6) (.t 16))⟩]
def b8G : List AIns := [⟨some 17, none, .p (.load (some 2) (.t 5))⟩,
  ⟨some 18, none, .p (.load (some 2) (.t 6))⟩,
  ⟨some 19, none, .call a3M [(.t 17), (.t 18)]⟩,
  ⟨some 20, none, .p (.fldp (.t 2) 2)⟩,
  ⟨some 21, none, .p (.load (some 2) (.t 20))⟩,
  ⟨some 22, none, .p (.fldp (.t 3) 2)⟩,
  ⟨some 23, none, .p (.load (some 2) (.t 22))⟩,
  ⟨some 24, none, .call a1a [(.t 21), (.t 23)]⟩,
  ⟨some 25, none, .call a2j [(.t 19), (.t 24)]⟩,
  ⟨none, none, .e (.store 4 (.t 4) (.t 25))⟩]
def d2j : ACode := .seq (.region b8J false) (.seq (.region b8I false) (.seq (.region b8H false) (.seq (.region b8G true) (.ret))))
theorem c9z : fchk Pr (fun _ _ => false) Try.f126 = some (d2j, [.cell 4 (some 4)], 26) := by kernel_rfl
theorem c9A : Pr.funcs[b3Q]? = some Try.f126 := Try.func126
def c0i : List AIns := [⟨some 4, none, .p (.mv (.c (.nil)))⟩]
def c0h : List AIns := [⟨some 5, none, .p (.mv (.c (.nil)))⟩]
def c0g : List AIns := [⟨some 6, none, .p (.mv (.c (.int .u64 0)))⟩]
def c0f : List AIns := [⟨some 7, none, .p (.mv (.c (.int .i64 0)))⟩]
def b0H : List AIns := [⟨some 8, none, .p (.mv (.t 7))⟩,
  ⟨some 9, none, .p (.mv (.t 0))⟩,
  ⟨some 10, none, .p (.len (.t 9))⟩,
  ⟨some 11, none, .p (.mv (.t 1))⟩,
  ⟨some 12, none, .p (.len (.t 11))⟩,
  ⟨some 13, none, .call a6w [(.t 10), (.t 12)]⟩,
  ⟨some 14, none, .p (.bin .lss (.t 8) (.t 13))⟩]
def c0e : List AIns := [⟨some 17, none, .p (.mv (.t 6))⟩,
  ⟨some 18, none, .p (.mv (.t 0))⟩,
  ⟨some 19, none, .p (.mv (.t 7))⟩,
  ⟨some 20, none, .call a0M [(.t 18), (.t 19)]⟩,
  ⟨some 21, none, .p (.bin .add (.t 17) (.t 20))⟩,
  ⟨some 22, none, .p (.mv (.t 1))⟩,
  ⟨some 23, none, .p (.mv (.t 7))⟩,
  ⟨some 24, none, .call a0M [(.t 22), (.t 23)]⟩,
  ⟨some 25, none, .p (.bin .add (.t 21) (.t 24))⟩,
  ⟨some 6, none, .p (.mv (.t 25))⟩]
def c0d : List AIns := [⟨some 26, none, .p (.mv (.t 5))⟩,
  ⟨some 27, none, .p (.mv (.t 6))⟩,
  ⟨some 28, none, .p (.bin .rem (.t 27) (.c (.int .u64 4294967296)))⟩,
  ⟨some 29, none, .p (.conv .u32 (.t 28))⟩,
  ⟨some 30, none, .e (.bsl 1 [(.t 29)])⟩,
  ⟨some 31, none, .e (.app 1 4 false (.t 26) (.t 30))⟩,
  ⟨some 5, none, .p (.mv (.t 31))⟩]
def c0c : List AIns := [⟨some 32, none, .p (.mv (.t 6))⟩,
  ⟨some 33, none, .p (.bin .quo (.t 32) (.c (.int .u64 4294967296)))⟩,
  ⟨some 6, none, .p (.mv (.t 33))⟩]
def c0b : List AIns := [⟨some 15, none, .p (.mv (.t 7))⟩,
  ⟨some 16, none, .p (.bin .add (.t 15) (.c (.int .i64 1)))⟩,
  ⟨some 7, none, .p (.mv (.t 16))⟩]
def c0j : ACode := .seq (.seq (.region b0H false) (.cond (.t 14) (.skip) (.exit 0))) (.seq (.block 1 (.seq (.region c0e false) (.seq (.region c0d false) (.region c0c false)))) (.region c0b false))
def b0G : List AIns := [⟨some 34, none, .p (.mv (.t 5))⟩,
  ⟨some 35, none, .p (.mv (.t 6))⟩,
  ⟨some 36, none, .p (.conv .u32 (.t 35))⟩,
  ⟨some 37, none, .e (.bsl 1 [(.t 36)])⟩,
  ⟨some 38, none, .e (.app 1 4 false (.t 34) (.t 37))⟩,
  ⟨some 5, none, .p (.mv (.t 38))⟩]
def a8A : List AIns := [⟨some 39, none, .p (.mv (.t 5))⟩,
  ⟨some 40, none, .call a0x [(.t 39)]⟩,
  ⟨some 4, none, .p (.mv (.t 40))⟩]
def d2y : ACode := .seq (.region c0i false) (.seq (.region c0h false) (.seq (.region c0g false) (.seq (.seq (.region c0f false) (.block 0 (.loop c0j))) (.seq (.region b0G false) (.seq (.region a8A false) (.ret))))))
theorem d0p : fchk Pr (fun _ _ => false) Try.f127 = some (d2y, [.tmp 4], 41) := by kernel_rfl
theorem d0q : Pr.funcs[a9h]? = some Try.f127 := Try.func127
def b9Z : List AIns := [⟨some 4, none, .p (.mv (.c (.int .i64 0)))⟩]
def b9Y : List AIns := [⟨some 8, none, .p (.mv (.t 0))⟩,
  ⟨some 9, none, .p (.len (.t 8))⟩,
  ⟨some 10, none, .p (.mv (.t 1))⟩,
  ⟨some 11, none, .p (.len (.t 10))⟩,
  ⟨some 12, none, .call a6w [(.t 9), (.t 11)]⟩,
  ⟨some 13, none, .p (.bin .sub (.t 12) (.c (.int .i64 1)))⟩,
  ⟨some 5, none, .p (.mv (.t 13))⟩]
def b0F : List AIns := [⟨some 14, none, .p (.mv (.t 5))⟩,
  ⟨some 15, none, .p (.bin .geq (.t 14) (.c (.int .i64 0)))⟩]
def b9X : List AIns := [⟨some 18, none, .p (.mv (.t 0))⟩,
  ⟨some 19, none, .p (.mv (.t 5))⟩,
  ⟨some 20, none, .call a0M [(.t 18), (.t 19)]⟩,
  ⟨some 6, none, .p (.mv (.t 20))⟩]
def b9W : List AIns := [⟨some 21, none, .p (.mv (.t 1))⟩,
  ⟨some 22, none, .p (.mv (.t 5))⟩,
  ⟨some 23, none, .call a0M [(.t 21), (.t 22)]⟩,
  ⟨some 7, none, .p (.mv (.t 23))⟩]
def b9V : List AIns := [⟨some 24, none, .p (.mv (.t 6))⟩,
  ⟨some 25, none, .p (.mv (.t 7))⟩,
  ⟨some 26, none, .p (.bin .lss (.t 24) (.t 25))⟩]
def b9U : List AIns := [⟨some 4, none, .p (.mv (.c (.int .i64 (-1))))⟩]
def b9T : List AIns := [⟨some 27, none, .p (.mv (.t 6))⟩,
  ⟨some 28, none, .p (.mv (.t 7))⟩,
  ⟨some 29, none, .p (.bin .gtr (.t 27) (.t 28))⟩]
def b9S : List AIns := [⟨some 4, none, .p (.mv (.c (.int .i64 1)))⟩]
def b9R : List AIns := [⟨some 16, none, .p (.mv (.t 5))⟩,
  ⟨some 17, none, .p (.bin .sub (.t 16) (.c (.int .i64 1)))⟩,
  ⟨some 5, none, .p (.mv (.t 17))⟩]
def c0a : ACode := .seq (.seq (.region b0F false) (.cond (.t 15) (.skip) (.exit 0))) (.seq (.block 1 (.seq (.region b9X false) (.seq (.region b9W false) (.seq (.seq (.region b9V false) (.cond (.t 26) (.seq (.region b9U false) (.ret)) (.skip))) (.seq (.region b9T false) (.cond (.t 29) (.seq (.region b9S false) (.ret)) (.skip))))))) (.region b9R false))
def a8w : List AIns := [⟨some 4, none, .p (.mv (.c (.int .i64 0)))⟩]
def d2x : ACode := .seq (.region b9Z false) (.seq (.seq (.region b9Y false) (.block 0 (.loop c0a))) (.seq (.region a8w false) (.ret)))
theorem d0m : fchk Pr (fun _ _ => false) Try.f128 = some (d2x, [.tmp 4], 30) := by kernel_rfl
theorem d0n : Pr.funcs[a2Q]? = some Try.f128 := Try.func128
def b9h : List AIns := [⟨some 4, none, .p (.mv (.c (.nil)))⟩,
  ⟨some 5, none, .p (.mv (.c (.int .i64 0)))⟩]
def b9g : List AIns := [⟨some 6, none, .p (.mv (.t 0))⟩,
  ⟨some 7, none, .p (.mv (.t 1))⟩,
  ⟨some 8, none, .call a2Q [(.t 6), (.t 7)]⟩,
  ⟨some 9, none, .p (.bin .lss (.t 8) (.c (.int .i64 0)))⟩]
def c9W : List AIns := [⟨some 4, none, .p (.mv (.c (.nil)))⟩,
  ⟨some 5, none, .p (.mv (.c (.int .i64 10)))⟩]
def b9f : List AIns := [⟨some 10, none, .p (.mv (.t 0))⟩,
  ⟨some 11, none, .p (.mv (.t 1))⟩,
  ⟨some 12, none, .call a2l [(.t 10), (.t 11)]⟩,
  ⟨some 4, none, .p (.mv (.t 12))⟩,
  ⟨some 5, none, .p (.mv (.c (.int .i64 0)))⟩]
def d2s : ACode := .seq (.region b9h false) (.seq (.seq (.region b9g false) (.cond (.t 9) (.seq (.region c9W false) (.ret)) (.skip))) (.seq (.region b9f false) (.ret)))
theorem c9X : fchk Pr (fun _ _ => false) Try.f129 = some (d2s, [.tmp 4, .tmp 5], 13) := by kernel_rfl
theorem c9Y : Pr.funcs[a9f]? = some Try.f129 := Try.func129
def b2G : List AIns := [⟨some 4, none, .p (.mv (.c (.nil)))⟩,
  ⟨some 5, none, .p (.mv (.c (.int .u64 0)))⟩]
def b2F : List AIns := [⟨some 9, none, .p (.mv (.t 0))⟩,
  ⟨some 10, none, .p (.len (.t 9))⟩,
  ⟨some 11, none, .e (.mksl 1 4 (.int .u32 0) (.t 10) (.t 10))⟩,
  ⟨some 6, none, .p (.mv (.t 11))⟩]
def b2E : List AIns := [⟨some 7, none, .p (.mv (.c (.int .u64 0)))⟩]
def b2D : List AIns := [⟨some 12, none, .p (.mv (.t 0))⟩,
  ⟨some 13, none, .p (.len (.t 12))⟩,
  ⟨some 14, none, .p (.bin .sub (.t 13) (.c (.int .i64 1)))⟩,
  ⟨some 8, none, .p (.mv (.t 14))⟩]
def a6I : List AIns := [⟨some 15, none, .p (.mv (.t 8))⟩,
  ⟨some 16, none, .p (.bin .geq (.t 15) (.c (.int .i64 0)))⟩]
def b2C : List AIns := [⟨some 19, none, .p (.mv (.t 7))⟩,
  ⟨some 20, none, .p (.bin .mul (.t 19) (.c (.int .u64 4294967296)))⟩,
  ⟨some 21, none, .p (.mv (.t 0))⟩,
  ⟨some 22, none, .p (.mv (.t 8))⟩,
  ⟨some 23, none, .p (.idxp 1 (.t 21) (.t 22))⟩,
  ⟨some 24, none, .p (.load none (.t 23))⟩,
  ⟨some 25, none, .p (.conv .u64 (.t 24))⟩,
  ⟨some 26, none, .p (.bin .add (.t 20) (.t 25))⟩,
  ⟨some 7, none, .p (.mv (.t 26))⟩]
def b2B : List AIns := [⟨some 27, none, .p (.mv (.t 6))⟩,
  ⟨some 28, none, .p (.mv (.t 8))⟩,
  ⟨some 29, none, .p (.mv (.t 7))⟩,
  ⟨some 30, none, .p (.mv (.t 1))⟩,
  ⟨some 31, none, .p (.bin .quo (.t 29) (.t 30))⟩,
  ⟨some 32, none, .p (.conv .u32 (.t 31))⟩,
  ⟨some 33, none, .p (.idxp 1 (.t 27) (.t 28))⟩,
  ⟨none, none, .e (.store 1 (.t 33) (.t 32))⟩]
def b2A : List AIns := [⟨some 34, none, .p (.mv (.t 7))⟩,
  ⟨some 35, none, .p (.mv (.t 1))⟩,
  ⟨some 36, none, .p (.bin .rem (.t 34) (.t 35))⟩,
  ⟨some 7, none, .p (.mv (.t 36))⟩]
def b2z : List AIns := [⟨some 17, none, .p (.mv (.t 8))⟩,
  ⟨some 18, none, .p (.bin .sub (.t 17) (.c (.int .i64 1)))⟩,
  ⟨some 8, none, .p (.mv (.t 18))⟩]
def c4J : ACode := .seq (.seq (.region a6I false) (.cond (.t 16) (.skip) (.exit 0))) (.seq (.block 1 (.seq (.region b2C false) (.seq (.region b2B false) (.region b2A false)))) (.region b2z false))
def b2y : List AIns := [⟨some 37, none, .p (.mv (.t 6))⟩,
  ⟨some 38, none, .call a0x [(.t 37)]⟩,
  ⟨some 39, none, .p (.mv (.t 7))⟩,
  ⟨some 4, none, .p (.mv (.t 38))⟩,
  ⟨some 5, none, .p (.mv (.t 39))⟩]
def c7C : ACode := .seq (.region b2G false) (.seq (.region b2F false) (.seq (.region b2E false) (.seq (.seq (.region b2D false) (.block 0 (.loop c4J))) (.seq (.region b2y false) (.ret)))))
theorem c4I : fchk Pr (fun _ _ => false) Try.f130 = some (c7C, [.tmp 4, .tmp 5], 40) := by kernel_rfl
theorem c4K : Pr.funcs[a9e]? = some Try.f130 := Try.func130
def b9e : List AIns := [⟨some 2, none, .p (.mv (.c (.nil)))⟩]
def b9d : List AIns := [⟨some 3, none, .p (.mv (.c (.nil)))⟩]
def b9c : List AIns := [⟨some 4, none, .p (.mv (.c (.int .i64 0)))⟩]
def b9b : List AIns := [⟨some 5, none, .p (.mv (.t 4))⟩,
  ⟨some 6, none, .p (.mv (.t 0))⟩,
  ⟨some 7, none, .p (.bin .quo (.t 6) (.c (.int .i64 32)))⟩,
  ⟨some 8, none, .p (.bin .lss (.t 5) (.t 7))⟩]
def c9S : List AIns := [⟨some 11, none, .p (.mv (.t 3))⟩,
  ⟨some 12, none, .e (.bsl 1 [(.c (.int .u32 0))])⟩,
  ⟨some 13, none, .e (.app 1 4 false (.t 11) (.t 12))⟩,
  ⟨some 3, none, .p (.mv (.t 13))⟩]
def c9R : List AIns := [⟨some 9, none, .p (.mv (.t 4))⟩,
  ⟨some 10, none, .p (.bin .add (.t 9) (.c (.int .i64 1)))⟩,
  ⟨some 4, none, .p (.mv (.t 10))⟩]
def c9U : ACode := .seq (.seq (.region b9b false) (.cond (.t 8) (.skip) (.exit 0))) (.seq (.block 1 (.region c9S false)) (.region c9R false))
def b9a : List AIns := [⟨some 14, none, .p (.mv (.t 3))⟩,
  ⟨some 15, none, .p (.mv (.t 0))⟩,
  ⟨some 16, none, .p (.bin .rem (.t 15) (.c (.int .i64 32)))⟩,
  ⟨some 17, none, .p (.conv .u64 (.t 16))⟩,
  ⟨some 18, none, .p (.bin .shl (.c (.int .u32 1)) (.t 17))⟩,
  ⟨some 19, none, .e (.bsl 1 [(.t 18)])⟩,
  ⟨some 20, none, .e (.app 1 4 false (.t 14) (.t 19))⟩,
  ⟨some 2, none, .p (.mv (.t 20))⟩]
def d2r : ACode := .seq (.region b9e false) (.seq (.region b9d false) (.seq (.seq (.region b9c false) (.block 0 (.loop c9U))) (.seq (.region b9a false) (.ret))))
theorem c9T : fchk Pr (fun _ _ => false) Try.f131 = some (d2r, [.tmp 2], 21) := by kernel_rfl
theorem c9V : Pr.funcs[b3S]? = some Try.f131 := Try.func131
def b5Z : List AIns := [⟨some 2, none, .p (.mv (.c (.int .i64 0)))⟩]
def b5Y : List AIns := [⟨some 6, none, .p (.mv (.t 0))⟩,
  ⟨some 7, none, .p (.len (.t 6))⟩,
  ⟨some 8, none, .p (.bin .sub (.t 7) (.c (.int .i64 1)))⟩,
  ⟨some 3, none, .p (.mv (.t 8))⟩]
def a8z : List AIns := [⟨some 9, none, .p (.mv (.t 3))⟩,
  ⟨some 10, none, .p (.bin .geq (.t 9) (.c (.int .i64 0)))⟩]
def b5X : List AIns := [⟨some 13, none, .p (.mv (.t 0))⟩,
  ⟨some 14, none, .p (.mv (.t 3))⟩,
  ⟨some 15, none, .p (.idxp 1 (.t 13) (.t 14))⟩,
  ⟨some 16, none, .p (.load none (.t 15))⟩,
  ⟨some 17, none, .p (.bin .neq (.t 16) (.c (.int .u32 0)))⟩]
def b5W : List AIns := [⟨some 18, none, .p (.mv (.t 3))⟩,
  ⟨some 19, none, .p (.bin .mul (.c (.int .i64 32)) (.t 18))⟩,
  ⟨some 4, none, .p (.mv (.t 19))⟩]
def b5V : List AIns := [⟨some 20, none, .p (.mv (.t 0))⟩,
  ⟨some 21, none, .p (.mv (.t 3))⟩,
  ⟨some 22, none, .p (.idxp 1 (.t 20) (.t 21))⟩,
  ⟨some 23, none, .p (.load none (.t 22))⟩,
  ⟨some 5, none, .p (.mv (.t 23))⟩]
def a8y : List AIns := [⟨some 24, none, .p (.mv (.t 5))⟩,
  ⟨some 25, none, .p (.bin .gtr (.t 24) (.c (.int .u32 0)))⟩]
def b5U : List AIns := [⟨some 28, none, .p (.mv (.t 4))⟩,
  ⟨some 29, none, .p (.bin .add (.t 28) (.c (.int .i64 1)))⟩,
  ⟨some 4, none, .p (.mv (.t 29))⟩]
def b5T : List AIns := [⟨some 26, none, .p (.mv (.t 5))⟩,
  ⟨some 27, none, .p (.bin .quo (.t 26) (.c (.int .u32 2)))⟩,
  ⟨some 5, none, .p (.mv (.t 27))⟩]
def b6a : ACode := .seq (.seq (.region a8y false) (.cond (.t 25) (.skip) (.exit 2))) (.seq (.block 3 (.region b5U false)) (.region b5T false))
def a8x : List AIns := [⟨some 30, none, .p (.mv (.t 4))⟩,
  ⟨some 2, none, .p (.mv (.t 30))⟩]
def b2I : List AIns := [⟨some 11, none, .p (.mv (.t 3))⟩,
  ⟨some 12, none, .p (.bin .sub (.t 11) (.c (.int .i64 1)))⟩,
  ⟨some 3, none, .p (.mv (.t 12))⟩]
def b6b : ACode := .seq (.seq (.region a8z false) (.cond (.t 10) (.skip) (.exit 0))) (.seq (.block 1 (.seq (.region b5X false) (.cond (.t 17) (.seq (.region b5W false) (.seq (.seq (.region b5V false) (.block 2 (.loop b6a))) (.seq (.region a8x false) (.ret)))) (.skip)))) (.region b2I false))
def a6L : List AIns := [⟨some 2, none, .p (.mv (.c (.int .i64 0)))⟩]
def d0o : ACode := .seq (.region b5Z false) (.seq (.seq (.region b5Y false) (.block 0 (.loop b6b))) (.seq (.region a6L false) (.ret)))
theorem c7L : fchk Pr (fun _ _ => false) Try.f132 = some (d0o, [.tmp 2], 31) := by kernel_rfl
theorem c7M : Pr.funcs[a2m]? = some Try.f132 := Try.func132
def b5o : List AIns := [⟨some 4, none, .p (.mv (.c (.int .u64 0)))⟩]
def b5n : List AIns := [⟨some 5, none, .p (.mv (.t 1))⟩,
  ⟨some 6, none, .p (.mv (.t 0))⟩,
  ⟨some 7, none, .p (.len (.t 6))⟩,
  ⟨some 8, none, .p (.bin .lss (.t 5) (.t 7))⟩]
def b5m : List AIns := [⟨some 9, none, .p (.mv (.t 0))⟩,
  ⟨some 10, none, .p (.mv (.t 1))⟩,
  ⟨some 11, none, .p (.idxp 1 (.t 9) (.t 10))⟩,
  ⟨some 12, none, .p (.load none (.t 11))⟩,
  ⟨some 13, none, .p (.conv .u64 (.t 12))⟩,
  ⟨some 4, none, .p (.mv (.t 13))⟩]
def b5l : List AIns := [⟨some 4, none, .p (.mv (.c (.int .u64 0)))⟩]
def c9P : ACode := .seq (.region b5o false) (.seq (.seq (.region b5n false) (.cond (.t 8) (.seq (.region b5m false) (.ret)) (.skip))) (.seq (.region b5l false) (.ret)))
theorem c7F : fchk Pr (fun _ _ => false) Try.f133 = some (c9P, [.tmp 4], 14) := by kernel_rfl
theorem c7G : Pr.funcs[a0M]? = some Try.f133 := Try.func133
def b5x : List AIns := [⟨some 4, none, .p (.mv (.c (.nil)))⟩]
def b5w : List AIns := [⟨some 5, none, .p (.mv (.c (.nil)))⟩]
def b5v : List AIns := [⟨some 6, none, .p (.mv (.c (.int .u64 0)))⟩]
def b5u : List AIns := [⟨some 7, none, .p (.mv (.c (.int .i64 0)))⟩]
def a8k : List AIns := [⟨some 10, none, .p (.mv (.t 7))⟩,
  ⟨some 11, none, .p (.mv (.t 0))⟩,
  ⟨some 12, none, .p (.len (.t 11))⟩,
  ⟨some 13, none, .p (.bin .lss (.t 10) (.t 12))⟩]
def b5t : List AIns := [⟨some 16, none, .p (.mv (.t 0))⟩,
  ⟨some 17, none, .p (.mv (.t 7))⟩,
  ⟨some 18, none, .call a0M [(.t 16), (.t 17)]⟩,
  ⟨some 8, none, .p (.mv (.t 18))⟩]
def b5s : List AIns := [⟨some 19, none, .p (.mv (.t 1))⟩,
  ⟨some 20, none, .p (.mv (.t 7))⟩,
  ⟨some 21, none, .call a0M [(.t 19), (.t 20)]⟩,
  ⟨some 22, none, .p (.mv (.t 6))⟩,
  ⟨some 23, none, .p (.bin .add (.t 21) (.t 22))⟩,
  ⟨some 9, none, .p (.mv (.t 23))⟩]
def b5r : List AIns := [⟨some 6, none, .p (.mv (.c (.int .u64 0)))⟩]
def b5q : List AIns := [⟨some 24, none, .p (.mv (.t 8))⟩,
  ⟨some 25, none, .p (.mv (.t 9))⟩,
  ⟨some 26, none, .p (.bin .lss (.t 24) (.t 25))⟩]
def b5p : List AIns := [⟨some 27, none, .p (.mv (.t 8))⟩,
  ⟨some 28, none, .p (.bin .add (.t 27) (.c (.int .u64 4294967296)))⟩,
  ⟨some 8, none, .p (.mv (.t 28))⟩]
def b2H : List AIns := [⟨some 6, none, .p (.mv (.c (.int .u64 1)))⟩]
def a6K : List AIns := [⟨some 29, none, .p (.mv (.t 5))⟩,
  ⟨some 30, none, .p (.mv (.t 8))⟩,
  ⟨some 31, none, .p (.mv (.t 9))⟩,
  ⟨some 32, none, .p (.bin .sub (.t 30) (.t 31))⟩,
  ⟨some 33, none, .p (.conv .u32 (.t 32))⟩,
  ⟨some 34, none, .e (.bsl 1 [(.t 33)])⟩,
  ⟨some 35, none, .e (.app 1 4 false (.t 29) (.t 34))⟩,
  ⟨some 5, none, .p (.mv (.t 35))⟩]
def a6J : List AIns := [⟨some 14, none, .p (.mv (.t 7))⟩,
  ⟨some 15, none, .p (.bin .add (.t 14) (.c (.int .i64 1)))⟩,
  ⟨some 7, none, .p (.mv (.t 15))⟩]
def a8l : ACode := .seq (.seq (.region a8k false) (.cond (.t 13) (.skip) (.exit 0))) (.seq (.block 1 (.seq (.region b5t false) (.seq (.region b5s false) (.seq (.region b5r false) (.seq (.seq (.region b5q false) (.cond (.t 26) (.seq (.region b5p false) (.region b2H false)) (.skip))) (.region a6K false)))))) (.region a6J false))
def a3T : List AIns := [⟨some 36, none, .p (.mv (.t 5))⟩,
  ⟨some 37, none, .call a0x [(.t 36)]⟩,
  ⟨some 4, none, .p (.mv (.t 37))⟩]
def c9Q : ACode := .seq (.region b5x false) (.seq (.region b5w false) (.seq (.region b5v false) (.seq (.seq (.region b5u false) (.block 0 (.loop a8l))) (.seq (.region a3T false) (.ret)))))
theorem c7H : fchk Pr (fun _ _ => false) Try.f134 = some (c9Q, [.tmp 4], 38) := by kernel_rfl
theorem c7I : Pr.funcs[a2l]? = some Try.f134 := Try.func134
def b9p : List AIns := [⟨some 4, none, .p (.mv (.c (.nil)))⟩,
  ⟨some 5, none, .p (.mv (.c (.int .i64 0)))⟩]
def b9o : List AIns := [⟨some 9, none, .p (.mv (.t 1))⟩,
  ⟨some 10, none, .p (.bin .lss (.t 9) (.c (.int .i64 0)))⟩]
def c9Z : List AIns := [⟨some 4, none, .p (.mv (.c (.nil)))⟩,
  ⟨some 5, none, .p (.mv (.c (.int .i64 1)))⟩]
def b9n : List AIns := [⟨some 11, none, .p (.mv (.t 1))⟩,
  ⟨some 12, none, .p (.mv (.t 0))⟩,
  ⟨some 13, none, .call a2m [(.t 12)]⟩,
  ⟨some 14, none, .p (.bin .geq (.t 11) (.t 13))⟩]
def b9m : List AIns := [⟨some 4, none, .p (.mv (.c (.nil)))⟩,
  ⟨some 5, none, .p (.mv (.c (.int .i64 0)))⟩]
def b9l : List AIns := [⟨some 6, none, .p (.mv (.c (.nil)))⟩]
def b9k : List AIns := [⟨some 15, none, .p (.mv (.t 1))⟩,
  ⟨some 16, none, .p (.bin .quo (.t 15) (.c (.int .i64 32)))⟩,
  ⟨some 7, none, .p (.mv (.t 16))⟩]
def b0A : List AIns := [⟨some 17, none, .p (.mv (.t 7))⟩,
  ⟨some 18, none, .p (.mv (.t 0))⟩,
  ⟨some 19, none, .p (.len (.t 18))⟩,
  ⟨some 20, none, .p (.bin .lss (.t 17) (.t 19))⟩]
def b9j : List AIns := [⟨some 23, none, .p (.mv (.t 0))⟩,
  ⟨some 24, none, .p (.mv (.t 7))⟩,
  ⟨some 25, none, .call a0M [(.t 23), (.t 24)]⟩,
  ⟨some 26, none, .p (.mv (.t 0))⟩,
  ⟨some 27, none, .p (.mv (.t 7))⟩,
  ⟨some 28, none, .p (.bin .add (.t 27) (.c (.int .i64 1)))⟩,
  ⟨some 29, none, .call a0M [(.t 26), (.t 28)]⟩,
  ⟨some 30, none, .p (.bin .mul (.t 29) (.c (.int .u64 4294967296)))⟩,
  ⟨some 31, none, .p (.bin .add (.t 25) (.t 30))⟩,
  ⟨some 8, none, .p (.mv (.t 31))⟩]
def b9i : List AIns := [⟨some 32, none, .p (.mv (.t 6))⟩,
  ⟨some 33, none, .p (.mv (.t 8))⟩,
  ⟨some 34, none, .p (.mv (.t 1))⟩,
  ⟨some 35, none, .p (.bin .rem (.t 34) (.c (.int .i64 32)))⟩,
  ⟨some 36, none, .p (.conv .u64 (.t 35))⟩,
  ⟨some 37, none, .p (.bin .shr (.t 33) (.t 36))⟩,
  ⟨some 38, none, .p (.bin .rem (.t 37) (.c (.int .u64 4294967296)))⟩,
  ⟨some 39, none, .p (.conv .u32 (.t 38))⟩,
  ⟨some 40, none, .e (.bsl 1 [(.t 39)])⟩,
  ⟨some 41, none, .e (.app 1 4 false (.t 32) (.t 40))⟩,
  ⟨some 6, none, .p (.mv (.t 41))⟩]
def b5z : List AIns := [⟨some 21, none, .p (.mv (.t 7))⟩,
  ⟨some 22, none, .p (.bin .add (.t 21) (.c (.int .i64 1)))⟩,
  ⟨some 7, none, .p (.mv (.t 22))⟩]
def d0b : ACode := .seq (.seq (.region b0A false) (.cond (.t 20) (.skip) (.exit 0))) (.seq (.block 1 (.seq (.region b9j false) (.region b9i false))) (.region b5z false))
def b5y : List AIns := [⟨some 42, none, .p (.mv (.t 6))⟩,
  ⟨some 43, none, .call a0x [(.t 42)]⟩,
  ⟨some 4, none, .p (.mv (.t 43))⟩,
  ⟨some 5, none, .p (.mv (.c (.int .i64 0)))⟩]
def d2t : ACode := .seq (.region b9p false) (.seq (.seq (.region b9o false) (.cond (.t 10) (.seq (.region c9Z false) (.ret)) (.skip))) (.seq (.seq (.region b9n false) (.cond (.t 14) (.seq (.region b9m false) (.ret)) (.skip))) (.seq (.region b9l false) (.seq (.seq (.region b9k false) (.block 0 (.loop d0b))) (.seq (.region b5y false) (.ret))))))
theorem d0a : fchk Pr (fun _ _ => false) Try.f135 = some (d2t, [.tmp 4, .tmp 5], 44) := by kernel_rfl
theorem d0c : Pr.funcs[b3T]? = some Try.f135 := Try.func135
def c2Z : List AIns := [⟨some 4, none, .p (.mv (.c (.nil)))⟩]
def c2Y : List AIns := [⟨some 9, none, .p (.mv (.t 0))⟩,
  ⟨some 10, none, .p (.len (.t 9))⟩,
  ⟨some 11, none, .e (.mksl 1 4 (.int .u32 0) (.t 10) (.t 10))⟩,
  ⟨some 5, none, .p (.mv (.t 11))⟩]
def c2X : List AIns := [⟨some 6, none, .p (.mv (.c (.int .u64 0)))⟩]
def c2W : List AIns := [⟨some 12, none, .p (.mv (.t 0))⟩,
  ⟨some 13, none, .p (.len (.t 12))⟩,
  ⟨some 14, none, .p (.mv (.c (.int .i64 0)))⟩]
def b3w : List AIns := [⟨some 15, none, .p (.bin .lss (.t 14) (.t 13))⟩]
def c2V : List AIns := [⟨some 16, none, .p (.mv (.t 14))⟩,
  ⟨some 7, none, .p (.mv (.t 16))⟩]
def c2U : List AIns := [⟨some 17, none, .p (.mv (.t 0))⟩,
  ⟨some 18, none, .p (.mv (.t 7))⟩,
  ⟨some 19, none, .p (.idxp 1 (.t 17) (.t 18))⟩,
  ⟨some 20, none, .p (.load none (.t 19))⟩,
  ⟨some 21, none, .p (.conv .u64 (.t 20))⟩,
  ⟨some 22, none, .p (.mv (.t 6))⟩,
  ⟨some 23, none, .p (.bin .sub (.t 21) (.t 22))⟩,
  ⟨some 8, none, .p (.mv (.t 23))⟩]
def c2T : List AIns := [⟨some 24, none, .p (.mv (.t 7))⟩,
  ⟨some 25, none, .p (.mv (.t 1))⟩,
  ⟨some 26, none, .p (.len (.t 25))⟩,
  ⟨some 27, none, .p (.bin .lss (.t 24) (.t 26))⟩]
def c2S : List AIns := [⟨some 28, none, .p (.mv (.t 8))⟩,
  ⟨some 29, none, .p (.mv (.t 1))⟩,
  ⟨some 30, none, .p (.mv (.t 7))⟩,
  ⟨some 31, none, .p (.idxp 1 (.t 29) (.t 30))⟩,
  ⟨some 32, none, .p (.load none (.t 31))⟩,
  ⟨some 33, none, .p (.conv .u64 (.t 32))⟩,
  ⟨some 34, none, .p (.bin .sub (.t 28) (.t 33))⟩,
  ⟨some 8, none, .p (.mv (.t 34))⟩]
def b3v : List AIns := [⟨some 35, none, .p (.mv (.t 5))⟩,
  ⟨some 36, none, .p (.mv (.t 7))⟩,
  ⟨some 37, none, .p (.mv (.t 8))⟩,
  ⟨some 38, none, .p (.conv .u32 (.t 37))⟩,
  ⟨some 39, none, .p (.idxp 1 (.t 35) (.t 36))⟩,
  ⟨none, none, .e (.store 1 (.t 39) (.t 38))⟩]
def b0N : List AIns := [⟨some 40, none, .p (.mv (.t 8))⟩,
  ⟨some 41, none, .p (.bin .shr (.t 40) (.c (.int .u64 63)))⟩,
  ⟨some 6, none, .p (.mv (.t 41))⟩]
def b0M : List AIns := [⟨some 42, none, .p (.bin .add (.t 14) (.c (.int .i64 1)))⟩,
  ⟨some 14, none, .p (.mv (.t 42))⟩]
def b3x : ACode := .seq (.region b3w false) (.seq (.cond (.t 15) (.skip) (.exit 0)) (.seq (.block 1 (.seq (.region c2V false) (.seq (.region c2U false) (.seq (.seq (.region c2T false) (.cond (.t 27) (.region c2S false) (.skip))) (.seq (.region b3v false) (.region b0N false)))))) (.region b0M false)))
def a6b : List AIns := [⟨some 43, none, .p (.mv (.t 5))⟩,
  ⟨some 44, none, .call a0o [(.t 43)]⟩,
  ⟨some 4, none, .p (.mv (.t 44))⟩]
def d5A : ACode := .seq (.region c2Z false) (.seq (.region c2Y false) (.seq (.region c2X false) (.seq (.seq (.region c2W false) (.block 0 (.loop b3x))) (.seq (.region a6b false) (.ret)))))
theorem d2E : fchk Pr (fun _ _ => false) Try.f136 = some (d5A, [.tmp 4], 45) := by kernel_rfl
theorem d2F : Pr.funcs[a7N]? = some Try.f136 := Try.func136
def b5k : List AIns := [⟨some 4, none, .p (.mv (.c (.int .i64 0)))⟩]
def b5j : List AIns := [⟨some 5, none, .p (.mv (.t 0))⟩,
  ⟨some 6, none, .p (.mv (.t 1))⟩,
  ⟨some 7, none, .p (.bin .gtr (.t 5) (.t 6))⟩]
def b5i : List AIns := [⟨some 8, none, .p (.mv (.t 0))⟩,
  ⟨some 4, none, .p (.mv (.t 8))⟩]
def b5h : List AIns := [⟨some 9, none, .p (.mv (.t 1))⟩,
  ⟨some 4, none, .p (.mv (.t 9))⟩]
def c9O : ACode := .seq (.region b5k false) (.seq (.seq (.region b5j false) (.cond (.t 7) (.seq (.region b5i false) (.ret)) (.skip))) (.seq (.region b5h false) (.ret)))
theorem c7D : fchk Pr (fun _ _ => false) Try.f137 = some (c9O, [.tmp 4], 10) := by kernel_rfl
theorem c7E : Pr.funcs[a6w]? = some Try.f137 := Try.func137
end Go.Abs

/- Part 4 of the proof of ElimSolves: Code0, Code1. -/
import Derived.Test.YtkljokmnimblnaaElimSolvesK3
set_option maxRecDepth 100000
noncomputable section
namespace Go.Abs
open Go.Proofs
def a6m : List AIns := [⟨some 4, none, .p (.mv (.c (.bool false)))⟩]
def a6l : List AIns := [⟨some 12, none, .p (.mv (.t 0))⟩,
  ⟨some 13, none, .call a7i [(.t 12)]⟩,
  ⟨some 14, none, .p (.mv (.t 1))⟩,
  ⟨some 15, none, .call a4Y [(.t 14)]⟩,
  ⟨some 16, none, .call a0M [(.t 13), (.t 15)]⟩,
  ⟨some 11, none, .p (.mv (.t 16))⟩,
  ⟨some 17, none, .p (.ext (.t 11) 0)⟩,
  ⟨some 18, none, .p (.ext (.t 11) 1)⟩,
  ⟨some 19, none, .p (.ext (.t 11) 2)⟩,
  ⟨some 6, none, .e (.box 2 (.c (.agg [.bool false, .nil])))⟩,
  ⟨some 5, none, .p (.mv (.t 17))⟩,
  ⟨none, none, .e (.store 2 (.t 6) (.t 18))⟩,
  ⟨some 7, none, .p (.mv (.t 19))⟩]
def a6k : List AIns := [⟨some 21, none, .p (.mv (.t 0))⟩,
  ⟨some 22, none, .p (.mv (.t 1))⟩,
  ⟨some 23, none, .call a1s [(.t 21), (.t 22)]⟩,
  ⟨some 20, none, .p (.mv (.t 23))⟩,
  ⟨some 24, none, .p (.ext (.t 20) 0)⟩,
  ⟨some 25, none, .p (.ext (.t 20) 1)⟩,
  ⟨some 26, none, .p (.ext (.t 20) 2)⟩,
  ⟨some 9, none, .e (.box 2 (.c (.agg [.bool false, .nil])))⟩,
  ⟨some 8, none, .p (.mv (.t 24))⟩,
  ⟨none, none, .e (.store 2 (.t 9) (.t 25))⟩,
  ⟨some 10, none, .p (.mv (.t 26))⟩]
def a6j : List AIns := [⟨some 27, none, .p (.mv (.t 7))⟩,
  ⟨some 28, none, .p (.mv (.t 10))⟩,
  ⟨some 29, none, .p (.bin .eql (.t 27) (.t 28))⟩,
  ⟨some 30, none, .p (.mv (.t 29))⟩,
  ⟨some 31, some (30, true), .p (.mv (.t 5))⟩,
  ⟨some 32, some (30, true), .p (.mv (.t 8))⟩,
  ⟨some 33, some (30, true), .call b5b [(.t 31), (.t 32)]⟩,
  ⟨some 34, none, .p (.pick (.t 30) (.t 33) (.c (.bool false)))⟩,
  ⟨some 35, none, .p (.mv (.t 34))⟩,
  ⟨some 36, some (35, true), .p (.load (some 2) (.t 6))⟩,
  ⟨some 37, some (35, true), .p (.load (some 2) (.t 9))⟩,
  ⟨some 38, some (35, true), .call a8v [(.t 36), (.t 37)]⟩,
  ⟨some 39, none, .p (.pick (.t 35) (.t 38) (.c (.bool false)))⟩,
  ⟨some 4, none, .p (.mv (.t 39))⟩]
def b7C : ACode := .seq (.region a6m false) (.seq (.region a6l false) (.seq (.region a6k false) (.seq (.region a6j false) (.ret))))
theorem b4J : fchk Pr (fun _ _ => false) Try.f11 = some (b7C, [.tmp 4], 40) := by kernel_rfl
theorem b4K : Pr.funcs[a7j]? = some Try.f11 := Try.func11
def c2A : List AIns := [⟨some 2, none, .p (.mv (.c (.int .i64 0)))⟩,
  ⟨some 3, none, .p (.mv (.c (.int .i64 0)))⟩]
def c2z : List AIns := [⟨some 12, none, .p (.mv (.t 0))⟩,
  ⟨some 13, none, .call a7l [(.t 12)]⟩,
  ⟨some 11, none, .p (.mv (.t 13))⟩,
  ⟨some 14, none, .p (.ext (.t 11) 0)⟩,
  ⟨some 15, none, .p (.ext (.t 11) 1)⟩,
  ⟨some 16, none, .p (.ext (.t 11) 2)⟩,
  ⟨some 4, none, .p (.mv (.t 14))⟩,
  ⟨some 5, none, .p (.mv (.t 15))⟩,
  ⟨some 6, none, .p (.mv (.t 16))⟩]
def c2y : List AIns := [⟨some 17, none, .p (.mv (.t 6))⟩,
  ⟨some 18, none, .p (.bin .neq (.t 17) (.c (.int .i64 0)))⟩]
def d3d : List AIns := [⟨some 19, none, .p (.mv (.t 6))⟩,
  ⟨some 2, none, .p (.mv (.c (.int .i64 0)))⟩,
  ⟨some 3, none, .p (.mv (.t 19))⟩]
def c2x : List AIns := [⟨some 21, none, .p (.mv (.t 0))⟩,
  ⟨some 22, none, .p (.mv (.t 5))⟩,
  ⟨some 23, none, .call a3a [(.t 21), (.t 22)]⟩,
  ⟨some 20, none, .p (.mv (.t 23))⟩,
  ⟨some 24, none, .p (.ext (.t 20) 0)⟩,
  ⟨some 25, none, .p (.ext (.t 20) 1)⟩,
  ⟨some 26, none, .p (.ext (.t 20) 2)⟩,
  ⟨some 27, none, .p (.ext (.t 20) 3)⟩,
  ⟨some 9, none, .e (.box 2 (.c (.agg [.bool false, .nil])))⟩,
  ⟨some 7, none, .p (.mv (.t 24))⟩,
  ⟨some 8, none, .p (.mv (.t 25))⟩,
  ⟨none, none, .e (.store 2 (.t 9) (.t 26))⟩,
  ⟨some 10, none, .p (.mv (.t 27))⟩]
def c2w : List AIns := [⟨some 28, none, .p (.mv (.t 8))⟩,
  ⟨some 29, none, .p (.len (.t 28))⟩,
  ⟨some 2, none, .p (.mv (.t 29))⟩,
  ⟨some 3, none, .p (.mv (.c (.int .i64 0)))⟩]
def d5l : ACode := .seq (.region c2A false) (.seq (.region c2z false) (.seq (.seq (.region c2y false) (.cond (.t 18) (.seq (.region d3d false) (.ret)) (.skip))) (.seq (.region c2x false) (.seq (.region c2w false) (.ret)))))
theorem d3e : fchk Pr (fun _ _ => false) Try.f14 = some (d5l, [.tmp 2, .tmp 3], 30) := by kernel_rfl
theorem d3f : Pr.funcs[b5c]? = some Try.f14 := Try.func14
def b7A : List AIns := [⟨some 2, none, .p (.mv (.c (.nil)))⟩]
def b7z : List AIns := [⟨some 3, none, .p (.mv (.c (.nil)))⟩]
def b7y : List AIns := [⟨some 4, none, .p (.mv (.c (.int .i64 0)))⟩]
def a9u : List AIns := [⟨some 5, none, .p (.mv (.t 4))⟩,
  ⟨some 6, none, .p (.mv (.t 0))⟩,
  ⟨some 7, none, .p (.len (.t 6))⟩,
  ⟨some 8, none, .p (.bin .lss (.t 5) (.t 7))⟩]
def b7x : List AIns := [⟨some 11, none, .p (.mv (.t 3))⟩,
  ⟨some 12, none, .p (.mv (.t 0))⟩,
  ⟨some 13, none, .p (.mv (.t 4))⟩,
  ⟨some 14, none, .p (.idxp 1 (.t 12) (.t 13))⟩,
  ⟨some 15, none, .p (.load none (.t 14))⟩,
  ⟨some 16, none, .call a4Y [(.t 15)]⟩,
  ⟨some 17, none, .e (.bsl 1 [(.t 16)])⟩,
  ⟨some 18, none, .e (.app 1 24 false (.t 11) (.t 17))⟩,
  ⟨some 3, none, .p (.mv (.t 18))⟩]
def b7w : List AIns := [⟨some 9, none, .p (.mv (.t 4))⟩,
  ⟨some 10, none, .p (.bin .add (.t 9) (.c (.int .i64 1)))⟩,
  ⟨some 4, none, .p (.mv (.t 10))⟩]
def b7B : ACode := .seq (.seq (.region a9u false) (.cond (.t 8) (.skip) (.exit 0))) (.seq (.block 1 (.region b7x false)) (.region b7w false))
def a9t : List AIns := [⟨some 19, none, .p (.mv (.t 3))⟩,
  ⟨some 2, none, .p (.mv (.t 19))⟩]
def d2F : ACode := .seq (.region b7A false) (.seq (.region b7z false) (.seq (.seq (.region b7y false) (.block 0 (.loop b7B))) (.seq (.region a9t false) (.ret))))
theorem c9N : fchk Pr (fun _ _ => false) Try.f15 = some (d2F, [.tmp 2], 20) := by kernel_rfl
theorem c9O : Pr.funcs[a7i]? = some Try.f15 := Try.func15
def b5M : List AIns := [⟨some 2, none, .p (.mv (.c (.int .i64 0)))⟩,
  ⟨some 3, none, .p (.mv (.c (.int .i64 0)))⟩]
def b5L : List AIns := [⟨some 8, none, .p (.mv (.t 0))⟩,
  ⟨some 9, none, .call a5I [(.t 8)]⟩,
  ⟨some 4, none, .p (.mv (.t 9))⟩]
def b5K : List AIns := [⟨some 10, none, .p (.mv (.t 4))⟩,
  ⟨some 11, none, .p (.bin .neq (.t 10) (.c (.int .i64 0)))⟩]
def c9d : List AIns := [⟨some 12, none, .p (.mv (.t 4))⟩,
  ⟨some 2, none, .p (.mv (.c (.int .i64 0)))⟩,
  ⟨some 3, none, .p (.mv (.t 12))⟩]
def b5J : List AIns := [⟨some 14, none, .p (.mv (.t 0))⟩,
  ⟨some 15, none, .call a7e [(.t 14)]⟩,
  ⟨some 16, none, .p (.mv (.t 0))⟩,
  ⟨some 17, none, .call a7g [(.t 16)]⟩,
  ⟨some 18, none, .call a1i [(.t 15), (.t 17)]⟩,
  ⟨some 13, none, .p (.mv (.t 18))⟩,
  ⟨some 19, none, .p (.ext (.t 13) 0)⟩,
  ⟨some 20, none, .p (.ext (.t 13) 1)⟩,
  ⟨some 21, none, .p (.ext (.t 13) 2)⟩,
  ⟨some 7, none, .e (.box 4 (.c (.agg [.bool false, .nil, .bool false, .nil])))⟩,
  ⟨some 5, none, .p (.mv (.t 19))⟩,
  ⟨some 6, none, .p (.mv (.t 20))⟩,
  ⟨none, none, .e (.store 4 (.t 7) (.t 21))⟩]
def b5I : List AIns := [⟨some 22, none, .p (.mv (.t 6))⟩,
  ⟨some 23, none, .p (.len (.t 22))⟩,
  ⟨some 2, none, .p (.mv (.t 23))⟩,
  ⟨some 3, none, .p (.mv (.c (.int .i64 0)))⟩]
def d1d : ACode := .seq (.region b5M false) (.seq (.region b5L false) (.seq (.seq (.region b5K false) (.cond (.t 11) (.seq (.region c9d false) (.ret)) (.skip))) (.seq (.region b5J false) (.seq (.region b5I false) (.ret)))))
theorem c9e : fchk Pr (fun _ _ => false) Try.f16 = some (d1d, [.tmp 2, .tmp 3], 24) := by kernel_rfl
theorem c9f : Pr.funcs[b1V]? = some Try.f16 := Try.func16
def c2u : List AIns := [⟨some 4, none, .p (.mv (.c (.bool false)))⟩]
def c2t : List AIns := [⟨some 6, none, .p (.mv (.t 0))⟩,
  ⟨some 7, none, .p (.len (.t 6))⟩,
  ⟨some 8, none, .p (.mv (.t 1))⟩,
  ⟨some 9, none, .p (.len (.t 8))⟩,
  ⟨some 10, none, .p (.bin .neq (.t 7) (.t 9))⟩]
def d2J : List AIns := [⟨some 4, none, .p (.mv (.c (.bool false)))⟩]
def c2s : List AIns := [⟨some 5, none, .p (.mv (.c (.int .i64 0)))⟩]
def b1u : List AIns := [⟨some 11, none, .p (.mv (.t 5))⟩,
  ⟨some 12, none, .p (.mv (.t 0))⟩,
  ⟨some 13, none, .p (.len (.t 12))⟩,
  ⟨some 14, none, .p (.bin .lss (.t 11) (.t 13))⟩]
def c2r : List AIns := [⟨some 17, none, .p (.mv (.t 0))⟩,
  ⟨some 18, none, .p (.mv (.t 5))⟩,
  ⟨some 19, none, .p (.idxp 2 (.t 17) (.t 18))⟩,
  ⟨some 20, none, .p (.load (some 2) (.t 19))⟩,
  ⟨some 21, none, .p (.mv (.t 1))⟩,
  ⟨some 22, none, .p (.mv (.t 5))⟩,
  ⟨some 23, none, .p (.idxp 2 (.t 21) (.t 22))⟩,
  ⟨some 24, none, .p (.load (some 2) (.t 23))⟩,
  ⟨some 25, none, .call a8v [(.t 20), (.t 24)]⟩,
  ⟨some 26, none, .p (.un .not (.t 25))⟩]
def d2I : List AIns := [⟨some 4, none, .p (.mv (.c (.bool false)))⟩]
def c2q : List AIns := [⟨some 15, none, .p (.mv (.t 5))⟩,
  ⟨some 16, none, .p (.bin .add (.t 15) (.c (.int .i64 1)))⟩,
  ⟨some 5, none, .p (.mv (.t 16))⟩]
def d2L : ACode := .seq (.seq (.region b1u false) (.cond (.t 14) (.skip) (.exit 0))) (.seq (.block 1 (.seq (.region c2r true) (.cond (.t 26) (.seq (.region d2I false) (.ret)) (.skip)))) (.region c2q false))
def c2p : List AIns := [⟨some 4, none, .p (.mv (.c (.bool true)))⟩]
def d4V : ACode := .seq (.region c2u false) (.seq (.seq (.region c2t false) (.cond (.t 10) (.seq (.region d2J false) (.ret)) (.skip))) (.seq (.seq (.region c2s false) (.block 0 (.loop d2L))) (.seq (.region c2p false) (.ret))))
theorem d2K : fchk Pr (fun _ _ => false) Try.f19 = some (d4V, [.tmp 4], 27) := by kernel_rfl
theorem d2M : Pr.funcs[b5b]? = some Try.f19 := Try.func19
def b7u : List AIns := [⟨some 2, none, .p (.mv (.c (.nil)))⟩]
def b7t : List AIns := [⟨some 3, none, .p (.mv (.c (.nil)))⟩]
def b7s : List AIns := [⟨some 4, none, .p (.mv (.c (.int .i64 0)))⟩]
def a9s : List AIns := [⟨some 5, none, .p (.mv (.t 4))⟩,
  ⟨some 6, none, .p (.mv (.t 0))⟩,
  ⟨some 7, none, .p (.len (.t 6))⟩,
  ⟨some 8, none, .p (.bin .lss (.t 5) (.t 7))⟩]
def b7r : List AIns := [⟨some 11, none, .p (.mv (.t 3))⟩,
  ⟨some 12, none, .p (.mv (.t 0))⟩,
  ⟨some 13, none, .p (.mv (.t 4))⟩,
  ⟨some 14, none, .p (.idxp 2 (.t 12) (.t 13))⟩,
  ⟨some 15, none, .p (.load (some 2) (.t 14))⟩,
  ⟨some 16, none, .call b5a [(.t 15)]⟩,
  ⟨some 17, none, .e (.bsl 2 [(.t 16)])⟩,
  ⟨some 18, none, .e (.app 2 32 false (.t 11) (.t 17))⟩,
  ⟨some 3, none, .p (.mv (.t 18))⟩]
def b7q : List AIns := [⟨some 9, none, .p (.mv (.t 4))⟩,
  ⟨some 10, none, .p (.bin .add (.t 9) (.c (.int .i64 1)))⟩,
  ⟨some 4, none, .p (.mv (.t 10))⟩]
def b7v : ACode := .seq (.seq (.region a9s false) (.cond (.t 8) (.skip) (.exit 0))) (.seq (.block 1 (.region b7r false)) (.region b7q false))
def a9r : List AIns := [⟨some 19, none, .p (.mv (.t 3))⟩,
  ⟨some 2, none, .p (.mv (.t 19))⟩]
def d2E : ACode := .seq (.region b7u false) (.seq (.region b7t false) (.seq (.seq (.region b7s false) (.block 0 (.loop b7v))) (.seq (.region a9r false) (.ret))))
theorem c9L : fchk Pr (fun _ _ => false) Try.f21 = some (d2E, [.tmp 2], 20) := by kernel_rfl
theorem c9M : Pr.funcs[a4Y]? = some Try.f21 := Try.func21
def c5D : List AIns := [⟨some 2, none, .e (.box 2 (.t 0))⟩,
  ⟨some 3, none, .e (.box 2 (.t 1))⟩,
  ⟨some 4, none, .p (.mv (.c (.bool false)))⟩]
def c5C : List AIns := [⟨some 6, none, .p (.fldp (.t 2) 0)⟩,
  ⟨some 7, none, .p (.load none (.t 6))⟩,
  ⟨some 8, none, .p (.fldp (.t 3) 0)⟩,
  ⟨some 9, none, .p (.load none (.t 8))⟩,
  ⟨some 10, none, .p (.beq true (.t 7) (.t 9))⟩,
  ⟨some 11, none, .p (.mv (.t 10))⟩,
  ⟨some 12, some (11, false), .p (.fldp (.t 2) 1)⟩,
  ⟨some 13, some (11, false), .p (.load none (.t 12))⟩,
  ⟨some 14, some (11, false), .p (.len (.t 13))⟩,
  ⟨some 15, some (11, false), .p (.fldp (.t 3) 1)⟩,
  ⟨some 16, some (11, false), .p (.load none (.t 15))⟩,
  ⟨some 17, some (11, false), .p (.len (.t 16))⟩,
  ⟨some 18, some (11, false), .p (.bin .neq (.t 14) (.t 17))⟩,
  ⟨some 19, none, .p (.pick (.t 11) (.c (.bool true)) (.t 18))⟩]
def d4X : List AIns := [⟨some 4, none, .p (.mv (.c (.bool false)))⟩]
def c5B : List AIns := [⟨some 5, none, .p (.mv (.c (.int .i64 0)))⟩]
def b4I : List AIns := [⟨some 20, none, .p (.mv (.t 5))⟩,
  ⟨some 21, none, .p (.fldp (.t 2) 1)⟩,
  ⟨some 22, none, .p (.load none (.t 21))⟩,
  ⟨some 23, none, .p (.len (.t 22))⟩,
  ⟨some 24, none, .p (.bin .lss (.t 20) (.t 23))⟩]
def c5A : List AIns := [⟨some 27, none, .p (.fldp (.t 2) 1)⟩,
  ⟨some 28, none, .p (.load none (.t 27))⟩,
  ⟨some 29, none, .p (.mv (.t 5))⟩,
  ⟨some 30, none, .p (.idxp 1 (.t 28) (.t 29))⟩,
  ⟨some 31, none, .p (.load none (.t 30))⟩,
  ⟨some 32, none, .p (.fldp (.t 3) 1)⟩,
  ⟨some 33, none, .p (.load none (.t 32))⟩,
  ⟨some 34, none, .p (.mv (.t 5))⟩,
  ⟨some 35, none, .p (.idxp 1 (.t 33) (.t 34))⟩,
  ⟨some 36, none, .p (.load none (.t 35))⟩,
  ⟨some 37, none, .p (.bin .neq (.t 31) (.t 36))⟩]
def d4W : List AIns := [⟨some 4, none, .p (.mv (.c (.bool false)))⟩]
def c5z : List AIns := [⟨some 25, none, .p (.mv (.t 5))⟩,
  ⟨some 26, none, .p (.bin .add (.t 25) (.c (.int .i64 1)))⟩,
  ⟨some 5, none, .p (.mv (.t 26))⟩]
def d4Z : ACode := .seq (.seq (.region b4I false) (.cond (.t 24) (.skip) (.exit 0))) (.seq (.block 1 (.seq (.region c5A true) (.cond (.t 37) (.seq (.region d4W false) (.ret)) (.skip)))) (.region c5z false))
def c5y : List AIns := [⟨some 4, none, .p (.mv (.c (.bool true)))⟩]
def d8p : ACode := .seq (.region c5D false) (.seq (.seq (.region c5C false) (.cond (.t 19) (.seq (.region d4X false) (.ret)) (.skip))) (.seq (.seq (.region c5B false) (.block 0 (.loop d4Z))) (.seq (.region c5y false) (.ret))))
theorem d4Y : fchk Pr (fun _ _ => false) Try.f23 = some (d8p, [.tmp 4], 38) := by kernel_rfl
theorem d5a : Pr.funcs[a8v]? = some Try.f23 := Try.func23
def c5m : List AIns := [⟨some 2, none, .p (.mv (.c (.nil)))⟩,
  ⟨some 3, none, .p (.mv (.c (.int .i64 0)))⟩]
def c5l : List AIns := [⟨some 12, none, .p (.mv (.t 0))⟩,
  ⟨some 13, none, .call a6C [(.t 12)]⟩,
  ⟨some 11, none, .p (.mv (.t 13))⟩,
  ⟨some 14, none, .p (.ext (.t 11) 0)⟩,
  ⟨some 15, none, .p (.ext (.t 11) 1)⟩,
  ⟨some 16, none, .p (.ext (.t 11) 2)⟩,
  ⟨some 4, none, .p (.mv (.t 14))⟩,
  ⟨some 5, none, .p (.mv (.t 15))⟩,
  ⟨some 6, none, .p (.mv (.t 16))⟩]
def c5k : List AIns := [⟨some 17, none, .p (.mv (.t 6))⟩,
  ⟨some 18, none, .p (.bin .neq (.t 17) (.c (.int .i64 0)))⟩]
def d4I : List AIns := [⟨some 19, none, .p (.mv (.t 6))⟩,
  ⟨some 2, none, .p (.mv (.c (.nil)))⟩,
  ⟨some 3, none, .p (.mv (.t 19))⟩]
def c5j : List AIns := [⟨some 20, none, .p (.mv (.t 4))⟩,
  ⟨some 21, none, .p (.mv (.t 5))⟩,
  ⟨some 22, none, .p (.bin .mul (.t 20) (.t 21))⟩,
  ⟨some 23, none, .e (.mksl 2 32 (.agg [.bool false, .nil]) (.c (.int .i64 0)) (.t 22))⟩,
  ⟨some 7, none, .p (.mv (.t 23))⟩]
def c5i : List AIns := [⟨some 8, none, .p (.mv (.c (.nil)))⟩]
def c5h : List AIns := [⟨some 24, none, .p (.mv (.t 5))⟩,
  ⟨some 25, none, .p (.mv (.c (.int .i64 0)))⟩]
def b4G : List AIns := [⟨some 26, none, .p (.bin .lss (.t 25) (.t 24))⟩]
def c5g : List AIns := [⟨some 27, none, .p (.mv (.t 25))⟩,
  ⟨some 9, none, .p (.mv (.t 27))⟩]
def c5f : List AIns := [⟨some 28, none, .p (.mv (.t 4))⟩,
  ⟨some 29, none, .p (.mv (.c (.int .i64 0)))⟩]
def b1o : List AIns := [⟨some 30, none, .p (.bin .lss (.t 29) (.t 28))⟩]
def c2e : List AIns := [⟨some 31, none, .p (.mv (.t 29))⟩,
  ⟨some 10, none, .p (.mv (.t 31))⟩]
def c2d : List AIns := [⟨some 32, none, .p (.mv (.t 7))⟩,
  ⟨some 33, none, .p (.mv (.t 0))⟩,
  ⟨some 34, none, .p (.mv (.t 10))⟩,
  ⟨some 35, none, .p (.idxp 1 (.t 33) (.t 34))⟩,
  ⟨some 36, none, .p (.load none (.t 35))⟩,
  ⟨some 37, none, .p (.mv (.t 9))⟩,
  ⟨some 38, none, .p (.idxp 2 (.t 36) (.t 37))⟩,
  ⟨some 39, none, .p (.load (some 2) (.t 38))⟩,
  ⟨some 40, none, .call b4R [(.t 39)]⟩,
  ⟨some 41, none, .e (.bsl 2 [(.t 40)])⟩,
  ⟨some 42, none, .e (.app 2 32 false (.t 32) (.t 41))⟩,
  ⟨some 7, none, .p (.mv (.t 42))⟩]
def c2c : List AIns := [⟨some 43, none, .p (.bin .add (.t 29) (.c (.int .i64 1)))⟩,
  ⟨some 29, none, .p (.mv (.t 43))⟩]
def d4K : ACode := .seq (.region b1o false) (.seq (.cond (.t 30) (.skip) (.exit 2)) (.seq (.block 3 (.seq (.region c2e false) (.region c2d false))) (.region c2c false)))
def c2b : List AIns := [⟨some 44, none, .p (.mv (.t 8))⟩,
  ⟨some 45, none, .p (.mv (.t 7))⟩,
  ⟨some 46, none, .p (.mv (.t 9))⟩,
  ⟨some 47, none, .p (.mv (.t 4))⟩,
  ⟨some 48, none, .p (.bin .mul (.t 46) (.t 47))⟩,
  ⟨some 49, none, .p (.mv (.t 9))⟩,
  ⟨some 50, none, .p (.bin .add (.t 49) (.c (.int .i64 1)))⟩,
  ⟨some 51, none, .p (.mv (.t 4))⟩,
  ⟨some 52, none, .p (.bin .mul (.t 50) (.t 51))⟩,
  ⟨some 53, none, .p (.mv (.t 9))⟩,
  ⟨some 54, none, .p (.bin .add (.t 53) (.c (.int .i64 1)))⟩,
  ⟨some 55, none, .p (.mv (.t 4))⟩,
  ⟨some 56, none, .p (.bin .mul (.t 54) (.t 55))⟩,
  ⟨some 57, none, .p (.slc 2 (.t 45) (some (.t 48)) (some (.t 52)) (some (.t 56)))⟩,
  ⟨some 58, none, .e (.bslm 1 [(.t 57)])⟩,
  ⟨some 59, none, .e (.app 1 24 false (.t 44) (.t 58))⟩,
  ⟨some 8, none, .p (.mv (.t 59))⟩]
def c2a : List AIns := [⟨some 60, none, .p (.bin .add (.t 25) (.c (.int .i64 1)))⟩,
  ⟨some 25, none, .p (.mv (.t 60))⟩]
def d4L : ACode := .seq (.region b4G false) (.seq (.cond (.t 26) (.skip) (.exit 0)) (.seq (.block 1 (.seq (.region c5g false) (.seq (.seq (.region c5f false) (.block 2 (.loop d4K))) (.region c2b false)))) (.region c2a false)))
def c1Z : List AIns := [⟨some 61, none, .p (.mv (.t 8))⟩,
  ⟨some 2, none, .p (.mv (.t 61))⟩,
  ⟨some 3, none, .p (.mv (.c (.int .i64 0)))⟩]
def d8k : ACode := .seq (.region c5m false) (.seq (.region c5l false) (.seq (.seq (.region c5k false) (.cond (.t 18) (.seq (.region d4I false) (.ret)) (.skip))) (.seq (.region c5j false) (.seq (.region c5i false) (.seq (.seq (.region c5h false) (.block 0 (.loop d4L))) (.seq (.region c1Z false) (.ret)))))))
theorem d4J : fchk Pr (fun _ k => (k == 14)) Try.f34 = some (d8k, [.tmp 2, .tmp 3], 62) := by kernel_rfl
theorem d4M : Pr.funcs[b9A]? = some Try.f34 := Try.func34
def c3o : List AIns := [⟨some 1, none, .e (.box 2 (.t 0))⟩,
  ⟨some 2, none, .e (.box 2 (.c (.agg [.bool false, .nil])))⟩]
def c3n : List AIns := [⟨some 3, none, .p (.fldp (.t 1) 0)⟩,
  ⟨some 4, none, .p (.load none (.t 3))⟩,
  ⟨some 5, none, .p (.un .not (.t 4))⟩,
  ⟨some 6, none, .p (.fldp (.t 1) 1)⟩,
  ⟨some 7, none, .p (.load none (.t 6))⟩,
  ⟨some 8, none, .call a0X [(.t 5), (.t 7)]⟩,
  ⟨none, none, .e (.store 2 (.t 2) (.t 8))⟩]
def d6O : ACode := .seq (.region c3o false) (.seq (.region c3n false) (.ret))
theorem d3C : fchk Pr (fun _ _ => false) Try.f36 = some (d6O, [.cell 2 (some 2)], 9) := by kernel_rfl
theorem d3D : Pr.funcs[a8o]? = some Try.f36 := Try.func36
def c3q : List AIns := [⟨some 2, none, .e (.box 2 (.t 0))⟩,
  ⟨some 3, none, .e (.box 2 (.t 1))⟩,
  ⟨some 4, none, .e (.box 2 (.c (.agg [.bool false, .nil])))⟩]
def c3p : List AIns := [⟨some 5, none, .p (.fldp (.t 2) 0)⟩,
  ⟨some 6, none, .p (.load none (.t 5))⟩,
  ⟨some 7, none, .p (.fldp (.t 3) 0)⟩,
  ⟨some 8, none, .p (.load none (.t 7))⟩,
  ⟨some 9, none, .p (.beq true (.t 6) (.t 8))⟩,
  ⟨some 10, none, .p (.fldp (.t 2) 1)⟩,
  ⟨some 11, none, .p (.load none (.t 10))⟩,
  ⟨some 12, none, .p (.fldp (.t 3) 1)⟩,
  ⟨some 13, none, .p (.load none (.t 12))⟩,
  ⟨some 14, none, .call a8s [(.t 11), (.t 13)]⟩,
  ⟨some 15, none, .call a0X [(.t 9), (.t 14)]⟩,
  ⟨none, none, .e (.store 2 (.t 4) (.t 15))⟩]
def d6P : ACode := .seq (.region c3q false) (.seq (.region c3p true) (.ret))
theorem d3E : fchk Pr (fun _ _ => false) Try.f38 = some (d6P, [.cell 4 (some 2)], 16) := by kernel_rfl
theorem d3F : Pr.funcs[a3s]? = some Try.f38 := Try.func38
def a1P : List AIns := [⟨some 4, none, .p (.mv (.c (.nil)))⟩,
  ⟨some 5, none, .e (.box 2 (.c (.agg [.bool false, .nil])))⟩,
  ⟨some 6, none, .p (.mv (.c (.int .i64 0)))⟩]
def a1r : List AIns := [⟨some 21, none, .p (.mv (.t 0))⟩,
  ⟨some 22, none, .call a7l [(.t 21)]⟩,
  ⟨some 20, none, .p (.mv (.t 22))⟩,
  ⟨some 23, none, .p (.ext (.t 20) 0)⟩,
  ⟨some 24, none, .p (.ext (.t 20) 1)⟩,
  ⟨some 25, none, .p (.ext (.t 20) 2)⟩,
  ⟨some 7, none, .p (.mv (.t 23))⟩,
  ⟨some 8, none, .p (.mv (.t 24))⟩,
  ⟨some 6, none, .p (.mv (.t 25))⟩]
def a1q : List AIns := [⟨some 26, none, .p (.mv (.t 6))⟩,
  ⟨some 27, none, .p (.bin .neq (.t 26) (.c (.int .i64 0)))⟩]
def a9G : List AIns := [⟨some 28, none, .p (.bld [.bool false, .nil] [])⟩,
  ⟨some 29, none, .p (.mv (.t 6))⟩,
  ⟨some 4, none, .p (.mv (.c (.nil)))⟩,
  ⟨none, none, .e (.store 2 (.t 5) (.t 28))⟩,
  ⟨some 6, none, .p (.mv (.t 29))⟩]
def a1O : List AIns := [⟨some 9, none, .p (.mv (.c (.nil)))⟩,
  ⟨some 10, none, .p (.mv (.c (.nil)))⟩]
def a1N : List AIns := [⟨some 11, none, .p (.mv (.c (.nil)))⟩]
def a1M : List AIns := [⟨some 30, none, .p (.mv (.t 7))⟩,
  ⟨some 31, none, .p (.bin .eql (.t 30) (.c (.int .i64 0)))⟩]
def a5H : List AIns := [⟨some 32, none, .p (.mv (.t 1))⟩,
  ⟨some 33, none, .call b2u [(.t 32)]⟩,
  ⟨some 34, none, .p (.bin .geq (.t 33) (.c (.int .i64 0)))⟩]
def a9F : List AIns := [⟨some 35, none, .call a6z [(.c (.int .i64 1))]⟩,
  ⟨some 4, none, .p (.mv (.c (.nil)))⟩,
  ⟨none, none, .e (.store 2 (.t 5) (.t 35))⟩,
  ⟨some 6, none, .p (.mv (.c (.int .i64 0)))⟩]
def a2J : List AIns := [⟨some 36, none, .p (.mv (.t 1))⟩,
  ⟨some 37, none, .p (.len (.t 36))⟩,
  ⟨some 38, none, .p (.mv (.t 8))⟩,
  ⟨some 39, none, .p (.bin .neq (.t 37) (.t 38))⟩]
def a7L : List AIns := [⟨some 40, none, .p (.bld [.bool false, .nil] [])⟩,
  ⟨some 4, none, .p (.mv (.c (.nil)))⟩,
  ⟨none, none, .e (.store 2 (.t 5) (.t 40))⟩,
  ⟨some 6, none, .p (.mv (.c (.int .i64 8)))⟩]
def a2Y : List AIns := [⟨some 42, none, .p (.mv (.t 0))⟩,
  ⟨some 43, none, .call b5c [(.t 42)]⟩,
  ⟨some 41, none, .p (.mv (.t 43))⟩,
  ⟨some 44, none, .p (.ext (.t 41) 0)⟩,
  ⟨some 45, none, .p (.ext (.t 41) 1)⟩,
  ⟨some 12, none, .p (.mv (.t 44))⟩,
  ⟨some 13, none, .p (.mv (.t 45))⟩]
def a2X : List AIns := [⟨some 46, none, .p (.mv (.t 12))⟩,
  ⟨some 47, none, .p (.mv (.t 7))⟩,
  ⟨some 48, none, .p (.bin .lss (.t 46) (.t 47))⟩]
def a7K : List AIns := [⟨some 49, none, .p (.bld [.bool false, .nil] [])⟩,
  ⟨some 4, none, .p (.mv (.c (.nil)))⟩,
  ⟨none, none, .e (.store 2 (.t 5) (.t 49))⟩,
  ⟨some 6, none, .p (.mv (.c (.int .i64 50)))⟩]
def a4M : List AIns := [⟨some 51, none, .p (.mv (.t 0))⟩,
  ⟨some 52, none, .call b9A [(.t 51)]⟩,
  ⟨some 50, none, .p (.mv (.t 52))⟩,
  ⟨some 53, none, .p (.ext (.t 50) 0)⟩,
  ⟨some 54, none, .p (.ext (.t 50) 1)⟩,
  ⟨some 9, none, .p (.mv (.t 53))⟩]
def a4L : List AIns := [⟨some 55, none, .p (.mv (.t 9))⟩,
  ⟨some 56, none, .p (.len (.t 55))⟩,
  ⟨some 57, none, .p (.mv (.c (.int .i64 0)))⟩]
def a7J : List AIns := [⟨some 58, none, .p (.bin .lss (.t 57) (.t 56))⟩]
def b4f : List AIns := [⟨some 59, none, .p (.mv (.t 57))⟩,
  ⟨some 14, none, .p (.mv (.t 59))⟩]
def b4e : List AIns := [⟨some 60, none, .p (.mv (.t 9))⟩,
  ⟨some 61, none, .p (.mv (.t 14))⟩,
  ⟨some 62, none, .p (.mv (.t 9))⟩,
  ⟨some 63, none, .p (.mv (.t 14))⟩,
  ⟨some 64, none, .p (.idxp 1 (.t 62) (.t 63))⟩,
  ⟨some 65, none, .p (.load none (.t 64))⟩,
  ⟨some 66, none, .p (.mv (.t 1))⟩,
  ⟨some 67, none, .p (.mv (.t 14))⟩,
  ⟨some 68, none, .p (.idxp 2 (.t 66) (.t 67))⟩,
  ⟨some 69, none, .p (.load (some 2) (.t 68))⟩,
  ⟨some 70, none, .e (.bsl 2 [(.t 69)])⟩,
  ⟨some 71, none, .e (.app 2 32 false (.t 65) (.t 70))⟩,
  ⟨some 72, none, .p (.idxp 1 (.t 60) (.t 61))⟩,
  ⟨none, none, .e (.store 1 (.t 72) (.t 71))⟩]
def b4d : List AIns := [⟨some 73, none, .p (.bin .add (.t 57) (.c (.int .i64 1)))⟩,
  ⟨some 57, none, .p (.mv (.t 73))⟩]
def a9J : ACode := .seq (.region a7J false) (.seq (.cond (.t 58) (.skip) (.exit 0)) (.seq (.block 1 (.seq (.region b4f false) (.region b4e true))) (.region b4d false)))
def a2W : List AIns := [⟨some 75, none, .p (.mv (.t 9))⟩,
  ⟨some 76, none, .p (.mv (.t 7))⟩,
  ⟨some 77, none, .p (.bin .add (.t 76) (.c (.int .i64 1)))⟩,
  ⟨some 78, none, .call b1W [(.t 75), (.t 77)]⟩,
  ⟨some 74, none, .p (.mv (.t 78))⟩,
  ⟨some 79, none, .p (.ext (.t 74) 0)⟩,
  ⟨some 80, none, .p (.ext (.t 74) 1)⟩,
  ⟨some 10, none, .p (.mv (.t 79))⟩,
  ⟨some 11, none, .p (.mv (.t 80))⟩]
def a2V : List AIns := [⟨some 81, none, .p (.mv (.t 11))⟩,
  ⟨some 82, none, .p (.mv (.t 11))⟩,
  ⟨some 83, none, .p (.len (.t 82))⟩,
  ⟨some 84, none, .p (.bin .sub (.t 83) (.c (.int .i64 1)))⟩,
  ⟨some 85, none, .p (.idxp 1 (.t 81) (.t 84))⟩,
  ⟨some 86, none, .p (.load none (.t 85))⟩,
  ⟨some 87, none, .p (.mv (.t 7))⟩,
  ⟨some 88, none, .p (.bin .eql (.t 86) (.t 87))⟩]
def a4K : List AIns := [⟨some 89, none, .call a6z [(.c (.int .i64 1))]⟩,
  ⟨none, none, .e (.store 2 (.t 5) (.t 89))⟩]
def a4J : List AIns := [⟨some 90, none, .p (.mv (.t 10))⟩,
  ⟨some 91, none, .p (.len (.t 90))⟩,
  ⟨some 92, none, .p (.mv (.c (.int .i64 0)))⟩]
def a7I : List AIns := [⟨some 93, none, .p (.bin .lss (.t 92) (.t 91))⟩]
def b4c : List AIns := [⟨some 94, none, .p (.mv (.t 92))⟩,
  ⟨some 15, none, .p (.mv (.t 94))⟩]
def b4b : List AIns := [⟨some 95, none, .p (.load (some 2) (.t 5))⟩,
  ⟨some 96, none, .p (.mv (.t 10))⟩,
  ⟨some 97, none, .p (.mv (.t 15))⟩,
  ⟨some 98, none, .p (.idxp 1 (.t 96) (.t 97))⟩,
  ⟨some 99, none, .p (.load none (.t 98))⟩,
  ⟨some 100, none, .p (.mv (.t 15))⟩,
  ⟨some 101, none, .p (.idxp 2 (.t 99) (.t 100))⟩,
  ⟨some 102, none, .p (.load (some 2) (.t 101))⟩,
  ⟨some 103, none, .call a3s [(.t 95), (.t 102)]⟩,
  ⟨none, none, .e (.store 2 (.t 5) (.t 103))⟩]
def b4a : List AIns := [⟨some 104, none, .p (.bin .add (.t 92) (.c (.int .i64 1)))⟩,
  ⟨some 92, none, .p (.mv (.t 104))⟩]
def a9I : ACode := .seq (.region a7I false) (.seq (.cond (.t 93) (.skip) (.exit 2)) (.seq (.block 3 (.seq (.region b4c false) (.region b4b true))) (.region b4a false)))
def a4I : List AIns := [⟨some 105, none, .p (.mv (.t 10))⟩,
  ⟨some 106, none, .p (.len (.t 105))⟩,
  ⟨some 107, none, .p (.mv (.c (.int .i64 0)))⟩]
def a7H : List AIns := [⟨some 108, none, .p (.bin .lss (.t 107) (.t 106))⟩]
def b3Z : List AIns := [⟨some 109, none, .p (.mv (.t 107))⟩,
  ⟨some 16, none, .p (.mv (.t 109))⟩]
def b3Y : List AIns := [⟨some 111, none, .p (.load (some 2) (.t 5))⟩,
  ⟨some 112, none, .p (.mv (.t 10))⟩,
  ⟨some 113, none, .p (.mv (.t 16))⟩,
  ⟨some 114, none, .p (.idxp 1 (.t 112) (.t 113))⟩,
  ⟨some 115, none, .p (.load none (.t 114))⟩,
  ⟨some 116, none, .p (.mv (.t 7))⟩,
  ⟨some 117, none, .p (.idxp 2 (.t 115) (.t 116))⟩,
  ⟨some 118, none, .p (.load (some 2) (.t 117))⟩,
  ⟨some 119, none, .call a3s [(.t 111), (.t 118)]⟩,
  ⟨some 120, none, .p (.mv (.t 10))⟩,
  ⟨some 121, none, .p (.mv (.t 16))⟩,
  ⟨some 122, none, .p (.idxp 1 (.t 120) (.t 121))⟩,
  ⟨some 123, none, .p (.load none (.t 122))⟩,
  ⟨some 124, none, .p (.mv (.t 16))⟩,
  ⟨some 125, none, .p (.idxp 2 (.t 123) (.t 124))⟩,
  ⟨some 126, none, .p (.load (some 2) (.t 125))⟩,
  ⟨some 127, none, .call a2A [(.t 119), (.t 126)]⟩,
  ⟨some 110, none, .p (.mv (.t 127))⟩,
  ⟨some 128, none, .p (.ext (.t 110) 0)⟩,
  ⟨some 129, none, .p (.ext (.t 110) 1)⟩,
  ⟨some 130, none, .p (.ext (.t 110) 2)⟩]
def b1L : List AIns := [⟨some 17, none, .e (.box 2 (.c (.agg [.bool false, .nil])))⟩,
  ⟨some 18, none, .e (.box 2 (.c (.agg [.bool false, .nil])))⟩,
  ⟨none, none, .e (.store 2 (.t 17) (.t 128))⟩,
  ⟨none, none, .e (.store 2 (.t 18) (.t 129))⟩,
  ⟨some 19, none, .p (.mv (.t 130))⟩]
def b1K : List AIns := [⟨some 18, none, .e (.box 2 (.c (.agg [.bool false, .nil])))⟩,
  ⟨some 17, none, .e (.box 2 (.c (.agg [.bool false, .nil])))⟩,
  ⟨none, none, .e (.store 2 (.t 17) (.t 128))⟩,
  ⟨none, none, .e (.store 2 (.t 18) (.t 129))⟩,
  ⟨some 19, none, .p (.mv (.t 130))⟩]
def b3X : List AIns := [⟨some 131, none, .p (.mv (.t 4))⟩,
  ⟨some 132, none, .p (.load (some 2) (.t 17))⟩,
  ⟨some 133, none, .e (.bsl 2 [(.t 132)])⟩,
  ⟨some 134, none, .e (.app 2 32 false (.t 131) (.t 133))⟩,
  ⟨some 4, none, .p (.mv (.t 134))⟩]
def b3W : List AIns := [⟨some 135, none, .p (.bin .add (.t 107) (.c (.int .i64 1)))⟩,
  ⟨some 107, none, .p (.mv (.t 135))⟩]
def a9H : ACode := .seq (.region a7H false) (.seq (.cond (.t 108) (.skip) (.exit 4)) (.seq (.block 5 (.seq (.region b3Z false) (.seq (.regionX b3Y b1L b1K []) (.region b3X false)))) (.region b3W false)))
def a4H : List AIns := [⟨some 137, none, .p (.mv (.t 4))⟩,
  ⟨some 138, none, .p (.load (some 2) (.t 5))⟩,
  ⟨some 139, none, .call a7k [(.t 137), (.t 138)]⟩,
  ⟨some 136, none, .p (.mv (.t 139))⟩,
  ⟨some 140, none, .p (.ext (.t 136) 0)⟩,
  ⟨some 141, none, .p (.ext (.t 136) 1)⟩,
  ⟨some 4, none, .p (.mv (.t 140))⟩,
  ⟨none, none, .e (.store 2 (.t 5) (.t 141))⟩]
def a4G : List AIns := [⟨some 142, none, .p (.mv (.t 4))⟩,
  ⟨some 143, none, .p (.load (some 2) (.t 5))⟩,
  ⟨some 4, none, .p (.mv (.t 142))⟩,
  ⟨none, none, .e (.store 2 (.t 5) (.t 143))⟩,
  ⟨some 6, none, .p (.mv (.c (.int .i64 0)))⟩]
def a2U : List AIns := [⟨some 144, none, .p (.bld [.bool false, .nil] [])⟩,
  ⟨some 4, none, .p (.mv (.c (.nil)))⟩,
  ⟨none, none, .e (.store 2 (.t 5) (.t 144))⟩,
  ⟨some 6, none, .p (.mv (.c (.int .i64 6)))⟩]
def d3c : ACode := .seq (.region a1P false) (.scope (.seq (.region a1r false) (.seq (.seq (.region a1q false) (.cond (.t 27) (.seq (.region a9G false) (.ret)) (.skip))) (.seq (.region a1O false) (.seq (.region a1N false) (.seq (.seq (.region a1M false) (.cond (.t 31) (.seq (.seq (.region a5H false) (.cond (.t 34) (.goto 0) (.skip))) (.seq (.region a9F false) (.ret))) (.skip))) (.seq (.seq (.region a2J false) (.cond (.t 39) (.seq (.region a7L false) (.ret)) (.skip))) (.seq (.seq (.region a2Y false) (.seq (.region a2X false) (.cond (.t 48) (.seq (.region a7K false) (.ret)) (.skip)))) (.seq (.region a4M false) (.seq (.seq (.region a4L false) (.block 0 (.loop a9J))) (.seq (.region a2W false) (.seq (.seq (.region a2V false) (.cond (.t 88) (.goto 0) (.skip))) (.seq (.region a4K false) (.seq (.seq (.region a4J false) (.block 2 (.loop a9I))) (.seq (.seq (.region a4I false) (.block 4 (.loop a9H))) (.seq (.region a4H false) (.seq (.seq (.region a4G true) (.ret)) (.seq (.label 0) (.seq (.region a2U false) (.ret))))))))))))))))))))
theorem a2c : fchk Pr (fun _ _ => false) Try.f41 = some (d3c, [.tmp 4, .cell 5 (some 2), .tmp 6], 145) := by kernel_rfl
theorem a2d : Pr.funcs[a0M]? = some Try.f41 := Try.func41
end Go.Abs
set_option maxRecDepth 100000
noncomputable section
namespace Go.Abs
open Go.Proofs
def a2R : List AIns := [⟨some 4, none, .p (.mv (.c (.nil)))⟩,
  ⟨some 5, none, .e (.box 2 (.c (.agg [.bool false, .nil])))⟩,
  ⟨some 6, none, .p (.mv (.c (.int .i64 0)))⟩]
def a2Q : List AIns := [⟨some 19, none, .p (.mv (.t 0))⟩,
  ⟨some 20, none, .call a5I [(.t 19)]⟩,
  ⟨some 7, none, .p (.mv (.t 20))⟩]
def a2P : List AIns := [⟨some 21, none, .p (.mv (.t 7))⟩,
  ⟨some 22, none, .p (.bin .neq (.t 21) (.c (.int .i64 0)))⟩]
def b2F : List AIns := [⟨some 23, none, .p (.bld [.bool false, .nil] [])⟩,
  ⟨some 24, none, .p (.mv (.t 7))⟩,
  ⟨some 4, none, .p (.mv (.c (.nil)))⟩,
  ⟨none, none, .e (.store 2 (.t 5) (.t 23))⟩,
  ⟨some 6, none, .p (.mv (.t 24))⟩]
def a2O : List AIns := [⟨some 25, none, .p (.mv (.t 0))⟩,
  ⟨some 26, none, .p (.len (.t 25))⟩,
  ⟨some 27, none, .p (.bin .gtr (.t 26) (.c (.int .i64 0)))⟩,
  ⟨some 28, none, .p (.mv (.t 27))⟩,
  ⟨some 29, some (28, true), .p (.mv (.t 1))⟩,
  ⟨some 30, some (28, true), .p (.len (.t 29))⟩,
  ⟨some 31, some (28, true), .p (.mv (.t 0))⟩,
  ⟨some 32, some (28, true), .call a7g [(.t 31)]⟩,
  ⟨some 33, some (28, true), .p (.bin .neq (.t 30) (.t 32))⟩,
  ⟨some 34, none, .p (.pick (.t 28) (.t 33) (.c (.bool false)))⟩]
def b2E : List AIns := [⟨some 35, none, .p (.bld [.bool false, .nil] [])⟩,
  ⟨some 4, none, .p (.mv (.c (.nil)))⟩,
  ⟨none, none, .e (.store 2 (.t 5) (.t 35))⟩,
  ⟨some 6, none, .p (.mv (.c (.int .i64 8)))⟩]
def a4v : List AIns := [⟨some 37, none, .p (.mv (.t 0))⟩,
  ⟨some 38, none, .call b1V [(.t 37)]⟩,
  ⟨some 36, none, .p (.mv (.t 38))⟩,
  ⟨some 39, none, .p (.ext (.t 36) 0)⟩,
  ⟨some 40, none, .p (.ext (.t 36) 1)⟩,
  ⟨some 8, none, .p (.mv (.t 39))⟩,
  ⟨some 9, none, .p (.mv (.t 40))⟩]
def a4u : List AIns := [⟨some 41, none, .p (.mv (.t 8))⟩,
  ⟨some 42, none, .p (.mv (.t 0))⟩,
  ⟨some 43, none, .p (.len (.t 42))⟩,
  ⟨some 44, none, .p (.bin .lss (.t 41) (.t 43))⟩]
def b2D : List AIns := [⟨some 45, none, .p (.bld [.bool false, .nil] [])⟩,
  ⟨some 4, none, .p (.mv (.c (.nil)))⟩,
  ⟨none, none, .e (.store 2 (.t 5) (.t 45))⟩,
  ⟨some 6, none, .p (.mv (.c (.int .i64 50)))⟩]
def a2i : List AIns := [⟨some 10, none, .p (.mv (.c (.nil)))⟩]
def a3F : List AIns := [⟨some 11, none, .p (.mv (.c (.int .i64 0)))⟩]
def a2u : List AIns := [⟨some 46, none, .p (.mv (.t 11))⟩,
  ⟨some 47, none, .p (.mv (.t 1))⟩,
  ⟨some 48, none, .p (.len (.t 47))⟩,
  ⟨some 49, none, .p (.bin .lss (.t 46) (.t 48))⟩]
def a5X : List AIns := [⟨some 52, none, .p (.mv (.t 10))⟩,
  ⟨some 53, none, .p (.mv (.t 1))⟩,
  ⟨some 54, none, .p (.mv (.t 11))⟩,
  ⟨some 55, none, .p (.idxp 2 (.t 53) (.t 54))⟩,
  ⟨some 56, none, .p (.load (some 2) (.t 55))⟩,
  ⟨some 57, none, .e (.bsl 2 [(.t 56)])⟩,
  ⟨some 58, none, .e (.bsl 1 [(.t 57)])⟩,
  ⟨some 59, none, .e (.app 1 24 false (.t 52) (.t 58))⟩,
  ⟨some 10, none, .p (.mv (.t 59))⟩]
def a5W : List AIns := [⟨some 50, none, .p (.mv (.t 11))⟩,
  ⟨some 51, none, .p (.bin .add (.t 50) (.c (.int .i64 1)))⟩,
  ⟨some 11, none, .p (.mv (.t 51))⟩]
def b2H : ACode := .seq (.seq (.region a2u false) (.cond (.t 49) (.skip) (.exit 0))) (.seq (.block 1 (.region a5X false)) (.region a5W false))
def a3E : List AIns := [⟨some 61, none, .p (.mv (.t 0))⟩,
  ⟨some 62, none, .p (.mv (.t 1))⟩,
  ⟨some 63, none, .p (.len (.t 62))⟩,
  ⟨some 64, none, .p (.mv (.t 10))⟩,
  ⟨some 65, none, .call a6A [(.t 61), (.t 63), (.t 64)]⟩,
  ⟨some 66, none, .p (.mv (.t 0))⟩,
  ⟨some 67, none, .p (.len (.t 66))⟩,
  ⟨some 68, none, .p (.bin .add (.t 67) (.c (.int .i64 1)))⟩,
  ⟨some 69, none, .call a1i [(.t 65), (.t 68)]⟩,
  ⟨some 60, none, .p (.mv (.t 69))⟩,
  ⟨some 70, none, .p (.ext (.t 60) 0)⟩,
  ⟨some 71, none, .p (.ext (.t 60) 1)⟩,
  ⟨some 72, none, .p (.ext (.t 60) 2)⟩,
  ⟨some 14, none, .e (.box 4 (.c (.agg [.bool false, .nil, .bool false, .nil])))⟩,
  ⟨some 12, none, .p (.mv (.t 70))⟩,
  ⟨some 13, none, .p (.mv (.t 71))⟩,
  ⟨none, none, .e (.store 4 (.t 14) (.t 72))⟩]
def a3D : List AIns := [⟨some 15, none, .p (.mv (.c (.nil)))⟩]
def a3C : List AIns := [⟨some 16, none, .p (.mv (.c (.int .i64 0)))⟩]
def a2t : List AIns := [⟨some 73, none, .p (.mv (.t 16))⟩,
  ⟨some 74, none, .p (.mv (.t 12))⟩,
  ⟨some 75, none, .p (.len (.t 74))⟩,
  ⟨some 76, none, .p (.bin .lss (.t 73) (.t 75))⟩]
def a3B : List AIns := [⟨some 79, none, .p (.mv (.t 13))⟩,
  ⟨some 80, none, .p (.mv (.t 16))⟩,
  ⟨some 81, none, .p (.idxp 1 (.t 79) (.t 80))⟩,
  ⟨some 82, none, .p (.load none (.t 81))⟩,
  ⟨some 83, none, .p (.mv (.t 0))⟩,
  ⟨some 84, none, .p (.len (.t 83))⟩,
  ⟨some 85, none, .p (.bin .eql (.t 82) (.t 84))⟩]
def b0Y : List AIns := [⟨some 86, none, .p (.bld [.bool false, .nil] [])⟩,
  ⟨some 4, none, .p (.mv (.c (.nil)))⟩,
  ⟨none, none, .e (.store 2 (.t 5) (.t 86))⟩,
  ⟨some 6, none, .p (.mv (.c (.int .i64 6)))⟩]
def a5V : List AIns := [⟨some 87, none, .p (.mv (.t 15))⟩,
  ⟨some 88, none, .p (.mv (.t 12))⟩,
  ⟨some 89, none, .p (.mv (.t 16))⟩,
  ⟨some 90, none, .p (.idxp 1 (.t 88) (.t 89))⟩,
  ⟨some 91, none, .p (.load none (.t 90))⟩,
  ⟨some 92, none, .p (.mv (.t 0))⟩,
  ⟨some 93, none, .p (.len (.t 92))⟩,
  ⟨some 94, none, .p (.idxp 4 (.t 91) (.t 93))⟩,
  ⟨some 95, none, .p (.load (some 4) (.t 94))⟩,
  ⟨some 96, none, .e (.bsl 4 [(.t 95)])⟩,
  ⟨some 97, none, .e (.app 4 64 false (.t 87) (.t 96))⟩,
  ⟨some 15, none, .p (.mv (.t 97))⟩]
def a5U : List AIns := [⟨some 77, none, .p (.mv (.t 16))⟩,
  ⟨some 78, none, .p (.bin .add (.t 77) (.c (.int .i64 1)))⟩,
  ⟨some 16, none, .p (.mv (.t 78))⟩]
def b2G : ACode := .seq (.seq (.region a2t false) (.cond (.t 76) (.skip) (.exit 2))) (.seq (.block 3 (.seq (.seq (.region a3B false) (.cond (.t 85) (.seq (.region b0Y false) (.ret)) (.skip))) (.region a5V false))) (.region a5U false))
def a5T : List AIns := [⟨some 99, none, .p (.mv (.t 15))⟩,
  ⟨some 100, none, .call a7M [(.t 99)]⟩,
  ⟨some 98, none, .p (.mv (.t 100))⟩,
  ⟨some 101, none, .p (.ext (.t 98) 0)⟩,
  ⟨some 102, none, .p (.ext (.t 98) 1)⟩,
  ⟨some 18, none, .e (.box 2 (.c (.agg [.bool false, .nil])))⟩,
  ⟨some 17, none, .p (.mv (.t 101))⟩,
  ⟨none, none, .e (.store 2 (.t 18) (.t 102))⟩]
def a5S : List AIns := [⟨some 103, none, .p (.mv (.t 17))⟩,
  ⟨some 104, none, .p (.load (some 2) (.t 18))⟩,
  ⟨some 4, none, .p (.mv (.t 103))⟩,
  ⟨none, none, .e (.store 2 (.t 5) (.t 104))⟩,
  ⟨some 6, none, .p (.mv (.c (.int .i64 0)))⟩]
def c9c : ACode := .seq (.region a2R false) (.seq (.region a2Q false) (.seq (.seq (.region a2P false) (.cond (.t 22) (.seq (.region b2F false) (.ret)) (.skip))) (.seq (.seq (.region a2O false) (.cond (.t 34) (.seq (.region b2E false) (.ret)) (.skip))) (.seq (.region a4v false) (.seq (.seq (.region a4u false) (.cond (.t 44) (.seq (.region b2D false) (.ret)) (.skip))) (.seq (.region a2i false) (.seq (.seq (.region a3F false) (.block 0 (.loop b2H))) (.seq (.region a3E false) (.seq (.region a3D false) (.seq (.seq (.region a3C false) (.block 2 (.loop b2G))) (.seq (.region a5T false) (.seq (.region a5S true) (.ret)))))))))))))
theorem a4w : fchk Pr (fun _ _ => false) Try.f42 = some (c9c, [.tmp 4, .cell 5 (some 2), .tmp 6], 105) := by kernel_rfl
theorem a4x : Pr.funcs[a1s]? = some Try.f42 := Try.func42
def b9K : List AIns := [⟨some 1, none, .e (.box 2 (.t 0))⟩,
  ⟨some 2, none, .p (.mv (.c (.int .i64 0)))⟩]
def b9J : List AIns := [⟨some 4, none, .p (.fldp (.t 1) 1)⟩,
  ⟨some 5, none, .p (.load none (.t 4))⟩,
  ⟨some 6, none, .call b9z [(.t 5)]⟩,
  ⟨some 7, none, .p (.bin .eql (.t 6) (.c (.int .i64 0)))⟩,
  ⟨some 3, none, .p (.mv (.t 7))⟩]
def b9I : List AIns := [⟨some 2, none, .p (.mv (.c (.int .i64 0)))⟩]
def b9H : List AIns := [⟨some 9, none, .p (.fldp (.t 1) 0)⟩,
  ⟨some 10, none, .p (.load none (.t 9))⟩,
  ⟨some 8, none, .p (.mv (.t 10))⟩]
def b9G : List AIns := [⟨some 2, none, .p (.mv (.c (.int .i64 (-1))))⟩]
def b9F : List AIns := [⟨some 2, none, .p (.mv (.c (.int .i64 1)))⟩]
def d3B : ACode := .seq (.region b9K false) (.seq (.block 0 (.seq (.region b9J false) (.cond (.t 3) (.seq (.region b9I false) (.ret)) (.seq (.region b9H false) (.cond (.t 8) (.seq (.region b9G false) (.ret)) (.skip)))))) (.seq (.region b9F false) (.ret)))
theorem d0B : fchk Pr (fun _ _ => false) Try.f44 = some (d3B, [.tmp 2], 11) := by kernel_rfl
theorem d0C : Pr.funcs[a1Q]? = some Try.f44 := Try.func44
def c5q : List AIns := [⟨some 2, none, .p (.mv (.c (.int .i64 0)))⟩]
def c5p : List AIns := [⟨some 5, none, .p (.mv (.t 0))⟩,
  ⟨some 6, none, .p (.len (.t 5))⟩,
  ⟨some 7, none, .p (.mv (.c (.int .i64 0)))⟩]
def a6g : List AIns := [⟨some 8, none, .p (.bin .lss (.t 7) (.t 6))⟩]
def a9q : List AIns := [⟨some 9, none, .p (.mv (.t 7))⟩,
  ⟨some 10, none, .p (.idxp 2 (.t 5) (.t 7))⟩,
  ⟨some 11, none, .p (.load (some 2) (.t 10))⟩,
  ⟨some 4, none, .e (.box 2 (.c (.agg [.bool false, .nil])))⟩,
  ⟨some 3, none, .p (.mv (.t 9))⟩,
  ⟨none, none, .e (.store 2 (.t 4) (.t 11))⟩]
def a9p : List AIns := [⟨some 12, none, .p (.load (some 2) (.t 4))⟩,
  ⟨some 13, none, .call a1Q [(.t 12)]⟩,
  ⟨some 14, none, .p (.bin .neq (.t 13) (.c (.int .i64 0)))⟩]
def c5o : List AIns := [⟨some 15, none, .p (.mv (.t 3))⟩,
  ⟨some 2, none, .p (.mv (.t 15))⟩]
def b4H : List AIns := [⟨some 16, none, .p (.bin .add (.t 7) (.c (.int .i64 1)))⟩,
  ⟨some 7, none, .p (.mv (.t 16))⟩]
def d4P : ACode := .seq (.region a6g false) (.seq (.cond (.t 8) (.skip) (.exit 0)) (.seq (.block 1 (.seq (.region a9q false) (.seq (.region a9p false) (.cond (.t 14) (.seq (.region c5o false) (.ret)) (.skip))))) (.region b4H false)))
def c5n : List AIns := [⟨some 2, none, .p (.mv (.c (.int .i64 (-1))))⟩]
def d8l : ACode := .seq (.region c5q false) (.seq (.seq (.region c5p false) (.block 0 (.loop d4P))) (.seq (.region c5n false) (.ret)))
theorem d4O : fchk Pr (fun _ _ => false) Try.f48 = some (d8l, [.tmp 2], 17) := by kernel_rfl
theorem d4Q : Pr.funcs[b2u]? = some Try.f48 := Try.func48
def a5G : List AIns := [⟨some 2, none, .p (.mv (.c (.int .i64 0)))⟩,
  ⟨some 3, none, .p (.mv (.c (.int .i64 0)))⟩,
  ⟨some 4, none, .p (.mv (.c (.int .i64 0)))⟩]
def a5F : List AIns := [⟨some 9, none, .p (.mv (.t 0))⟩,
  ⟨some 10, none, .call a6C [(.t 9)]⟩,
  ⟨some 8, none, .p (.mv (.t 10))⟩,
  ⟨some 11, none, .p (.ext (.t 8) 0)⟩,
  ⟨some 12, none, .p (.ext (.t 8) 1)⟩,
  ⟨some 13, none, .p (.ext (.t 8) 2)⟩,
  ⟨some 5, none, .p (.mv (.t 11))⟩,
  ⟨some 6, none, .p (.mv (.t 12))⟩,
  ⟨some 7, none, .p (.mv (.t 13))⟩]
def a5E : List AIns := [⟨some 14, none, .p (.mv (.t 7))⟩,
  ⟨some 15, none, .p (.bin .neq (.t 14) (.c (.int .i64 0)))⟩]
def b8e : List AIns := [⟨some 16, none, .p (.mv (.t 7))⟩,
  ⟨some 2, none, .p (.mv (.c (.int .i64 0)))⟩,
  ⟨some 3, none, .p (.mv (.c (.int .i64 0)))⟩,
  ⟨some 4, none, .p (.mv (.t 16))⟩]
def a5D : List AIns := [⟨some 17, none, .p (.mv (.t 5))⟩,
  ⟨some 18, none, .p (.bin .gtr (.t 17) (.c (.int .i64 64)))⟩,
  ⟨some 19, none, .p (.mv (.t 18))⟩,
  ⟨some 20, some (19, false), .p (.mv (.t 6))⟩,
  ⟨some 21, some (19, false), .p (.bin .gtr (.t 20) (.c (.int .i64 64)))⟩,
  ⟨some 22, none, .p (.pick (.t 19) (.c (.bool true)) (.t 21))⟩]
def a9C : List AIns := [⟨some 2, none, .p (.mv (.c (.int .i64 0)))⟩,
  ⟨some 3, none, .p (.mv (.c (.int .i64 0)))⟩,
  ⟨some 4, none, .p (.mv (.c (.int .i64 60)))⟩]
def b8d : List AIns := [⟨some 23, none, .p (.mv (.t 5))⟩,
  ⟨some 24, none, .p (.mv (.t 6))⟩,
  ⟨some 2, none, .p (.mv (.t 23))⟩,
  ⟨some 3, none, .p (.mv (.t 24))⟩,
  ⟨some 4, none, .p (.mv (.c (.int .i64 0)))⟩]
def d3b : ACode := .seq (.region a5G false) (.seq (.region a5F false) (.seq (.seq (.region a5E false) (.cond (.t 15) (.seq (.region b8e false) (.ret)) (.skip))) (.seq (.seq (.region a5D false) (.cond (.t 22) (.seq (.region a9C false) (.ret)) (.skip))) (.seq (.region b8d false) (.ret)))))
theorem a9D : fchk Pr (fun _ _ => false) Try.f49 = some (d3b, [.tmp 2, .tmp 3, .tmp 4], 25) := by kernel_rfl
theorem a9E : Pr.funcs[a7l]? = some Try.f49 := Try.func49
def b1I : List AIns := [⟨some 4, none, .p (.mv (.c (.nil)))⟩,
  ⟨some 5, none, .p (.mv (.c (.nil)))⟩,
  ⟨some 6, none, .e (.box 2 (.c (.agg [.bool false, .nil])))⟩,
  ⟨some 7, none, .p (.mv (.c (.bool false)))⟩]
def a6v : List AIns := [⟨some 18, none, .p (.mv (.t 0))⟩,
  ⟨some 19, none, .call a9U [(.t 18)]⟩,
  ⟨some 8, none, .p (.mv (.t 19))⟩]
def a6u : List AIns := [⟨some 9, none, .p (.mv (.c (.nil)))⟩]
def a6t : List AIns := [⟨some 20, none, .call a6z [(.c (.int .i64 1))]⟩,
  ⟨some 10, none, .e (.box 2 (.c (.agg [.bool false, .nil])))⟩,
  ⟨none, none, .e (.store 2 (.t 10) (.t 20))⟩,
  ⟨some 11, none, .p (.mv (.c (.bool false)))⟩]
def a6s : List AIns := [⟨some 21, none, .p (.mv (.t 1))⟩,
  ⟨some 22, none, .p (.mv (.c (.int .i64 0)))⟩]
def a6r : List AIns := [⟨some 23, none, .p (.bin .lss (.t 22) (.t 21))⟩]
def b1H : List AIns := [⟨some 24, none, .p (.mv (.t 22))⟩,
  ⟨some 12, none, .p (.mv (.t 24))⟩]
def b1G : List AIns := [⟨some 25, none, .p (.mv (.t 9))⟩,
  ⟨some 26, none, .p (.len (.t 25))⟩,
  ⟨some 13, none, .p (.mv (.t 26))⟩]
def b1F : List AIns := [⟨some 27, none, .p (.mv (.t 13))⟩,
  ⟨some 14, none, .p (.mv (.t 27))⟩]
def a2y : List AIns := [⟨some 28, none, .p (.mv (.t 14))⟩,
  ⟨some 29, none, .p (.mv (.t 8))⟩,
  ⟨some 30, none, .p (.len (.t 29))⟩,
  ⟨some 31, none, .p (.bin .lss (.t 28) (.t 30))⟩,
  ⟨some 32, none, .p (.mv (.t 31))⟩,
  ⟨some 33, some (32, true), .p (.mv (.t 8))⟩,
  ⟨some 34, some (32, true), .p (.mv (.t 14))⟩,
  ⟨some 35, some (32, true), .p (.idxp 1 (.t 33) (.t 34))⟩,
  ⟨some 36, some (32, true), .p (.load none (.t 35))⟩,
  ⟨some 37, some (32, true), .p (.mv (.t 12))⟩,
  ⟨some 38, some (32, true), .p (.idxp 2 (.t 36) (.t 37))⟩,
  ⟨some 39, some (32, true), .p (.load (some 2) (.t 38))⟩,
  ⟨some 40, some (32, true), .call a1Q [(.t 39)]⟩,
  ⟨some 41, some (32, true), .p (.bin .eql (.t 40) (.c (.int .i64 0)))⟩,
  ⟨some 42, none, .p (.pick (.t 32) (.t 41) (.c (.bool false)))⟩]
def a5n : List AIns := [⟨some 43, none, .p (.mv (.t 14))⟩,
  ⟨some 44, none, .p (.bin .add (.t 43) (.c (.int .i64 1)))⟩,
  ⟨some 14, none, .p (.mv (.t 44))⟩]
def c5S : ACode := .seq (.seq (.region a2y false) (.cond (.t 42) (.skip) (.exit 2))) (.block 3 (.region a5n false))
def a5m : List AIns := [⟨some 45, none, .p (.mv (.t 14))⟩,
  ⟨some 46, none, .p (.mv (.t 8))⟩,
  ⟨some 47, none, .p (.len (.t 46))⟩,
  ⟨some 48, none, .p (.bin .eql (.t 45) (.t 47))⟩]
def a5l : List AIns := [⟨some 49, none, .p (.mv (.t 14))⟩,
  ⟨some 50, none, .p (.mv (.t 13))⟩,
  ⟨some 51, none, .p (.bin .neq (.t 49) (.t 50))⟩]
def b0A : List AIns := [⟨some 52, none, .p (.mv (.t 8))⟩,
  ⟨some 53, none, .p (.mv (.t 14))⟩,
  ⟨some 54, none, .p (.mv (.t 8))⟩,
  ⟨some 55, none, .p (.mv (.t 13))⟩,
  ⟨some 56, none, .p (.mv (.t 8))⟩,
  ⟨some 57, none, .p (.mv (.t 13))⟩,
  ⟨some 58, none, .p (.idxp 1 (.t 56) (.t 57))⟩,
  ⟨some 59, none, .p (.load none (.t 58))⟩,
  ⟨some 60, none, .p (.mv (.t 8))⟩,
  ⟨some 61, none, .p (.mv (.t 14))⟩,
  ⟨some 62, none, .p (.idxp 1 (.t 60) (.t 61))⟩,
  ⟨some 63, none, .p (.load none (.t 62))⟩,
  ⟨some 64, none, .p (.idxp 1 (.t 52) (.t 53))⟩,
  ⟨none, none, .e (.store 1 (.t 64) (.t 59))⟩,
  ⟨some 65, none, .p (.idxp 1 (.t 54) (.t 55))⟩,
  ⟨none, none, .e (.store 1 (.t 65) (.t 63))⟩]
def b0z : List AIns := [⟨some 66, none, .p (.mv (.t 11))⟩,
  ⟨some 67, none, .p (.un .not (.t 66))⟩,
  ⟨some 11, none, .p (.mv (.t 67))⟩]
def a5k : List AIns := [⟨some 68, none, .p (.mv (.t 13))⟩,
  ⟨some 69, none, .p (.bin .add (.t 68) (.c (.int .i64 1)))⟩,
  ⟨some 15, none, .p (.mv (.t 69))⟩]
def a5j : List AIns := [⟨some 70, none, .p (.mv (.t 15))⟩,
  ⟨some 71, none, .p (.mv (.t 8))⟩,
  ⟨some 72, none, .p (.len (.t 71))⟩,
  ⟨some 73, none, .p (.bin .lss (.t 70) (.t 72))⟩]
def b0y : List AIns := [⟨some 76, none, .p (.mv (.t 8))⟩,
  ⟨some 77, none, .p (.mv (.t 15))⟩,
  ⟨some 78, none, .p (.idxp 1 (.t 76) (.t 77))⟩,
  ⟨some 79, none, .p (.load none (.t 78))⟩,
  ⟨some 80, none, .p (.len (.t 79))⟩,
  ⟨some 81, none, .p (.bin .sub (.t 80) (.c (.int .i64 1)))⟩,
  ⟨some 16, none, .p (.mv (.t 81))⟩]
def a5i : List AIns := [⟨some 82, none, .p (.mv (.t 16))⟩,
  ⟨some 83, none, .p (.mv (.t 12))⟩,
  ⟨some 84, none, .p (.bin .geq (.t 82) (.t 83))⟩]
def b0x : List AIns := [⟨some 87, none, .p (.mv (.t 8))⟩,
  ⟨some 88, none, .p (.mv (.t 13))⟩,
  ⟨some 89, none, .p (.idxp 1 (.t 87) (.t 88))⟩,
  ⟨some 90, none, .p (.load none (.t 89))⟩,
  ⟨some 91, none, .p (.mv (.t 12))⟩,
  ⟨some 92, none, .p (.idxp 2 (.t 90) (.t 91))⟩,
  ⟨some 93, none, .p (.load (some 2) (.t 92))⟩,
  ⟨some 94, none, .p (.mv (.t 8))⟩,
  ⟨some 95, none, .p (.mv (.t 15))⟩,
  ⟨some 96, none, .p (.idxp 1 (.t 94) (.t 95))⟩,
  ⟨some 97, none, .p (.load none (.t 96))⟩,
  ⟨some 98, none, .p (.mv (.t 16))⟩,
  ⟨some 99, none, .p (.idxp 2 (.t 97) (.t 98))⟩,
  ⟨some 100, none, .p (.load (some 2) (.t 99))⟩,
  ⟨some 101, none, .call a3s [(.t 93), (.t 100)]⟩,
  ⟨some 102, none, .p (.mv (.t 8))⟩,
  ⟨some 103, none, .p (.mv (.t 15))⟩,
  ⟨some 104, none, .p (.idxp 1 (.t 102) (.t 103))⟩,
  ⟨some 105, none, .p (.load none (.t 104))⟩,
  ⟨some 106, none, .p (.mv (.t 12))⟩,
  ⟨some 107, none, .p (.idxp 2 (.t 105) (.t 106))⟩,
  ⟨some 108, none, .p (.load (some 2) (.t 107))⟩,
  ⟨some 109, none, .p (.mv (.t 8))⟩,
  ⟨some 110, none, .p (.mv (.t 13))⟩,
  ⟨some 111, none, .p (.idxp 1 (.t 109) (.t 110))⟩,
  ⟨some 112, none, .p (.load none (.t 111))⟩,
  ⟨some 113, none, .p (.mv (.t 16))⟩,
  ⟨some 114, none, .p (.idxp 2 (.t 112) (.t 113))⟩,
  ⟨some 115, none, .p (.load (some 2) (.t 114))⟩,
  ⟨some 116, none, .call a3s [(.t 108), (.t 115)]⟩,
  ⟨some 117, none, .call a5N [(.t 101), (.t 116)]⟩,
  ⟨some 17, none, .e (.box 2 (.c (.agg [.bool false, .nil])))⟩,
  ⟨none, none, .e (.store 2 (.t 17) (.t 117))⟩]
def b0w : List AIns := [⟨some 119, none, .p (.mv (.t 8))⟩,
  ⟨some 120, none, .p (.mv (.t 15))⟩,
  ⟨some 121, none, .p (.idxp 1 (.t 119) (.t 120))⟩,
  ⟨some 122, none, .p (.load none (.t 121))⟩,
  ⟨some 123, none, .p (.mv (.t 16))⟩,
  ⟨some 124, none, .p (.load (some 2) (.t 17))⟩,
  ⟨some 125, none, .p (.load (some 2) (.t 10))⟩,
  ⟨some 126, none, .call a2A [(.t 124), (.t 125)]⟩,
  ⟨some 118, none, .p (.mv (.t 126))⟩,
  ⟨some 127, none, .p (.ext (.t 118) 0)⟩,
  ⟨some 128, none, .p (.ext (.t 118) 1)⟩,
  ⟨some 129, none, .p (.ext (.t 118) 2)⟩,
  ⟨some 130, none, .p (.idxp 2 (.t 122) (.t 123))⟩,
  ⟨none, none, .e (.store 2 (.t 130) (.t 127))⟩]
def b0v : List AIns := [⟨some 85, none, .p (.mv (.t 16))⟩,
  ⟨some 86, none, .p (.bin .sub (.t 85) (.c (.int .i64 1)))⟩,
  ⟨some 16, none, .p (.mv (.t 86))⟩]
def c5R : ACode := .seq (.seq (.region a5i false) (.cond (.t 84) (.skip) (.exit 6))) (.seq (.block 7 (.seq (.region b0x true) (.region b0w true))) (.region b0v false))
def b0u : List AIns := [⟨some 74, none, .p (.mv (.t 15))⟩,
  ⟨some 75, none, .p (.bin .add (.t 74) (.c (.int .i64 1)))⟩,
  ⟨some 15, none, .p (.mv (.t 75))⟩]
def b1J : ACode := .seq (.seq (.region a5j false) (.cond (.t 73) (.skip) (.exit 4))) (.seq (.block 5 (.seq (.region b0y false) (.block 6 (.loop c5R)))) (.region b0u false))
def a5h : List AIns := [⟨some 131, none, .p (.mv (.t 8))⟩,
  ⟨some 132, none, .p (.mv (.t 13))⟩,
  ⟨some 133, none, .p (.idxp 1 (.t 131) (.t 132))⟩,
  ⟨some 134, none, .p (.load none (.t 133))⟩,
  ⟨some 135, none, .p (.mv (.t 12))⟩,
  ⟨some 136, none, .p (.idxp 2 (.t 134) (.t 135))⟩,
  ⟨some 137, none, .p (.load (some 2) (.t 136))⟩,
  ⟨none, none, .e (.store 2 (.t 10) (.t 137))⟩]
def a5g : List AIns := [⟨some 138, none, .p (.mv (.t 9))⟩,
  ⟨some 139, none, .p (.mv (.t 12))⟩,
  ⟨some 140, none, .e (.bsl 1 [(.t 139)])⟩,
  ⟨some 141, none, .e (.app 1 8 false (.t 138) (.t 140))⟩,
  ⟨some 9, none, .p (.mv (.t 141))⟩]
def a3f : List AIns := [⟨some 142, none, .p (.bin .add (.t 22) (.c (.int .i64 1)))⟩,
  ⟨some 22, none, .p (.mv (.t 142))⟩]
def a6w : ACode := .seq (.region a6r false) (.seq (.cond (.t 23) (.skip) (.exit 0)) (.seq (.block 1 (.seq (.region b1H false) (.seq (.region b1G false) (.seq (.region b1F false) (.seq (.block 2 (.loop c5S)) (.seq (.seq (.region a5m false) (.cond (.t 48) (.exit 1) (.skip))) (.seq (.seq (.region a5l false) (.cond (.t 51) (.seq (.region b0A true) (.region b0z false)) (.skip))) (.seq (.seq (.region a5k false) (.block 4 (.loop b1J))) (.seq (.region a5h false) (.region a5g false)))))))))) (.region a3f false)))
def a3e : List AIns := [⟨some 143, none, .p (.mv (.t 8))⟩,
  ⟨some 144, none, .p (.mv (.t 9))⟩,
  ⟨some 145, none, .p (.load (some 2) (.t 10))⟩,
  ⟨some 146, none, .p (.mv (.t 11))⟩,
  ⟨some 4, none, .p (.mv (.t 143))⟩,
  ⟨some 5, none, .p (.mv (.t 144))⟩,
  ⟨none, none, .e (.store 2 (.t 6) (.t 145))⟩,
  ⟨some 7, none, .p (.mv (.t 146))⟩]
def c6C : ACode := .seq (.region b1I false) (.scope (.seq (.region a6v false) (.seq (.region a6u false) (.seq (.region a6t false) (.seq (.label 0) (.seq (.seq (.region a6s false) (.block 0 (.loop a6w))) (.seq (.region a3e true) (.ret))))))))
theorem c5Q : fchk Pr (fun _ _ => false) Try.f50 = some (c6C, [.tmp 4, .tmp 5, .cell 6 (some 2), .tmp 7], 147) := by kernel_rfl
theorem c5T : Pr.funcs[a3a]? = some Try.f50 := Try.func50
def a4B : List AIns := [⟨some 2, none, .p (.mv (.c (.int .i64 0)))⟩]
def a4A : List AIns := [⟨some 7, none, .p (.mv (.t 0))⟩,
  ⟨some 8, none, .call a3S [(.t 7)]⟩,
  ⟨some 6, none, .p (.mv (.t 8))⟩,
  ⟨some 9, none, .p (.ext (.t 6) 0)⟩,
  ⟨some 10, none, .p (.ext (.t 6) 1)⟩,
  ⟨some 11, none, .p (.ext (.t 6) 2)⟩,
  ⟨some 3, none, .p (.mv (.t 9))⟩,
  ⟨some 4, none, .p (.mv (.t 10))⟩,
  ⟨some 5, none, .p (.mv (.t 11))⟩]
def a4z : List AIns := [⟨some 12, none, .p (.mv (.t 5))⟩,
  ⟨some 13, none, .p (.bin .neq (.t 12) (.c (.int .i64 0)))⟩]
def b2J : List AIns := [⟨some 2, none, .p (.mv (.c (.int .i64 8)))⟩]
def a4y : List AIns := [⟨some 14, none, .p (.mv (.t 3))⟩,
  ⟨some 15, none, .p (.bin .gtr (.t 14) (.c (.int .i64 64)))⟩,
  ⟨some 16, none, .p (.mv (.t 15))⟩,
  ⟨some 17, some (16, false), .p (.mv (.t 4))⟩,
  ⟨some 18, some (16, false), .p (.bin .gtr (.t 17) (.c (.int .i64 64)))⟩,
  ⟨some 19, none, .p (.pick (.t 16) (.c (.bool true)) (.t 18))⟩]
def a7m : List AIns := [⟨some 2, none, .p (.mv (.c (.int .i64 60)))⟩]
def b2I : List AIns := [⟨some 2, none, .p (.mv (.c (.int .i64 0)))⟩]
def c9g : ACode := .seq (.region a4B false) (.seq (.region a4A false) (.seq (.seq (.region a4z false) (.cond (.t 13) (.seq (.region b2J false) (.ret)) (.skip))) (.seq (.seq (.region a4y false) (.cond (.t 19) (.seq (.region a7m false) (.ret)) (.skip))) (.seq (.region b2I false) (.ret)))))
theorem a7n : fchk Pr (fun _ _ => false) Try.f51 = some (c9g, [.tmp 2], 20) := by kernel_rfl
theorem a7o : Pr.funcs[a5I]? = some Try.f51 := Try.func51
def b0c : List AIns := [⟨some 4, none, .p (.mv (.c (.nil)))⟩,
  ⟨some 5, none, .p (.mv (.c (.nil)))⟩,
  ⟨some 6, none, .e (.box 4 (.c (.agg [.bool false, .nil, .bool false, .nil])))⟩]
def b0b : List AIns := [⟨some 15, none, .call a3t [(.c (.int .i64 1))]⟩,
  ⟨some 16, none, .call a8p [(.t 15)]⟩,
  ⟨some 7, none, .e (.box 4 (.c (.agg [.bool false, .nil, .bool false, .nil])))⟩,
  ⟨none, none, .e (.store 4 (.t 7) (.t 16))⟩]
def b0a : List AIns := [⟨some 8, none, .p (.mv (.c (.nil)))⟩]
def a9Z : List AIns := [⟨some 9, none, .p (.mv (.c (.int .i64 0)))⟩]
def a9Y : List AIns := [⟨some 10, none, .p (.mv (.c (.int .i64 0)))⟩]
def a5b : List AIns := [⟨some 17, none, .p (.mv (.t 10))⟩,
  ⟨some 18, none, .p (.mv (.t 1))⟩,
  ⟨some 19, none, .p (.bin .lss (.t 17) (.t 18))⟩]
def a9X : List AIns := [⟨some 22, none, .p (.mv (.t 9))⟩,
  ⟨some 11, none, .p (.mv (.t 22))⟩]
def a2f : List AIns := [⟨some 23, none, .p (.mv (.t 11))⟩,
  ⟨some 24, none, .p (.mv (.t 0))⟩,
  ⟨some 25, none, .p (.len (.t 24))⟩,
  ⟨some 26, none, .p (.bin .lss (.t 23) (.t 25))⟩,
  ⟨some 27, none, .p (.mv (.t 26))⟩,
  ⟨some 28, some (27, true), .p (.mv (.t 0))⟩,
  ⟨some 29, some (27, true), .p (.mv (.t 11))⟩,
  ⟨some 30, some (27, true), .p (.idxp 1 (.t 28) (.t 29))⟩,
  ⟨some 31, some (27, true), .p (.load none (.t 30))⟩,
  ⟨some 32, some (27, true), .p (.mv (.t 10))⟩,
  ⟨some 33, some (27, true), .p (.idxp 4 (.t 31) (.t 32))⟩,
  ⟨some 34, some (27, true), .p (.load (some 4) (.t 33))⟩,
  ⟨some 35, some (27, true), .call a7d [(.t 34)]⟩,
  ⟨some 36, none, .p (.pick (.t 27) (.t 35) (.c (.bool false)))⟩]
def a5a : List AIns := [⟨some 37, none, .p (.mv (.t 11))⟩,
  ⟨some 38, none, .p (.bin .add (.t 37) (.c (.int .i64 1)))⟩,
  ⟨some 11, none, .p (.mv (.t 38))⟩]
def c2H : ACode := .seq (.seq (.region a2f false) (.cond (.t 36) (.skip) (.exit 2))) (.block 3 (.region a5a false))
def a4Z : List AIns := [⟨some 39, none, .p (.mv (.t 11))⟩,
  ⟨some 40, none, .p (.mv (.t 0))⟩,
  ⟨some 41, none, .p (.len (.t 40))⟩,
  ⟨some 42, none, .p (.bin .eql (.t 39) (.t 41))⟩]
def a7X : List AIns := [⟨some 43, none, .call a3t [(.c (.int .i64 0))]⟩,
  ⟨some 44, none, .call a8p [(.t 43)]⟩,
  ⟨none, none, .e (.store 4 (.t 7) (.t 44))⟩]
def a4j : List AIns := [⟨some 45, none, .p (.mv (.t 11))⟩,
  ⟨some 46, none, .p (.mv (.t 9))⟩,
  ⟨some 47, none, .p (.bin .neq (.t 45) (.t 46))⟩]
def a7W : List AIns := [⟨some 48, none, .p (.mv (.t 0))⟩,
  ⟨some 49, none, .p (.mv (.t 11))⟩,
  ⟨some 50, none, .p (.mv (.t 0))⟩,
  ⟨some 51, none, .p (.mv (.t 9))⟩,
  ⟨some 52, none, .p (.mv (.t 0))⟩,
  ⟨some 53, none, .p (.mv (.t 9))⟩,
  ⟨some 54, none, .p (.idxp 1 (.t 52) (.t 53))⟩,
  ⟨some 55, none, .p (.load none (.t 54))⟩,
  ⟨some 56, none, .p (.mv (.t 0))⟩,
  ⟨some 57, none, .p (.mv (.t 11))⟩,
  ⟨some 58, none, .p (.idxp 1 (.t 56) (.t 57))⟩,
  ⟨some 59, none, .p (.load none (.t 58))⟩,
  ⟨some 60, none, .p (.idxp 1 (.t 48) (.t 49))⟩,
  ⟨none, none, .e (.store 1 (.t 60) (.t 55))⟩,
  ⟨some 61, none, .p (.idxp 1 (.t 50) (.t 51))⟩,
  ⟨none, none, .e (.store 1 (.t 61) (.t 59))⟩]
def a7V : List AIns := [⟨some 62, none, .p (.load (some 4) (.t 7))⟩,
  ⟨some 63, none, .call a9N [(.t 62)]⟩,
  ⟨none, none, .e (.store 4 (.t 7) (.t 63))⟩]
def a4i : List AIns := [⟨some 64, none, .p (.mv (.t 0))⟩,
  ⟨some 65, none, .p (.mv (.t 9))⟩,
  ⟨some 66, none, .p (.idxp 1 (.t 64) (.t 65))⟩,
  ⟨some 67, none, .p (.load none (.t 66))⟩,
  ⟨some 68, none, .p (.mv (.t 10))⟩,
  ⟨some 69, none, .p (.idxp 4 (.t 67) (.t 68))⟩,
  ⟨some 70, none, .p (.load (some 4) (.t 69))⟩,
  ⟨some 12, none, .e (.box 4 (.c (.agg [.bool false, .nil, .bool false, .nil])))⟩,
  ⟨none, none, .e (.store 4 (.t 12) (.t 70))⟩]
def a4h : List AIns := [⟨some 71, none, .p (.load (some 4) (.t 7))⟩,
  ⟨some 72, none, .p (.load (some 4) (.t 12))⟩,
  ⟨some 73, none, .call a9O [(.t 71), (.t 72)]⟩,
  ⟨none, none, .e (.store 4 (.t 7) (.t 73))⟩]
def a4g : List AIns := [⟨some 13, none, .p (.mv (.c (.int .i64 0)))⟩]
def a4f : List AIns := [⟨some 74, none, .p (.mv (.t 13))⟩,
  ⟨some 75, none, .p (.mv (.t 1))⟩,
  ⟨some 76, none, .p (.bin .lss (.t 74) (.t 75))⟩]
def a7U : List AIns := [⟨some 79, none, .p (.mv (.t 0))⟩,
  ⟨some 80, none, .p (.mv (.t 9))⟩,
  ⟨some 81, none, .p (.idxp 1 (.t 79) (.t 80))⟩,
  ⟨some 82, none, .p (.load none (.t 81))⟩,
  ⟨some 83, none, .p (.mv (.t 13))⟩,
  ⟨some 84, none, .p (.mv (.t 0))⟩,
  ⟨some 85, none, .p (.mv (.t 9))⟩,
  ⟨some 86, none, .p (.idxp 1 (.t 84) (.t 85))⟩,
  ⟨some 87, none, .p (.load none (.t 86))⟩,
  ⟨some 88, none, .p (.mv (.t 13))⟩,
  ⟨some 89, none, .p (.idxp 4 (.t 87) (.t 88))⟩,
  ⟨some 90, none, .p (.load (some 4) (.t 89))⟩,
  ⟨some 91, none, .p (.load (some 4) (.t 12))⟩,
  ⟨some 92, none, .call b4U [(.t 90), (.t 91)]⟩,
  ⟨some 93, none, .p (.idxp 4 (.t 82) (.t 83))⟩,
  ⟨none, none, .e (.store 4 (.t 93) (.t 92))⟩]
def a7T : List AIns := [⟨some 77, none, .p (.mv (.t 13))⟩,
  ⟨some 78, none, .p (.bin .add (.t 77) (.c (.int .i64 1)))⟩,
  ⟨some 13, none, .p (.mv (.t 78))⟩]
def b0e : ACode := .seq (.seq (.region a4f false) (.cond (.t 76) (.skip) (.exit 4))) (.seq (.block 5 (.region a7U true)) (.region a7T false))
def a4e : List AIns := [⟨some 14, none, .p (.mv (.c (.int .i64 0)))⟩]
def a4d : List AIns := [⟨some 94, none, .p (.mv (.t 14))⟩,
  ⟨some 95, none, .p (.mv (.t 0))⟩,
  ⟨some 96, none, .p (.len (.t 95))⟩,
  ⟨some 97, none, .p (.bin .lss (.t 94) (.t 96))⟩]
def a4c : List AIns := [⟨some 100, none, .p (.mv (.t 14))⟩,
  ⟨some 101, none, .p (.mv (.t 9))⟩,
  ⟨some 102, none, .p (.bin .neq (.t 100) (.t 101))⟩,
  ⟨some 103, none, .p (.mv (.t 102))⟩,
  ⟨some 104, some (103, true), .p (.mv (.t 0))⟩,
  ⟨some 105, some (103, true), .p (.mv (.t 14))⟩,
  ⟨some 106, some (103, true), .p (.idxp 1 (.t 104) (.t 105))⟩,
  ⟨some 107, some (103, true), .p (.load none (.t 106))⟩,
  ⟨some 108, some (103, true), .p (.mv (.t 10))⟩,
  ⟨some 109, some (103, true), .p (.idxp 4 (.t 107) (.t 108))⟩,
  ⟨some 110, some (103, true), .p (.load (some 4) (.t 109))⟩,
  ⟨some 111, some (103, true), .call a7d [(.t 110)]⟩,
  ⟨some 112, some (103, true), .p (.un .not (.t 111))⟩,
  ⟨some 113, none, .p (.pick (.t 103) (.t 112) (.c (.bool false)))⟩]
def a7S : List AIns := [⟨some 114, none, .p (.mv (.t 0))⟩,
  ⟨some 115, none, .p (.mv (.t 14))⟩,
  ⟨some 116, none, .p (.mv (.t 9))⟩,
  ⟨some 117, none, .p (.mv (.t 0))⟩,
  ⟨some 118, none, .p (.mv (.t 14))⟩,
  ⟨some 119, none, .p (.idxp 1 (.t 117) (.t 118))⟩,
  ⟨some 120, none, .p (.load none (.t 119))⟩,
  ⟨some 121, none, .p (.mv (.t 10))⟩,
  ⟨some 122, none, .p (.idxp 4 (.t 120) (.t 121))⟩,
  ⟨some 123, none, .p (.load (some 4) (.t 122))⟩,
  ⟨some 124, none, .call a7f [(.t 114), (.t 115), (.t 116), (.t 123)]⟩]
def a2I : List AIns := [⟨some 98, none, .p (.mv (.t 14))⟩,
  ⟨some 99, none, .p (.bin .add (.t 98) (.c (.int .i64 1)))⟩,
  ⟨some 14, none, .p (.mv (.t 99))⟩]
def b0d : ACode := .seq (.seq (.region a4d false) (.cond (.t 97) (.skip) (.exit 6))) (.seq (.block 7 (.seq (.region a4c false) (.cond (.t 113) (.region a7S false) (.skip)))) (.region a2I false))
def a4b : List AIns := [⟨some 125, none, .p (.mv (.t 8))⟩,
  ⟨some 126, none, .p (.mv (.t 10))⟩,
  ⟨some 127, none, .e (.bsl 1 [(.t 126)])⟩,
  ⟨some 128, none, .e (.app 1 8 false (.t 125) (.t 127))⟩,
  ⟨some 8, none, .p (.mv (.t 128))⟩]
def a4a : List AIns := [⟨some 129, none, .p (.mv (.t 9))⟩,
  ⟨some 130, none, .p (.bin .add (.t 129) (.c (.int .i64 1)))⟩,
  ⟨some 9, none, .p (.mv (.t 130))⟩]
def a2H : List AIns := [⟨some 20, none, .p (.mv (.t 10))⟩,
  ⟨some 21, none, .p (.bin .add (.t 20) (.c (.int .i64 1)))⟩,
  ⟨some 10, none, .p (.mv (.t 21))⟩]
def b0f : ACode := .seq (.seq (.region a5b false) (.cond (.t 19) (.skip) (.exit 0))) (.seq (.block 1 (.seq (.region a9X false) (.seq (.block 2 (.loop c2H)) (.seq (.seq (.region a4Z false) (.cond (.t 42) (.seq (.region a7X false) (.exit 1)) (.skip))) (.seq (.seq (.region a4j false) (.cond (.t 47) (.seq (.region a7W true) (.region a7V false)) (.skip))) (.seq (.region a4i false) (.seq (.region a4h false) (.seq (.seq (.region a4g false) (.block 4 (.loop b0e))) (.seq (.seq (.region a4e false) (.block 6 (.loop b0d))) (.seq (.region a4b false) (.region a4a false))))))))))) (.region a2H false))
def a3Z : List AIns := [⟨some 131, none, .p (.mv (.t 0))⟩,
  ⟨some 132, none, .p (.mv (.t 9))⟩,
  ⟨some 133, none, .p (.slc 1 (.t 131) none (some (.t 132)) none)⟩,
  ⟨some 134, none, .p (.mv (.t 8))⟩,
  ⟨some 135, none, .p (.load (some 4) (.t 7))⟩,
  ⟨some 4, none, .p (.mv (.t 133))⟩,
  ⟨some 5, none, .p (.mv (.t 134))⟩,
  ⟨none, none, .e (.store 4 (.t 6) (.t 135))⟩]
def c3R : ACode := .seq (.region b0c false) (.seq (.region b0b false) (.seq (.region b0a false) (.seq (.region a9Z false) (.seq (.seq (.region a9Y false) (.block 0 (.loop b0f))) (.seq (.region a3Z true) (.ret))))))
theorem c2G : fchk Pr (fun _ _ => false) Try.f52 = some (c3R, [.tmp 4, .tmp 5, .cell 6 (some 4)], 136) := by kernel_rfl
theorem c2I : Pr.funcs[a1i]? = some Try.f52 := Try.func52
def b5A : List AIns := [⟨some 2, none, .p (.mv (.c (.nil)))⟩]
def b5z : List AIns := [⟨some 3, none, .p (.mv (.c (.nil)))⟩]
def b5y : List AIns := [⟨some 4, none, .p (.mv (.c (.int .i64 0)))⟩]
def a8E : List AIns := [⟨some 7, none, .p (.mv (.t 4))⟩,
  ⟨some 8, none, .p (.mv (.t 0))⟩,
  ⟨some 9, none, .p (.len (.t 8))⟩,
  ⟨some 10, none, .p (.bin .lss (.t 7) (.t 9))⟩]
def b5x : List AIns := [⟨some 5, none, .p (.mv (.c (.nil)))⟩]
def b5w : List AIns := [⟨some 6, none, .p (.mv (.c (.int .i64 0)))⟩]
def a8D : List AIns := [⟨some 13, none, .p (.mv (.t 6))⟩,
  ⟨some 14, none, .p (.mv (.t 0))⟩,
  ⟨some 15, none, .p (.mv (.t 4))⟩,
  ⟨some 16, none, .p (.idxp 1 (.t 14) (.t 15))⟩,
  ⟨some 17, none, .p (.load none (.t 16))⟩,
  ⟨some 18, none, .p (.len (.t 17))⟩,
  ⟨some 19, none, .p (.bin .lss (.t 13) (.t 18))⟩]
def b5v : List AIns := [⟨some 22, none, .p (.mv (.t 5))⟩,
  ⟨some 23, none, .p (.mv (.t 0))⟩,
  ⟨some 24, none, .p (.mv (.t 4))⟩,
  ⟨some 25, none, .p (.idxp 1 (.t 23) (.t 24))⟩,
  ⟨some 26, none, .p (.load none (.t 25))⟩,
  ⟨some 27, none, .p (.mv (.t 6))⟩,
  ⟨some 28, none, .p (.idxp 2 (.t 26) (.t 27))⟩,
  ⟨some 29, none, .p (.load (some 2) (.t 28))⟩,
  ⟨some 30, none, .call a8p [(.t 29)]⟩,
  ⟨some 31, none, .e (.bsl 4 [(.t 30)])⟩,
  ⟨some 32, none, .e (.app 4 64 false (.t 22) (.t 31))⟩,
  ⟨some 5, none, .p (.mv (.t 32))⟩]
def b5u : List AIns := [⟨some 20, none, .p (.mv (.t 6))⟩,
  ⟨some 21, none, .p (.bin .add (.t 20) (.c (.int .i64 1)))⟩,
  ⟨some 6, none, .p (.mv (.t 21))⟩]
def c8U : ACode := .seq (.seq (.region a8D false) (.cond (.t 19) (.skip) (.exit 2))) (.seq (.block 3 (.region b5v false)) (.region b5u false))
def b5t : List AIns := [⟨some 33, none, .p (.mv (.t 3))⟩,
  ⟨some 34, none, .p (.mv (.t 5))⟩,
  ⟨some 35, none, .e (.bslm 1 [(.t 34)])⟩,
  ⟨some 36, none, .e (.app 1 24 false (.t 33) (.t 35))⟩,
  ⟨some 3, none, .p (.mv (.t 36))⟩]
def b2C : List AIns := [⟨some 11, none, .p (.mv (.t 4))⟩,
  ⟨some 12, none, .p (.bin .add (.t 11) (.c (.int .i64 1)))⟩,
  ⟨some 4, none, .p (.mv (.t 12))⟩]
def c8V : ACode := .seq (.seq (.region a8E false) (.cond (.t 10) (.skip) (.exit 0))) (.seq (.block 1 (.seq (.region b5x false) (.seq (.seq (.region b5w false) (.block 2 (.loop c8U))) (.region b5t false)))) (.region b2C false))
def b2B : List AIns := [⟨some 37, none, .p (.mv (.t 3))⟩,
  ⟨some 2, none, .p (.mv (.t 37))⟩]
def d1a : ACode := .seq (.region b5A false) (.seq (.region b5z false) (.seq (.seq (.region b5y false) (.block 0 (.loop c8V))) (.seq (.region b2B false) (.ret))))
theorem c8T : fchk Pr (fun _ k => (k == 2)) Try.f53 = some (d1a, [.tmp 2], 38) := by kernel_rfl
theorem c8W : Pr.funcs[a7e]? = some Try.f53 := Try.func53
def b5H : List AIns := [⟨some 2, none, .p (.mv (.c (.int .i64 0)))⟩]
def b5G : List AIns := [⟨some 7, none, .p (.mv (.t 0))⟩,
  ⟨some 8, none, .call a3S [(.t 7)]⟩,
  ⟨some 6, none, .p (.mv (.t 8))⟩,
  ⟨some 9, none, .p (.ext (.t 6) 0)⟩,
  ⟨some 10, none, .p (.ext (.t 6) 1)⟩,
  ⟨some 11, none, .p (.ext (.t 6) 2)⟩,
  ⟨some 3, none, .p (.mv (.t 9))⟩,
  ⟨some 4, none, .p (.mv (.t 10))⟩,
  ⟨some 5, none, .p (.mv (.t 11))⟩]
def b5F : List AIns := [⟨some 12, none, .p (.mv (.t 4))⟩,
  ⟨some 2, none, .p (.mv (.t 12))⟩]
def d1c : ACode := .seq (.region b5H false) (.seq (.region b5G false) (.seq (.region b5F false) (.ret)))
theorem c9a : fchk Pr (fun _ _ => false) Try.f54 = some (d1c, [.tmp 2], 13) := by kernel_rfl
theorem c9b : Pr.funcs[a7g]? = some Try.f54 := Try.func54
def c2o : List AIns := [⟨some 1, none, .e (.box 2 (.t 0))⟩,
  ⟨some 2, none, .e (.box 2 (.c (.agg [.bool false, .nil])))⟩]
def c2n : List AIns := [⟨some 3, none, .p (.mv (.c (.nil)))⟩]
def c2m : List AIns := [⟨some 4, none, .p (.mv (.t 3))⟩,
  ⟨some 5, none, .p (.fldp (.t 1) 1)⟩,
  ⟨some 6, none, .p (.load none (.t 5))⟩,
  ⟨some 7, none, .e (.app 1 4 false (.t 4) (.t 6))⟩,
  ⟨some 3, none, .p (.mv (.t 7))⟩]
def c2l : List AIns := [⟨some 8, none, .p (.mv (.t 3))⟩,
  ⟨some 9, none, .e (.bsl 1 [(.c (.int .u32 77)), (.c (.int .u32 78)), (.c (.int .u32 79)), (.c (.int .u32 80)), (.c (.int .u32 81)), (.c (.int .u32 82)), (.c (.int .u32 83)), (.c (.int .u32 84)), (.c (.int .u32 85))])⟩,
  ⟨some 10, none, .e (.app 1 4 false (.t 8) (.t 9))⟩,
  ⟨some 3, none, .p (.mv (.t 10))⟩]
def c2k : List AIns := [⟨some 11, none, .p (.fldp (.t 1) 0)⟩,
  ⟨some 12, none, .p (.load none (.t 11))⟩,
  ⟨some 13, none, .p (.mv (.t 3))⟩,
  ⟨some 14, none, .p (.fldp (.t 1) 1)⟩,
  ⟨some 15, none, .p (.load none (.t 14))⟩,
  ⟨some 16, none, .p (.len (.t 15))⟩,
  ⟨some 17, none, .p (.slc 1 (.t 13) none (some (.t 16)) none)⟩,
  ⟨some 18, none, .p (.bld [.bool false, .nil] [(0, 1, (.t 12)), (1, 1, (.t 17))])⟩,
  ⟨none, none, .e (.store 2 (.t 2) (.t 18))⟩]
def d4U : ACode := .seq (.region c2o false) (.seq (.region c2n false) (.seq (.region c2m false) (.seq (.region c2l false) (.seq (.region c2k true) (.ret)))))
theorem d2G : fchk Pr (fun _ _ => false) Try.f57 = some (d4U, [.cell 2 (some 2)], 19) := by kernel_rfl
theorem d2H : Pr.funcs[b5a]? = some Try.f57 := Try.func57
def c3z : List AIns := [⟨some 1, none, .e (.box 2 (.t 0))⟩,
  ⟨some 2, none, .e (.box 2 (.c (.agg [.bool false, .nil])))⟩]
def c3y : List AIns := [⟨some 3, none, .p (.fldp (.t 1) 1)⟩,
  ⟨some 4, none, .p (.load none (.t 3))⟩,
  ⟨some 5, none, .call a0X [(.c (.bool false)), (.t 4)]⟩,
  ⟨none, none, .e (.store 2 (.t 2) (.t 5))⟩]
def d6S : ACode := .seq (.region c3z false) (.seq (.region c3y false) (.ret))
theorem d3L : fchk Pr (fun _ _ => false) Try.f59 = some (d6S, [.cell 2 (some 2)], 6) := by kernel_rfl
theorem d3M : Pr.funcs[b9y]? = some Try.f59 := Try.func59
def c6J : List AIns := [⟨some 2, none, .e (.box 2 (.c (.agg [.bool false, .nil])))⟩]
def c6I : List AIns := [⟨some 4, none, .p (.mv (.t 0))⟩,
  ⟨some 5, none, .p (.conv .u64 (.t 4))⟩,
  ⟨some 3, none, .p (.mv (.t 5))⟩]
def c6H : List AIns := [⟨some 6, none, .p (.mv (.t 0))⟩,
  ⟨some 7, none, .p (.bin .lss (.t 6) (.c (.int .i64 0)))⟩]
def c6G : List AIns := [⟨some 8, none, .p (.mv (.t 3))⟩,
  ⟨some 9, none, .p (.un .neg (.t 8))⟩,
  ⟨some 3, none, .p (.mv (.t 9))⟩]
def b8s : List AIns := [⟨some 10, none, .p (.mv (.t 0))⟩,
  ⟨some 11, none, .p (.bin .lss (.t 10) (.c (.int .i64 0)))⟩,
  ⟨some 12, none, .p (.mv (.t 3))⟩,
  ⟨some 13, none, .p (.conv .u32 (.t 12))⟩,
  ⟨some 14, none, .p (.mv (.t 3))⟩,
  ⟨some 15, none, .p (.bin .shr (.t 14) (.c (.int .u64 32)))⟩,
  ⟨some 16, none, .p (.conv .u32 (.t 15))⟩,
  ⟨some 17, none, .e (.bsl 1 [(.t 13), (.t 16)])⟩,
  ⟨some 18, none, .call a0X [(.t 11), (.t 17)]⟩,
  ⟨none, none, .e (.store 2 (.t 2) (.t 18))⟩]
def d8I : ACode := .seq (.region c6J false) (.seq (.region c6I false) (.seq (.seq (.region c6H false) (.cond (.t 7) (.region c6G false) (.skip))) (.seq (.region b8s false) (.ret))))
theorem d6M : fchk Pr (fun _ _ => false) Try.f60 = some (d8I, [.cell 2 (some 2)], 19) := by kernel_rfl
theorem d6N : Pr.funcs[a6z]? = some Try.f60 := Try.func60
def c4c : List AIns := [⟨some 2, none, .e (.box 2 (.c (.agg [.bool false, .nil])))⟩]
def c4b : List AIns := [⟨some 4, none, .p (.mv (.t 0))⟩,
  ⟨some 5, none, .p (.conv .u64 (.t 4))⟩,
  ⟨some 3, none, .p (.mv (.t 5))⟩]
def c4a : List AIns := [⟨some 6, none, .p (.mv (.t 0))⟩,
  ⟨some 7, none, .p (.bin .lss (.t 6) (.c (.int .i64 0)))⟩]
def c3Z : List AIns := [⟨some 8, none, .p (.mv (.t 3))⟩,
  ⟨some 9, none, .p (.un .neg (.t 8))⟩,
  ⟨some 3, none, .p (.mv (.t 9))⟩]
def b4n : List AIns := [⟨some 10, none, .p (.mv (.t 0))⟩,
  ⟨some 11, none, .p (.bin .lss (.t 10) (.c (.int .i64 0)))⟩,
  ⟨some 12, none, .p (.mv (.t 3))⟩,
  ⟨some 13, none, .p (.conv .u32 (.t 12))⟩,
  ⟨some 14, none, .p (.mv (.t 3))⟩,
  ⟨some 15, none, .p (.bin .shr (.t 14) (.c (.int .u64 32)))⟩,
  ⟨some 16, none, .p (.conv .u32 (.t 15))⟩,
  ⟨some 17, none, .e (.bsl 1 [(.t 13), (.t 16)])⟩,
  ⟨some 18, none, .call a1j [(.t 11), (.t 17)]⟩,
  ⟨none, none, .e (.store 2 (.t 2) (.t 18))⟩]
def d7q : ACode := .seq (.region c4c false) (.seq (.region c4b false) (.seq (.seq (.region c4a false) (.cond (.t 7) (.region c3Z false) (.skip))) (.seq (.region b4n false) (.ret))))
theorem d4f : fchk Pr (fun _ _ => false) Try.f63 = some (d7q, [.cell 2 (some 2)], 19) := by kernel_rfl
theorem d4g : Pr.funcs[a3t]? = some Try.f63 := Try.func63
def b8c : List AIns := [⟨some 4, none, .p (.mv (.c (.nil)))⟩,
  ⟨some 5, none, .p (.mv (.c (.nil)))⟩]
def b8b : List AIns := [⟨some 18, none, .p (.mv (.t 0))⟩,
  ⟨some 19, none, .p (.mv (.t 1))⟩,
  ⟨some 20, none, .call a3a [(.t 18), (.t 19)]⟩,
  ⟨some 17, none, .p (.mv (.t 20))⟩,
  ⟨some 21, none, .p (.ext (.t 17) 0)⟩,
  ⟨some 22, none, .p (.ext (.t 17) 1)⟩,
  ⟨some 23, none, .p (.ext (.t 17) 2)⟩,
  ⟨some 24, none, .p (.ext (.t 17) 3)⟩,
  ⟨some 8, none, .e (.box 2 (.c (.agg [.bool false, .nil])))⟩,
  ⟨some 6, none, .p (.mv (.t 21))⟩,
  ⟨some 7, none, .p (.mv (.t 22))⟩,
  ⟨none, none, .e (.store 2 (.t 8) (.t 23))⟩,
  ⟨some 9, none, .p (.mv (.t 24))⟩]
def b8a : List AIns := [⟨some 25, none, .p (.mv (.t 6))⟩,
  ⟨some 26, none, .p (.mv (.t 7))⟩,
  ⟨some 27, none, .p (.len (.t 26))⟩,
  ⟨some 28, none, .p (.mv (.t 7))⟩,
  ⟨some 29, none, .p (.len (.t 28))⟩,
  ⟨some 30, none, .p (.slc 1 (.t 25) none (some (.t 27)) (some (.t 29)))⟩,
  ⟨some 6, none, .p (.mv (.t 30))⟩]
def b7Z : List AIns := [⟨some 31, none, .p (.mv (.t 6))⟩,
  ⟨some 32, none, .p (.len (.t 31))⟩,
  ⟨some 33, none, .p (.mv (.c (.int .i64 0)))⟩]
def a9B : List AIns := [⟨some 34, none, .p (.bin .lss (.t 33) (.t 32))⟩]
def b7Y : List AIns := [⟨some 35, none, .p (.mv (.t 33))⟩,
  ⟨some 10, none, .p (.mv (.t 35))⟩]
def b7X : List AIns := [⟨some 36, none, .p (.mv (.t 6))⟩,
  ⟨some 37, none, .p (.mv (.t 10))⟩,
  ⟨some 38, none, .p (.mv (.t 6))⟩,
  ⟨some 39, none, .p (.mv (.t 10))⟩,
  ⟨some 40, none, .p (.idxp 1 (.t 38) (.t 39))⟩,
  ⟨some 41, none, .p (.load none (.t 40))⟩,
  ⟨some 42, none, .call a2K [(.t 41)]⟩,
  ⟨some 43, none, .p (.idxp 1 (.t 36) (.t 37))⟩,
  ⟨none, none, .e (.store 1 (.t 43) (.t 42))⟩]
def b7W : List AIns := [⟨some 44, none, .p (.bin .add (.t 33) (.c (.int .i64 1)))⟩,
  ⟨some 33, none, .p (.mv (.t 44))⟩]
def d0h : ACode := .seq (.region a9B false) (.seq (.cond (.t 34) (.skip) (.exit 0)) (.seq (.block 1 (.seq (.region b7Y false) (.region b7X false))) (.region b7W false)))
def b7V : List AIns := [⟨some 45, none, .p (.mv (.t 6))⟩,
  ⟨some 46, none, .p (.len (.t 45))⟩,
  ⟨some 47, none, .p (.bin .sub (.t 46) (.c (.int .i64 1)))⟩,
  ⟨some 11, none, .p (.mv (.t 47))⟩]
def a9A : List AIns := [⟨some 48, none, .p (.mv (.t 11))⟩,
  ⟨some 49, none, .p (.bin .geq (.t 48) (.c (.int .i64 0)))⟩]
def b3D : List AIns := [⟨some 52, none, .p (.mv (.t 7))⟩,
  ⟨some 53, none, .p (.mv (.t 11))⟩,
  ⟨some 54, none, .p (.idxp 1 (.t 52) (.t 53))⟩,
  ⟨some 55, none, .p (.load none (.t 54))⟩,
  ⟨some 12, none, .p (.mv (.t 55))⟩]
def b3C : List AIns := [⟨some 56, none, .p (.mv (.t 11))⟩,
  ⟨some 57, none, .p (.mv (.c (.int .i64 0)))⟩]
def a7E : List AIns := [⟨some 58, none, .p (.bin .lss (.t 57) (.t 56))⟩]
def b3B : List AIns := [⟨some 59, none, .p (.mv (.t 57))⟩,
  ⟨some 13, none, .p (.mv (.t 59))⟩]
def b3A : List AIns := [⟨some 60, none, .p (.mv (.t 6))⟩,
  ⟨some 61, none, .p (.mv (.t 13))⟩,
  ⟨some 62, none, .p (.idxp 1 (.t 60) (.t 61))⟩,
  ⟨some 63, none, .p (.load none (.t 62))⟩,
  ⟨some 64, none, .p (.mv (.t 12))⟩,
  ⟨some 65, none, .p (.idxp 2 (.t 63) (.t 64))⟩,
  ⟨some 66, none, .p (.load (some 2) (.t 65))⟩,
  ⟨some 14, none, .e (.box 2 (.c (.agg [.bool false, .nil])))⟩,
  ⟨none, none, .e (.store 2 (.t 14) (.t 66))⟩]
def b3z : List AIns := [⟨some 67, none, .p (.load (some 2) (.t 14))⟩,
  ⟨some 68, none, .call a1Q [(.t 67)]⟩,
  ⟨some 69, none, .p (.bin .eql (.t 68) (.c (.int .i64 0)))⟩]
def b3y : List AIns := [⟨some 15, none, .p (.mv (.c (.nil)))⟩]
def b3x : List AIns := [⟨some 70, none, .p (.mv (.t 6))⟩,
  ⟨some 71, none, .p (.mv (.t 13))⟩,
  ⟨some 72, none, .p (.idxp 1 (.t 70) (.t 71))⟩,
  ⟨some 73, none, .p (.load none (.t 72))⟩,
  ⟨some 74, none, .p (.len (.t 73))⟩,
  ⟨some 75, none, .p (.mv (.c (.int .i64 0)))⟩]
def a7D : List AIns := [⟨some 76, none, .p (.bin .lss (.t 75) (.t 74))⟩]
def b3w : List AIns := [⟨some 77, none, .p (.mv (.t 75))⟩,
  ⟨some 16, none, .p (.mv (.t 77))⟩]
def b3v : List AIns := [⟨some 78, none, .p (.mv (.t 15))⟩,
  ⟨some 79, none, .p (.mv (.t 6))⟩,
  ⟨some 80, none, .p (.mv (.t 11))⟩,
  ⟨some 81, none, .p (.idxp 1 (.t 79) (.t 80))⟩,
  ⟨some 82, none, .p (.load none (.t 81))⟩,
  ⟨some 83, none, .p (.mv (.t 12))⟩,
  ⟨some 84, none, .p (.idxp 2 (.t 82) (.t 83))⟩,
  ⟨some 85, none, .p (.load (some 2) (.t 84))⟩,
  ⟨some 86, none, .p (.mv (.t 6))⟩,
  ⟨some 87, none, .p (.mv (.t 13))⟩,
  ⟨some 88, none, .p (.idxp 1 (.t 86) (.t 87))⟩,
  ⟨some 89, none, .p (.load none (.t 88))⟩,
  ⟨some 90, none, .p (.mv (.t 16))⟩,
  ⟨some 91, none, .p (.idxp 2 (.t 89) (.t 90))⟩,
  ⟨some 92, none, .p (.load (some 2) (.t 91))⟩,
  ⟨some 93, none, .call a3s [(.t 85), (.t 92)]⟩,
  ⟨some 94, none, .p (.load (some 2) (.t 14))⟩,
  ⟨some 95, none, .p (.mv (.t 6))⟩,
  ⟨some 96, none, .p (.mv (.t 11))⟩,
  ⟨some 97, none, .p (.idxp 1 (.t 95) (.t 96))⟩,
  ⟨some 98, none, .p (.load none (.t 97))⟩,
  ⟨some 99, none, .p (.mv (.t 16))⟩,
  ⟨some 100, none, .p (.idxp 2 (.t 98) (.t 99))⟩,
  ⟨some 101, none, .p (.load (some 2) (.t 100))⟩,
  ⟨some 102, none, .call a3s [(.t 94), (.t 101)]⟩,
  ⟨some 103, none, .call a5N [(.t 93), (.t 102)]⟩,
  ⟨some 104, none, .e (.bsl 2 [(.t 103)])⟩,
  ⟨some 105, none, .e (.app 2 32 false (.t 78) (.t 104))⟩,
  ⟨some 15, none, .p (.mv (.t 105))⟩]
def b3u : List AIns := [⟨some 106, none, .p (.bin .add (.t 75) (.c (.int .i64 1)))⟩,
  ⟨some 75, none, .p (.mv (.t 106))⟩]
def d0e : ACode := .seq (.region a7D false) (.seq (.cond (.t 76) (.skip) (.exit 6)) (.seq (.block 7 (.seq (.region b3w false) (.region b3v true))) (.region b3u false)))
def b3t : List AIns := [⟨some 107, none, .p (.mv (.t 6))⟩,
  ⟨some 108, none, .p (.mv (.t 13))⟩,
  ⟨some 109, none, .p (.mv (.t 15))⟩,
  ⟨some 110, none, .call a2K [(.t 109)]⟩,
  ⟨some 111, none, .p (.idxp 1 (.t 107) (.t 108))⟩,
  ⟨none, none, .e (.store 1 (.t 111) (.t 110))⟩]
def a7C : List AIns := [⟨some 112, none, .p (.bin .add (.t 57) (.c (.int .i64 1)))⟩,
  ⟨some 57, none, .p (.mv (.t 112))⟩]
def d0f : ACode := .seq (.region a7E false) (.seq (.cond (.t 58) (.skip) (.exit 4)) (.seq (.block 5 (.seq (.region b3B false) (.seq (.region b3A false) (.seq (.seq (.region b3z false) (.cond (.t 69) (.exit 5) (.skip))) (.seq (.region b3y false) (.seq (.seq (.region b3x false) (.block 6 (.loop d0e))) (.region b3t false))))))) (.region a7C false)))
def b3s : List AIns := [⟨some 50, none, .p (.mv (.t 11))⟩,
  ⟨some 51, none, .p (.bin .sub (.t 50) (.c (.int .i64 1)))⟩,
  ⟨some 11, none, .p (.mv (.t 51))⟩]
def d0g : ACode := .seq (.seq (.region a9A false) (.cond (.t 49) (.skip) (.exit 2))) (.seq (.block 3 (.seq (.region b3D false) (.seq (.region b3C false) (.block 4 (.loop d0f))))) (.region b3s false))
def b3r : List AIns := [⟨some 113, none, .p (.mv (.t 6))⟩,
  ⟨some 114, none, .p (.mv (.t 7))⟩,
  ⟨some 4, none, .p (.mv (.t 113))⟩,
  ⟨some 5, none, .p (.mv (.t 114))⟩]
def d3a : ACode := .seq (.region b8c false) (.seq (.region b8b false) (.seq (.region b8a false) (.seq (.seq (.region b7Z false) (.block 0 (.loop d0h))) (.seq (.seq (.region b7V false) (.block 2 (.loop d0g))) (.seq (.region b3r false) (.ret))))))
theorem d0d : fchk Pr (fun _ _ => false) Try.f64 = some (d3a, [.tmp 4, .tmp 5], 115) := by kernel_rfl
theorem d0i : Pr.funcs[b1W]? = some Try.f64 := Try.func64
def b7T : List AIns := [⟨some 3, none, .e (.box 2 (.t 1))⟩,
  ⟨some 4, none, .p (.mv (.c (.nil)))⟩,
  ⟨some 5, none, .e (.box 2 (.c (.agg [.bool false, .nil])))⟩]
def b7S : List AIns := [⟨some 18, none, .p (.load (some 2) (.t 3))⟩,
  ⟨some 19, none, .call b9y [(.t 18)]⟩,
  ⟨some 6, none, .e (.box 2 (.c (.agg [.bool false, .nil])))⟩,
  ⟨none, none, .e (.store 2 (.t 6) (.t 19))⟩]
def b7R : List AIns := [⟨some 20, none, .p (.mv (.t 0))⟩,
  ⟨some 21, none, .p (.len (.t 20))⟩,
  ⟨some 22, none, .p (.mv (.c (.int .i64 0)))⟩]
def a9z : List AIns := [⟨some 23, none, .p (.bin .lss (.t 22) (.t 21))⟩]
def b7Q : List AIns := [⟨some 24, none, .p (.idxp 2 (.t 20) (.t 22))⟩,
  ⟨some 25, none, .p (.load (some 2) (.t 24))⟩,
  ⟨some 8, none, .e (.box 2 (.c (.agg [.bool false, .nil])))⟩,
  ⟨none, none, .e (.store 2 (.t 8) (.t 25))⟩]
def b7P : List AIns := [⟨some 26, none, .p (.load (some 2) (.t 6))⟩,
  ⟨some 27, none, .p (.load (some 2) (.t 8))⟩,
  ⟨some 28, none, .call b2r [(.t 26), (.t 27)]⟩,
  ⟨none, none, .e (.store 2 (.t 6) (.t 28))⟩]
def b7O : List AIns := [⟨some 29, none, .p (.bin .add (.t 22) (.c (.int .i64 1)))⟩,
  ⟨some 22, none, .p (.mv (.t 29))⟩]
def d0b : ACode := .seq (.region a9z false) (.seq (.cond (.t 23) (.skip) (.exit 0)) (.seq (.block 1 (.seq (.region b7Q false) (.region b7P false))) (.region b7O false)))
def b7N : List AIns := [⟨some 30, none, .p (.load (some 2) (.t 3))⟩,
  ⟨some 31, none, .call a1Q [(.t 30)]⟩,
  ⟨some 32, none, .p (.bin .lss (.t 31) (.c (.int .i64 0)))⟩]
def b7M : List AIns := [⟨some 33, none, .p (.load (some 2) (.t 6))⟩,
  ⟨some 34, none, .call a8o [(.t 33)]⟩,
  ⟨none, none, .e (.store 2 (.t 6) (.t 34))⟩]
def a9y : List AIns := [⟨some 9, none, .p (.mv (.c (.nil)))⟩]
def a7B : List AIns := [⟨some 35, none, .p (.mv (.t 0))⟩,
  ⟨some 36, none, .p (.len (.t 35))⟩,
  ⟨some 37, none, .p (.mv (.c (.int .i64 0)))⟩]
def a7A : List AIns := [⟨some 38, none, .p (.bin .lss (.t 37) (.t 36))⟩]
def b3q : List AIns := [⟨some 39, none, .p (.idxp 2 (.t 35) (.t 37))⟩,
  ⟨some 40, none, .p (.load (some 2) (.t 39))⟩,
  ⟨some 11, none, .e (.box 2 (.c (.agg [.bool false, .nil])))⟩,
  ⟨none, none, .e (.store 2 (.t 11) (.t 40))⟩]
def b3p : List AIns := [⟨some 42, none, .p (.load (some 2) (.t 11))⟩,
  ⟨some 43, none, .p (.load (some 2) (.t 6))⟩,
  ⟨some 44, none, .call a2A [(.t 42), (.t 43)]⟩,
  ⟨some 41, none, .p (.mv (.t 44))⟩,
  ⟨some 45, none, .p (.ext (.t 41) 0)⟩,
  ⟨some 46, none, .p (.ext (.t 41) 1)⟩,
  ⟨some 47, none, .p (.ext (.t 41) 2)⟩,
  ⟨some 12, none, .e (.box 2 (.c (.agg [.bool false, .nil])))⟩,
  ⟨some 13, none, .e (.box 2 (.c (.agg [.bool false, .nil])))⟩,
  ⟨none, none, .e (.store 2 (.t 12) (.t 45))⟩,
  ⟨none, none, .e (.store 2 (.t 13) (.t 46))⟩,
  ⟨some 14, none, .p (.mv (.t 47))⟩]
def b3o : List AIns := [⟨some 48, none, .p (.mv (.t 9))⟩,
  ⟨some 49, none, .p (.load (some 2) (.t 12))⟩,
  ⟨some 50, none, .e (.bsl 2 [(.t 49)])⟩,
  ⟨some 51, none, .e (.app 2 32 false (.t 48) (.t 50))⟩,
  ⟨some 9, none, .p (.mv (.t 51))⟩]
def b3n : List AIns := [⟨some 52, none, .p (.bin .add (.t 37) (.c (.int .i64 1)))⟩,
  ⟨some 37, none, .p (.mv (.t 52))⟩]
def b7U : ACode := .seq (.region a7A false) (.seq (.cond (.t 38) (.skip) (.exit 2)) (.seq (.block 3 (.seq (.region b3q false) (.seq (.region b3p false) (.region b3o false)))) (.region b3n false)))
def a7z : List AIns := [⟨some 54, none, .p (.load (some 2) (.t 3))⟩,
  ⟨some 55, none, .p (.load (some 2) (.t 6))⟩,
  ⟨some 56, none, .call a2A [(.t 54), (.t 55)]⟩,
  ⟨some 53, none, .p (.mv (.t 56))⟩,
  ⟨some 57, none, .p (.ext (.t 53) 0)⟩,
  ⟨some 58, none, .p (.ext (.t 53) 1)⟩,
  ⟨some 59, none, .p (.ext (.t 53) 2)⟩,
  ⟨some 15, none, .e (.box 2 (.c (.agg [.bool false, .nil])))⟩,
  ⟨some 16, none, .e (.box 2 (.c (.agg [.bool false, .nil])))⟩,
  ⟨none, none, .e (.store 2 (.t 15) (.t 57))⟩,
  ⟨none, none, .e (.store 2 (.t 16) (.t 58))⟩,
  ⟨some 17, none, .p (.mv (.t 59))⟩]
def a7y : List AIns := [⟨some 60, none, .p (.mv (.t 9))⟩,
  ⟨some 61, none, .p (.load (some 2) (.t 15))⟩,
  ⟨some 4, none, .p (.mv (.t 60))⟩,
  ⟨none, none, .e (.store 2 (.t 5) (.t 61))⟩]
def d2Z : ACode := .seq (.region b7T false) (.seq (.region b7S false) (.seq (.seq (.region b7R false) (.block 0 (.loop d0b))) (.seq (.seq (.region b7N false) (.cond (.t 32) (.region b7M false) (.skip))) (.seq (.region a9y false) (.seq (.seq (.region a7B false) (.block 2 (.loop b7U))) (.seq (.region a7z false) (.seq (.region a7y true) (.ret))))))))
theorem d0a : fchk Pr (fun _ _ => false) Try.f67 = some (d2Z, [.tmp 4, .cell 5 (some 2)], 62) := by kernel_rfl
theorem d0c : Pr.funcs[a7k]? = some Try.f67 := Try.func67
def b0X : List AIns := [⟨some 2, none, .p (.mv (.c (.nil)))⟩,
  ⟨some 3, none, .e (.box 2 (.c (.agg [.bool false, .nil])))⟩]
def b0W : List AIns := [⟨some 13, none, .call a3t [(.c (.int .i64 1))]⟩,
  ⟨some 4, none, .e (.box 2 (.c (.agg [.bool false, .nil])))⟩,
  ⟨none, none, .e (.store 2 (.t 4) (.t 13))⟩]
def b0V : List AIns := [⟨some 5, none, .p (.mv (.c (.int .i64 0)))⟩]
def a5R : List AIns := [⟨some 14, none, .p (.mv (.t 5))⟩,
  ⟨some 15, none, .p (.mv (.t 0))⟩,
  ⟨some 16, none, .p (.len (.t 15))⟩,
  ⟨some 17, none, .p (.bin .lss (.t 14) (.t 16))⟩]
def b0U : List AIns := [⟨some 20, none, .p (.load (some 2) (.t 4))⟩,
  ⟨some 21, none, .p (.mv (.t 0))⟩,
  ⟨some 22, none, .p (.mv (.t 5))⟩,
  ⟨some 23, none, .p (.idxp 4 (.t 21) (.t 22))⟩,
  ⟨some 24, none, .p (.fldp (.t 23) 2)⟩,
  ⟨some 25, none, .p (.load (some 2) (.t 24))⟩,
  ⟨some 26, none, .call b4W [(.t 20), (.t 25)]⟩,
  ⟨some 6, none, .e (.box 2 (.c (.agg [.bool false, .nil])))⟩,
  ⟨none, none, .e (.store 2 (.t 6) (.t 26))⟩]
def b0T : List AIns := [⟨some 28, none, .p (.mv (.t 0))⟩,
  ⟨some 29, none, .p (.mv (.t 5))⟩,
  ⟨some 30, none, .p (.idxp 4 (.t 28) (.t 29))⟩,
  ⟨some 31, none, .p (.fldp (.t 30) 2)⟩,
  ⟨some 32, none, .p (.load (some 2) (.t 31))⟩,
  ⟨some 33, none, .p (.load (some 2) (.t 6))⟩,
  ⟨some 34, none, .call a5J [(.t 32), (.t 33)]⟩,
  ⟨some 27, none, .p (.mv (.t 34))⟩,
  ⟨some 35, none, .p (.ext (.t 27) 0)⟩,
  ⟨some 36, none, .p (.ext (.t 27) 1)⟩]
def b0h : List AIns := [⟨some 7, none, .e (.box 2 (.c (.agg [.bool false, .nil])))⟩,
  ⟨some 8, none, .e (.box 2 (.c (.agg [.bool false, .nil])))⟩,
  ⟨none, none, .e (.store 2 (.t 7) (.t 35))⟩,
  ⟨none, none, .e (.store 2 (.t 8) (.t 36))⟩]
def b0g : List AIns := [⟨some 8, none, .e (.box 2 (.c (.agg [.bool false, .nil])))⟩,
  ⟨some 7, none, .e (.box 2 (.c (.agg [.bool false, .nil])))⟩,
  ⟨none, none, .e (.store 2 (.t 7) (.t 35))⟩,
  ⟨none, none, .e (.store 2 (.t 8) (.t 36))⟩]
def b0S : List AIns := [⟨some 37, none, .p (.load (some 2) (.t 4))⟩,
  ⟨some 38, none, .p (.load (some 2) (.t 7))⟩,
  ⟨some 39, none, .call a1e [(.t 37), (.t 38)]⟩,
  ⟨none, none, .e (.store 2 (.t 4) (.t 39))⟩]
def b0R : List AIns := [⟨some 18, none, .p (.mv (.t 5))⟩,
  ⟨some 19, none, .p (.bin .add (.t 18) (.c (.int .i64 1)))⟩,
  ⟨some 5, none, .p (.mv (.t 19))⟩]
def c3U : ACode := .seq (.seq (.region a5R false) (.cond (.t 17) (.skip) (.exit 0))) (.seq (.block 1 (.seq (.region b0U true) (.seq (.regionX b0T b0h b0g []) (.region b0S false)))) (.region b0R false))
def b0Q : List AIns := [⟨some 9, none, .p (.mv (.c (.nil)))⟩]
def b0P : List AIns := [⟨some 10, none, .p (.mv (.c (.int .i64 0)))⟩]
def a5c : List AIns := [⟨some 40, none, .p (.mv (.t 10))⟩,
  ⟨some 41, none, .p (.mv (.t 0))⟩,
  ⟨some 42, none, .p (.len (.t 41))⟩,
  ⟨some 43, none, .p (.bin .lss (.t 40) (.t 42))⟩]
def b0l : List AIns := [⟨some 47, none, .p (.load (some 2) (.t 4))⟩,
  ⟨some 48, none, .p (.mv (.t 0))⟩,
  ⟨some 49, none, .p (.mv (.t 10))⟩,
  ⟨some 50, none, .p (.idxp 4 (.t 48) (.t 49))⟩,
  ⟨some 51, none, .p (.fldp (.t 50) 2)⟩,
  ⟨some 52, none, .p (.load (some 2) (.t 51))⟩,
  ⟨some 53, none, .call a5J [(.t 47), (.t 52)]⟩,
  ⟨some 46, none, .p (.mv (.t 53))⟩,
  ⟨some 54, none, .p (.ext (.t 46) 0)⟩,
  ⟨some 55, none, .p (.ext (.t 46) 1)⟩]
def a7Z : List AIns := [⟨some 11, none, .e (.box 2 (.c (.agg [.bool false, .nil])))⟩,
  ⟨some 12, none, .e (.box 2 (.c (.agg [.bool false, .nil])))⟩,
  ⟨none, none, .e (.store 2 (.t 11) (.t 54))⟩,
  ⟨none, none, .e (.store 2 (.t 12) (.t 55))⟩]
def a7Y : List AIns := [⟨some 12, none, .e (.box 2 (.c (.agg [.bool false, .nil])))⟩,
  ⟨some 11, none, .e (.box 2 (.c (.agg [.bool false, .nil])))⟩,
  ⟨none, none, .e (.store 2 (.t 11) (.t 54))⟩,
  ⟨none, none, .e (.store 2 (.t 12) (.t 55))⟩]
def b0k : List AIns := [⟨some 56, none, .p (.mv (.t 9))⟩,
  ⟨some 57, none, .p (.mv (.t 0))⟩,
  ⟨some 58, none, .p (.mv (.t 10))⟩,
  ⟨some 59, none, .p (.idxp 4 (.t 57) (.t 58))⟩,
  ⟨some 60, none, .p (.fldp (.t 59) 0)⟩,
  ⟨some 61, none, .p (.load (some 2) (.t 60))⟩,
  ⟨some 62, none, .p (.load (some 2) (.t 11))⟩,
  ⟨some 63, none, .call a1e [(.t 61), (.t 62)]⟩,
  ⟨some 64, none, .e (.bsl 2 [(.t 63)])⟩,
  ⟨some 65, none, .e (.app 2 32 false (.t 56) (.t 64))⟩,
  ⟨some 9, none, .p (.mv (.t 65))⟩]
def b0j : List AIns := [⟨some 44, none, .p (.mv (.t 10))⟩,
  ⟨some 45, none, .p (.bin .add (.t 44) (.c (.int .i64 1)))⟩,
  ⟨some 10, none, .p (.mv (.t 45))⟩]
def c3T : ACode := .seq (.seq (.region a5c false) (.cond (.t 43) (.skip) (.exit 2))) (.seq (.block 3 (.seq (.regionX b0l a7Z a7Y []) (.region b0k true))) (.region b0j false))
def b0i : List AIns := [⟨some 66, none, .p (.mv (.t 9))⟩,
  ⟨some 67, none, .p (.load (some 2) (.t 4))⟩,
  ⟨some 2, none, .p (.mv (.t 66))⟩,
  ⟨none, none, .e (.store 2 (.t 3) (.t 67))⟩]
def c6o : ACode := .seq (.region b0X false) (.seq (.region b0W false) (.seq (.seq (.region b0V false) (.block 0 (.loop c3U))) (.seq (.region b0Q false) (.seq (.seq (.region b0P false) (.block 2 (.loop c3T))) (.seq (.region b0i true) (.ret))))))
theorem c3S : fchk Pr (fun _ _ => false) Try.f69 = some (c6o, [.tmp 2, .cell 3 (some 2)], 68) := by kernel_rfl
theorem c3V : Pr.funcs[a7M]? = some Try.f69 := Try.func69
def b1s : List AIns := [⟨some 2, none, .p (.mv (.c (.int .i64 0)))⟩,
  ⟨some 3, none, .p (.mv (.c (.int .i64 0)))⟩,
  ⟨some 4, none, .p (.mv (.c (.int .i64 0)))⟩]
def b1r : List AIns := [⟨some 7, none, .p (.mv (.t 0))⟩,
  ⟨some 8, none, .p (.len (.t 7))⟩,
  ⟨some 9, none, .p (.bin .eql (.t 8) (.c (.int .i64 0)))⟩]
def c2h : List AIns := [⟨some 2, none, .p (.mv (.c (.int .i64 0)))⟩,
  ⟨some 3, none, .p (.mv (.c (.int .i64 0)))⟩,
  ⟨some 4, none, .p (.mv (.c (.int .i64 0)))⟩]
def b1q : List AIns := [⟨some 10, none, .p (.mv (.t 0))⟩,
  ⟨some 11, none, .p (.len (.t 10))⟩,
  ⟨some 12, none, .p (.mv (.c (.int .i64 0)))⟩]
def a4S : List AIns := [⟨some 13, none, .p (.bin .lss (.t 12) (.t 11))⟩]
def a6X : List AIns := [⟨some 14, none, .p (.idxp 1 (.t 10) (.t 12))⟩,
  ⟨some 15, none, .p (.load none (.t 14))⟩,
  ⟨some 6, none, .p (.mv (.t 15))⟩]
def a6W : List AIns := [⟨some 16, none, .p (.mv (.t 6))⟩,
  ⟨some 17, none, .p (.len (.t 16))⟩,
  ⟨some 18, none, .p (.mv (.t 0))⟩,
  ⟨some 19, none, .p (.idxp 1 (.t 18) (.c (.int .i64 0)))⟩,
  ⟨some 20, none, .p (.load none (.t 19))⟩,
  ⟨some 21, none, .p (.len (.t 20))⟩,
  ⟨some 22, none, .p (.bin .neq (.t 17) (.t 21))⟩]
def c2g : List AIns := [⟨some 2, none, .p (.mv (.c (.int .i64 0)))⟩,
  ⟨some 3, none, .p (.mv (.c (.int .i64 0)))⟩,
  ⟨some 4, none, .p (.mv (.c (.int .i64 8)))⟩]
def b1p : List AIns := [⟨some 23, none, .p (.bin .add (.t 12) (.c (.int .i64 1)))⟩,
  ⟨some 12, none, .p (.mv (.t 23))⟩]
def d2y : ACode := .seq (.region a4S false) (.seq (.cond (.t 13) (.skip) (.exit 0)) (.seq (.block 1 (.seq (.region a6X false) (.seq (.region a6W false) (.cond (.t 22) (.seq (.region c2g false) (.ret)) (.skip))))) (.region b1p false)))
def c2f : List AIns := [⟨some 24, none, .p (.mv (.t 0))⟩,
  ⟨some 25, none, .p (.len (.t 24))⟩,
  ⟨some 26, none, .p (.mv (.t 0))⟩,
  ⟨some 27, none, .p (.idxp 1 (.t 26) (.c (.int .i64 0)))⟩,
  ⟨some 28, none, .p (.load none (.t 27))⟩,
  ⟨some 29, none, .p (.len (.t 28))⟩,
  ⟨some 2, none, .p (.mv (.t 25))⟩,
  ⟨some 3, none, .p (.mv (.t 29))⟩,
  ⟨some 4, none, .p (.mv (.c (.int .i64 0)))⟩]
def d4N : ACode := .seq (.region b1s false) (.seq (.seq (.region b1r false) (.cond (.t 9) (.seq (.region c2h false) (.ret)) (.skip))) (.seq (.seq (.region b1q false) (.block 0 (.loop d2y))) (.seq (.region c2f true) (.ret))))
theorem c2i : fchk Pr (fun _ _ => false) Try.f70 = some (d4N, [.tmp 2, .tmp 3, .tmp 4], 30) := by kernel_rfl
theorem c2j : Pr.funcs[a6C]? = some Try.f70 := Try.func70
def b9M : List AIns := [⟨some 1, none, .e (.box 2 (.t 0))⟩,
  ⟨some 2, none, .e (.box 2 (.c (.agg [.bool false, .nil])))⟩]
def b9L : List AIns := [⟨some 3, none, .p (.fldp (.t 1) 0)⟩,
  ⟨some 4, none, .p (.load none (.t 3))⟩,
  ⟨some 5, none, .p (.fldp (.t 1) 1)⟩,
  ⟨some 6, none, .p (.load none (.t 5))⟩,
  ⟨some 7, none, .call a0X [(.t 4), (.t 6)]⟩,
  ⟨none, none, .e (.store 2 (.t 2) (.t 7))⟩]
def d3I : ACode := .seq (.region b9M false) (.seq (.region b9L false) (.ret))
theorem d0D : fchk Pr (fun _ _ => false) Try.f71 = some (d3I, [.cell 2 (some 2)], 8) := by kernel_rfl
theorem d0E : Pr.funcs[b4R]? = some Try.f71 := Try.func71
def b9D : List AIns := [⟨some 4, none, .e (.box 2 (.c (.agg [.bool false, .nil])))⟩]
def b9C : List AIns := [⟨some 7, none, .p (.mv (.t 1))⟩,
  ⟨some 8, none, .p (.len (.t 7))⟩,
  ⟨some 5, none, .p (.mv (.t 8))⟩]
def b0F : List AIns := [⟨some 9, none, .p (.mv (.t 5))⟩,
  ⟨some 10, none, .p (.bin .gtr (.t 9) (.c (.int .i64 0)))⟩,
  ⟨some 11, none, .p (.mv (.t 10))⟩,
  ⟨some 12, some (11, true), .p (.mv (.t 1))⟩,
  ⟨some 13, some (11, true), .p (.mv (.t 5))⟩,
  ⟨some 14, some (11, true), .p (.bin .sub (.t 13) (.c (.int .i64 1)))⟩,
  ⟨some 15, some (11, true), .p (.idxp 1 (.t 12) (.t 14))⟩,
  ⟨some 16, some (11, true), .p (.load none (.t 15))⟩,
  ⟨some 17, some (11, true), .p (.bin .eql (.t 16) (.c (.int .u32 0)))⟩,
  ⟨some 18, none, .p (.pick (.t 11) (.t 17) (.c (.bool false)))⟩]
def b9B : List AIns := [⟨some 19, none, .p (.mv (.t 5))⟩,
  ⟨some 20, none, .p (.bin .sub (.t 19) (.c (.int .i64 1)))⟩,
  ⟨some 5, none, .p (.mv (.t 20))⟩]
def b9E : ACode := .seq (.seq (.region b0F false) (.cond (.t 18) (.skip) (.exit 0))) (.block 1 (.region b9B false))
def a6K : List AIns := [⟨some 21, none, .p (.mv (.t 5))⟩,
  ⟨some 22, none, .p (.bin .eql (.t 21) (.c (.int .i64 0)))⟩]
def a6J : List AIns := [⟨some 23, none, .p (.bld [.bool false, .nil] [])⟩,
  ⟨none, none, .e (.store 2 (.t 4) (.t 23))⟩]
def a6I : List AIns := [⟨some 24, none, .p (.mv (.t 5))⟩,
  ⟨some 25, none, .e (.mksl 1 4 (.int .u32 0) (.t 24) (.t 24))⟩,
  ⟨some 6, none, .p (.mv (.t 25))⟩]
def a6H : List AIns := [⟨some 26, none, .p (.mv (.t 6))⟩,
  ⟨some 27, none, .p (.mv (.t 1))⟩,
  ⟨some 28, none, .e (.cpy 1 (.t 26) (.t 27))⟩]
def a6G : List AIns := [⟨some 29, none, .p (.mv (.t 0))⟩,
  ⟨some 30, none, .p (.mv (.t 6))⟩,
  ⟨some 31, none, .p (.bld [.bool false, .nil] [(0, 1, (.t 29)), (1, 1, (.t 30))])⟩,
  ⟨none, none, .e (.store 2 (.t 4) (.t 31))⟩]
def d3y : ACode := .seq (.region b9D false) (.seq (.region b9C false) (.seq (.block 0 (.loop b9E)) (.seq (.seq (.region a6K false) (.cond (.t 22) (.seq (.region a6J false) (.ret)) (.skip))) (.seq (.region a6I false) (.seq (.region a6H false) (.seq (.region a6G false) (.ret)))))))
theorem d0z : fchk Pr (fun _ _ => false) Try.f73 = some (d3y, [.cell 4 (some 2)], 32) := by kernel_rfl
theorem d0A : Pr.funcs[a0X]? = some Try.f73 := Try.func73
def c7F : List AIns := [⟨some 4, none, .p (.mv (.c (.nil)))⟩]
def c7E : List AIns := [⟨some 9, none, .p (.mv (.t 0))⟩,
  ⟨some 10, none, .call a0r [(.t 9)]⟩,
  ⟨some 11, none, .p (.mv (.t 1))⟩,
  ⟨some 12, none, .call a0r [(.t 11)]⟩,
  ⟨some 0, none, .p (.mv (.t 10))⟩,
  ⟨some 1, none, .p (.mv (.t 12))⟩]
def c7D : List AIns := [⟨some 13, none, .p (.mv (.t 0))⟩,
  ⟨some 14, none, .p (.len (.t 13))⟩,
  ⟨some 15, none, .p (.mv (.t 1))⟩,
  ⟨some 16, none, .p (.len (.t 15))⟩,
  ⟨some 17, none, .p (.bin .add (.t 14) (.t 16))⟩,
  ⟨some 18, none, .e (.mksl 1 4 (.int .u32 0) (.t 17) (.t 17))⟩,
  ⟨some 5, none, .p (.mv (.t 18))⟩]
def c7C : List AIns := [⟨some 19, none, .p (.mv (.t 0))⟩,
  ⟨some 20, none, .p (.len (.t 19))⟩,
  ⟨some 21, none, .p (.mv (.c (.int .i64 0)))⟩]
def b8Q : List AIns := [⟨some 22, none, .p (.bin .lss (.t 21) (.t 20))⟩]
def c7B : List AIns := [⟨some 23, none, .p (.mv (.t 21))⟩,
  ⟨some 6, none, .p (.mv (.t 23))⟩]
def c7A : List AIns := [⟨some 7, none, .p (.mv (.c (.int .u64 0)))⟩]
def c7z : List AIns := [⟨some 24, none, .p (.mv (.t 1))⟩,
  ⟨some 25, none, .p (.len (.t 24))⟩,
  ⟨some 26, none, .p (.mv (.c (.int .i64 0)))⟩]
def b8P : List AIns := [⟨some 27, none, .p (.bin .lss (.t 26) (.t 25))⟩]
def c7y : List AIns := [⟨some 28, none, .p (.mv (.t 26))⟩,
  ⟨some 8, none, .p (.mv (.t 28))⟩]
def c4L : List AIns := [⟨some 29, none, .p (.mv (.t 7))⟩,
  ⟨some 30, none, .p (.mv (.t 0))⟩,
  ⟨some 31, none, .p (.mv (.t 6))⟩,
  ⟨some 32, none, .p (.idxp 1 (.t 30) (.t 31))⟩,
  ⟨some 33, none, .p (.load none (.t 32))⟩,
  ⟨some 34, none, .p (.conv .u64 (.t 33))⟩,
  ⟨some 35, none, .p (.mv (.t 1))⟩,
  ⟨some 36, none, .p (.mv (.t 8))⟩,
  ⟨some 37, none, .p (.idxp 1 (.t 35) (.t 36))⟩,
  ⟨some 38, none, .p (.load none (.t 37))⟩,
  ⟨some 39, none, .p (.conv .u64 (.t 38))⟩,
  ⟨some 40, none, .p (.bin .mul (.t 34) (.t 39))⟩,
  ⟨some 41, none, .p (.mv (.t 5))⟩,
  ⟨some 42, none, .p (.mv (.t 6))⟩,
  ⟨some 43, none, .p (.mv (.t 8))⟩,
  ⟨some 44, none, .p (.bin .add (.t 42) (.t 43))⟩,
  ⟨some 45, none, .p (.idxp 1 (.t 41) (.t 44))⟩,
  ⟨some 46, none, .p (.load none (.t 45))⟩,
  ⟨some 47, none, .p (.conv .u64 (.t 46))⟩,
  ⟨some 48, none, .p (.bin .add (.t 40) (.t 47))⟩,
  ⟨some 49, none, .p (.bin .add (.t 29) (.t 48))⟩,
  ⟨some 7, none, .p (.mv (.t 49))⟩]
def c4K : List AIns := [⟨some 50, none, .p (.mv (.t 5))⟩,
  ⟨some 51, none, .p (.mv (.t 6))⟩,
  ⟨some 52, none, .p (.mv (.t 8))⟩,
  ⟨some 53, none, .p (.bin .add (.t 51) (.t 52))⟩,
  ⟨some 54, none, .p (.mv (.t 7))⟩,
  ⟨some 55, none, .p (.conv .u32 (.t 54))⟩,
  ⟨some 56, none, .p (.idxp 1 (.t 50) (.t 53))⟩,
  ⟨none, none, .e (.store 1 (.t 56) (.t 55))⟩]
def c4J : List AIns := [⟨some 57, none, .p (.mv (.t 7))⟩,
  ⟨some 58, none, .p (.bin .shr (.t 57) (.c (.int .u64 32)))⟩,
  ⟨some 7, none, .p (.mv (.t 58))⟩]
def c4I : List AIns := [⟨some 59, none, .p (.bin .add (.t 26) (.c (.int .i64 1)))⟩,
  ⟨some 26, none, .p (.mv (.t 59))⟩]
def c7G : ACode := .seq (.region b8P false) (.seq (.cond (.t 27) (.skip) (.exit 2)) (.seq (.block 3 (.seq (.region c7y false) (.seq (.region c4L true) (.seq (.region c4K false) (.region c4J false))))) (.region c4I false)))
def c4H : List AIns := [⟨some 60, none, .p (.mv (.t 5))⟩,
  ⟨some 61, none, .p (.mv (.t 6))⟩,
  ⟨some 62, none, .p (.mv (.t 1))⟩,
  ⟨some 63, none, .p (.len (.t 62))⟩,
  ⟨some 64, none, .p (.bin .add (.t 61) (.t 63))⟩,
  ⟨some 65, none, .p (.mv (.t 7))⟩,
  ⟨some 66, none, .p (.conv .u32 (.t 65))⟩,
  ⟨some 67, none, .p (.idxp 1 (.t 60) (.t 64))⟩,
  ⟨none, none, .e (.store 1 (.t 67) (.t 66))⟩]
def c4G : List AIns := [⟨some 68, none, .p (.bin .add (.t 21) (.c (.int .i64 1)))⟩,
  ⟨some 21, none, .p (.mv (.t 68))⟩]
def c7H : ACode := .seq (.region b8Q false) (.seq (.cond (.t 22) (.skip) (.exit 0)) (.seq (.block 1 (.seq (.region c7B false) (.seq (.region c7A false) (.seq (.seq (.region c7z false) (.block 2 (.loop c7G))) (.region c4H false))))) (.region c4G false)))
def b4z : List AIns := [⟨some 69, none, .p (.mv (.t 5))⟩,
  ⟨some 70, none, .call a0r [(.t 69)]⟩,
  ⟨some 4, none, .p (.mv (.t 70))⟩]
def d9K : ACode := .seq (.region c7F false) (.seq (.region c7E false) (.seq (.region c7D false) (.seq (.seq (.region c7C false) (.block 0 (.loop c7H))) (.seq (.region b4z false) (.ret)))))
theorem d7R : fchk Pr (fun _ _ => false) Try.f77 = some (d9K, [.tmp 4], 71) := by kernel_rfl
theorem d7S : Pr.funcs[a8s]? = some Try.f77 := Try.func77
def b5i : List AIns := [⟨some 2, none, .e (.box 2 (.t 0))⟩,
  ⟨some 3, none, .e (.box 2 (.t 1))⟩,
  ⟨some 4, none, .e (.box 2 (.c (.agg [.bool false, .nil])))⟩,
  ⟨some 5, none, .e (.box 2 (.c (.agg [.bool false, .nil])))⟩,
  ⟨some 6, none, .p (.mv (.c (.int .i64 0)))⟩]
def b5h : List AIns := [⟨some 13, none, .p (.fldp (.t 2) 1)⟩,
  ⟨some 14, none, .p (.load none (.t 13))⟩,
  ⟨some 15, none, .p (.fldp (.t 3) 1)⟩,
  ⟨some 16, none, .p (.load none (.t 15))⟩,
  ⟨some 17, none, .call b8r [(.t 14), (.t 16)]⟩,
  ⟨some 12, none, .p (.mv (.t 17))⟩,
  ⟨some 18, none, .p (.ext (.t 12) 0)⟩,
  ⟨some 19, none, .p (.ext (.t 12) 1)⟩,
  ⟨some 20, none, .p (.ext (.t 12) 2)⟩,
  ⟨some 7, none, .p (.mv (.t 18))⟩,
  ⟨some 8, none, .p (.mv (.t 19))⟩,
  ⟨some 9, none, .p (.mv (.t 20))⟩]
def b5g : List AIns := [⟨some 21, none, .p (.mv (.t 9))⟩,
  ⟨some 22, none, .p (.bin .neq (.t 21) (.c (.int .i64 0)))⟩]
def c8A : List AIns := [⟨some 23, none, .p (.bld [.bool false, .nil] [])⟩,
  ⟨some 24, none, .p (.bld [.bool false, .nil] [])⟩,
  ⟨none, none, .e (.store 2 (.t 4) (.t 23))⟩,
  ⟨none, none, .e (.store 2 (.t 5) (.t 24))⟩,
  ⟨some 6, none, .p (.mv (.c (.int .i64 11)))⟩]
def b5f : List AIns := [⟨some 25, none, .p (.fldp (.t 2) 0)⟩,
  ⟨some 26, none, .p (.load none (.t 25))⟩,
  ⟨some 27, none, .p (.fldp (.t 3) 0)⟩,
  ⟨some 28, none, .p (.load none (.t 27))⟩,
  ⟨some 29, none, .p (.beq true (.t 26) (.t 28))⟩,
  ⟨some 30, none, .p (.mv (.t 7))⟩,
  ⟨some 31, none, .call a0X [(.t 29), (.t 30)]⟩,
  ⟨some 32, none, .p (.fldp (.t 2) 0)⟩,
  ⟨some 33, none, .p (.load none (.t 32))⟩,
  ⟨some 34, none, .p (.mv (.t 8))⟩,
  ⟨some 35, none, .call a0X [(.t 33), (.t 34)]⟩]
def b2z : List AIns := [⟨some 10, none, .e (.box 2 (.c (.agg [.bool false, .nil])))⟩,
  ⟨some 11, none, .e (.box 2 (.c (.agg [.bool false, .nil])))⟩,
  ⟨none, none, .e (.store 2 (.t 10) (.t 31))⟩,
  ⟨none, none, .e (.store 2 (.t 11) (.t 35))⟩]
def b2y : List AIns := [⟨some 11, none, .e (.box 2 (.c (.agg [.bool false, .nil])))⟩,
  ⟨some 10, none, .e (.box 2 (.c (.agg [.bool false, .nil])))⟩,
  ⟨none, none, .e (.store 2 (.t 10) (.t 31))⟩,
  ⟨none, none, .e (.store 2 (.t 11) (.t 35))⟩]
def b5e : List AIns := [⟨some 36, none, .p (.load (some 2) (.t 11))⟩,
  ⟨some 37, none, .call a1Q [(.t 36)]⟩,
  ⟨some 38, none, .p (.bin .neq (.t 37) (.c (.int .i64 0)))⟩,
  ⟨some 39, none, .p (.mv (.t 38))⟩,
  ⟨some 40, some (39, true), .p (.load (some 2) (.t 11))⟩,
  ⟨some 41, some (39, true), .call a1Q [(.t 40)]⟩,
  ⟨some 42, some (39, true), .p (.load (some 2) (.t 3))⟩,
  ⟨some 43, some (39, true), .call a1Q [(.t 42)]⟩,
  ⟨some 44, some (39, true), .p (.bin .neq (.t 41) (.t 43))⟩,
  ⟨some 45, none, .p (.pick (.t 39) (.t 44) (.c (.bool false)))⟩]
def c8z : List AIns := [⟨some 46, none, .p (.load (some 2) (.t 10))⟩,
  ⟨some 47, none, .call a6z [(.c (.int .i64 1))]⟩,
  ⟨some 48, none, .call a5N [(.t 46), (.t 47)]⟩,
  ⟨some 49, none, .p (.load (some 2) (.t 11))⟩,
  ⟨some 50, none, .p (.load (some 2) (.t 3))⟩,
  ⟨some 51, none, .call b2t [(.t 49), (.t 50)]⟩,
  ⟨none, none, .e (.store 2 (.t 10) (.t 48))⟩,
  ⟨none, none, .e (.store 2 (.t 11) (.t 51))⟩]
def b5d : List AIns := [⟨some 52, none, .p (.load (some 2) (.t 10))⟩,
  ⟨some 53, none, .p (.load (some 2) (.t 11))⟩,
  ⟨none, none, .e (.store 2 (.t 4) (.t 52))⟩,
  ⟨none, none, .e (.store 2 (.t 5) (.t 53))⟩,
  ⟨some 6, none, .p (.mv (.c (.int .i64 0)))⟩]
def b2x : List AIns := []
def b2w : List AIns := []
def d0F : ACode := .seq (.region b5i false) (.seq (.region b5h false) (.seq (.seq (.region b5g false) (.cond (.t 22) (.seq (.region c8A false) (.ret)) (.skip))) (.seq (.regionX b5f b2z b2y []) (.seq (.seq (.region b5e true) (.cond (.t 45) (.region c8z true) (.skip))) (.seq (.regionX b5d b2x b2w [(11, 4)]) (.ret))))))
theorem c8B : fchk Pr (fun _ _ => false) Try.f78 = some (d0F, [.cell 4 (some 2), .cell 5 (some 2), .tmp 6], 54) := by kernel_rfl
theorem c8C : Pr.funcs[a2A]? = some Try.f78 := Try.func78
def b0t : List AIns := [⟨some 6, none, .p (.mv (.c (.nil)))⟩]
def b0s : List AIns := [⟨some 7, none, .p (.mv (.c (.nil)))⟩]
def b0r : List AIns := [⟨some 8, none, .p (.mv (.c (.int .i64 0)))⟩]
def a5e : List AIns := [⟨some 11, none, .p (.mv (.t 8))⟩,
  ⟨some 12, none, .p (.mv (.t 1))⟩,
  ⟨some 13, none, .p (.bin .lss (.t 11) (.t 12))⟩]
def b0q : List AIns := [⟨some 9, none, .p (.mv (.c (.nil)))⟩]
def b0p : List AIns := [⟨some 10, none, .p (.mv (.c (.int .i64 0)))⟩]
def a5d : List AIns := [⟨some 16, none, .p (.mv (.t 10))⟩,
  ⟨some 17, none, .p (.mv (.t 0))⟩,
  ⟨some 18, none, .p (.len (.t 17))⟩,
  ⟨some 19, none, .p (.bin .lss (.t 16) (.t 18))⟩]
def b0o : List AIns := [⟨some 22, none, .p (.mv (.t 9))⟩,
  ⟨some 23, none, .p (.mv (.t 0))⟩,
  ⟨some 24, none, .p (.mv (.t 10))⟩,
  ⟨some 25, none, .p (.idxp 1 (.t 23) (.t 24))⟩,
  ⟨some 26, none, .p (.load none (.t 25))⟩,
  ⟨some 27, none, .p (.mv (.t 8))⟩,
  ⟨some 28, none, .p (.idxp 2 (.t 26) (.t 27))⟩,
  ⟨some 29, none, .p (.load (some 2) (.t 28))⟩,
  ⟨some 30, none, .e (.bsl 2 [(.t 29)])⟩,
  ⟨some 31, none, .e (.app 2 32 false (.t 22) (.t 30))⟩,
  ⟨some 9, none, .p (.mv (.t 31))⟩]
def b0n : List AIns := [⟨some 20, none, .p (.mv (.t 10))⟩,
  ⟨some 21, none, .p (.bin .add (.t 20) (.c (.int .i64 1)))⟩,
  ⟨some 10, none, .p (.mv (.t 21))⟩]
def c2K : ACode := .seq (.seq (.region a5d false) (.cond (.t 19) (.skip) (.exit 2))) (.seq (.block 3 (.region b0o false)) (.region b0n false))
def b0m : List AIns := [⟨some 32, none, .p (.mv (.t 7))⟩,
  ⟨some 33, none, .p (.mv (.t 9))⟩,
  ⟨some 34, none, .p (.mv (.t 2))⟩,
  ⟨some 35, none, .p (.mv (.t 8))⟩,
  ⟨some 36, none, .p (.idxp 1 (.t 34) (.t 35))⟩,
  ⟨some 37, none, .p (.load none (.t 36))⟩,
  ⟨some 38, none, .e (.app 2 32 false (.t 33) (.t 37))⟩,
  ⟨some 39, none, .e (.bslm 1 [(.t 38)])⟩,
  ⟨some 40, none, .e (.app 1 24 false (.t 32) (.t 39))⟩,
  ⟨some 7, none, .p (.mv (.t 40))⟩]
def a8b : List AIns := [⟨some 14, none, .p (.mv (.t 8))⟩,
  ⟨some 15, none, .p (.bin .add (.t 14) (.c (.int .i64 1)))⟩,
  ⟨some 8, none, .p (.mv (.t 15))⟩]
def c2L : ACode := .seq (.seq (.region a5e false) (.cond (.t 13) (.skip) (.exit 0))) (.seq (.block 1 (.seq (.region b0q false) (.seq (.seq (.region b0p false) (.block 2 (.loop c2K))) (.region b0m false)))) (.region a8b false))
def a8a : List AIns := [⟨some 41, none, .p (.mv (.t 7))⟩,
  ⟨some 42, none, .call a7e [(.t 41)]⟩,
  ⟨some 6, none, .p (.mv (.t 42))⟩]
def c3W : ACode := .seq (.region b0t false) (.seq (.region b0s false) (.seq (.seq (.region b0r false) (.block 0 (.loop c2L))) (.seq (.region a8a false) (.ret))))
theorem c2J : fchk Pr (fun _ k => (k == 7)) Try.f79 = some (c3W, [.tmp 6], 43) := by kernel_rfl
theorem c2M : Pr.funcs[a6A]? = some Try.f79 := Try.func79
def c3Y : List AIns := [⟨some 1, none, .e (.box 2 (.t 0))⟩,
  ⟨some 2, none, .e (.box 4 (.c (.agg [.bool false, .nil, .bool false, .nil])))⟩]
def c3X : List AIns := [⟨some 3, none, .p (.load (some 2) (.t 1))⟩,
  ⟨some 4, none, .call a3u [(.t 3)]⟩,
  ⟨some 5, none, .call b4S []⟩,
  ⟨some 6, none, .p (.bld [.bool false, .nil, .bool false, .nil] [(0, 2, (.t 4)), (2, 2, (.t 5))])⟩,
  ⟨none, none, .e (.store 4 (.t 2) (.t 6))⟩]
def d7p : ACode := .seq (.region c3Y false) (.seq (.region c3X false) (.ret))
theorem d3Y : fchk Pr (fun _ _ => false) Try.f80 = some (d7p, [.cell 2 (some 4)], 7) := by kernel_rfl
theorem d3Z : Pr.funcs[a8p]? = some Try.f80 := Try.func80
def b9T : List AIns := [⟨some 1, none, .e (.box 4 (.t 0))⟩,
  ⟨some 2, none, .e (.box 4 (.c (.agg [.bool false, .nil, .bool false, .nil])))⟩]
def b9S : List AIns := [⟨some 3, none, .p (.fldp (.t 1) 0)⟩,
  ⟨some 4, none, .p (.load (some 2) (.t 3))⟩,
  ⟨some 5, none, .call a4s [(.t 4)]⟩,
  ⟨some 6, none, .p (.fldp (.t 1) 2)⟩,
  ⟨some 7, none, .p (.load (some 2) (.t 6))⟩,
  ⟨some 8, none, .call a2B [(.t 5), (.t 7)]⟩,
  ⟨none, none, .e (.store 4 (.t 2) (.t 8))⟩]
def d4a : ACode := .seq (.region b9T false) (.seq (.region b9S true) (.ret))
theorem d1i : fchk Pr (fun _ _ => false) Try.f81 = some (d4a, [.cell 2 (some 4)], 9) := by kernel_rfl
theorem d1j : Pr.funcs[a9N]? = some Try.f81 := Try.func81
def c5a : List AIns := [⟨some 2, none, .p (.mv (.c (.int .i64 0)))⟩]
def c4Z : List AIns := [⟨some 3, none, .p (.mv (.t 0))⟩,
  ⟨some 4, none, .call a0r [(.t 3)]⟩,
  ⟨some 0, none, .p (.mv (.t 4))⟩]
def c4Y : List AIns := [⟨some 5, none, .p (.mv (.t 0))⟩,
  ⟨some 6, none, .p (.len (.t 5))⟩,
  ⟨some 7, none, .p (.bin .eql (.t 6) (.c (.int .i64 0)))⟩]
def c4X : List AIns := [⟨some 2, none, .p (.mv (.c (.int .i64 0)))⟩]
def c4W : List AIns := [⟨some 8, none, .p (.mv (.t 0))⟩,
  ⟨some 9, none, .p (.len (.t 8))⟩,
  ⟨some 10, none, .p (.bin .sub (.t 9) (.c (.int .i64 1)))⟩,
  ⟨some 11, none, .p (.bin .mul (.c (.int .i64 32)) (.t 10))⟩,
  ⟨some 12, none, .p (.mv (.t 0))⟩,
  ⟨some 13, none, .p (.mv (.t 0))⟩,
  ⟨some 14, none, .p (.len (.t 13))⟩,
  ⟨some 15, none, .p (.bin .sub (.t 14) (.c (.int .i64 1)))⟩,
  ⟨some 16, none, .p (.idxp 1 (.t 12) (.t 15))⟩,
  ⟨some 17, none, .p (.load none (.t 16))⟩,
  ⟨some 18, none, .call a1y [(.t 17)]⟩,
  ⟨some 19, none, .p (.bin .add (.t 11) (.t 18))⟩,
  ⟨some 2, none, .p (.mv (.t 19))⟩]
def d8c : ACode := .seq (.region c5a false) (.seq (.region c4Z false) (.seq (.seq (.region c4Y false) (.cond (.t 7) (.seq (.region c4X false) (.ret)) (.skip))) (.seq (.region c4W false) (.ret))))
theorem d4F : fchk Pr (fun _ _ => false) Try.f82 = some (d8c, [.tmp 2], 20) := by kernel_rfl
theorem d4G : Pr.funcs[b9z]? = some Try.f82 := Try.func82
def b3V : List AIns := [⟨some 2, none, .p (.mv (.c (.nil)))⟩]
def b3U : List AIns := [⟨some 6, none, .p (.mv (.t 0))⟩,
  ⟨some 7, none, .p (.len (.t 6))⟩,
  ⟨some 8, none, .e (.mksl 1 24 (.nil) (.t 7) (.t 7))⟩,
  ⟨some 3, none, .p (.mv (.t 8))⟩]
def b3T : List AIns := [⟨some 9, none, .p (.mv (.t 0))⟩,
  ⟨some 10, none, .p (.len (.t 9))⟩,
  ⟨some 11, none, .p (.mv (.c (.int .i64 0)))⟩]
def a7G : List AIns := [⟨some 12, none, .p (.bin .lss (.t 11) (.t 10))⟩]
def b3S : List AIns := [⟨some 13, none, .p (.mv (.t 11))⟩,
  ⟨some 14, none, .p (.idxp 1 (.t 9) (.t 11))⟩,
  ⟨some 15, none, .p (.load none (.t 14))⟩,
  ⟨some 4, none, .p (.mv (.t 13))⟩,
  ⟨some 5, none, .p (.mv (.t 15))⟩]
def b3R : List AIns := [⟨some 16, none, .p (.mv (.t 3))⟩,
  ⟨some 17, none, .p (.mv (.t 4))⟩,
  ⟨some 18, none, .p (.mv (.t 5))⟩,
  ⟨some 19, none, .p (.len (.t 18))⟩,
  ⟨some 20, none, .e (.mksl 2 32 (.agg [.bool false, .nil]) (.t 19) (.t 19))⟩,
  ⟨some 21, none, .p (.idxp 1 (.t 16) (.t 17))⟩,
  ⟨none, none, .e (.store 1 (.t 21) (.t 20))⟩]
def b3Q : List AIns := [⟨some 22, none, .p (.mv (.t 3))⟩,
  ⟨some 23, none, .p (.mv (.t 4))⟩,
  ⟨some 24, none, .p (.idxp 1 (.t 22) (.t 23))⟩,
  ⟨some 25, none, .p (.load none (.t 24))⟩,
  ⟨some 26, none, .p (.mv (.t 5))⟩,
  ⟨some 27, none, .e (.cpy 2 (.t 25) (.t 26))⟩]
def b3P : List AIns := [⟨some 28, none, .p (.bin .add (.t 11) (.c (.int .i64 1)))⟩,
  ⟨some 11, none, .p (.mv (.t 28))⟩]
def c6A : ACode := .seq (.region a7G false) (.seq (.cond (.t 12) (.skip) (.exit 0)) (.seq (.block 1 (.seq (.region b3S false) (.seq (.region b3R false) (.region b3Q false)))) (.region b3P false)))
def b3O : List AIns := [⟨some 29, none, .p (.mv (.t 3))⟩,
  ⟨some 2, none, .p (.mv (.t 29))⟩]
def d0k : ACode := .seq (.region b3V false) (.seq (.region b3U false) (.seq (.seq (.region b3T false) (.block 0 (.loop c6A))) (.seq (.region b3O false) (.ret))))
theorem c6z : fchk Pr (fun _ _ => false) Try.f85 = some (d0k, [.tmp 2], 30) := by kernel_rfl
theorem c6B : Pr.funcs[a9U]? = some Try.f85 := Try.func85
def c3m : List AIns := [⟨some 2, none, .e (.box 2 (.t 0))⟩,
  ⟨some 3, none, .e (.box 2 (.t 1))⟩,
  ⟨some 4, none, .e (.box 2 (.c (.agg [.bool false, .nil])))⟩]
def c3l : List AIns := [⟨some 5, none, .p (.load (some 2) (.t 2))⟩,
  ⟨some 6, none, .p (.load (some 2) (.t 3))⟩,
  ⟨some 7, none, .call a8o [(.t 6)]⟩,
  ⟨some 8, none, .call b2t [(.t 5), (.t 7)]⟩,
  ⟨none, none, .e (.store 2 (.t 4) (.t 8))⟩]
def d6L : ACode := .seq (.region c3m false) (.seq (.region c3l true) (.ret))
theorem d3z : fchk Pr (fun _ _ => false) Try.f86 = some (d6L, [.cell 4 (some 2)], 9) := by kernel_rfl
theorem d3A : Pr.funcs[a5N]? = some Try.f86 := Try.func86
def a7r : List AIns := [⟨some 2, none, .p (.mv (.c (.int .i64 0)))⟩,
  ⟨some 3, none, .p (.mv (.c (.int .i64 0)))⟩,
  ⟨some 4, none, .p (.mv (.c (.int .i64 0)))⟩]
def a7q : List AIns := [⟨some 5, none, .p (.mv (.c (.int .i64 0)))⟩]
def a2S : List AIns := [⟨some 6, none, .p (.mv (.t 5))⟩,
  ⟨some 7, none, .p (.mv (.t 0))⟩,
  ⟨some 8, none, .p (.len (.t 7))⟩,
  ⟨some 9, none, .p (.bin .lss (.t 6) (.t 8))⟩]
def a4C : List AIns := [⟨some 12, none, .p (.mv (.t 0))⟩,
  ⟨some 13, none, .p (.mv (.t 5))⟩,
  ⟨some 14, none, .p (.idxp 1 (.t 12) (.t 13))⟩,
  ⟨some 15, none, .p (.load none (.t 14))⟩,
  ⟨some 16, none, .p (.len (.t 15))⟩,
  ⟨some 17, none, .p (.mv (.t 0))⟩,
  ⟨some 18, none, .p (.idxp 1 (.t 17) (.c (.int .i64 0)))⟩,
  ⟨some 19, none, .p (.load none (.t 18))⟩,
  ⟨some 20, none, .p (.len (.t 19))⟩,
  ⟨some 21, none, .p (.bin .neq (.t 16) (.t 20))⟩]
def b2N : List AIns := [⟨some 2, none, .p (.mv (.c (.int .i64 0)))⟩,
  ⟨some 3, none, .p (.mv (.c (.int .i64 0)))⟩,
  ⟨some 4, none, .p (.mv (.c (.int .i64 8)))⟩]
def a7p : List AIns := [⟨some 10, none, .p (.mv (.t 5))⟩,
  ⟨some 11, none, .p (.bin .add (.t 10) (.c (.int .i64 1)))⟩,
  ⟨some 5, none, .p (.mv (.t 11))⟩]
def c6p : ACode := .seq (.seq (.region a2S false) (.cond (.t 9) (.skip) (.exit 0))) (.seq (.block 1 (.seq (.region a4C true) (.cond (.t 21) (.seq (.region b2N false) (.ret)) (.skip)))) (.region a7p false))
def b2M : List AIns := [⟨some 22, none, .p (.mv (.t 0))⟩,
  ⟨some 23, none, .p (.len (.t 22))⟩,
  ⟨some 24, none, .p (.bin .eql (.t 23) (.c (.int .i64 0)))⟩]
def b2L : List AIns := [⟨some 2, none, .p (.mv (.c (.int .i64 0)))⟩,
  ⟨some 3, none, .p (.mv (.c (.int .i64 0)))⟩,
  ⟨some 4, none, .p (.mv (.c (.int .i64 0)))⟩]
def b2K : List AIns := [⟨some 25, none, .p (.mv (.t 0))⟩,
  ⟨some 26, none, .p (.len (.t 25))⟩,
  ⟨some 27, none, .p (.mv (.t 0))⟩,
  ⟨some 28, none, .p (.idxp 1 (.t 27) (.c (.int .i64 0)))⟩,
  ⟨some 29, none, .p (.load none (.t 28))⟩,
  ⟨some 30, none, .p (.len (.t 29))⟩,
  ⟨some 2, none, .p (.mv (.t 26))⟩,
  ⟨some 3, none, .p (.mv (.t 30))⟩,
  ⟨some 4, none, .p (.mv (.c (.int .i64 0)))⟩]
def c9h : ACode := .seq (.region a7r false) (.seq (.seq (.region a7q false) (.block 0 (.loop c6p))) (.seq (.seq (.region b2M false) (.cond (.t 24) (.seq (.region b2L false) (.ret)) (.skip))) (.seq (.region b2K true) (.ret))))
theorem b2O : fchk Pr (fun _ _ => false) Try.f87 = some (c9h, [.tmp 2, .tmp 3, .tmp 4], 31) := by kernel_rfl
theorem b2P : Pr.funcs[a3S]? = some Try.f87 := Try.func87
def b5s : List AIns := [⟨some 1, none, .e (.box 4 (.t 0))⟩,
  ⟨some 2, none, .p (.mv (.c (.bool false)))⟩]
def b5r : List AIns := [⟨some 3, none, .p (.fldp (.t 1) 0)⟩,
  ⟨some 4, none, .p (.load (some 2) (.t 3))⟩,
  ⟨some 5, none, .call a2C [(.t 4)]⟩,
  ⟨some 6, none, .p (.bin .eql (.t 5) (.c (.int .i64 0)))⟩,
  ⟨some 2, none, .p (.mv (.t 6))⟩]
def d0Z : ACode := .seq (.region b5s false) (.seq (.region b5r false) (.ret))
theorem c8R : fchk Pr (fun _ _ => false) Try.f88 = some (d0Z, [.tmp 2], 7) := by kernel_rfl
theorem c8S : Pr.funcs[a7d]? = some Try.f88 := Try.func88
def b9V : List AIns := [⟨some 2, none, .e (.box 4 (.t 0))⟩,
  ⟨some 3, none, .e (.box 4 (.t 1))⟩,
  ⟨some 4, none, .e (.box 4 (.c (.agg [.bool false, .nil, .bool false, .nil])))⟩]
def b9U : List AIns := [⟨some 5, none, .p (.fldp (.t 2) 0)⟩,
  ⟨some 6, none, .p (.load (some 2) (.t 5))⟩,
  ⟨some 7, none, .p (.fldp (.t 3) 0)⟩,
  ⟨some 8, none, .p (.load (some 2) (.t 7))⟩,
  ⟨some 9, none, .call a1e [(.t 6), (.t 8)]⟩,
  ⟨some 10, none, .p (.fldp (.t 2) 2)⟩,
  ⟨some 11, none, .p (.load (some 2) (.t 10))⟩,
  ⟨some 12, none, .p (.fldp (.t 3) 2)⟩,
  ⟨some 13, none, .p (.load (some 2) (.t 12))⟩,
  ⟨some 14, none, .call a1e [(.t 11), (.t 13)]⟩,
  ⟨some 15, none, .call a2B [(.t 9), (.t 14)]⟩,
  ⟨none, none, .e (.store 4 (.t 4) (.t 15))⟩]
def d4b : ACode := .seq (.region b9V false) (.seq (.region b9U true) (.ret))
theorem d1k : fchk Pr (fun _ _ => false) Try.f89 = some (d4b, [.cell 4 (some 4)], 16) := by kernel_rfl
theorem d1l : Pr.funcs[a9O]? = some Try.f89 := Try.func89
def b9X : List AIns := [⟨some 2, none, .e (.box 4 (.t 0))⟩,
  ⟨some 3, none, .e (.box 4 (.t 1))⟩,
  ⟨some 4, none, .e (.box 4 (.c (.agg [.bool false, .nil, .bool false, .nil])))⟩]
def b9W : List AIns := [⟨some 5, none, .p (.fldp (.t 2) 0)⟩,
  ⟨some 6, none, .p (.load (some 2) (.t 5))⟩,
  ⟨some 7, none, .p (.fldp (.t 3) 2)⟩,
  ⟨some 8, none, .p (.load (some 2) (.t 7))⟩,
  ⟨some 9, none, .call a1e [(.t 6), (.t 8)]⟩,
  ⟨some 10, none, .p (.fldp (.t 2) 2)⟩,
  ⟨some 11, none, .p (.load (some 2) (.t 10))⟩,
  ⟨some 12, none, .p (.fldp (.t 3) 0)⟩,
  ⟨some 13, none, .p (.load (some 2) (.t 12))⟩,
  ⟨some 14, none, .call a1e [(.t 11), (.t 13)]⟩,
  ⟨some 15, none, .call a2B [(.t 9), (.t 14)]⟩,
  ⟨none, none, .e (.store 4 (.t 4) (.t 15))⟩]
def d4c : ACode := .seq (.region b9X false) (.seq (.region b9W true) (.ret))
theorem d1n : fchk Pr (fun _ _ => false) Try.f90 = some (d4c, [.cell 4 (some 4)], 16) := by kernel_rfl
theorem d1o : Pr.funcs[b4U]? = some Try.f90 := Try.func90
def b5E : List AIns := [⟨some 7, none, .e (.box 4 (.t 3))⟩]
def b5D : List AIns := [⟨some 8, none, .p (.mv (.c (.int .i64 0)))⟩]
def a8F : List AIns := [⟨some 9, none, .p (.mv (.t 8))⟩,
  ⟨some 10, none, .p (.mv (.t 0))⟩,
  ⟨some 11, none, .p (.mv (.t 1))⟩,
  ⟨some 12, none, .p (.idxp 1 (.t 10) (.t 11))⟩,
  ⟨some 13, none, .p (.load none (.t 12))⟩,
  ⟨some 14, none, .p (.len (.t 13))⟩,
  ⟨some 15, none, .p (.bin .lss (.t 9) (.t 14))⟩]
def b5C : List AIns := [⟨some 18, none, .p (.mv (.t 0))⟩,
  ⟨some 19, none, .p (.mv (.t 1))⟩,
  ⟨some 20, none, .p (.idxp 1 (.t 18) (.t 19))⟩,
  ⟨some 21, none, .p (.load none (.t 20))⟩,
  ⟨some 22, none, .p (.mv (.t 8))⟩,
  ⟨some 23, none, .p (.mv (.t 0))⟩,
  ⟨some 24, none, .p (.mv (.t 1))⟩,
  ⟨some 25, none, .p (.idxp 1 (.t 23) (.t 24))⟩,
  ⟨some 26, none, .p (.load none (.t 25))⟩,
  ⟨some 27, none, .p (.mv (.t 8))⟩,
  ⟨some 28, none, .p (.idxp 4 (.t 26) (.t 27))⟩,
  ⟨some 29, none, .p (.load (some 4) (.t 28))⟩,
  ⟨some 30, none, .p (.load (some 4) (.t 7))⟩,
  ⟨some 31, none, .p (.mv (.t 0))⟩,
  ⟨some 32, none, .p (.mv (.t 2))⟩,
  ⟨some 33, none, .p (.idxp 1 (.t 31) (.t 32))⟩,
  ⟨some 34, none, .p (.load none (.t 33))⟩,
  ⟨some 35, none, .p (.mv (.t 8))⟩,
  ⟨some 36, none, .p (.idxp 4 (.t 34) (.t 35))⟩,
  ⟨some 37, none, .p (.load (some 4) (.t 36))⟩,
  ⟨some 38, none, .call a9O [(.t 30), (.t 37)]⟩,
  ⟨some 39, none, .call b4T [(.t 29), (.t 38)]⟩,
  ⟨some 40, none, .p (.idxp 4 (.t 21) (.t 22))⟩,
  ⟨none, none, .e (.store 4 (.t 40) (.t 39))⟩]
def b5B : List AIns := [⟨some 16, none, .p (.mv (.t 8))⟩,
  ⟨some 17, none, .p (.bin .add (.t 16) (.c (.int .i64 1)))⟩,
  ⟨some 8, none, .p (.mv (.t 17))⟩]
def c8Y : ACode := .seq (.seq (.region a8F false) (.cond (.t 15) (.skip) (.exit 0))) (.seq (.block 1 (.region b5C true)) (.region b5B false))
def d1b : ACode := .seq (.region b5E false) (.seq (.region b5D false) (.block 0 (.loop c8Y)))
theorem c8X : fchk Pr (fun _ _ => false) Try.f91 = some (d1b, [], 41) := by kernel_rfl
theorem c8Z : Pr.funcs[a7f]? = some Try.f91 := Try.func91
def c8d : List AIns := [⟨some 4, none, .p (.mv (.c (.int .i64 0)))⟩]
def c8c : List AIns := [⟨some 6, none, .p (.mv (.t 0))⟩,
  ⟨some 7, none, .call a0r [(.t 6)]⟩,
  ⟨some 8, none, .p (.mv (.t 1))⟩,
  ⟨some 9, none, .call a0r [(.t 8)]⟩,
  ⟨some 0, none, .p (.mv (.t 7))⟩,
  ⟨some 1, none, .p (.mv (.t 9))⟩]
def c8b : List AIns := [⟨some 10, none, .p (.mv (.t 0))⟩,
  ⟨some 11, none, .p (.len (.t 10))⟩,
  ⟨some 12, none, .p (.mv (.t 1))⟩,
  ⟨some 13, none, .p (.len (.t 12))⟩,
  ⟨some 14, none, .p (.bin .neq (.t 11) (.t 13))⟩]
def c8a : List AIns := [⟨some 15, none, .p (.mv (.t 0))⟩,
  ⟨some 16, none, .p (.len (.t 15))⟩,
  ⟨some 17, none, .p (.mv (.t 1))⟩,
  ⟨some 18, none, .p (.len (.t 17))⟩,
  ⟨some 19, none, .p (.bin .lss (.t 16) (.t 18))⟩]
def c7Z : List AIns := [⟨some 4, none, .p (.mv (.c (.int .i64 (-1))))⟩]
def c7Y : List AIns := [⟨some 4, none, .p (.mv (.c (.int .i64 1)))⟩]
def c7X : List AIns := [⟨some 20, none, .p (.mv (.t 0))⟩,
  ⟨some 21, none, .p (.len (.t 20))⟩,
  ⟨some 22, none, .p (.bin .sub (.t 21) (.c (.int .i64 1)))⟩,
  ⟨some 5, none, .p (.mv (.t 22))⟩]
def b8T : List AIns := [⟨some 23, none, .p (.mv (.t 5))⟩,
  ⟨some 24, none, .p (.bin .geq (.t 23) (.c (.int .i64 0)))⟩]
def c7W : List AIns := [⟨some 27, none, .p (.mv (.t 0))⟩,
  ⟨some 28, none, .p (.mv (.t 5))⟩,
  ⟨some 29, none, .p (.idxp 1 (.t 27) (.t 28))⟩,
  ⟨some 30, none, .p (.load none (.t 29))⟩,
  ⟨some 31, none, .p (.mv (.t 1))⟩,
  ⟨some 32, none, .p (.mv (.t 5))⟩,
  ⟨some 33, none, .p (.idxp 1 (.t 31) (.t 32))⟩,
  ⟨some 34, none, .p (.load none (.t 33))⟩,
  ⟨some 35, none, .p (.bin .neq (.t 30) (.t 34))⟩]
def c7V : List AIns := [⟨some 36, none, .p (.mv (.t 0))⟩,
  ⟨some 37, none, .p (.mv (.t 5))⟩,
  ⟨some 38, none, .p (.idxp 1 (.t 36) (.t 37))⟩,
  ⟨some 39, none, .p (.load none (.t 38))⟩,
  ⟨some 40, none, .p (.mv (.t 1))⟩,
  ⟨some 41, none, .p (.mv (.t 5))⟩,
  ⟨some 42, none, .p (.idxp 1 (.t 40) (.t 41))⟩,
  ⟨some 43, none, .p (.load none (.t 42))⟩,
  ⟨some 44, none, .p (.bin .lss (.t 39) (.t 43))⟩]
def c4V : List AIns := [⟨some 4, none, .p (.mv (.c (.int .i64 (-1))))⟩]
def c4U : List AIns := [⟨some 4, none, .p (.mv (.c (.int .i64 1)))⟩]
def c4T : List AIns := [⟨some 25, none, .p (.mv (.t 5))⟩,
  ⟨some 26, none, .p (.bin .sub (.t 25) (.c (.int .i64 1)))⟩,
  ⟨some 5, none, .p (.mv (.t 26))⟩]
def c8e : ACode := .seq (.seq (.region b8T false) (.cond (.t 24) (.skip) (.exit 0))) (.seq (.block 1 (.seq (.region c7W true) (.cond (.t 35) (.seq (.seq (.region c7V true) (.cond (.t 44) (.seq (.region c4V false) (.ret)) (.skip))) (.seq (.region c4U false) (.ret))) (.skip)))) (.region c4T false))
def b4B : List AIns := [⟨some 4, none, .p (.mv (.c (.int .i64 0)))⟩]
def d9N : ACode := .seq (.region c8d false) (.seq (.region c8c false) (.seq (.seq (.region c8b false) (.cond (.t 14) (.seq (.seq (.region c8a false) (.cond (.t 19) (.seq (.region c7Z false) (.ret)) (.skip))) (.seq (.region c7Y false) (.ret))) (.skip))) (.seq (.seq (.region c7X false) (.block 0 (.loop c8e))) (.seq (.region b4B false) (.ret)))))
theorem d8a : fchk Pr (fun _ _ => false) Try.f92 = some (d9N, [.tmp 4], 45) := by kernel_rfl
theorem d8b : Pr.funcs[a8t]? = some Try.f92 := Try.func92
def b6b : List AIns := [⟨some 1, none, .e (.box 2 (.t 0))⟩,
  ⟨some 2, none, .p (.mv (.c (.int .i64 0)))⟩]
def b6a : List AIns := [⟨some 4, none, .p (.fldp (.t 1) 1)⟩,
  ⟨some 5, none, .p (.load none (.t 4))⟩,
  ⟨some 6, none, .call a0z [(.t 5)]⟩,
  ⟨some 3, none, .p (.mv (.t 6))⟩]
def b5Z : List AIns := [⟨some 8, none, .p (.mv (.t 3))⟩,
  ⟨some 9, none, .p (.len (.t 8))⟩,
  ⟨some 10, none, .p (.bin .eql (.t 9) (.c (.int .i64 0)))⟩,
  ⟨some 7, none, .p (.mv (.t 10))⟩]
def b5Y : List AIns := [⟨some 2, none, .p (.mv (.c (.int .i64 0)))⟩]
def b5X : List AIns := [⟨some 12, none, .p (.fldp (.t 1) 0)⟩,
  ⟨some 13, none, .p (.load none (.t 12))⟩,
  ⟨some 11, none, .p (.mv (.t 13))⟩]
def b5W : List AIns := [⟨some 2, none, .p (.mv (.c (.int .i64 (-1))))⟩]
def b5V : List AIns := [⟨some 2, none, .p (.mv (.c (.int .i64 1)))⟩]
def d1u : ACode := .seq (.region b6b false) (.seq (.region b6a false) (.seq (.block 0 (.seq (.region b5Z false) (.cond (.t 7) (.seq (.region b5Y false) (.ret)) (.seq (.region b5X false) (.cond (.t 11) (.seq (.region b5W false) (.ret)) (.skip)))))) (.seq (.region b5V false) (.ret))))
theorem c9m : fchk Pr (fun _ _ => false) Try.f93 = some (d1u, [.tmp 2], 14) := by kernel_rfl
theorem c9n : Pr.funcs[a2C]? = some Try.f93 := Try.func93
end Go.Abs

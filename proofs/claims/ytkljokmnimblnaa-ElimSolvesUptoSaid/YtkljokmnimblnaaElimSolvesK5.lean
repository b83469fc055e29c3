/- Part 5 of the proof of ElimSolves: Code2. -/
import Derived.Test.YtkljokmnimblnaaElimSolvesK4
set_option maxRecDepth 100000
noncomputable section
namespace Go.Abs
open Go.Proofs
def c0d : List AIns := [⟨some 2, none, .e (.box 2 (.t 0))⟩,
  ⟨some 3, none, .e (.box 2 (.t 1))⟩,
  ⟨some 4, none, .e (.box 2 (.c (.agg [.bool false, .nil])))⟩]
def c0c : List AIns := [⟨some 5, none, .p (.load (some 2) (.t 2))⟩,
  ⟨some 6, none, .p (.load (some 2) (.t 3))⟩,
  ⟨some 7, none, .call a4s [(.t 6)]⟩,
  ⟨some 8, none, .call a4t [(.t 5), (.t 7)]⟩,
  ⟨none, none, .e (.store 2 (.t 4) (.t 8))⟩]
def d4e : ACode := .seq (.region c0d false) (.seq (.region c0c true) (.ret))
theorem d1s : fchk Pr (fun _ _ => false) Try.f94 = some (d4e, [.cell 4 (some 2)], 9) := by kernel_rfl
theorem d1t : Pr.funcs[a6B]? = some Try.f94 := Try.func94
def b5U : List AIns := [⟨some 4, none, .e (.box 2 (.c (.agg [.bool false, .nil])))⟩]
def b5T : List AIns := [⟨some 6, none, .p (.mv (.t 1))⟩,
  ⟨some 7, none, .call a0z [(.t 6)]⟩,
  ⟨some 5, none, .p (.mv (.t 7))⟩]
def a8K : List AIns := [⟨some 8, none, .p (.mv (.t 0))⟩,
  ⟨some 9, none, .p (.mv (.t 8))⟩,
  ⟨some 10, some (9, true), .p (.mv (.t 5))⟩,
  ⟨some 11, some (9, true), .p (.len (.t 10))⟩,
  ⟨some 12, some (9, true), .p (.bin .gtr (.t 11) (.c (.int .i64 0)))⟩,
  ⟨some 13, none, .p (.pick (.t 9) (.t 12) (.c (.bool false)))⟩,
  ⟨some 14, none, .p (.mv (.t 5))⟩,
  ⟨some 15, none, .p (.bld [.bool false, .nil] [(0, 1, (.t 13)), (1, 1, (.t 14))])⟩,
  ⟨none, none, .e (.store 2 (.t 4) (.t 15))⟩]
def d1r : ACode := .seq (.region b5U false) (.seq (.region b5T false) (.seq (.region a8K false) (.ret)))
theorem c9k : fchk Pr (fun _ _ => false) Try.f95 = some (d1r, [.cell 4 (some 2)], 16) := by kernel_rfl
theorem c9l : Pr.funcs[a1j]? = some Try.f95 := Try.func95
def b3M : List AIns := [⟨some 2, none, .p (.mv (.c (.nil)))⟩]
def b3L : List AIns := [⟨some 3, none, .e (.box 2 (.c (.agg [.bool false, .nil])))⟩]
def b3K : List AIns := [⟨some 13, none, .p (.mv (.t 0))⟩,
  ⟨some 14, none, .p (.len (.t 13))⟩,
  ⟨some 15, none, .p (.mv (.c (.int .i64 0)))⟩]
def a7F : List AIns := [⟨some 16, none, .p (.bin .lss (.t 15) (.t 14))⟩]
def b3J : List AIns := [⟨some 17, none, .p (.idxp 2 (.t 13) (.t 15))⟩,
  ⟨some 18, none, .p (.load (some 2) (.t 17))⟩,
  ⟨some 5, none, .e (.box 2 (.c (.agg [.bool false, .nil])))⟩,
  ⟨none, none, .e (.store 2 (.t 5) (.t 18))⟩]
def b3I : List AIns := [⟨some 19, none, .p (.load (some 2) (.t 3))⟩,
  ⟨some 20, none, .p (.load (some 2) (.t 5))⟩,
  ⟨some 21, none, .call b2r [(.t 19), (.t 20)]⟩,
  ⟨none, none, .e (.store 2 (.t 3) (.t 21))⟩]
def b3H : List AIns := [⟨some 22, none, .p (.bin .add (.t 15) (.c (.int .i64 1)))⟩,
  ⟨some 15, none, .p (.mv (.t 22))⟩]
def c6x : ACode := .seq (.region a7F false) (.seq (.cond (.t 16) (.skip) (.exit 0)) (.seq (.block 1 (.seq (.region b3J false) (.region b3I false))) (.region b3H false)))
def b3G : List AIns := [⟨some 23, none, .p (.mv (.t 0))⟩,
  ⟨some 24, none, .call b2u [(.t 23)]⟩,
  ⟨some 6, none, .p (.mv (.t 24))⟩]
def b3F : List AIns := [⟨some 25, none, .p (.mv (.t 6))⟩,
  ⟨some 26, none, .p (.bin .geq (.t 25) (.c (.int .i64 0)))⟩,
  ⟨some 27, none, .p (.mv (.t 26))⟩,
  ⟨some 28, some (27, true), .p (.mv (.t 0))⟩,
  ⟨some 29, some (27, true), .p (.mv (.t 6))⟩,
  ⟨some 30, some (27, true), .p (.idxp 2 (.t 28) (.t 29))⟩,
  ⟨some 31, some (27, true), .p (.load (some 2) (.t 30))⟩,
  ⟨some 32, some (27, true), .call a1Q [(.t 31)]⟩,
  ⟨some 33, some (27, true), .p (.bin .lss (.t 32) (.c (.int .i64 0)))⟩,
  ⟨some 34, none, .p (.pick (.t 27) (.t 33) (.c (.bool false)))⟩]
def b3E : List AIns := [⟨some 35, none, .p (.load (some 2) (.t 3))⟩,
  ⟨some 36, none, .call a8o [(.t 35)]⟩,
  ⟨none, none, .e (.store 2 (.t 3) (.t 36))⟩]
def a6q : List AIns := [⟨some 7, none, .p (.mv (.c (.nil)))⟩]
def a6p : List AIns := [⟨some 37, none, .p (.mv (.t 0))⟩,
  ⟨some 38, none, .p (.len (.t 37))⟩,
  ⟨some 39, none, .p (.mv (.c (.int .i64 0)))⟩]
def a6o : List AIns := [⟨some 40, none, .p (.bin .lss (.t 39) (.t 38))⟩]
def b1E : List AIns := [⟨some 41, none, .p (.idxp 2 (.t 37) (.t 39))⟩,
  ⟨some 42, none, .p (.load (some 2) (.t 41))⟩,
  ⟨some 9, none, .e (.box 2 (.c (.agg [.bool false, .nil])))⟩,
  ⟨none, none, .e (.store 2 (.t 9) (.t 42))⟩]
def b1D : List AIns := [⟨some 44, none, .p (.load (some 2) (.t 9))⟩,
  ⟨some 45, none, .p (.load (some 2) (.t 3))⟩,
  ⟨some 46, none, .call a2A [(.t 44), (.t 45)]⟩,
  ⟨some 43, none, .p (.mv (.t 46))⟩,
  ⟨some 47, none, .p (.ext (.t 43) 0)⟩,
  ⟨some 48, none, .p (.ext (.t 43) 1)⟩,
  ⟨some 49, none, .p (.ext (.t 43) 2)⟩,
  ⟨some 10, none, .e (.box 2 (.c (.agg [.bool false, .nil])))⟩,
  ⟨some 11, none, .e (.box 2 (.c (.agg [.bool false, .nil])))⟩,
  ⟨none, none, .e (.store 2 (.t 10) (.t 47))⟩,
  ⟨none, none, .e (.store 2 (.t 11) (.t 48))⟩,
  ⟨some 12, none, .p (.mv (.t 49))⟩]
def b1C : List AIns := [⟨some 50, none, .p (.mv (.t 7))⟩,
  ⟨some 51, none, .p (.load (some 2) (.t 10))⟩,
  ⟨some 52, none, .e (.bsl 2 [(.t 51)])⟩,
  ⟨some 53, none, .e (.app 2 32 false (.t 50) (.t 52))⟩,
  ⟨some 7, none, .p (.mv (.t 53))⟩]
def b1B : List AIns := [⟨some 54, none, .p (.bin .add (.t 39) (.c (.int .i64 1)))⟩,
  ⟨some 39, none, .p (.mv (.t 54))⟩]
def b3N : ACode := .seq (.region a6o false) (.seq (.cond (.t 40) (.skip) (.exit 2)) (.seq (.block 3 (.seq (.region b1E false) (.seq (.region b1D false) (.region b1C false)))) (.region b1B false)))
def a6n : List AIns := [⟨some 55, none, .p (.mv (.t 7))⟩,
  ⟨some 2, none, .p (.mv (.t 55))⟩]
def d0j : ACode := .seq (.region b3M false) (.seq (.region b3L false) (.seq (.seq (.region b3K false) (.block 0 (.loop c6x))) (.seq (.seq (.region b3G false) (.seq (.region b3F false) (.cond (.t 34) (.region b3E false) (.skip)))) (.seq (.region a6q false) (.seq (.seq (.region a6p false) (.block 2 (.loop b3N))) (.seq (.region a6n false) (.ret)))))))
theorem c6w : fchk Pr (fun _ _ => false) Try.f96 = some (d0j, [.tmp 2], 56) := by kernel_rfl
theorem c6y : Pr.funcs[a2K]? = some Try.f96 := Try.func96
def c0j : List AIns := [⟨some 2, none, .e (.box 2 (.t 0))⟩,
  ⟨some 3, none, .e (.box 2 (.t 1))⟩,
  ⟨some 4, none, .e (.box 2 (.c (.agg [.bool false, .nil])))⟩]
def c0i : List AIns := [⟨some 5, none, .p (.fldp (.t 2) 1)⟩,
  ⟨some 6, none, .p (.load none (.t 5))⟩,
  ⟨some 7, none, .p (.fldp (.t 3) 1)⟩,
  ⟨some 8, none, .p (.load none (.t 7))⟩,
  ⟨some 9, none, .call a9R [(.t 6), (.t 8)]⟩,
  ⟨some 10, none, .call a1j [(.c (.bool false)), (.t 9)]⟩,
  ⟨none, none, .e (.store 2 (.t 4) (.t 10))⟩]
def d4j : ACode := .seq (.region c0j false) (.seq (.region c0i false) (.ret))
theorem d1A : fchk Pr (fun _ _ => false) Try.f97 = some (d4j, [.cell 4 (some 2)], 11) := by kernel_rfl
theorem d1B : Pr.funcs[b4W]? = some Try.f97 := Try.func97
def b2W : List AIns := [⟨some 2, none, .e (.box 2 (.t 0))⟩,
  ⟨some 3, none, .e (.box 2 (.t 1))⟩,
  ⟨some 4, none, .e (.box 2 (.c (.agg [.bool false, .nil])))⟩,
  ⟨some 5, none, .e (.box 2 (.c (.agg [.bool false, .nil])))⟩]
def b2V : List AIns := [⟨some 12, none, .p (.fldp (.t 2) 1)⟩,
  ⟨some 13, none, .p (.load none (.t 12))⟩,
  ⟨some 14, none, .p (.fldp (.t 3) 1)⟩,
  ⟨some 15, none, .p (.load none (.t 14))⟩,
  ⟨some 16, none, .call a3l [(.t 13), (.t 15)]⟩,
  ⟨some 11, none, .p (.mv (.t 16))⟩,
  ⟨some 17, none, .p (.ext (.t 11) 0)⟩,
  ⟨some 18, none, .p (.ext (.t 11) 1)⟩,
  ⟨some 19, none, .p (.ext (.t 11) 2)⟩,
  ⟨some 6, none, .p (.mv (.t 17))⟩,
  ⟨some 7, none, .p (.mv (.t 18))⟩,
  ⟨some 8, none, .p (.mv (.t 19))⟩]
def b2U : List AIns := [⟨some 20, none, .p (.fldp (.t 2) 0)⟩,
  ⟨some 21, none, .p (.load none (.t 20))⟩,
  ⟨some 22, none, .p (.fldp (.t 3) 0)⟩,
  ⟨some 23, none, .p (.load none (.t 22))⟩,
  ⟨some 24, none, .p (.beq true (.t 21) (.t 23))⟩,
  ⟨some 25, none, .p (.mv (.t 6))⟩,
  ⟨some 26, none, .call a1j [(.t 24), (.t 25)]⟩,
  ⟨some 9, none, .e (.box 2 (.c (.agg [.bool false, .nil])))⟩,
  ⟨none, none, .e (.store 2 (.t 9) (.t 26))⟩]
def b2T : List AIns := [⟨some 27, none, .p (.load (some 2) (.t 2))⟩,
  ⟨some 28, none, .p (.load (some 2) (.t 9))⟩,
  ⟨some 29, none, .p (.load (some 2) (.t 3))⟩,
  ⟨some 30, none, .call a1e [(.t 28), (.t 29)]⟩,
  ⟨some 31, none, .call a6B [(.t 27), (.t 30)]⟩,
  ⟨some 10, none, .e (.box 2 (.c (.agg [.bool false, .nil])))⟩,
  ⟨none, none, .e (.store 2 (.t 10) (.t 31))⟩]
def b2S : List AIns := [⟨some 32, none, .p (.load (some 2) (.t 10))⟩,
  ⟨some 33, none, .call a2C [(.t 32)]⟩,
  ⟨some 34, none, .p (.bin .neq (.t 33) (.c (.int .i64 0)))⟩,
  ⟨some 35, none, .p (.mv (.t 34))⟩,
  ⟨some 36, some (35, true), .p (.load (some 2) (.t 10))⟩,
  ⟨some 37, some (35, true), .call a2C [(.t 36)]⟩,
  ⟨some 38, some (35, true), .p (.load (some 2) (.t 3))⟩,
  ⟨some 39, some (35, true), .call a2C [(.t 38)]⟩,
  ⟨some 40, some (35, true), .p (.bin .neq (.t 37) (.t 39))⟩,
  ⟨some 41, none, .p (.pick (.t 35) (.t 40) (.c (.bool false)))⟩]
def b2R : List AIns := [⟨some 42, none, .p (.load (some 2) (.t 9))⟩,
  ⟨some 43, none, .call a3t [(.c (.int .i64 1))]⟩,
  ⟨some 44, none, .call a6B [(.t 42), (.t 43)]⟩,
  ⟨none, none, .e (.store 2 (.t 9) (.t 44))⟩]
def b2Q : List AIns := [⟨some 45, none, .p (.load (some 2) (.t 10))⟩,
  ⟨some 46, none, .p (.load (some 2) (.t 3))⟩,
  ⟨some 47, none, .call a4t [(.t 45), (.t 46)]⟩,
  ⟨none, none, .e (.store 2 (.t 10) (.t 47))⟩]
def a4D : List AIns := [⟨some 48, none, .p (.load (some 2) (.t 9))⟩,
  ⟨some 49, none, .p (.load (some 2) (.t 10))⟩,
  ⟨none, none, .e (.store 2 (.t 4) (.t 48))⟩,
  ⟨none, none, .e (.store 2 (.t 5) (.t 49))⟩]
def a3H : List AIns := []
def a3G : List AIns := []
def c9q : ACode := .seq (.region b2W false) (.seq (.region b2V false) (.seq (.region b2U false) (.seq (.region b2T true) (.seq (.seq (.region b2S true) (.cond (.t 41) (.seq (.region b2R true) (.region b2Q false)) (.skip))) (.seq (.regionX a4D a3H a3G [(10, 4)]) (.ret))))))
theorem c6q : fchk Pr (fun _ _ => false) Try.f98 = some (c9q, [.cell 4 (some 2), .cell 5 (some 2)], 50) := by kernel_rfl
theorem c6r : Pr.funcs[a5J]? = some Try.f98 := Try.func98
def c0h : List AIns := [⟨some 2, none, .e (.box 2 (.t 0))⟩,
  ⟨some 3, none, .e (.box 2 (.t 1))⟩,
  ⟨some 4, none, .e (.box 2 (.c (.agg [.bool false, .nil])))⟩]
def c0g : List AIns := [⟨some 5, none, .p (.fldp (.t 2) 0)⟩,
  ⟨some 6, none, .p (.load none (.t 5))⟩,
  ⟨some 7, none, .p (.fldp (.t 3) 0)⟩,
  ⟨some 8, none, .p (.load none (.t 7))⟩,
  ⟨some 9, none, .p (.beq true (.t 6) (.t 8))⟩,
  ⟨some 10, none, .p (.fldp (.t 2) 1)⟩,
  ⟨some 11, none, .p (.load none (.t 10))⟩,
  ⟨some 12, none, .p (.fldp (.t 3) 1)⟩,
  ⟨some 13, none, .p (.load none (.t 12))⟩,
  ⟨some 14, none, .call a2e [(.t 11), (.t 13)]⟩,
  ⟨some 15, none, .call a1j [(.t 9), (.t 14)]⟩,
  ⟨none, none, .e (.store 2 (.t 4) (.t 15))⟩]
def d4i : ACode := .seq (.region c0h false) (.seq (.region c0g true) (.ret))
theorem d1y : fchk Pr (fun _ _ => false) Try.f99 = some (d4i, [.cell 4 (some 2)], 16) := by kernel_rfl
theorem d1z : Pr.funcs[a1e]? = some Try.f99 := Try.func99
def c3s : List AIns := [⟨some 2, none, .e (.box 2 (.t 0))⟩,
  ⟨some 3, none, .e (.box 2 (.t 1))⟩,
  ⟨some 4, none, .e (.box 2 (.c (.agg [.bool false, .nil])))⟩]
def c3r : List AIns := [⟨some 5, none, .p (.fldp (.t 2) 1)⟩,
  ⟨some 6, none, .p (.load none (.t 5))⟩,
  ⟨some 7, none, .p (.fldp (.t 3) 1)⟩,
  ⟨some 8, none, .p (.load none (.t 7))⟩,
  ⟨some 9, none, .call c6l [(.t 6), (.t 8)]⟩,
  ⟨some 10, none, .call a0X [(.c (.bool false)), (.t 9)]⟩,
  ⟨none, none, .e (.store 2 (.t 4) (.t 10))⟩]
def d6Q : ACode := .seq (.region c3s false) (.seq (.region c3r false) (.ret))
theorem d3G : fchk Pr (fun _ _ => false) Try.f101 = some (d6Q, [.cell 4 (some 2)], 11) := by kernel_rfl
theorem d3H : Pr.funcs[b2r]? = some Try.f101 := Try.func101
def c3x : List AIns := [⟨some 2, none, .e (.box 2 (.t 0))⟩,
  ⟨some 3, none, .e (.box 2 (.t 1))⟩,
  ⟨some 4, none, .e (.box 2 (.c (.agg [.bool false, .nil])))⟩]
def c3w : List AIns := [⟨some 7, none, .p (.fldp (.t 2) 0)⟩,
  ⟨some 8, none, .p (.load none (.t 7))⟩,
  ⟨some 9, none, .p (.fldp (.t 3) 0)⟩,
  ⟨some 10, none, .p (.load none (.t 9))⟩,
  ⟨some 11, none, .p (.beq false (.t 8) (.t 10))⟩]
def c3v : List AIns := [⟨some 12, none, .p (.fldp (.t 2) 0)⟩,
  ⟨some 13, none, .p (.load none (.t 12))⟩,
  ⟨some 14, none, .p (.fldp (.t 2) 1)⟩,
  ⟨some 15, none, .p (.load none (.t 14))⟩,
  ⟨some 16, none, .p (.fldp (.t 3) 1)⟩,
  ⟨some 17, none, .p (.load none (.t 16))⟩,
  ⟨some 18, none, .call a8u [(.t 15), (.t 17)]⟩,
  ⟨some 19, none, .call a0X [(.t 13), (.t 18)]⟩,
  ⟨none, none, .e (.store 2 (.t 4) (.t 19))⟩]
def c3u : List AIns := [⟨some 20, none, .p (.fldp (.t 2) 1)⟩,
  ⟨some 21, none, .p (.load none (.t 20))⟩,
  ⟨some 22, none, .p (.fldp (.t 3) 1)⟩,
  ⟨some 23, none, .p (.load none (.t 22))⟩,
  ⟨some 24, none, .call a8t [(.t 21), (.t 23)]⟩,
  ⟨some 25, none, .p (.bin .lss (.t 24) (.c (.int .i64 0)))⟩]
def c3t : List AIns := [⟨some 26, none, .p (.load (some 2) (.t 3))⟩,
  ⟨some 27, none, .p (.load (some 2) (.t 2))⟩,
  ⟨none, none, .e (.store 2 (.t 2) (.t 26))⟩,
  ⟨none, none, .e (.store 2 (.t 3) (.t 27))⟩]
def b4h : List AIns := [⟨some 29, none, .p (.fldp (.t 2) 1)⟩,
  ⟨some 30, none, .p (.load none (.t 29))⟩,
  ⟨some 31, none, .p (.fldp (.t 3) 1)⟩,
  ⟨some 32, none, .p (.load none (.t 31))⟩,
  ⟨some 33, none, .call c6k [(.t 30), (.t 32)]⟩,
  ⟨some 28, none, .p (.mv (.t 33))⟩,
  ⟨some 34, none, .p (.ext (.t 28) 0)⟩,
  ⟨some 35, none, .p (.ext (.t 28) 1)⟩,
  ⟨some 5, none, .p (.mv (.t 34))⟩,
  ⟨some 6, none, .p (.mv (.t 35))⟩]
def b4g : List AIns := [⟨some 36, none, .p (.fldp (.t 2) 0)⟩,
  ⟨some 37, none, .p (.load none (.t 36))⟩,
  ⟨some 38, none, .p (.mv (.t 5))⟩,
  ⟨some 39, none, .call a0X [(.t 37), (.t 38)]⟩,
  ⟨none, none, .e (.store 2 (.t 4) (.t 39))⟩]
def d6R : ACode := .seq (.region c3x false) (.seq (.seq (.region c3w false) (.cond (.t 11) (.seq (.region c3v true) (.ret)) (.skip))) (.seq (.seq (.region c3u false) (.cond (.t 25) (.region c3t false) (.skip))) (.seq (.region b4h false) (.seq (.region b4g false) (.ret)))))
theorem d3J : fchk Pr (fun _ _ => false) Try.f102 = some (d6R, [.cell 4 (some 2)], 40) := by kernel_rfl
theorem d3K : Pr.funcs[b2t]? = some Try.f102 := Try.func102
def b4r : List AIns := [⟨some 2, none, .p (.mv (.c (.nil)))⟩]
def a5Z : List AIns := [⟨some 3, none, .p (.mv (.t 0))⟩,
  ⟨some 4, none, .p (.len (.t 3))⟩,
  ⟨some 5, none, .p (.bin .gtr (.t 4) (.c (.int .i64 0)))⟩,
  ⟨some 6, none, .p (.mv (.t 5))⟩,
  ⟨some 7, some (6, true), .p (.mv (.t 0))⟩,
  ⟨some 8, some (6, true), .p (.mv (.t 0))⟩,
  ⟨some 9, some (6, true), .p (.len (.t 8))⟩,
  ⟨some 10, some (6, true), .p (.bin .sub (.t 9) (.c (.int .i64 1)))⟩,
  ⟨some 11, some (6, true), .p (.idxp 1 (.t 7) (.t 10))⟩,
  ⟨some 12, some (6, true), .p (.load none (.t 11))⟩,
  ⟨some 13, some (6, true), .p (.bin .eql (.t 12) (.c (.int .u32 0)))⟩,
  ⟨some 14, none, .p (.pick (.t 6) (.t 13) (.c (.bool false)))⟩]
def b4q : List AIns := [⟨some 15, none, .p (.mv (.t 0))⟩,
  ⟨some 16, none, .p (.mv (.t 0))⟩,
  ⟨some 17, none, .p (.len (.t 16))⟩,
  ⟨some 18, none, .p (.bin .sub (.t 17) (.c (.int .i64 1)))⟩,
  ⟨some 19, none, .p (.slc 1 (.t 15) none (some (.t 18)) none)⟩,
  ⟨some 0, none, .p (.mv (.t 19))⟩]
def c4p : ACode := .seq (.seq (.region a5Z false) (.cond (.t 14) (.skip) (.exit 0))) (.block 1 (.region b4q false))
def a4k : List AIns := [⟨some 20, none, .p (.mv (.t 0))⟩,
  ⟨some 2, none, .p (.mv (.t 20))⟩]
def d7F : ACode := .seq (.region b4r false) (.seq (.block 0 (.loop c4p)) (.seq (.region a4k false) (.ret)))
theorem c4o : fchk Pr (fun _ _ => false) Try.f103 = some (d7F, [.tmp 2], 21) := by kernel_rfl
theorem c4q : Pr.funcs[a0r]? = some Try.f103 := Try.func103
def c7U : List AIns := [⟨some 4, none, .p (.mv (.c (.nil)))⟩,
  ⟨some 5, none, .p (.mv (.c (.nil)))⟩,
  ⟨some 6, none, .p (.mv (.c (.int .i64 0)))⟩]
def c7T : List AIns := [⟨some 14, none, .p (.mv (.t 0))⟩,
  ⟨some 15, none, .call a0r [(.t 14)]⟩,
  ⟨some 16, none, .p (.mv (.t 1))⟩,
  ⟨some 17, none, .call a0r [(.t 16)]⟩,
  ⟨some 0, none, .p (.mv (.t 15))⟩,
  ⟨some 1, none, .p (.mv (.t 17))⟩]
def c7S : List AIns := [⟨some 19, none, .p (.mv (.t 1))⟩,
  ⟨some 20, none, .p (.len (.t 19))⟩,
  ⟨some 21, none, .p (.bin .eql (.t 20) (.c (.int .i64 0)))⟩,
  ⟨some 18, none, .p (.mv (.t 21))⟩]
def d7W : List AIns := [⟨some 4, none, .p (.mv (.c (.nil)))⟩,
  ⟨some 5, none, .p (.mv (.c (.nil)))⟩,
  ⟨some 6, none, .p (.mv (.c (.int .i64 11)))⟩]
def c7R : List AIns := [⟨some 23, none, .p (.mv (.t 0))⟩,
  ⟨some 24, none, .p (.mv (.t 1))⟩,
  ⟨some 25, none, .call a8t [(.t 23), (.t 24)]⟩,
  ⟨some 26, none, .p (.bin .lss (.t 25) (.c (.int .i64 0)))⟩,
  ⟨some 22, none, .p (.mv (.t 26))⟩]
def c7Q : List AIns := [⟨some 27, none, .p (.mv (.t 0))⟩,
  ⟨some 28, none, .call a8r [(.t 27)]⟩,
  ⟨some 4, none, .p (.mv (.c (.nil)))⟩,
  ⟨some 5, none, .p (.mv (.t 28))⟩,
  ⟨some 6, none, .p (.mv (.c (.int .i64 0)))⟩]
def b8S : List AIns := [⟨some 30, none, .p (.mv (.t 1))⟩,
  ⟨some 31, none, .p (.len (.t 30))⟩,
  ⟨some 32, none, .p (.bin .eql (.t 31) (.c (.int .i64 1)))⟩,
  ⟨some 29, none, .p (.mv (.t 32))⟩]
def c7P : List AIns := [⟨some 34, none, .p (.mv (.t 0))⟩,
  ⟨some 35, none, .p (.mv (.t 1))⟩,
  ⟨some 36, none, .p (.idxp 1 (.t 35) (.c (.int .i64 0)))⟩,
  ⟨some 37, none, .p (.load none (.t 36))⟩,
  ⟨some 38, none, .call b4Z [(.t 34), (.t 37)]⟩,
  ⟨some 33, none, .p (.mv (.t 38))⟩,
  ⟨some 39, none, .p (.ext (.t 33) 0)⟩,
  ⟨some 40, none, .p (.ext (.t 33) 1)⟩,
  ⟨some 7, none, .p (.mv (.t 39))⟩,
  ⟨some 8, none, .p (.mv (.t 40))⟩]
def c7O : List AIns := [⟨some 41, none, .p (.mv (.t 7))⟩,
  ⟨some 42, none, .p (.mv (.t 8))⟩,
  ⟨some 43, none, .e (.bsl 1 [(.t 42)])⟩,
  ⟨some 44, none, .call a0r [(.t 43)]⟩,
  ⟨some 4, none, .p (.mv (.t 41))⟩,
  ⟨some 5, none, .p (.mv (.t 44))⟩,
  ⟨some 6, none, .p (.mv (.c (.int .i64 0)))⟩]
def c7N : List AIns := [⟨some 45, none, .p (.mv (.t 1))⟩,
  ⟨some 46, none, .p (.mv (.t 1))⟩,
  ⟨some 47, none, .p (.len (.t 46))⟩,
  ⟨some 48, none, .p (.bin .sub (.t 47) (.c (.int .i64 1)))⟩,
  ⟨some 49, none, .p (.idxp 1 (.t 45) (.t 48))⟩,
  ⟨some 50, none, .p (.load none (.t 49))⟩,
  ⟨some 51, none, .call a1H [(.t 50)]⟩,
  ⟨some 9, none, .p (.mv (.t 51))⟩]
def c4S : List AIns := [⟨some 52, none, .p (.mv (.t 1))⟩,
  ⟨some 53, none, .p (.mv (.t 9))⟩,
  ⟨some 54, none, .call b8q [(.t 52), (.t 53)]⟩,
  ⟨some 10, none, .p (.mv (.t 54))⟩]
def c4R : List AIns := [⟨some 55, none, .p (.mv (.t 0))⟩,
  ⟨some 56, none, .p (.mv (.t 9))⟩,
  ⟨some 57, none, .call b8q [(.t 55), (.t 56)]⟩,
  ⟨some 58, none, .e (.bsl 1 [(.c (.int .u32 0)), (.c (.int .u32 0))])⟩,
  ⟨some 59, none, .e (.app 1 4 false (.t 57) (.t 58))⟩,
  ⟨some 60, none, .p (.mv (.t 0))⟩,
  ⟨some 61, none, .p (.len (.t 60))⟩,
  ⟨some 62, none, .p (.bin .add (.t 61) (.c (.int .i64 1)))⟩,
  ⟨some 63, none, .p (.slc 1 (.t 59) none (some (.t 62)) none)⟩,
  ⟨some 11, none, .p (.mv (.t 63))⟩]
def c4Q : List AIns := [⟨some 64, none, .p (.mv (.t 0))⟩,
  ⟨some 65, none, .p (.len (.t 64))⟩,
  ⟨some 66, none, .p (.mv (.t 1))⟩,
  ⟨some 67, none, .p (.len (.t 66))⟩,
  ⟨some 68, none, .p (.bin .sub (.t 65) (.t 67))⟩,
  ⟨some 69, none, .p (.bin .add (.t 68) (.c (.int .i64 1)))⟩,
  ⟨some 70, none, .e (.mksl 1 4 (.int .u32 0) (.t 69) (.t 69))⟩,
  ⟨some 12, none, .p (.mv (.t 70))⟩]
def c4P : List AIns := [⟨some 71, none, .p (.mv (.t 0))⟩,
  ⟨some 72, none, .p (.len (.t 71))⟩,
  ⟨some 73, none, .p (.mv (.t 1))⟩,
  ⟨some 74, none, .p (.len (.t 73))⟩,
  ⟨some 75, none, .p (.bin .sub (.t 72) (.t 74))⟩,
  ⟨some 13, none, .p (.mv (.t 75))⟩]
def b4A : List AIns := [⟨some 76, none, .p (.mv (.t 13))⟩,
  ⟨some 77, none, .p (.bin .geq (.t 76) (.c (.int .i64 0)))⟩]
def c4O : List AIns := [⟨some 80, none, .p (.mv (.t 12))⟩,
  ⟨some 81, none, .p (.mv (.t 13))⟩,
  ⟨some 82, none, .p (.mv (.t 11))⟩,
  ⟨some 83, none, .p (.mv (.t 13))⟩,
  ⟨some 84, none, .p (.mv (.t 13))⟩,
  ⟨some 85, none, .p (.mv (.t 10))⟩,
  ⟨some 86, none, .p (.len (.t 85))⟩,
  ⟨some 87, none, .p (.bin .add (.t 84) (.t 86))⟩,
  ⟨some 88, none, .p (.bin .add (.t 87) (.c (.int .i64 1)))⟩,
  ⟨some 89, none, .p (.slc 1 (.t 82) (some (.t 83)) (some (.t 88)) none)⟩,
  ⟨some 90, none, .p (.mv (.t 10))⟩,
  ⟨some 91, none, .call a9T [(.t 89), (.t 90)]⟩,
  ⟨some 92, none, .p (.idxp 1 (.t 80) (.t 81))⟩,
  ⟨none, none, .e (.store 1 (.t 92) (.t 91))⟩]
def c4N : List AIns := [⟨some 78, none, .p (.mv (.t 13))⟩,
  ⟨some 79, none, .p (.bin .sub (.t 78) (.c (.int .i64 1)))⟩,
  ⟨some 13, none, .p (.mv (.t 79))⟩]
def d7Y : ACode := .seq (.seq (.region b4A false) (.cond (.t 77) (.skip) (.exit 1))) (.seq (.block 2 (.region c4O false)) (.region c4N false))
def c4M : List AIns := [⟨some 93, none, .p (.mv (.t 12))⟩,
  ⟨some 94, none, .call a0r [(.t 93)]⟩,
  ⟨some 95, none, .p (.mv (.t 11))⟩,
  ⟨some 96, none, .call a0r [(.t 95)]⟩,
  ⟨some 97, none, .p (.mv (.t 9))⟩,
  ⟨some 98, none, .call b8p [(.t 96), (.t 97)]⟩,
  ⟨some 4, none, .p (.mv (.t 94))⟩,
  ⟨some 5, none, .p (.mv (.t 98))⟩,
  ⟨some 6, none, .p (.mv (.c (.int .i64 0)))⟩]
def d9M : ACode := .seq (.region c7U false) (.seq (.region c7T false) (.seq (.block 0 (.seq (.region c7S false) (.cond (.t 18) (.seq (.region d7W false) (.ret)) (.seq (.region c7R false) (.cond (.t 22) (.seq (.region c7Q false) (.ret)) (.seq (.region b8S false) (.cond (.t 29) (.seq (.region c7P false) (.seq (.region c7O false) (.ret))) (.skip)))))))) (.seq (.region c7N false) (.seq (.region c4S false) (.seq (.region c4R false) (.seq (.region c4Q false) (.seq (.seq (.region c4P false) (.block 1 (.loop d7Y))) (.seq (.region c4M false) (.ret)))))))))
theorem d7X : fchk Pr (fun _ _ => false) Try.f104 = some (d9M, [.tmp 4, .tmp 5, .tmp 6], 99) := by kernel_rfl
theorem d7Z : Pr.funcs[b8r]? = some Try.f104 := Try.func104
def b6d : List AIns := [⟨some 1, none, .e (.box 2 (.t 0))⟩,
  ⟨some 2, none, .e (.box 2 (.c (.agg [.bool false, .nil])))⟩]
def b6c : List AIns := [⟨some 3, none, .p (.fldp (.t 1) 0)⟩,
  ⟨some 4, none, .p (.load none (.t 3))⟩,
  ⟨some 5, none, .p (.fldp (.t 1) 1)⟩,
  ⟨some 6, none, .p (.load none (.t 5))⟩,
  ⟨some 7, none, .call a1j [(.t 4), (.t 6)]⟩,
  ⟨none, none, .e (.store 2 (.t 2) (.t 7))⟩]
def d1v : ACode := .seq (.region b6d false) (.seq (.region b6c false) (.ret))
theorem c9o : fchk Pr (fun _ _ => false) Try.f105 = some (d1v, [.cell 2 (some 2)], 8) := by kernel_rfl
theorem c9p : Pr.funcs[a3u]? = some Try.f105 := Try.func105
def b9P : List AIns := [⟨some 0, none, .e (.box 2 (.c (.agg [.bool false, .nil])))⟩]
def b9O : List AIns := [⟨some 1, none, .call a3t [(.c (.int .i64 1))]⟩,
  ⟨none, none, .e (.store 2 (.t 0) (.t 1))⟩]
def d3W : ACode := .seq (.region b9P false) (.seq (.region b9O false) (.ret))
theorem d1e : fchk Pr (fun _ _ => false) Try.f106 = some (d3W, [.cell 0 (some 2)], 2) := by kernel_rfl
theorem d1f : Pr.funcs[b4S]? = some Try.f106 := Try.func106
def b5S : List AIns := [⟨some 2, none, .e (.box 2 (.t 0))⟩,
  ⟨some 3, none, .e (.box 2 (.t 1))⟩,
  ⟨some 4, none, .e (.box 4 (.c (.agg [.bool false, .nil, .bool false, .nil])))⟩]
def b5R : List AIns := [⟨some 14, none, .p (.load (some 2) (.t 2))⟩,
  ⟨some 15, none, .call a3u [(.t 14)]⟩,
  ⟨some 5, none, .e (.box 2 (.c (.agg [.bool false, .nil])))⟩,
  ⟨none, none, .e (.store 2 (.t 5) (.t 15))⟩]
def b5Q : List AIns := [⟨some 16, none, .p (.load (some 2) (.t 3))⟩,
  ⟨some 17, none, .call a3u [(.t 16)]⟩,
  ⟨some 6, none, .e (.box 2 (.c (.agg [.bool false, .nil])))⟩,
  ⟨none, none, .e (.store 2 (.t 6) (.t 17))⟩]
def b5P : List AIns := [⟨some 18, none, .p (.load (some 2) (.t 6))⟩,
  ⟨some 19, none, .call a2C [(.t 18)]⟩,
  ⟨some 20, none, .p (.bin .lss (.t 19) (.c (.int .i64 0)))⟩]
def b5O : List AIns := [⟨some 21, none, .p (.load (some 2) (.t 5))⟩,
  ⟨some 22, none, .call a4s [(.t 21)]⟩,
  ⟨none, none, .e (.store 2 (.t 5) (.t 22))⟩]
def b5N : List AIns := [⟨some 23, none, .p (.load (some 2) (.t 6))⟩,
  ⟨some 24, none, .call a4s [(.t 23)]⟩,
  ⟨none, none, .e (.store 2 (.t 6) (.t 24))⟩]
def a8J : List AIns := [⟨some 25, none, .p (.fldp (.t 5) 1)⟩,
  ⟨some 26, none, .p (.load none (.t 25))⟩,
  ⟨some 27, none, .p (.fldp (.t 6) 1)⟩,
  ⟨some 28, none, .p (.load none (.t 27))⟩,
  ⟨some 29, none, .call a9R [(.t 26), (.t 28)]⟩,
  ⟨some 7, none, .p (.mv (.t 29))⟩]
def a8I : List AIns := [⟨some 31, none, .p (.fldp (.t 5) 1)⟩,
  ⟨some 32, none, .p (.load none (.t 31))⟩,
  ⟨some 33, none, .p (.mv (.t 7))⟩,
  ⟨some 34, none, .call a3l [(.t 32), (.t 33)]⟩,
  ⟨some 30, none, .p (.mv (.t 34))⟩,
  ⟨some 35, none, .p (.ext (.t 30) 0)⟩,
  ⟨some 36, none, .p (.ext (.t 30) 1)⟩,
  ⟨some 37, none, .p (.ext (.t 30) 2)⟩,
  ⟨some 8, none, .p (.mv (.t 35))⟩,
  ⟨some 9, none, .p (.mv (.t 36))⟩,
  ⟨some 10, none, .p (.mv (.t 37))⟩]
def a8H : List AIns := [⟨some 39, none, .p (.fldp (.t 6) 1)⟩,
  ⟨some 40, none, .p (.load none (.t 39))⟩,
  ⟨some 41, none, .p (.mv (.t 7))⟩,
  ⟨some 42, none, .call a3l [(.t 40), (.t 41)]⟩,
  ⟨some 38, none, .p (.mv (.t 42))⟩,
  ⟨some 43, none, .p (.ext (.t 38) 0)⟩,
  ⟨some 44, none, .p (.ext (.t 38) 1)⟩,
  ⟨some 45, none, .p (.ext (.t 38) 2)⟩,
  ⟨some 11, none, .p (.mv (.t 43))⟩,
  ⟨some 12, none, .p (.mv (.t 44))⟩,
  ⟨some 13, none, .p (.mv (.t 45))⟩]
def a8G : List AIns := [⟨some 46, none, .p (.fldp (.t 5) 0)⟩,
  ⟨some 47, none, .p (.load none (.t 46))⟩,
  ⟨some 48, none, .p (.mv (.t 8))⟩,
  ⟨some 49, none, .p (.bld [.bool false, .nil] [(0, 1, (.t 47)), (1, 1, (.t 48))])⟩,
  ⟨some 50, none, .call a3u [(.t 49)]⟩,
  ⟨some 51, none, .p (.mv (.t 11))⟩,
  ⟨some 52, none, .p (.bld [.bool false, .nil] [(1, 1, (.t 51))])⟩,
  ⟨some 53, none, .p (.bld [.bool false, .nil, .bool false, .nil] [(0, 2, (.t 50)), (2, 2, (.t 52))])⟩,
  ⟨none, none, .e (.store 4 (.t 4) (.t 53))⟩]
def d1m : ACode := .seq (.region b5S false) (.seq (.region b5R false) (.seq (.region b5Q false) (.seq (.seq (.region b5P false) (.cond (.t 20) (.seq (.region b5O false) (.region b5N false)) (.skip))) (.seq (.region a8J false) (.seq (.region a8I false) (.seq (.region a8H false) (.seq (.region a8G false) (.ret))))))))
theorem c9i : fchk Pr (fun _ _ => false) Try.f107 = some (d1m, [.cell 4 (some 4)], 54) := by kernel_rfl
theorem c9j : Pr.funcs[a2B]? = some Try.f107 := Try.func107
def c0f : List AIns := [⟨some 1, none, .e (.box 2 (.t 0))⟩,
  ⟨some 2, none, .e (.box 2 (.c (.agg [.bool false, .nil])))⟩]
def c0e : List AIns := [⟨some 3, none, .p (.fldp (.t 1) 0)⟩,
  ⟨some 4, none, .p (.load none (.t 3))⟩,
  ⟨some 5, none, .p (.un .not (.t 4))⟩,
  ⟨some 6, none, .p (.fldp (.t 1) 1)⟩,
  ⟨some 7, none, .p (.load none (.t 6))⟩,
  ⟨some 8, none, .call a1j [(.t 5), (.t 7)]⟩,
  ⟨none, none, .e (.store 2 (.t 2) (.t 8))⟩]
def d4h : ACode := .seq (.region c0f false) (.seq (.region c0e false) (.ret))
theorem d1w : fchk Pr (fun _ _ => false) Try.f108 = some (d4h, [.cell 2 (some 2)], 9) := by kernel_rfl
theorem d1x : Pr.funcs[a4s]? = some Try.f108 := Try.func108
def a6T : List AIns := [⟨some 2, none, .p (.mv (.c (.int .i64 0)))⟩]
def a6S : List AIns := [⟨some 3, none, .p (.mv (.t 0))⟩,
  ⟨some 4, none, .p (.bin .geq (.t 3) (.c (.int .u32 65536)))⟩]
def a6R : List AIns := [⟨some 5, none, .p (.mv (.t 0))⟩,
  ⟨some 6, none, .p (.bin .shr (.t 5) (.c (.int .u64 16)))⟩,
  ⟨some 0, none, .p (.mv (.t 6))⟩]
def a6Q : List AIns := [⟨some 2, none, .p (.mv (.c (.int .i64 16)))⟩]
def a3M : List AIns := [⟨some 7, none, .p (.mv (.t 0))⟩,
  ⟨some 8, none, .p (.bin .geq (.t 7) (.c (.int .u32 256)))⟩]
def a3L : List AIns := [⟨some 9, none, .p (.mv (.t 0))⟩,
  ⟨some 10, none, .p (.bin .shr (.t 9) (.c (.int .u64 8)))⟩,
  ⟨some 0, none, .p (.mv (.t 10))⟩]
def a3K : List AIns := [⟨some 11, none, .p (.mv (.t 2))⟩,
  ⟨some 12, none, .p (.bin .add (.t 11) (.c (.int .i64 8)))⟩,
  ⟨some 2, none, .p (.mv (.t 12))⟩]
def a2n : List AIns := [⟨some 13, none, .p (.mv (.t 2))⟩,
  ⟨some 14, none, .p (.mv (.t 0))⟩,
  ⟨some 15, none, .p (.conv .u8 (.t 14))⟩,
  ⟨some 16, none, .p (.idxs (.c (.str e1D)) (.t 15))⟩,
  ⟨some 17, none, .p (.conv .i64 (.t 16))⟩,
  ⟨some 18, none, .p (.bin .add (.t 13) (.t 17))⟩,
  ⟨some 2, none, .p (.mv (.t 18))⟩]
def b8Z : ACode := .seq (.region a6T false) (.seq (.seq (.region a6S false) (.cond (.t 4) (.seq (.region a6R false) (.region a6Q false)) (.skip))) (.seq (.seq (.region a3M false) (.cond (.t 8) (.seq (.region a3L false) (.region a3K false)) (.skip))) (.seq (.region a2n false) (.ret))))
theorem b7m : fchk Pr (fun _ _ => false) Try.f109 = some (b8Z, [.tmp 2], 19) := by kernel_rfl
theorem b7n : Pr.funcs[a1y]? = some Try.f109 := Try.func109
def b9R : List AIns := [⟨some 2, none, .e (.box 4 (.t 0))⟩,
  ⟨some 3, none, .e (.box 4 (.t 1))⟩,
  ⟨some 4, none, .e (.box 4 (.c (.agg [.bool false, .nil, .bool false, .nil])))⟩]
def b9Q : List AIns := [⟨some 5, none, .p (.load (some 4) (.t 2))⟩,
  ⟨some 6, none, .p (.load (some 4) (.t 3))⟩,
  ⟨some 7, none, .call a9N [(.t 6)]⟩,
  ⟨some 8, none, .call b4V [(.t 5), (.t 7)]⟩,
  ⟨none, none, .e (.store 4 (.t 4) (.t 8))⟩]
def d3X : ACode := .seq (.region b9R false) (.seq (.region b9Q true) (.ret))
theorem d1g : fchk Pr (fun _ _ => false) Try.f110 = some (d3X, [.cell 4 (some 4)], 9) := by kernel_rfl
theorem d1h : Pr.funcs[b4T]? = some Try.f110 := Try.func110
def b6B : List AIns := [⟨some 2, none, .p (.mv (.c (.nil)))⟩]
def b6A : List AIns := [⟨some 6, none, .p (.mv (.t 0))⟩,
  ⟨some 7, none, .p (.len (.t 6))⟩,
  ⟨some 3, none, .p (.mv (.t 7))⟩]
def a8O : List AIns := [⟨some 8, none, .p (.mv (.t 3))⟩,
  ⟨some 9, none, .p (.bin .gtr (.t 8) (.c (.int .i64 0)))⟩,
  ⟨some 10, none, .p (.mv (.t 9))⟩,
  ⟨some 11, some (10, true), .p (.mv (.t 0))⟩,
  ⟨some 12, some (10, true), .p (.mv (.t 3))⟩,
  ⟨some 13, some (10, true), .p (.bin .sub (.t 12) (.c (.int .i64 1)))⟩,
  ⟨some 14, some (10, true), .p (.idxp 1 (.t 11) (.t 13))⟩,
  ⟨some 15, some (10, true), .p (.load none (.t 14))⟩,
  ⟨some 16, some (10, true), .p (.bin .eql (.t 15) (.c (.int .u32 0)))⟩,
  ⟨some 17, none, .p (.pick (.t 10) (.t 16) (.c (.bool false)))⟩]
def b6z : List AIns := [⟨some 18, none, .p (.mv (.t 3))⟩,
  ⟨some 19, none, .p (.bin .sub (.t 18) (.c (.int .i64 1)))⟩,
  ⟨some 3, none, .p (.mv (.t 19))⟩]
def b6C : ACode := .seq (.seq (.region a8O false) (.cond (.t 17) (.skip) (.exit 0))) (.block 1 (.region b6z false))
def a5u : List AIns := [⟨some 4, none, .p (.mv (.c (.nil)))⟩]
def a5t : List AIns := [⟨some 5, none, .p (.mv (.c (.int .i64 0)))⟩]
def a8N : List AIns := [⟨some 20, none, .p (.mv (.t 5))⟩,
  ⟨some 21, none, .p (.mv (.t 3))⟩,
  ⟨some 22, none, .p (.bin .lss (.t 20) (.t 21))⟩]
def b6y : List AIns := [⟨some 25, none, .p (.mv (.t 4))⟩,
  ⟨some 26, none, .p (.mv (.t 0))⟩,
  ⟨some 27, none, .p (.mv (.t 5))⟩,
  ⟨some 28, none, .p (.idxp 1 (.t 26) (.t 27))⟩,
  ⟨some 29, none, .p (.load none (.t 28))⟩,
  ⟨some 30, none, .e (.bsl 1 [(.t 29)])⟩,
  ⟨some 31, none, .e (.app 1 4 false (.t 25) (.t 30))⟩,
  ⟨some 4, none, .p (.mv (.t 31))⟩]
def b6x : List AIns := [⟨some 23, none, .p (.mv (.t 5))⟩,
  ⟨some 24, none, .p (.bin .add (.t 23) (.c (.int .i64 1)))⟩,
  ⟨some 5, none, .p (.mv (.t 24))⟩]
def a5v : ACode := .seq (.seq (.region a8N false) (.cond (.t 22) (.skip) (.exit 2))) (.seq (.block 3 (.region b6y false)) (.region b6x false))
def a3I : List AIns := [⟨some 32, none, .p (.mv (.t 4))⟩,
  ⟨some 2, none, .p (.mv (.t 32))⟩]
def d1T : ACode := .seq (.region b6B false) (.seq (.region b6A false) (.seq (.block 0 (.loop b6C)) (.seq (.region a5u false) (.seq (.seq (.region a5t false) (.block 2 (.loop a5v))) (.seq (.region a3I false) (.ret))))))
theorem c9y : fchk Pr (fun _ _ => false) Try.f111 = some (d1T, [.tmp 2], 33) := by kernel_rfl
theorem c9z : Pr.funcs[a0z]? = some Try.f111 := Try.func111
def c0r : List AIns := [⟨some 2, none, .e (.box 2 (.t 0))⟩,
  ⟨some 3, none, .e (.box 2 (.t 1))⟩,
  ⟨some 4, none, .e (.box 2 (.c (.agg [.bool false, .nil])))⟩]
def c0q : List AIns := [⟨some 9, none, .p (.fldp (.t 2) 0)⟩,
  ⟨some 10, none, .p (.load none (.t 9))⟩,
  ⟨some 11, none, .p (.fldp (.t 3) 0)⟩,
  ⟨some 12, none, .p (.load none (.t 11))⟩,
  ⟨some 13, none, .p (.beq false (.t 10) (.t 12))⟩]
def c0p : List AIns := [⟨some 14, none, .p (.fldp (.t 2) 0)⟩,
  ⟨some 15, none, .p (.load none (.t 14))⟩,
  ⟨some 16, none, .p (.fldp (.t 2) 1)⟩,
  ⟨some 17, none, .p (.load none (.t 16))⟩,
  ⟨some 18, none, .p (.fldp (.t 3) 1)⟩,
  ⟨some 19, none, .p (.load none (.t 18))⟩,
  ⟨some 20, none, .call a9S [(.t 17), (.t 19)]⟩,
  ⟨some 21, none, .call a1j [(.t 15), (.t 20)]⟩,
  ⟨none, none, .e (.store 2 (.t 4) (.t 21))⟩]
def c0o : List AIns := [⟨some 22, none, .p (.fldp (.t 2) 1)⟩,
  ⟨some 23, none, .p (.load none (.t 22))⟩,
  ⟨some 24, none, .p (.fldp (.t 3) 1)⟩,
  ⟨some 25, none, .p (.load none (.t 24))⟩,
  ⟨some 26, none, .call a3m [(.t 23), (.t 25)]⟩,
  ⟨some 27, none, .p (.bin .geq (.t 26) (.c (.int .i64 0)))⟩]
def c0n : List AIns := [⟨some 29, none, .p (.fldp (.t 2) 1)⟩,
  ⟨some 30, none, .p (.load none (.t 29))⟩,
  ⟨some 31, none, .p (.fldp (.t 3) 1)⟩,
  ⟨some 32, none, .p (.load none (.t 31))⟩,
  ⟨some 33, none, .call a9Q [(.t 30), (.t 32)]⟩,
  ⟨some 28, none, .p (.mv (.t 33))⟩,
  ⟨some 34, none, .p (.ext (.t 28) 0)⟩,
  ⟨some 35, none, .p (.ext (.t 28) 1)⟩,
  ⟨some 5, none, .p (.mv (.t 34))⟩,
  ⟨some 6, none, .p (.mv (.t 35))⟩]
def c0m : List AIns := [⟨some 36, none, .p (.fldp (.t 2) 0)⟩,
  ⟨some 37, none, .p (.load none (.t 36))⟩,
  ⟨some 38, none, .p (.mv (.t 5))⟩,
  ⟨some 39, none, .call a1j [(.t 37), (.t 38)]⟩,
  ⟨none, none, .e (.store 2 (.t 4) (.t 39))⟩]
def c0l : List AIns := [⟨some 41, none, .p (.fldp (.t 3) 1)⟩,
  ⟨some 42, none, .p (.load none (.t 41))⟩,
  ⟨some 43, none, .p (.fldp (.t 2) 1)⟩,
  ⟨some 44, none, .p (.load none (.t 43))⟩,
  ⟨some 45, none, .call a9Q [(.t 42), (.t 44)]⟩,
  ⟨some 40, none, .p (.mv (.t 45))⟩,
  ⟨some 46, none, .p (.ext (.t 40) 0)⟩,
  ⟨some 47, none, .p (.ext (.t 40) 1)⟩,
  ⟨some 7, none, .p (.mv (.t 46))⟩,
  ⟨some 8, none, .p (.mv (.t 47))⟩]
def c0k : List AIns := [⟨some 48, none, .p (.fldp (.t 3) 0)⟩,
  ⟨some 49, none, .p (.load none (.t 48))⟩,
  ⟨some 50, none, .p (.mv (.t 7))⟩,
  ⟨some 51, none, .call a1j [(.t 49), (.t 50)]⟩,
  ⟨none, none, .e (.store 2 (.t 4) (.t 51))⟩]
def d4k : ACode := .seq (.region c0r false) (.seq (.seq (.region c0q false) (.cond (.t 13) (.seq (.region c0p true) (.ret)) (.skip))) (.seq (.seq (.region c0o false) (.cond (.t 27) (.seq (.region c0n false) (.seq (.region c0m false) (.ret))) (.skip))) (.seq (.region c0l false) (.seq (.region c0k false) (.ret)))))
theorem d1C : fchk Pr (fun _ _ => false) Try.f112 = some (d4k, [.cell 4 (some 2)], 52) := by kernel_rfl
theorem d1D : Pr.funcs[a4t]? = some Try.f112 := Try.func112
def c0Y : List AIns := [⟨some 4, none, .p (.mv (.c (.nil)))⟩]
def c0X : List AIns := [⟨some 10, none, .p (.mv (.t 0))⟩,
  ⟨some 11, none, .call a0z [(.t 10)]⟩,
  ⟨some 5, none, .p (.mv (.t 11))⟩]
def c0W : List AIns := [⟨some 12, none, .p (.mv (.t 1))⟩,
  ⟨some 13, none, .call a0z [(.t 12)]⟩,
  ⟨some 6, none, .p (.mv (.t 13))⟩]
def b1c : List AIns := [⟨some 14, none, .p (.mv (.t 6))⟩,
  ⟨some 15, none, .p (.len (.t 14))⟩,
  ⟨some 16, none, .p (.bin .gtr (.t 15) (.c (.int .i64 0)))⟩]
def c0V : List AIns := [⟨some 18, none, .p (.mv (.t 5))⟩,
  ⟨some 19, none, .p (.mv (.t 6))⟩,
  ⟨some 20, none, .call a3l [(.t 18), (.t 19)]⟩,
  ⟨some 17, none, .p (.mv (.t 20))⟩,
  ⟨some 21, none, .p (.ext (.t 17) 0)⟩,
  ⟨some 22, none, .p (.ext (.t 17) 1)⟩,
  ⟨some 23, none, .p (.ext (.t 17) 2)⟩,
  ⟨some 7, none, .p (.mv (.t 21))⟩,
  ⟨some 8, none, .p (.mv (.t 22))⟩,
  ⟨some 9, none, .p (.mv (.t 23))⟩]
def c0U : List AIns := [⟨some 24, none, .p (.mv (.t 6))⟩,
  ⟨some 5, none, .p (.mv (.t 24))⟩]
def c0T : List AIns := [⟨some 25, none, .p (.mv (.t 8))⟩,
  ⟨some 6, none, .p (.mv (.t 25))⟩]
def d1X : ACode := .seq (.seq (.region b1c false) (.cond (.t 16) (.skip) (.exit 0))) (.block 1 (.seq (.region c0V false) (.seq (.region c0U false) (.region c0T false))))
def c0S : List AIns := [⟨some 26, none, .p (.mv (.t 5))⟩,
  ⟨some 4, none, .p (.mv (.t 26))⟩]
def d4p : ACode := .seq (.region c0Y false) (.seq (.region c0X false) (.seq (.region c0W false) (.seq (.block 0 (.loop d1X)) (.seq (.region c0S false) (.ret)))))
theorem d1W : fchk Pr (fun _ _ => false) Try.f113 = some (d4p, [.tmp 4], 27) := by kernel_rfl
theorem d1Y : Pr.funcs[a9R]? = some Try.f113 := Try.func113
def c1g : List AIns := [⟨some 4, none, .p (.mv (.c (.nil)))⟩,
  ⟨some 5, none, .p (.mv (.c (.nil)))⟩,
  ⟨some 6, none, .p (.mv (.c (.int .i64 0)))⟩]
def c1f : List AIns := [⟨some 20, none, .p (.mv (.t 1))⟩,
  ⟨some 21, none, .call a0z [(.t 20)]⟩,
  ⟨some 7, none, .p (.mv (.t 21))⟩]
def c1e : List AIns := [⟨some 22, none, .p (.mv (.t 7))⟩,
  ⟨some 23, none, .p (.len (.t 22))⟩,
  ⟨some 24, none, .p (.bin .eql (.t 23) (.c (.int .i64 0)))⟩]
def d1Z : List AIns := [⟨some 4, none, .p (.mv (.c (.nil)))⟩,
  ⟨some 5, none, .p (.mv (.c (.nil)))⟩,
  ⟨some 6, none, .p (.mv (.c (.int .i64 11)))⟩]
def b1d : List AIns := [⟨some 25, none, .p (.mv (.t 7))⟩,
  ⟨some 26, none, .p (.len (.t 25))⟩,
  ⟨some 27, none, .p (.bin .eql (.t 26) (.c (.int .i64 1)))⟩]
def c1d : List AIns := [⟨some 29, none, .p (.mv (.t 0))⟩,
  ⟨some 30, none, .p (.mv (.t 7))⟩,
  ⟨some 31, none, .p (.idxp 1 (.t 30) (.c (.int .i64 0)))⟩,
  ⟨some 32, none, .p (.load none (.t 31))⟩,
  ⟨some 33, none, .p (.conv .u64 (.t 32))⟩,
  ⟨some 34, none, .call a9P [(.t 29), (.t 33)]⟩,
  ⟨some 28, none, .p (.mv (.t 34))⟩,
  ⟨some 35, none, .p (.ext (.t 28) 0)⟩,
  ⟨some 36, none, .p (.ext (.t 28) 1)⟩,
  ⟨some 8, none, .p (.mv (.t 35))⟩,
  ⟨some 9, none, .p (.mv (.t 36))⟩]
def c1c : List AIns := [⟨some 37, none, .p (.mv (.t 8))⟩,
  ⟨some 38, none, .p (.mv (.t 9))⟩,
  ⟨some 39, none, .p (.conv .u32 (.t 38))⟩,
  ⟨some 40, none, .e (.bsl 1 [(.t 39)])⟩,
  ⟨some 41, none, .call a0z [(.t 40)]⟩,
  ⟨some 4, none, .p (.mv (.t 37))⟩,
  ⟨some 5, none, .p (.mv (.t 41))⟩,
  ⟨some 6, none, .p (.mv (.c (.int .i64 0)))⟩]
def c1b : List AIns := [⟨some 42, none, .p (.mv (.t 7))⟩,
  ⟨some 43, none, .p (.len (.t 42))⟩,
  ⟨some 44, none, .p (.bin .mul (.c (.int .i64 32)) (.t 43))⟩,
  ⟨some 45, none, .p (.mv (.t 7))⟩,
  ⟨some 46, none, .call a2E [(.t 45)]⟩,
  ⟨some 47, none, .p (.bin .sub (.t 44) (.t 46))⟩,
  ⟨some 48, none, .call b4X [(.t 47)]⟩,
  ⟨some 10, none, .p (.mv (.t 48))⟩]
def c1a : List AIns := [⟨some 49, none, .p (.mv (.t 0))⟩,
  ⟨some 50, none, .p (.mv (.t 10))⟩,
  ⟨some 51, none, .call a2e [(.t 49), (.t 50)]⟩,
  ⟨some 11, none, .p (.mv (.t 51))⟩]
def c0Z : List AIns := [⟨some 52, none, .p (.mv (.t 7))⟩,
  ⟨some 53, none, .p (.mv (.t 10))⟩,
  ⟨some 54, none, .call a2e [(.t 52), (.t 53)]⟩,
  ⟨some 12, none, .p (.mv (.t 54))⟩]
def b6P : List AIns := [⟨some 55, none, .p (.mv (.t 11))⟩,
  ⟨some 56, none, .p (.len (.t 55))⟩,
  ⟨some 57, none, .e (.mksl 1 4 (.int .u32 0) (.t 56) (.t 56))⟩,
  ⟨some 13, none, .p (.mv (.t 57))⟩]
def b6O : List AIns := [⟨some 14, none, .p (.mv (.c (.nil)))⟩]
def b6N : List AIns := [⟨some 58, none, .p (.mv (.t 11))⟩,
  ⟨some 59, none, .p (.len (.t 58))⟩,
  ⟨some 60, none, .p (.bin .sub (.t 59) (.c (.int .i64 1)))⟩,
  ⟨some 15, none, .p (.mv (.t 60))⟩]
def a8W : List AIns := [⟨some 61, none, .p (.mv (.t 15))⟩,
  ⟨some 62, none, .p (.bin .geq (.t 61) (.c (.int .i64 0)))⟩]
def b6M : List AIns := [⟨some 65, none, .p (.mv (.t 11))⟩,
  ⟨some 66, none, .p (.mv (.t 15))⟩,
  ⟨some 67, none, .p (.idxp 1 (.t 65) (.t 66))⟩,
  ⟨some 68, none, .p (.load none (.t 67))⟩,
  ⟨some 69, none, .e (.bslm 1 [(.t 68)])⟩,
  ⟨some 70, none, .p (.mv (.t 14))⟩,
  ⟨some 71, none, .e (.app 1 4 false (.t 69) (.t 70))⟩,
  ⟨some 72, none, .call a0z [(.t 71)]⟩,
  ⟨some 14, none, .p (.mv (.t 72))⟩]
def b6L : List AIns := [⟨some 73, none, .p (.mv (.t 14))⟩,
  ⟨some 74, none, .p (.mv (.t 12))⟩,
  ⟨some 75, none, .call a3m [(.t 73), (.t 74)]⟩,
  ⟨some 76, none, .p (.bin .lss (.t 75) (.c (.int .i64 0)))⟩]
def b6K : List AIns := [⟨some 77, none, .p (.mv (.t 14))⟩,
  ⟨some 78, none, .p (.mv (.t 12))⟩,
  ⟨some 79, none, .p (.len (.t 78))⟩,
  ⟨some 80, none, .call a0P [(.t 77), (.t 79)]⟩,
  ⟨some 81, none, .p (.bin .mul (.t 80) (.c (.int .u64 4294967296)))⟩,
  ⟨some 82, none, .p (.mv (.t 14))⟩,
  ⟨some 83, none, .p (.mv (.t 12))⟩,
  ⟨some 84, none, .p (.len (.t 83))⟩,
  ⟨some 85, none, .p (.bin .sub (.t 84) (.c (.int .i64 1)))⟩,
  ⟨some 86, none, .call a0P [(.t 82), (.t 85)]⟩,
  ⟨some 87, none, .p (.bin .add (.t 81) (.t 86))⟩,
  ⟨some 88, none, .p (.mv (.t 12))⟩,
  ⟨some 89, none, .p (.mv (.t 12))⟩,
  ⟨some 90, none, .p (.len (.t 89))⟩,
  ⟨some 91, none, .p (.bin .sub (.t 90) (.c (.int .i64 1)))⟩,
  ⟨some 92, none, .call a0P [(.t 88), (.t 91)]⟩,
  ⟨some 93, none, .p (.bin .quo (.t 87) (.t 92))⟩,
  ⟨some 16, none, .p (.mv (.t 93))⟩]
def a8V : List AIns := [⟨some 94, none, .p (.mv (.t 16))⟩,
  ⟨some 95, none, .p (.bin .geq (.t 94) (.c (.int .u64 4294967296)))⟩]
def b6J : List AIns := [⟨some 16, none, .p (.mv (.c (.int .u64 4294967295)))⟩]
def a8U : List AIns := [⟨some 96, none, .p (.mv (.t 12))⟩,
  ⟨some 97, none, .p (.mv (.t 16))⟩,
  ⟨some 98, none, .p (.conv .u32 (.t 97))⟩,
  ⟨some 99, none, .e (.bsl 1 [(.t 98)])⟩,
  ⟨some 100, none, .call a2e [(.t 96), (.t 99)]⟩,
  ⟨some 17, none, .p (.mv (.t 100))⟩]
def b6I : List AIns := [⟨some 101, none, .p (.mv (.t 17))⟩,
  ⟨some 102, none, .p (.mv (.t 14))⟩,
  ⟨some 103, none, .call a3m [(.t 101), (.t 102)]⟩,
  ⟨some 104, none, .p (.bin .gtr (.t 103) (.c (.int .i64 0)))⟩]
def b6H : List AIns := [⟨some 105, none, .p (.mv (.t 16))⟩,
  ⟨some 106, none, .p (.bin .sub (.t 105) (.c (.int .u64 1)))⟩,
  ⟨some 16, none, .p (.mv (.t 106))⟩]
def b6G : List AIns := [⟨some 107, none, .p (.mv (.t 17))⟩,
  ⟨some 108, none, .p (.mv (.t 12))⟩,
  ⟨some 109, none, .call a2D [(.t 107), (.t 108)]⟩,
  ⟨some 17, none, .p (.mv (.t 109))⟩]
def c1h : ACode := .seq (.seq (.region b6I false) (.cond (.t 104) (.skip) (.exit 2))) (.block 3 (.seq (.region b6H false) (.region b6G false)))
def a8T : List AIns := [⟨some 110, none, .p (.mv (.t 13))⟩,
  ⟨some 111, none, .p (.mv (.t 15))⟩,
  ⟨some 112, none, .p (.mv (.t 16))⟩,
  ⟨some 113, none, .p (.conv .u32 (.t 112))⟩,
  ⟨some 114, none, .p (.idxp 1 (.t 110) (.t 111))⟩,
  ⟨none, none, .e (.store 1 (.t 114) (.t 113))⟩]
def a8S : List AIns := [⟨some 115, none, .p (.mv (.t 14))⟩,
  ⟨some 116, none, .p (.mv (.t 17))⟩,
  ⟨some 117, none, .call a2D [(.t 115), (.t 116)]⟩,
  ⟨some 14, none, .p (.mv (.t 117))⟩]
def a5w : List AIns := [⟨some 63, none, .p (.mv (.t 15))⟩,
  ⟨some 64, none, .p (.bin .sub (.t 63) (.c (.int .i64 1)))⟩,
  ⟨some 15, none, .p (.mv (.t 64))⟩]
def c1i : ACode := .seq (.seq (.region a8W false) (.cond (.t 62) (.skip) (.exit 0))) (.seq (.block 1 (.seq (.region b6M false) (.seq (.seq (.region b6L false) (.cond (.t 76) (.exit 1) (.skip))) (.seq (.region b6K false) (.seq (.seq (.region a8V false) (.cond (.t 95) (.region b6J false) (.skip))) (.seq (.region a8U false) (.seq (.block 2 (.loop c1h)) (.seq (.region a8T false) (.region a8S false))))))))) (.region a5w false))
def a8R : List AIns := [⟨some 119, none, .p (.mv (.t 14))⟩,
  ⟨some 120, none, .p (.mv (.t 7))⟩,
  ⟨some 121, none, .p (.len (.t 120))⟩,
  ⟨some 122, none, .p (.bin .mul (.c (.int .i64 32)) (.t 121))⟩,
  ⟨some 123, none, .p (.mv (.t 7))⟩,
  ⟨some 124, none, .call a2E [(.t 123)]⟩,
  ⟨some 125, none, .p (.bin .sub (.t 122) (.t 124))⟩,
  ⟨some 126, none, .call b4Y [(.t 119), (.t 125)]⟩,
  ⟨some 118, none, .p (.mv (.t 126))⟩,
  ⟨some 127, none, .p (.ext (.t 118) 0)⟩,
  ⟨some 128, none, .p (.ext (.t 118) 1)⟩,
  ⟨some 18, none, .p (.mv (.t 127))⟩,
  ⟨some 19, none, .p (.mv (.t 128))⟩]
def a8Q : List AIns := [⟨some 129, none, .p (.mv (.t 13))⟩,
  ⟨some 130, none, .call a0z [(.t 129)]⟩,
  ⟨some 131, none, .p (.mv (.t 18))⟩,
  ⟨some 4, none, .p (.mv (.t 130))⟩,
  ⟨some 5, none, .p (.mv (.t 131))⟩,
  ⟨some 6, none, .p (.mv (.c (.int .i64 0)))⟩]
def d4q : ACode := .seq (.region c1g false) (.seq (.region c1f false) (.seq (.seq (.region c1e false) (.cond (.t 24) (.seq (.region d1Z false) (.ret)) (.skip))) (.seq (.seq (.region b1d false) (.cond (.t 27) (.seq (.region c1d false) (.seq (.region c1c false) (.ret))) (.skip))) (.seq (.region c1b false) (.seq (.region c1a false) (.seq (.region c0Z false) (.seq (.region b6P false) (.seq (.region b6O false) (.seq (.seq (.region b6N false) (.block 0 (.loop c1i))) (.seq (.region a8R false) (.seq (.region a8Q false) (.ret))))))))))))
theorem d2a : fchk Pr (fun _ k => (k == 4)) Try.f114 = some (d4q, [.tmp 4, .tmp 5, .tmp 6], 132) := by kernel_rfl
theorem d2b : Pr.funcs[a3l]? = some Try.f114 := Try.func114
def c0P : List AIns := [⟨some 4, none, .p (.mv (.c (.nil)))⟩]
def c0O : List AIns := [⟨some 9, none, .p (.mv (.t 0))⟩,
  ⟨some 10, none, .p (.len (.t 9))⟩,
  ⟨some 11, none, .p (.mv (.t 1))⟩,
  ⟨some 12, none, .p (.len (.t 11))⟩,
  ⟨some 13, none, .p (.bin .add (.t 10) (.t 12))⟩,
  ⟨some 14, none, .e (.mksl 1 4 (.int .u32 0) (.t 13) (.t 13))⟩,
  ⟨some 5, none, .p (.mv (.t 14))⟩]
def c0N : List AIns := [⟨some 6, none, .p (.mv (.c (.int .i64 0)))⟩]
def b1b : List AIns := [⟨some 15, none, .p (.mv (.t 6))⟩,
  ⟨some 16, none, .p (.mv (.t 0))⟩,
  ⟨some 17, none, .p (.len (.t 16))⟩,
  ⟨some 18, none, .p (.bin .lss (.t 15) (.t 17))⟩]
def c0M : List AIns := [⟨some 7, none, .p (.mv (.c (.int .u64 0)))⟩]
def c0L : List AIns := [⟨some 8, none, .p (.mv (.c (.int .i64 0)))⟩]
def b1a : List AIns := [⟨some 21, none, .p (.mv (.t 8))⟩,
  ⟨some 22, none, .p (.mv (.t 1))⟩,
  ⟨some 23, none, .p (.len (.t 22))⟩,
  ⟨some 24, none, .p (.bin .lss (.t 21) (.t 23))⟩]
def c0K : List AIns := [⟨some 27, none, .p (.mv (.t 7))⟩,
  ⟨some 28, none, .p (.mv (.t 5))⟩,
  ⟨some 29, none, .p (.mv (.t 6))⟩,
  ⟨some 30, none, .p (.mv (.t 8))⟩,
  ⟨some 31, none, .p (.bin .add (.t 29) (.t 30))⟩,
  ⟨some 32, none, .p (.idxp 1 (.t 28) (.t 31))⟩,
  ⟨some 33, none, .p (.load none (.t 32))⟩,
  ⟨some 34, none, .p (.conv .u64 (.t 33))⟩,
  ⟨some 35, none, .p (.bin .add (.t 27) (.t 34))⟩,
  ⟨some 36, none, .p (.mv (.t 0))⟩,
  ⟨some 37, none, .p (.mv (.t 6))⟩,
  ⟨some 38, none, .p (.idxp 1 (.t 36) (.t 37))⟩,
  ⟨some 39, none, .p (.load none (.t 38))⟩,
  ⟨some 40, none, .p (.conv .u64 (.t 39))⟩,
  ⟨some 41, none, .p (.mv (.t 1))⟩,
  ⟨some 42, none, .p (.mv (.t 8))⟩,
  ⟨some 43, none, .p (.idxp 1 (.t 41) (.t 42))⟩,
  ⟨some 44, none, .p (.load none (.t 43))⟩,
  ⟨some 45, none, .p (.conv .u64 (.t 44))⟩,
  ⟨some 46, none, .p (.bin .mul (.t 40) (.t 45))⟩,
  ⟨some 47, none, .p (.bin .add (.t 35) (.t 46))⟩,
  ⟨some 7, none, .p (.mv (.t 47))⟩]
def c0J : List AIns := [⟨some 48, none, .p (.mv (.t 5))⟩,
  ⟨some 49, none, .p (.mv (.t 6))⟩,
  ⟨some 50, none, .p (.mv (.t 8))⟩,
  ⟨some 51, none, .p (.bin .add (.t 49) (.t 50))⟩,
  ⟨some 52, none, .p (.mv (.t 7))⟩,
  ⟨some 53, none, .p (.bin .rem (.t 52) (.c (.int .u64 4294967296)))⟩,
  ⟨some 54, none, .p (.conv .u32 (.t 53))⟩,
  ⟨some 55, none, .p (.idxp 1 (.t 48) (.t 51))⟩,
  ⟨none, none, .e (.store 1 (.t 55) (.t 54))⟩]
def c0I : List AIns := [⟨some 56, none, .p (.mv (.t 7))⟩,
  ⟨some 57, none, .p (.bin .quo (.t 56) (.c (.int .u64 4294967296)))⟩,
  ⟨some 7, none, .p (.mv (.t 57))⟩]
def b6F : List AIns := [⟨some 25, none, .p (.mv (.t 8))⟩,
  ⟨some 26, none, .p (.bin .add (.t 25) (.c (.int .i64 1)))⟩,
  ⟨some 8, none, .p (.mv (.t 26))⟩]
def c0Q : ACode := .seq (.seq (.region b1a false) (.cond (.t 24) (.skip) (.exit 2))) (.seq (.block 3 (.seq (.region c0K true) (.seq (.region c0J false) (.region c0I false)))) (.region b6F false))
def b6E : List AIns := [⟨some 58, none, .p (.mv (.t 5))⟩,
  ⟨some 59, none, .p (.mv (.t 6))⟩,
  ⟨some 60, none, .p (.mv (.t 1))⟩,
  ⟨some 61, none, .p (.len (.t 60))⟩,
  ⟨some 62, none, .p (.bin .add (.t 59) (.t 61))⟩,
  ⟨some 63, none, .p (.mv (.t 7))⟩,
  ⟨some 64, none, .p (.conv .u32 (.t 63))⟩,
  ⟨some 65, none, .p (.idxp 1 (.t 58) (.t 62))⟩,
  ⟨none, none, .e (.store 1 (.t 65) (.t 64))⟩]
def b6D : List AIns := [⟨some 19, none, .p (.mv (.t 6))⟩,
  ⟨some 20, none, .p (.bin .add (.t 19) (.c (.int .i64 1)))⟩,
  ⟨some 6, none, .p (.mv (.t 20))⟩]
def c0R : ACode := .seq (.seq (.region b1b false) (.cond (.t 18) (.skip) (.exit 0))) (.seq (.block 1 (.seq (.region c0M false) (.seq (.seq (.region c0L false) (.block 2 (.loop c0Q))) (.region b6E false)))) (.region b6D false))
def a8P : List AIns := [⟨some 66, none, .p (.mv (.t 5))⟩,
  ⟨some 67, none, .call a0z [(.t 66)]⟩,
  ⟨some 4, none, .p (.mv (.t 67))⟩]
def d4o : ACode := .seq (.region c0P false) (.seq (.region c0O false) (.seq (.seq (.region c0N false) (.block 0 (.loop c0R))) (.seq (.region a8P false) (.ret))))
theorem d1U : fchk Pr (fun _ _ => false) Try.f115 = some (d4o, [.tmp 4], 68) := by kernel_rfl
theorem d1V : Pr.funcs[a2e]? = some Try.f115 := Try.func115
def c7M : List AIns := [⟨some 4, none, .p (.mv (.c (.nil)))⟩]
def c7L : List AIns := [⟨some 10, none, .p (.mv (.t 0))⟩,
  ⟨some 11, none, .call a8r [(.t 10)]⟩,
  ⟨some 12, none, .p (.mv (.t 1))⟩,
  ⟨some 13, none, .call a8r [(.t 12)]⟩,
  ⟨some 5, none, .p (.mv (.t 11))⟩,
  ⟨some 6, none, .p (.mv (.t 13))⟩]
def b8R : List AIns := [⟨some 14, none, .p (.mv (.t 6))⟩,
  ⟨some 15, none, .p (.len (.t 14))⟩,
  ⟨some 16, none, .p (.bin .gtr (.t 15) (.c (.int .i64 0)))⟩]
def c7K : List AIns := [⟨some 18, none, .p (.mv (.t 5))⟩,
  ⟨some 19, none, .p (.mv (.t 6))⟩,
  ⟨some 20, none, .call b8r [(.t 18), (.t 19)]⟩,
  ⟨some 17, none, .p (.mv (.t 20))⟩,
  ⟨some 21, none, .p (.ext (.t 17) 0)⟩,
  ⟨some 22, none, .p (.ext (.t 17) 1)⟩,
  ⟨some 23, none, .p (.ext (.t 17) 2)⟩,
  ⟨some 7, none, .p (.mv (.t 21))⟩,
  ⟨some 8, none, .p (.mv (.t 22))⟩,
  ⟨some 9, none, .p (.mv (.t 23))⟩]
def c7J : List AIns := [⟨some 24, none, .p (.mv (.t 6))⟩,
  ⟨some 25, none, .p (.mv (.t 8))⟩,
  ⟨some 5, none, .p (.mv (.t 24))⟩,
  ⟨some 6, none, .p (.mv (.t 25))⟩]
def d7U : ACode := .seq (.seq (.region b8R false) (.cond (.t 16) (.skip) (.exit 0))) (.block 1 (.seq (.region c7K false) (.region c7J false)))
def c7I : List AIns := [⟨some 26, none, .p (.mv (.t 5))⟩,
  ⟨some 4, none, .p (.mv (.t 26))⟩]
def d9L : ACode := .seq (.region c7M false) (.seq (.region c7L false) (.seq (.block 0 (.loop d7U)) (.seq (.region c7I false) (.ret))))
theorem d7T : fchk Pr (fun _ _ => false) Try.f117 = some (d9L, [.tmp 4], 27) := by kernel_rfl
theorem d7V : Pr.funcs[c6l]? = some Try.f117 := Try.func117
def c8k : List AIns := [⟨some 4, none, .p (.mv (.c (.nil)))⟩]
def c8j : List AIns := [⟨some 8, none, .p (.mv (.t 0))⟩,
  ⟨some 9, none, .p (.len (.t 8))⟩,
  ⟨some 10, none, .p (.mv (.t 1))⟩,
  ⟨some 11, none, .p (.len (.t 10))⟩,
  ⟨some 12, none, .p (.bin .lss (.t 9) (.t 11))⟩]
def c8i : List AIns := [⟨some 13, none, .p (.mv (.t 1))⟩,
  ⟨some 14, none, .p (.mv (.t 0))⟩,
  ⟨some 0, none, .p (.mv (.t 13))⟩,
  ⟨some 1, none, .p (.mv (.t 14))⟩]
def b8X : List AIns := [⟨some 15, none, .p (.mv (.t 0))⟩,
  ⟨some 16, none, .p (.len (.t 15))⟩,
  ⟨some 17, none, .p (.bin .add (.t 16) (.c (.int .i64 1)))⟩,
  ⟨some 18, none, .e (.mksl 1 4 (.int .u32 0) (.t 17) (.t 17))⟩,
  ⟨some 5, none, .p (.mv (.t 18))⟩]
def b8W : List AIns := [⟨some 6, none, .p (.mv (.c (.int .u64 0)))⟩]
def b8V : List AIns := [⟨some 19, none, .p (.mv (.t 0))⟩,
  ⟨some 20, none, .p (.len (.t 19))⟩,
  ⟨some 21, none, .p (.mv (.c (.int .i64 0)))⟩]
def b8U : List AIns := [⟨some 22, none, .p (.bin .lss (.t 21) (.t 20))⟩]
def c8h : List AIns := [⟨some 23, none, .p (.mv (.t 21))⟩,
  ⟨some 7, none, .p (.mv (.t 23))⟩]
def c8g : List AIns := [⟨some 24, none, .p (.mv (.t 6))⟩,
  ⟨some 25, none, .p (.mv (.t 0))⟩,
  ⟨some 26, none, .p (.mv (.t 7))⟩,
  ⟨some 27, none, .p (.idxp 1 (.t 25) (.t 26))⟩,
  ⟨some 28, none, .p (.load none (.t 27))⟩,
  ⟨some 29, none, .p (.conv .u64 (.t 28))⟩,
  ⟨some 30, none, .p (.bin .add (.t 24) (.t 29))⟩,
  ⟨some 6, none, .p (.mv (.t 30))⟩]
def c8f : List AIns := [⟨some 31, none, .p (.mv (.t 7))⟩,
  ⟨some 32, none, .p (.mv (.t 1))⟩,
  ⟨some 33, none, .p (.len (.t 32))⟩,
  ⟨some 34, none, .p (.bin .lss (.t 31) (.t 33))⟩]
def c5b : List AIns := [⟨some 35, none, .p (.mv (.t 6))⟩,
  ⟨some 36, none, .p (.mv (.t 1))⟩,
  ⟨some 37, none, .p (.mv (.t 7))⟩,
  ⟨some 38, none, .p (.idxp 1 (.t 36) (.t 37))⟩,
  ⟨some 39, none, .p (.load none (.t 38))⟩,
  ⟨some 40, none, .p (.conv .u64 (.t 39))⟩,
  ⟨some 41, none, .p (.bin .add (.t 35) (.t 40))⟩,
  ⟨some 6, none, .p (.mv (.t 41))⟩]
def b4E : List AIns := [⟨some 42, none, .p (.mv (.t 5))⟩,
  ⟨some 43, none, .p (.mv (.t 7))⟩,
  ⟨some 44, none, .p (.mv (.t 6))⟩,
  ⟨some 45, none, .p (.conv .u32 (.t 44))⟩,
  ⟨some 46, none, .p (.idxp 1 (.t 42) (.t 43))⟩,
  ⟨none, none, .e (.store 1 (.t 46) (.t 45))⟩]
def b4D : List AIns := [⟨some 47, none, .p (.mv (.t 6))⟩,
  ⟨some 48, none, .p (.bin .shr (.t 47) (.c (.int .u64 32)))⟩,
  ⟨some 6, none, .p (.mv (.t 48))⟩]
def b4C : List AIns := [⟨some 49, none, .p (.bin .add (.t 21) (.c (.int .i64 1)))⟩,
  ⟨some 21, none, .p (.mv (.t 49))⟩]
def b2e : ACode := .seq (.region b8U false) (.seq (.cond (.t 22) (.skip) (.exit 0)) (.seq (.block 1 (.seq (.region c8h false) (.seq (.region c8g false) (.seq (.seq (.region c8f false) (.cond (.t 34) (.region c5b false) (.skip))) (.seq (.region b4E false) (.region b4D false)))))) (.region b4C false)))
def a6b : List AIns := [⟨some 50, none, .p (.mv (.t 5))⟩,
  ⟨some 51, none, .p (.mv (.t 0))⟩,
  ⟨some 52, none, .p (.len (.t 51))⟩,
  ⟨some 53, none, .p (.mv (.t 6))⟩,
  ⟨some 54, none, .p (.conv .u32 (.t 53))⟩,
  ⟨some 55, none, .p (.idxp 1 (.t 50) (.t 52))⟩,
  ⟨none, none, .e (.store 1 (.t 55) (.t 54))⟩]
def a6a : List AIns := [⟨some 56, none, .p (.mv (.t 5))⟩,
  ⟨some 57, none, .call a0r [(.t 56)]⟩,
  ⟨some 4, none, .p (.mv (.t 57))⟩]
def d9O : ACode := .seq (.region c8k false) (.seq (.seq (.region c8j false) (.cond (.t 12) (.region c8i false) (.skip))) (.seq (.region b8X false) (.seq (.region b8W false) (.seq (.seq (.region b8V false) (.block 0 (.loop b2e))) (.seq (.region a6b false) (.seq (.region a6a false) (.ret)))))))
theorem d8d : fchk Pr (fun _ _ => false) Try.f118 = some (d9O, [.tmp 4], 58) := by kernel_rfl
theorem d8e : Pr.funcs[a8u]? = some Try.f118 := Try.func118
def c7x : List AIns := [⟨some 4, none, .p (.mv (.c (.nil)))⟩,
  ⟨some 5, none, .p (.mv (.c (.int .i64 0)))⟩]
def c7w : List AIns := [⟨some 6, none, .p (.mv (.t 0))⟩,
  ⟨some 7, none, .p (.mv (.t 1))⟩,
  ⟨some 8, none, .call a8t [(.t 6), (.t 7)]⟩,
  ⟨some 9, none, .p (.bin .lss (.t 8) (.c (.int .i64 0)))⟩]
def d7N : List AIns := [⟨some 4, none, .p (.mv (.c (.nil)))⟩,
  ⟨some 5, none, .p (.mv (.c (.int .i64 10)))⟩]
def c7v : List AIns := [⟨some 10, none, .p (.mv (.t 0))⟩,
  ⟨some 11, none, .call a0r [(.t 10)]⟩,
  ⟨some 12, none, .p (.mv (.t 1))⟩,
  ⟨some 13, none, .call a0r [(.t 12)]⟩,
  ⟨some 14, none, .call a8q [(.t 11), (.t 13)]⟩,
  ⟨some 4, none, .p (.mv (.t 14))⟩,
  ⟨some 5, none, .p (.mv (.c (.int .i64 0)))⟩]
def d9J : ACode := .seq (.region c7x false) (.seq (.seq (.region c7w false) (.cond (.t 9) (.seq (.region d7N false) (.ret)) (.skip))) (.seq (.region c7v false) (.ret)))
theorem d7O : fchk Pr (fun _ _ => false) Try.f119 = some (d9J, [.tmp 4, .tmp 5], 15) := by kernel_rfl
theorem d7P : Pr.funcs[c6k]? = some Try.f119 := Try.func119
def c4F : List AIns := [⟨some 2, none, .p (.mv (.c (.nil)))⟩]
def c4E : List AIns := [⟨some 3, none, .p (.mv (.t 0))⟩,
  ⟨some 4, none, .call a0r [(.t 3)]⟩,
  ⟨some 5, none, .e (.app 1 4 false (.c (.nil)) (.t 4))⟩,
  ⟨some 2, none, .p (.mv (.t 5))⟩]
def d7Q : ACode := .seq (.region c4F false) (.seq (.region c4E false) (.ret))
theorem d4D : fchk Pr (fun _ _ => false) Try.f120 = some (d7Q, [.tmp 2], 6) := by kernel_rfl
theorem d4E : Pr.funcs[a8r]? = some Try.f120 := Try.func120
def c1P : List AIns := [⟨some 4, none, .p (.mv (.c (.nil)))⟩,
  ⟨some 5, none, .p (.mv (.c (.int .u32 0)))⟩]
def c1O : List AIns := [⟨some 9, none, .p (.mv (.t 0))⟩,
  ⟨some 10, none, .p (.len (.t 9))⟩,
  ⟨some 11, none, .e (.mksl 1 4 (.int .u32 0) (.t 10) (.t 10))⟩,
  ⟨some 6, none, .p (.mv (.t 11))⟩]
def c1N : List AIns := [⟨some 7, none, .p (.mv (.c (.int .u64 0)))⟩]
def c1M : List AIns := [⟨some 12, none, .p (.mv (.t 0))⟩,
  ⟨some 13, none, .p (.len (.t 12))⟩,
  ⟨some 14, none, .p (.bin .sub (.t 13) (.c (.int .i64 1)))⟩,
  ⟨some 8, none, .p (.mv (.t 14))⟩]
def b1j : List AIns := [⟨some 15, none, .p (.mv (.t 8))⟩,
  ⟨some 16, none, .p (.bin .geq (.t 15) (.c (.int .i64 0)))⟩]
def c1L : List AIns := [⟨some 19, none, .p (.mv (.t 7))⟩,
  ⟨some 20, none, .p (.bin .shl (.t 19) (.c (.int .u64 32)))⟩,
  ⟨some 21, none, .p (.mv (.t 0))⟩,
  ⟨some 22, none, .p (.mv (.t 8))⟩,
  ⟨some 23, none, .p (.idxp 1 (.t 21) (.t 22))⟩,
  ⟨some 24, none, .p (.load none (.t 23))⟩,
  ⟨some 25, none, .p (.conv .u64 (.t 24))⟩,
  ⟨some 26, none, .p (.bin .or (.t 20) (.t 25))⟩,
  ⟨some 7, none, .p (.mv (.t 26))⟩]
def c1K : List AIns := [⟨some 27, none, .p (.mv (.t 6))⟩,
  ⟨some 28, none, .p (.mv (.t 8))⟩,
  ⟨some 29, none, .p (.mv (.t 7))⟩,
  ⟨some 30, none, .p (.mv (.t 1))⟩,
  ⟨some 31, none, .p (.conv .u64 (.t 30))⟩,
  ⟨some 32, none, .p (.bin .quo (.t 29) (.t 31))⟩,
  ⟨some 33, none, .p (.conv .u32 (.t 32))⟩,
  ⟨some 34, none, .p (.idxp 1 (.t 27) (.t 28))⟩,
  ⟨none, none, .e (.store 1 (.t 34) (.t 33))⟩]
def c1J : List AIns := [⟨some 35, none, .p (.mv (.t 7))⟩,
  ⟨some 36, none, .p (.mv (.t 1))⟩,
  ⟨some 37, none, .p (.conv .u64 (.t 36))⟩,
  ⟨some 38, none, .p (.bin .rem (.t 35) (.t 37))⟩,
  ⟨some 7, none, .p (.mv (.t 38))⟩]
def c1I : List AIns := [⟨some 17, none, .p (.mv (.t 8))⟩,
  ⟨some 18, none, .p (.bin .sub (.t 17) (.c (.int .i64 1)))⟩,
  ⟨some 8, none, .p (.mv (.t 18))⟩]
def d2r : ACode := .seq (.seq (.region b1j false) (.cond (.t 16) (.skip) (.exit 0))) (.seq (.block 1 (.seq (.region c1L false) (.seq (.region c1K false) (.region c1J false)))) (.region c1I false))
def c1H : List AIns := [⟨some 39, none, .p (.mv (.t 6))⟩,
  ⟨some 40, none, .call a0r [(.t 39)]⟩,
  ⟨some 41, none, .p (.mv (.t 7))⟩,
  ⟨some 42, none, .p (.conv .u32 (.t 41))⟩,
  ⟨some 4, none, .p (.mv (.t 40))⟩,
  ⟨some 5, none, .p (.mv (.t 42))⟩]
def d4z : ACode := .seq (.region c1P false) (.seq (.region c1O false) (.seq (.region c1N false) (.seq (.seq (.region c1M false) (.block 0 (.loop d2r))) (.seq (.region c1H false) (.ret)))))
theorem d2q : fchk Pr (fun _ _ => false) Try.f121 = some (d4z, [.tmp 4, .tmp 5], 43) := by kernel_rfl
theorem d2s : Pr.funcs[b4Z]? = some Try.f121 := Try.func121
def a2w : List AIns := [⟨some 2, none, .p (.mv (.c (.int .i64 0)))⟩]
def a2v : List AIns := [⟨some 3, none, .p (.mv (.t 0))⟩,
  ⟨some 4, none, .call a1y [(.t 3)]⟩,
  ⟨some 5, none, .p (.bin .sub (.c (.int .i64 32)) (.t 4))⟩,
  ⟨some 2, none, .p (.mv (.t 5))⟩]
def a6E : ACode := .seq (.region a2w false) (.seq (.region a2v false) (.ret))
theorem a6d : fchk Pr (fun _ _ => false) Try.f122 = some (a6E, [.tmp 2], 6) := by kernel_rfl
theorem a6e : Pr.funcs[a1H]? = some Try.f122 := Try.func122
def c7u : List AIns := [⟨some 4, none, .p (.mv (.c (.nil)))⟩]
def c7t : List AIns := [⟨some 10, none, .p (.mv (.t 0))⟩,
  ⟨some 11, none, .call a0r [(.t 10)]⟩,
  ⟨some 0, none, .p (.mv (.t 11))⟩]
def c7s : List AIns := [⟨some 12, none, .p (.mv (.t 0))⟩,
  ⟨some 13, none, .p (.len (.t 12))⟩,
  ⟨some 14, none, .p (.bin .eql (.t 13) (.c (.int .i64 0)))⟩]
def d7I : List AIns := [⟨some 4, none, .p (.mv (.c (.nil)))⟩]
def c7r : List AIns := [⟨some 15, none, .p (.mv (.t 1))⟩,
  ⟨some 16, none, .p (.bin .quo (.t 15) (.c (.int .i64 32)))⟩,
  ⟨some 17, none, .p (.mv (.t 1))⟩,
  ⟨some 18, none, .p (.bin .rem (.t 17) (.c (.int .i64 32)))⟩,
  ⟨some 19, none, .p (.conv .u64 (.t 18))⟩,
  ⟨some 5, none, .p (.mv (.t 16))⟩,
  ⟨some 6, none, .p (.mv (.t 19))⟩]
def c7q : List AIns := [⟨some 20, none, .p (.mv (.t 0))⟩,
  ⟨some 21, none, .p (.len (.t 20))⟩,
  ⟨some 22, none, .p (.mv (.t 5))⟩,
  ⟨some 23, none, .p (.bin .add (.t 21) (.t 22))⟩,
  ⟨some 24, none, .p (.bin .add (.t 23) (.c (.int .i64 1)))⟩,
  ⟨some 25, none, .e (.mksl 1 4 (.int .u32 0) (.t 24) (.t 24))⟩,
  ⟨some 7, none, .p (.mv (.t 25))⟩]
def c7p : List AIns := [⟨some 26, none, .p (.mv (.t 0))⟩,
  ⟨some 27, none, .p (.len (.t 26))⟩,
  ⟨some 28, none, .p (.mv (.c (.int .i64 0)))⟩]
def b8O : List AIns := [⟨some 29, none, .p (.bin .lss (.t 28) (.t 27))⟩]
def c7o : List AIns := [⟨some 30, none, .p (.mv (.t 28))⟩,
  ⟨some 8, none, .p (.mv (.t 30))⟩]
def c7n : List AIns := [⟨some 31, none, .p (.mv (.t 0))⟩,
  ⟨some 32, none, .p (.mv (.t 8))⟩,
  ⟨some 33, none, .p (.idxp 1 (.t 31) (.t 32))⟩,
  ⟨some 34, none, .p (.load none (.t 33))⟩,
  ⟨some 35, none, .p (.conv .u64 (.t 34))⟩,
  ⟨some 36, none, .p (.mv (.t 6))⟩,
  ⟨some 37, none, .p (.bin .shl (.t 35) (.t 36))⟩,
  ⟨some 9, none, .p (.mv (.t 37))⟩]
def c4v : List AIns := [⟨some 38, none, .p (.mv (.t 7))⟩,
  ⟨some 39, none, .p (.mv (.t 8))⟩,
  ⟨some 40, none, .p (.mv (.t 5))⟩,
  ⟨some 41, none, .p (.bin .add (.t 39) (.t 40))⟩,
  ⟨some 42, none, .p (.idxp 1 (.t 38) (.t 41))⟩,
  ⟨some 43, none, .p (.load none (.t 42))⟩,
  ⟨some 44, none, .p (.mv (.t 9))⟩,
  ⟨some 45, none, .p (.conv .u32 (.t 44))⟩,
  ⟨some 46, none, .p (.bin .or (.t 43) (.t 45))⟩,
  ⟨some 47, none, .p (.idxp 1 (.t 38) (.t 41))⟩,
  ⟨none, none, .e (.store 1 (.t 47) (.t 46))⟩]
def c4u : List AIns := [⟨some 48, none, .p (.mv (.t 7))⟩,
  ⟨some 49, none, .p (.mv (.t 8))⟩,
  ⟨some 50, none, .p (.mv (.t 5))⟩,
  ⟨some 51, none, .p (.bin .add (.t 49) (.t 50))⟩,
  ⟨some 52, none, .p (.bin .add (.t 51) (.c (.int .i64 1)))⟩,
  ⟨some 53, none, .p (.mv (.t 9))⟩,
  ⟨some 54, none, .p (.bin .shr (.t 53) (.c (.int .u64 32)))⟩,
  ⟨some 55, none, .p (.conv .u32 (.t 54))⟩,
  ⟨some 56, none, .p (.idxp 1 (.t 48) (.t 52))⟩,
  ⟨none, none, .e (.store 1 (.t 56) (.t 55))⟩]
def c4t : List AIns := [⟨some 57, none, .p (.bin .add (.t 28) (.c (.int .i64 1)))⟩,
  ⟨some 28, none, .p (.mv (.t 57))⟩]
def d7K : ACode := .seq (.region b8O false) (.seq (.cond (.t 29) (.skip) (.exit 0)) (.seq (.block 1 (.seq (.region c7o false) (.seq (.region c7n false) (.seq (.region c4v false) (.region c4u false))))) (.region c4t false)))
def c4s : List AIns := [⟨some 58, none, .p (.mv (.t 7))⟩,
  ⟨some 59, none, .call a0r [(.t 58)]⟩,
  ⟨some 4, none, .p (.mv (.t 59))⟩]
def d9I : ACode := .seq (.region c7u false) (.seq (.region c7t false) (.seq (.seq (.region c7s false) (.cond (.t 14) (.seq (.region d7I false) (.ret)) (.skip))) (.seq (.region c7r false) (.seq (.region c7q false) (.seq (.seq (.region c7p false) (.block 0 (.loop d7K))) (.seq (.region c4s false) (.ret)))))))
theorem d7J : fchk Pr (fun _ _ => false) Try.f123 = some (d9I, [.tmp 4], 60) := by kernel_rfl
theorem d7L : Pr.funcs[b8q]? = some Try.f123 := Try.func123
def c1X : List AIns := [⟨some 4, none, .p (.mv (.c (.int .u32 0)))⟩]
def c1W : List AIns := [⟨some 15, none, .p (.mv (.t 1))⟩,
  ⟨some 16, none, .p (.len (.t 15))⟩,
  ⟨some 5, none, .p (.mv (.t 16))⟩]
def c1V : List AIns := [⟨some 17, none, .p (.mv (.t 0))⟩,
  ⟨some 18, none, .p (.mv (.t 5))⟩,
  ⟨some 19, none, .p (.idxp 1 (.t 17) (.t 18))⟩,
  ⟨some 20, none, .p (.load none (.t 19))⟩,
  ⟨some 21, none, .p (.conv .u64 (.t 20))⟩,
  ⟨some 22, none, .p (.bin .shl (.t 21) (.c (.int .u64 32)))⟩,
  ⟨some 23, none, .p (.mv (.t 0))⟩,
  ⟨some 24, none, .p (.mv (.t 5))⟩,
  ⟨some 25, none, .p (.bin .sub (.t 24) (.c (.int .i64 1)))⟩,
  ⟨some 26, none, .p (.idxp 1 (.t 23) (.t 25))⟩,
  ⟨some 27, none, .p (.load none (.t 26))⟩,
  ⟨some 28, none, .p (.conv .u64 (.t 27))⟩,
  ⟨some 29, none, .p (.bin .or (.t 22) (.t 28))⟩,
  ⟨some 6, none, .p (.mv (.t 29))⟩]
def c1U : List AIns := [⟨some 30, none, .p (.mv (.t 6))⟩,
  ⟨some 31, none, .p (.mv (.t 1))⟩,
  ⟨some 32, none, .p (.mv (.t 5))⟩,
  ⟨some 33, none, .p (.bin .sub (.t 32) (.c (.int .i64 1)))⟩,
  ⟨some 34, none, .p (.idxp 1 (.t 31) (.t 33))⟩,
  ⟨some 35, none, .p (.load none (.t 34))⟩,
  ⟨some 36, none, .p (.conv .u64 (.t 35))⟩,
  ⟨some 37, none, .p (.bin .quo (.t 30) (.t 36))⟩,
  ⟨some 38, none, .p (.mnx false (.t 37) (.c (.int .u64 4294967295)))⟩,
  ⟨some 7, none, .p (.mv (.t 38))⟩]
def c1T : List AIns := [⟨some 8, none, .p (.mv (.c (.int .u64 0)))⟩,
  ⟨some 9, none, .p (.mv (.c (.int .u64 0)))⟩]
def c1S : List AIns := [⟨some 39, none, .p (.mv (.t 5))⟩,
  ⟨some 40, none, .p (.bin .add (.t 39) (.c (.int .i64 1)))⟩,
  ⟨some 41, none, .p (.mv (.c (.int .i64 0)))⟩]
def b1n : List AIns := [⟨some 42, none, .p (.bin .lss (.t 41) (.t 40))⟩]
def c1R : List AIns := [⟨some 43, none, .p (.mv (.t 41))⟩,
  ⟨some 10, none, .p (.mv (.t 43))⟩]
def c1Q : List AIns := [⟨some 44, none, .p (.mv (.t 8))⟩,
  ⟨some 11, none, .p (.mv (.t 44))⟩]
def b1m : List AIns := [⟨some 45, none, .p (.mv (.t 10))⟩,
  ⟨some 46, none, .p (.mv (.t 5))⟩,
  ⟨some 47, none, .p (.bin .lss (.t 45) (.t 46))⟩]
def b7j : List AIns := [⟨some 48, none, .p (.mv (.t 11))⟩,
  ⟨some 49, none, .p (.mv (.t 7))⟩,
  ⟨some 50, none, .p (.mv (.t 1))⟩,
  ⟨some 51, none, .p (.mv (.t 10))⟩,
  ⟨some 52, none, .p (.idxp 1 (.t 50) (.t 51))⟩,
  ⟨some 53, none, .p (.load none (.t 52))⟩,
  ⟨some 54, none, .p (.conv .u64 (.t 53))⟩,
  ⟨some 55, none, .p (.bin .mul (.t 49) (.t 54))⟩,
  ⟨some 56, none, .p (.bin .add (.t 48) (.t 55))⟩,
  ⟨some 11, none, .p (.mv (.t 56))⟩]
def a9o : List AIns := [⟨some 57, none, .p (.mv (.t 11))⟩,
  ⟨some 58, none, .p (.bin .shr (.t 57) (.c (.int .u64 32)))⟩,
  ⟨some 8, none, .p (.mv (.t 58))⟩]
def a9n : List AIns := [⟨some 59, none, .p (.mv (.t 0))⟩,
  ⟨some 60, none, .p (.mv (.t 10))⟩,
  ⟨some 61, none, .p (.idxp 1 (.t 59) (.t 60))⟩,
  ⟨some 62, none, .p (.load none (.t 61))⟩,
  ⟨some 63, none, .p (.conv .u64 (.t 62))⟩,
  ⟨some 64, none, .p (.mv (.t 11))⟩,
  ⟨some 65, none, .p (.conv .u32 (.t 64))⟩,
  ⟨some 66, none, .p (.conv .u64 (.t 65))⟩,
  ⟨some 67, none, .p (.bin .sub (.t 63) (.t 66))⟩,
  ⟨some 68, none, .p (.mv (.t 9))⟩,
  ⟨some 69, none, .p (.bin .sub (.t 67) (.t 68))⟩,
  ⟨some 12, none, .p (.mv (.t 69))⟩]
def a9m : List AIns := [⟨some 70, none, .p (.mv (.t 0))⟩,
  ⟨some 71, none, .p (.mv (.t 10))⟩,
  ⟨some 72, none, .p (.mv (.t 12))⟩,
  ⟨some 73, none, .p (.conv .u32 (.t 72))⟩,
  ⟨some 74, none, .p (.idxp 1 (.t 70) (.t 71))⟩,
  ⟨none, none, .e (.store 1 (.t 74) (.t 73))⟩]
def a9l : List AIns := [⟨some 75, none, .p (.mv (.t 12))⟩,
  ⟨some 76, none, .p (.bin .shr (.t 75) (.c (.int .u64 63)))⟩,
  ⟨some 9, none, .p (.mv (.t 76))⟩]
def a9k : List AIns := [⟨some 77, none, .p (.bin .add (.t 41) (.c (.int .i64 1)))⟩,
  ⟨some 41, none, .p (.mv (.t 77))⟩]
def a6O : ACode := .seq (.region b1n false) (.seq (.cond (.t 42) (.skip) (.exit 0)) (.seq (.block 1 (.seq (.region c1R false) (.seq (.region c1Q false) (.seq (.seq (.region b1m false) (.cond (.t 47) (.region b7j false) (.skip))) (.seq (.region a9o false) (.seq (.region a9n false) (.seq (.region a9m false) (.region a9l false)))))))) (.region a9k false)))
def a5A : List AIns := [⟨some 78, none, .p (.mv (.t 9))⟩,
  ⟨some 79, none, .p (.bin .gtr (.t 78) (.c (.int .u64 0)))⟩]
def b7i : List AIns := [⟨some 80, none, .p (.mv (.t 7))⟩,
  ⟨some 81, none, .p (.bin .sub (.t 80) (.c (.int .u64 1)))⟩,
  ⟨some 7, none, .p (.mv (.t 81))⟩]
def b7h : List AIns := [⟨some 13, none, .p (.mv (.c (.int .u64 0)))⟩]
def b7g : List AIns := [⟨some 82, none, .p (.mv (.t 5))⟩,
  ⟨some 83, none, .p (.bin .add (.t 82) (.c (.int .i64 1)))⟩,
  ⟨some 84, none, .p (.mv (.c (.int .i64 0)))⟩]
def a9j : List AIns := [⟨some 85, none, .p (.bin .lss (.t 84) (.t 83))⟩]
def b7f : List AIns := [⟨some 86, none, .p (.mv (.t 84))⟩,
  ⟨some 14, none, .p (.mv (.t 86))⟩]
def b7e : List AIns := [⟨some 87, none, .p (.mv (.t 13))⟩,
  ⟨some 88, none, .p (.mv (.t 0))⟩,
  ⟨some 89, none, .p (.mv (.t 14))⟩,
  ⟨some 90, none, .p (.idxp 1 (.t 88) (.t 89))⟩,
  ⟨some 91, none, .p (.load none (.t 90))⟩,
  ⟨some 92, none, .p (.conv .u64 (.t 91))⟩,
  ⟨some 93, none, .p (.bin .add (.t 87) (.t 92))⟩,
  ⟨some 13, none, .p (.mv (.t 93))⟩]
def a9i : List AIns := [⟨some 94, none, .p (.mv (.t 14))⟩,
  ⟨some 95, none, .p (.mv (.t 5))⟩,
  ⟨some 96, none, .p (.bin .lss (.t 94) (.t 95))⟩]
def b7d : List AIns := [⟨some 97, none, .p (.mv (.t 13))⟩,
  ⟨some 98, none, .p (.mv (.t 1))⟩,
  ⟨some 99, none, .p (.mv (.t 14))⟩,
  ⟨some 100, none, .p (.idxp 1 (.t 98) (.t 99))⟩,
  ⟨some 101, none, .p (.load none (.t 100))⟩,
  ⟨some 102, none, .p (.conv .u64 (.t 101))⟩,
  ⟨some 103, none, .p (.bin .add (.t 97) (.t 102))⟩,
  ⟨some 13, none, .p (.mv (.t 103))⟩]
def a9h : List AIns := [⟨some 104, none, .p (.mv (.t 0))⟩,
  ⟨some 105, none, .p (.mv (.t 14))⟩,
  ⟨some 106, none, .p (.mv (.t 13))⟩,
  ⟨some 107, none, .p (.conv .u32 (.t 106))⟩,
  ⟨some 108, none, .p (.idxp 1 (.t 104) (.t 105))⟩,
  ⟨none, none, .e (.store 1 (.t 108) (.t 107))⟩]
def a9g : List AIns := [⟨some 109, none, .p (.mv (.t 13))⟩,
  ⟨some 110, none, .p (.bin .shr (.t 109) (.c (.int .u64 32)))⟩,
  ⟨some 13, none, .p (.mv (.t 110))⟩]
def a9f : List AIns := [⟨some 111, none, .p (.bin .add (.t 84) (.c (.int .i64 1)))⟩,
  ⟨some 84, none, .p (.mv (.t 111))⟩]
def a6N : ACode := .seq (.region a9j false) (.seq (.cond (.t 85) (.skip) (.exit 4)) (.seq (.block 5 (.seq (.region b7f false) (.seq (.region b7e false) (.seq (.seq (.region a9i false) (.cond (.t 96) (.region b7d false) (.skip))) (.seq (.region a9h false) (.region a9g false)))))) (.region a9f false)))
def b7c : List AIns := [⟨some 112, none, .p (.mv (.t 9))⟩,
  ⟨some 113, none, .p (.mv (.t 13))⟩,
  ⟨some 114, none, .p (.bin .sub (.t 112) (.t 113))⟩,
  ⟨some 9, none, .p (.mv (.t 114))⟩]
def c1Y : ACode := .seq (.seq (.region a5A false) (.cond (.t 79) (.skip) (.exit 2))) (.block 3 (.seq (.region b7i false) (.seq (.region b7h false) (.seq (.seq (.region b7g false) (.block 4 (.loop a6N))) (.region b7c false)))))
def a5z : List AIns := [⟨some 115, none, .p (.mv (.t 7))⟩,
  ⟨some 116, none, .p (.conv .u32 (.t 115))⟩,
  ⟨some 4, none, .p (.mv (.t 116))⟩]
def d4C : ACode := .seq (.region c1X false) (.seq (.region c1W false) (.seq (.region c1V true) (.seq (.region c1U false) (.seq (.region c1T false) (.seq (.seq (.region c1S false) (.block 0 (.loop a6O))) (.seq (.block 2 (.loop c1Y)) (.seq (.region a5z false) (.ret))))))))
theorem d2t : fchk Pr (fun _ _ => false) Try.f124 = some (d4C, [.tmp 4], 117) := by kernel_rfl
theorem d2u : Pr.funcs[a9T]? = some Try.f124 := Try.func124
def c7l : List AIns := [⟨some 4, none, .p (.mv (.c (.nil)))⟩]
def c7k : List AIns := [⟨some 10, none, .p (.mv (.t 0))⟩,
  ⟨some 11, none, .call a0r [(.t 10)]⟩,
  ⟨some 0, none, .p (.mv (.t 11))⟩]
def c7j : List AIns := [⟨some 12, none, .p (.mv (.t 1))⟩,
  ⟨some 13, none, .p (.bin .quo (.t 12) (.c (.int .i64 32)))⟩,
  ⟨some 14, none, .p (.mv (.t 1))⟩,
  ⟨some 15, none, .p (.bin .rem (.t 14) (.c (.int .i64 32)))⟩,
  ⟨some 16, none, .p (.conv .u64 (.t 15))⟩,
  ⟨some 5, none, .p (.mv (.t 13))⟩,
  ⟨some 6, none, .p (.mv (.t 16))⟩]
def b8N : List AIns := [⟨some 17, none, .p (.mv (.t 5))⟩,
  ⟨some 18, none, .p (.mv (.t 0))⟩,
  ⟨some 19, none, .p (.len (.t 18))⟩,
  ⟨some 20, none, .p (.bin .geq (.t 17) (.t 19))⟩]
def c7i : List AIns := [⟨some 4, none, .p (.mv (.c (.nil)))⟩]
def c7h : List AIns := [⟨some 21, none, .p (.mv (.t 0))⟩,
  ⟨some 22, none, .p (.len (.t 21))⟩,
  ⟨some 23, none, .p (.mv (.t 5))⟩,
  ⟨some 24, none, .p (.bin .sub (.t 22) (.t 23))⟩,
  ⟨some 25, none, .e (.mksl 1 4 (.int .u32 0) (.t 24) (.t 24))⟩,
  ⟨some 7, none, .p (.mv (.t 25))⟩]
def c7g : List AIns := [⟨some 26, none, .p (.mv (.t 7))⟩,
  ⟨some 27, none, .p (.len (.t 26))⟩,
  ⟨some 28, none, .p (.mv (.c (.int .i64 0)))⟩]
def b8M : List AIns := [⟨some 29, none, .p (.bin .lss (.t 28) (.t 27))⟩]
def c7f : List AIns := [⟨some 30, none, .p (.mv (.t 28))⟩,
  ⟨some 8, none, .p (.mv (.t 30))⟩]
def c7e : List AIns := [⟨some 31, none, .p (.mv (.t 0))⟩,
  ⟨some 32, none, .p (.mv (.t 8))⟩,
  ⟨some 33, none, .p (.mv (.t 5))⟩,
  ⟨some 34, none, .p (.bin .add (.t 32) (.t 33))⟩,
  ⟨some 35, none, .p (.idxp 1 (.t 31) (.t 34))⟩,
  ⟨some 36, none, .p (.load none (.t 35))⟩,
  ⟨some 37, none, .p (.conv .u64 (.t 36))⟩,
  ⟨some 9, none, .p (.mv (.t 37))⟩]
def b4v : List AIns := [⟨some 38, none, .p (.mv (.t 8))⟩,
  ⟨some 39, none, .p (.mv (.t 5))⟩,
  ⟨some 40, none, .p (.bin .add (.t 38) (.t 39))⟩,
  ⟨some 41, none, .p (.bin .add (.t 40) (.c (.int .i64 1)))⟩,
  ⟨some 42, none, .p (.mv (.t 0))⟩,
  ⟨some 43, none, .p (.len (.t 42))⟩,
  ⟨some 44, none, .p (.bin .lss (.t 41) (.t 43))⟩]
def c4r : List AIns := [⟨some 45, none, .p (.mv (.t 9))⟩,
  ⟨some 46, none, .p (.mv (.t 0))⟩,
  ⟨some 47, none, .p (.mv (.t 8))⟩,
  ⟨some 48, none, .p (.mv (.t 5))⟩,
  ⟨some 49, none, .p (.bin .add (.t 47) (.t 48))⟩,
  ⟨some 50, none, .p (.bin .add (.t 49) (.c (.int .i64 1)))⟩,
  ⟨some 51, none, .p (.idxp 1 (.t 46) (.t 50))⟩,
  ⟨some 52, none, .p (.load none (.t 51))⟩,
  ⟨some 53, none, .p (.conv .u64 (.t 52))⟩,
  ⟨some 54, none, .p (.bin .shl (.t 53) (.c (.int .u64 32)))⟩,
  ⟨some 55, none, .p (.bin .or (.t 45) (.t 54))⟩,
  ⟨some 9, none, .p (.mv (.t 55))⟩]
def b4u : List AIns := [⟨some 56, none, .p (.mv (.t 7))⟩,
  ⟨some 57, none, .p (.mv (.t 8))⟩,
  ⟨some 58, none, .p (.mv (.t 9))⟩,
  ⟨some 59, none, .p (.mv (.t 6))⟩,
  ⟨some 60, none, .p (.bin .shr (.t 58) (.t 59))⟩,
  ⟨some 61, none, .p (.conv .u32 (.t 60))⟩,
  ⟨some 62, none, .p (.idxp 1 (.t 56) (.t 57))⟩,
  ⟨none, none, .e (.store 1 (.t 62) (.t 61))⟩]
def b4t : List AIns := [⟨some 63, none, .p (.bin .add (.t 28) (.c (.int .i64 1)))⟩,
  ⟨some 28, none, .p (.mv (.t 63))⟩]
def c7m : ACode := .seq (.region b8M false) (.seq (.cond (.t 29) (.skip) (.exit 0)) (.seq (.block 1 (.seq (.region c7f false) (.seq (.region c7e false) (.seq (.seq (.region b4v false) (.cond (.t 44) (.region c4r false) (.skip))) (.region b4u false))))) (.region b4t false)))
def b4s : List AIns := [⟨some 64, none, .p (.mv (.t 7))⟩,
  ⟨some 65, none, .call a0r [(.t 64)]⟩,
  ⟨some 4, none, .p (.mv (.t 65))⟩]
def d9H : ACode := .seq (.region c7l false) (.seq (.region c7k false) (.seq (.region c7j false) (.seq (.seq (.region b8N false) (.cond (.t 20) (.seq (.region c7i false) (.ret)) (.skip))) (.seq (.region c7h false) (.seq (.seq (.region c7g false) (.block 0 (.loop c7m))) (.seq (.region b4s false) (.ret)))))))
theorem d7G : fchk Pr (fun _ _ => false) Try.f125 = some (d9H, [.tmp 4], 66) := by kernel_rfl
theorem d7H : Pr.funcs[b8p]? = some Try.f125 := Try.func125
def c0b : List AIns := [⟨some 2, none, .e (.box 4 (.t 0))⟩,
  ⟨some 3, none, .e (.box 4 (.t 1))⟩,
  ⟨some 4, none, .e (.box 4 (.c (.agg [.bool false, .nil, .bool false, .nil])))⟩]
def c0a : List AIns := [⟨some 7, none, .p (.fldp (.t 2) 0)⟩,
  ⟨some 8, none, .p (.load (some 2) (.t 7))⟩,
  ⟨some 9, none, .p (.fldp (.t 3) 2)⟩,
  ⟨some 10, none, .p (.load (some 2) (.t 9))⟩,
  ⟨some 11, none, .call a1e [(.t 8), (.t 10)]⟩,
  ⟨some 5, none, .e (.box 2 (.c (.agg [.bool false, .nil])))⟩,
  ⟨none, none, .e (.store 2 (.t 5) (.t 11))⟩]
def b9Z : List AIns := [⟨some 12, none, .p (.fldp (.t 3) 0)⟩,
  ⟨some 13, none, .p (.load (some 2) (.t 12))⟩,
  ⟨some 14, none, .p (.fldp (.t 2) 2)⟩,
  ⟨some 15, none, .p (.load (some 2) (.t 14))⟩,
  ⟨some 16, none, .call a1e [(.t 13), (.t 15)]⟩,
  ⟨some 6, none, .e (.box 2 (.c (.agg [.bool false, .nil])))⟩,
  ⟨none, none, .e (.store 2 (.t 6) (.t 16))⟩]
def b9Y : List AIns := [⟨some 17, none, .p (.load (some 2) (.t 5))⟩,
  ⟨some 18, none, .p (.load (some 2) (.t 6))⟩,
  ⟨some 19, none, .call a4t [(.t 17), (.t 18)]⟩,
  ⟨some 20, none, .p (.fldp (.t 2) 2)⟩,
  ⟨some 21, none, .p (.load (some 2) (.t 20))⟩,
  ⟨some 22, none, .p (.fldp (.t 3) 2)⟩,
  ⟨some 23, none, .p (.load (some 2) (.t 22))⟩,
  ⟨some 24, none, .call a1e [(.t 21), (.t 23)]⟩,
  ⟨some 25, none, .call a2B [(.t 19), (.t 24)]⟩,
  ⟨none, none, .e (.store 4 (.t 4) (.t 25))⟩]
def d4d : ACode := .seq (.region c0b false) (.seq (.region c0a false) (.seq (.region b9Z false) (.seq (.region b9Y true) (.ret))))
theorem d1p : fchk Pr (fun _ _ => false) Try.f126 = some (d4d, [.cell 4 (some 4)], 26) := by kernel_rfl
theorem d1q : Pr.funcs[b4V]? = some Try.f126 := Try.func126
def c1A : List AIns := [⟨some 4, none, .p (.mv (.c (.nil)))⟩]
def c1z : List AIns := [⟨some 5, none, .p (.mv (.c (.nil)))⟩]
def c1y : List AIns := [⟨some 6, none, .p (.mv (.c (.int .u64 0)))⟩]
def c1x : List AIns := [⟨some 7, none, .p (.mv (.c (.int .i64 0)))⟩]
def b1g : List AIns := [⟨some 8, none, .p (.mv (.t 7))⟩,
  ⟨some 9, none, .p (.mv (.t 0))⟩,
  ⟨some 10, none, .p (.len (.t 9))⟩,
  ⟨some 11, none, .p (.mv (.t 1))⟩,
  ⟨some 12, none, .p (.len (.t 11))⟩,
  ⟨some 13, none, .call a7h [(.t 10), (.t 12)]⟩,
  ⟨some 14, none, .p (.bin .lss (.t 8) (.t 13))⟩]
def c1w : List AIns := [⟨some 17, none, .p (.mv (.t 6))⟩,
  ⟨some 18, none, .p (.mv (.t 0))⟩,
  ⟨some 19, none, .p (.mv (.t 7))⟩,
  ⟨some 20, none, .call a0P [(.t 18), (.t 19)]⟩,
  ⟨some 21, none, .p (.bin .add (.t 17) (.t 20))⟩,
  ⟨some 22, none, .p (.mv (.t 1))⟩,
  ⟨some 23, none, .p (.mv (.t 7))⟩,
  ⟨some 24, none, .call a0P [(.t 22), (.t 23)]⟩,
  ⟨some 25, none, .p (.bin .add (.t 21) (.t 24))⟩,
  ⟨some 6, none, .p (.mv (.t 25))⟩]
def c1v : List AIns := [⟨some 26, none, .p (.mv (.t 5))⟩,
  ⟨some 27, none, .p (.mv (.t 6))⟩,
  ⟨some 28, none, .p (.bin .rem (.t 27) (.c (.int .u64 4294967296)))⟩,
  ⟨some 29, none, .p (.conv .u32 (.t 28))⟩,
  ⟨some 30, none, .e (.bsl 1 [(.t 29)])⟩,
  ⟨some 31, none, .e (.app 1 4 false (.t 26) (.t 30))⟩,
  ⟨some 5, none, .p (.mv (.t 31))⟩]
def c1u : List AIns := [⟨some 32, none, .p (.mv (.t 6))⟩,
  ⟨some 33, none, .p (.bin .quo (.t 32) (.c (.int .u64 4294967296)))⟩,
  ⟨some 6, none, .p (.mv (.t 33))⟩]
def c1t : List AIns := [⟨some 15, none, .p (.mv (.t 7))⟩,
  ⟨some 16, none, .p (.bin .add (.t 15) (.c (.int .i64 1)))⟩,
  ⟨some 7, none, .p (.mv (.t 16))⟩]
def c1B : ACode := .seq (.seq (.region b1g false) (.cond (.t 14) (.skip) (.exit 0))) (.seq (.block 1 (.seq (.region c1w false) (.seq (.region c1v false) (.region c1u false)))) (.region c1t false))
def b1f : List AIns := [⟨some 34, none, .p (.mv (.t 5))⟩,
  ⟨some 35, none, .p (.mv (.t 6))⟩,
  ⟨some 36, none, .p (.conv .u32 (.t 35))⟩,
  ⟨some 37, none, .e (.bsl 1 [(.t 36)])⟩,
  ⟨some 38, none, .e (.app 1 4 false (.t 34) (.t 37))⟩,
  ⟨some 5, none, .p (.mv (.t 38))⟩]
def a9b : List AIns := [⟨some 39, none, .p (.mv (.t 5))⟩,
  ⟨some 40, none, .call a0z [(.t 39)]⟩,
  ⟨some 4, none, .p (.mv (.t 40))⟩]
def d4s : ACode := .seq (.region c1A false) (.seq (.region c1z false) (.seq (.region c1y false) (.seq (.seq (.region c1x false) (.block 0 (.loop c1B))) (.seq (.region b1f false) (.seq (.region a9b false) (.ret))))))
theorem d2f : fchk Pr (fun _ _ => false) Try.f127 = some (d4s, [.tmp 4], 41) := by kernel_rfl
theorem d2g : Pr.funcs[a9S]? = some Try.f127 := Try.func127
def c1r : List AIns := [⟨some 4, none, .p (.mv (.c (.int .i64 0)))⟩]
def c1q : List AIns := [⟨some 8, none, .p (.mv (.t 0))⟩,
  ⟨some 9, none, .p (.len (.t 8))⟩,
  ⟨some 10, none, .p (.mv (.t 1))⟩,
  ⟨some 11, none, .p (.len (.t 10))⟩,
  ⟨some 12, none, .call a7h [(.t 9), (.t 11)]⟩,
  ⟨some 13, none, .p (.bin .sub (.t 12) (.c (.int .i64 1)))⟩,
  ⟨some 5, none, .p (.mv (.t 13))⟩]
def b1e : List AIns := [⟨some 14, none, .p (.mv (.t 5))⟩,
  ⟨some 15, none, .p (.bin .geq (.t 14) (.c (.int .i64 0)))⟩]
def c1p : List AIns := [⟨some 18, none, .p (.mv (.t 0))⟩,
  ⟨some 19, none, .p (.mv (.t 5))⟩,
  ⟨some 20, none, .call a0P [(.t 18), (.t 19)]⟩,
  ⟨some 6, none, .p (.mv (.t 20))⟩]
def c1o : List AIns := [⟨some 21, none, .p (.mv (.t 1))⟩,
  ⟨some 22, none, .p (.mv (.t 5))⟩,
  ⟨some 23, none, .call a0P [(.t 21), (.t 22)]⟩,
  ⟨some 7, none, .p (.mv (.t 23))⟩]
def c1n : List AIns := [⟨some 24, none, .p (.mv (.t 6))⟩,
  ⟨some 25, none, .p (.mv (.t 7))⟩,
  ⟨some 26, none, .p (.bin .lss (.t 24) (.t 25))⟩]
def c1m : List AIns := [⟨some 4, none, .p (.mv (.c (.int .i64 (-1))))⟩]
def c1l : List AIns := [⟨some 27, none, .p (.mv (.t 6))⟩,
  ⟨some 28, none, .p (.mv (.t 7))⟩,
  ⟨some 29, none, .p (.bin .gtr (.t 27) (.t 28))⟩]
def c1k : List AIns := [⟨some 4, none, .p (.mv (.c (.int .i64 1)))⟩]
def c1j : List AIns := [⟨some 16, none, .p (.mv (.t 5))⟩,
  ⟨some 17, none, .p (.bin .sub (.t 16) (.c (.int .i64 1)))⟩,
  ⟨some 5, none, .p (.mv (.t 17))⟩]
def c1s : ACode := .seq (.seq (.region b1e false) (.cond (.t 15) (.skip) (.exit 0))) (.seq (.block 1 (.seq (.region c1p false) (.seq (.region c1o false) (.seq (.seq (.region c1n false) (.cond (.t 26) (.seq (.region c1m false) (.ret)) (.skip))) (.seq (.region c1l false) (.cond (.t 29) (.seq (.region c1k false) (.ret)) (.skip))))))) (.region c1j false))
def a8X : List AIns := [⟨some 4, none, .p (.mv (.c (.int .i64 0)))⟩]
def d4r : ACode := .seq (.region c1r false) (.seq (.seq (.region c1q false) (.block 0 (.loop c1s))) (.seq (.region a8X false) (.ret)))
theorem d2c : fchk Pr (fun _ _ => false) Try.f128 = some (d4r, [.tmp 4], 30) := by kernel_rfl
theorem d2d : Pr.funcs[a3m]? = some Try.f128 := Try.func128
def c0z : List AIns := [⟨some 4, none, .p (.mv (.c (.nil)))⟩,
  ⟨some 5, none, .p (.mv (.c (.int .i64 0)))⟩]
def c0y : List AIns := [⟨some 6, none, .p (.mv (.t 0))⟩,
  ⟨some 7, none, .p (.mv (.t 1))⟩,
  ⟨some 8, none, .call a3m [(.t 6), (.t 7)]⟩,
  ⟨some 9, none, .p (.bin .lss (.t 8) (.c (.int .i64 0)))⟩]
def d1M : List AIns := [⟨some 4, none, .p (.mv (.c (.nil)))⟩,
  ⟨some 5, none, .p (.mv (.c (.int .i64 10)))⟩]
def c0x : List AIns := [⟨some 10, none, .p (.mv (.t 0))⟩,
  ⟨some 11, none, .p (.mv (.t 1))⟩,
  ⟨some 12, none, .call a2D [(.t 10), (.t 11)]⟩,
  ⟨some 4, none, .p (.mv (.t 12))⟩,
  ⟨some 5, none, .p (.mv (.c (.int .i64 0)))⟩]
def d4m : ACode := .seq (.region c0z false) (.seq (.seq (.region c0y false) (.cond (.t 9) (.seq (.region d1M false) (.ret)) (.skip))) (.seq (.region c0x false) (.ret)))
theorem d1N : fchk Pr (fun _ _ => false) Try.f129 = some (d4m, [.tmp 4, .tmp 5], 13) := by kernel_rfl
theorem d1O : Pr.funcs[a9Q]? = some Try.f129 := Try.func129
def b3f : List AIns := [⟨some 4, none, .p (.mv (.c (.nil)))⟩,
  ⟨some 5, none, .p (.mv (.c (.int .u64 0)))⟩]
def b3e : List AIns := [⟨some 9, none, .p (.mv (.t 0))⟩,
  ⟨some 10, none, .p (.len (.t 9))⟩,
  ⟨some 11, none, .e (.mksl 1 4 (.int .u32 0) (.t 10) (.t 10))⟩,
  ⟨some 6, none, .p (.mv (.t 11))⟩]
def b3d : List AIns := [⟨some 7, none, .p (.mv (.c (.int .u64 0)))⟩]
def b3c : List AIns := [⟨some 12, none, .p (.mv (.t 0))⟩,
  ⟨some 13, none, .p (.len (.t 12))⟩,
  ⟨some 14, none, .p (.bin .sub (.t 13) (.c (.int .i64 1)))⟩,
  ⟨some 8, none, .p (.mv (.t 14))⟩]
def a7s : List AIns := [⟨some 15, none, .p (.mv (.t 8))⟩,
  ⟨some 16, none, .p (.bin .geq (.t 15) (.c (.int .i64 0)))⟩]
def b3b : List AIns := [⟨some 19, none, .p (.mv (.t 7))⟩,
  ⟨some 20, none, .p (.bin .mul (.t 19) (.c (.int .u64 4294967296)))⟩,
  ⟨some 21, none, .p (.mv (.t 0))⟩,
  ⟨some 22, none, .p (.mv (.t 8))⟩,
  ⟨some 23, none, .p (.idxp 1 (.t 21) (.t 22))⟩,
  ⟨some 24, none, .p (.load none (.t 23))⟩,
  ⟨some 25, none, .p (.conv .u64 (.t 24))⟩,
  ⟨some 26, none, .p (.bin .add (.t 20) (.t 25))⟩,
  ⟨some 7, none, .p (.mv (.t 26))⟩]
def b3a : List AIns := [⟨some 27, none, .p (.mv (.t 6))⟩,
  ⟨some 28, none, .p (.mv (.t 8))⟩,
  ⟨some 29, none, .p (.mv (.t 7))⟩,
  ⟨some 30, none, .p (.mv (.t 1))⟩,
  ⟨some 31, none, .p (.bin .quo (.t 29) (.t 30))⟩,
  ⟨some 32, none, .p (.conv .u32 (.t 31))⟩,
  ⟨some 33, none, .p (.idxp 1 (.t 27) (.t 28))⟩,
  ⟨none, none, .e (.store 1 (.t 33) (.t 32))⟩]
def b2Z : List AIns := [⟨some 34, none, .p (.mv (.t 7))⟩,
  ⟨some 35, none, .p (.mv (.t 1))⟩,
  ⟨some 36, none, .p (.bin .rem (.t 34) (.t 35))⟩,
  ⟨some 7, none, .p (.mv (.t 36))⟩]
def b2Y : List AIns := [⟨some 17, none, .p (.mv (.t 8))⟩,
  ⟨some 18, none, .p (.bin .sub (.t 17) (.c (.int .i64 1)))⟩,
  ⟨some 8, none, .p (.mv (.t 18))⟩]
def c6t : ACode := .seq (.seq (.region a7s false) (.cond (.t 16) (.skip) (.exit 0))) (.seq (.block 1 (.seq (.region b3b false) (.seq (.region b3a false) (.region b2Z false)))) (.region b2Y false))
def b2X : List AIns := [⟨some 37, none, .p (.mv (.t 6))⟩,
  ⟨some 38, none, .call a0z [(.t 37)]⟩,
  ⟨some 39, none, .p (.mv (.t 7))⟩,
  ⟨some 4, none, .p (.mv (.t 38))⟩,
  ⟨some 5, none, .p (.mv (.t 39))⟩]
def c9r : ACode := .seq (.region b3f false) (.seq (.region b3e false) (.seq (.region b3d false) (.seq (.seq (.region b3c false) (.block 0 (.loop c6t))) (.seq (.region b2X false) (.ret)))))
theorem c6s : fchk Pr (fun _ _ => false) Try.f130 = some (c9r, [.tmp 4, .tmp 5], 40) := by kernel_rfl
theorem c6u : Pr.funcs[a9P]? = some Try.f130 := Try.func130
def c0w : List AIns := [⟨some 2, none, .p (.mv (.c (.nil)))⟩]
def c0v : List AIns := [⟨some 3, none, .p (.mv (.c (.nil)))⟩]
def c0u : List AIns := [⟨some 4, none, .p (.mv (.c (.int .i64 0)))⟩]
def c0t : List AIns := [⟨some 5, none, .p (.mv (.t 4))⟩,
  ⟨some 6, none, .p (.mv (.t 0))⟩,
  ⟨some 7, none, .p (.bin .quo (.t 6) (.c (.int .i64 32)))⟩,
  ⟨some 8, none, .p (.bin .lss (.t 5) (.t 7))⟩]
def d1I : List AIns := [⟨some 11, none, .p (.mv (.t 3))⟩,
  ⟨some 12, none, .e (.bsl 1 [(.c (.int .u32 0))])⟩,
  ⟨some 13, none, .e (.app 1 4 false (.t 11) (.t 12))⟩,
  ⟨some 3, none, .p (.mv (.t 13))⟩]
def d1H : List AIns := [⟨some 9, none, .p (.mv (.t 4))⟩,
  ⟨some 10, none, .p (.bin .add (.t 9) (.c (.int .i64 1)))⟩,
  ⟨some 4, none, .p (.mv (.t 10))⟩]
def d1K : ACode := .seq (.seq (.region c0t false) (.cond (.t 8) (.skip) (.exit 0))) (.seq (.block 1 (.region d1I false)) (.region d1H false))
def c0s : List AIns := [⟨some 14, none, .p (.mv (.t 3))⟩,
  ⟨some 15, none, .p (.mv (.t 0))⟩,
  ⟨some 16, none, .p (.bin .rem (.t 15) (.c (.int .i64 32)))⟩,
  ⟨some 17, none, .p (.conv .u64 (.t 16))⟩,
  ⟨some 18, none, .p (.bin .shl (.c (.int .u32 1)) (.t 17))⟩,
  ⟨some 19, none, .e (.bsl 1 [(.t 18)])⟩,
  ⟨some 20, none, .e (.app 1 4 false (.t 14) (.t 19))⟩,
  ⟨some 2, none, .p (.mv (.t 20))⟩]
def d4l : ACode := .seq (.region c0w false) (.seq (.region c0v false) (.seq (.seq (.region c0u false) (.block 0 (.loop d1K))) (.seq (.region c0s false) (.ret))))
theorem d1J : fchk Pr (fun _ _ => false) Try.f131 = some (d4l, [.tmp 2], 21) := by kernel_rfl
theorem d1L : Pr.funcs[b4X]? = some Try.f131 := Try.func131
def b6W : List AIns := [⟨some 2, none, .p (.mv (.c (.int .i64 0)))⟩]
def b6V : List AIns := [⟨some 6, none, .p (.mv (.t 0))⟩,
  ⟨some 7, none, .p (.len (.t 6))⟩,
  ⟨some 8, none, .p (.bin .sub (.t 7) (.c (.int .i64 1)))⟩,
  ⟨some 3, none, .p (.mv (.t 8))⟩]
def a9a : List AIns := [⟨some 9, none, .p (.mv (.t 3))⟩,
  ⟨some 10, none, .p (.bin .geq (.t 9) (.c (.int .i64 0)))⟩]
def b6U : List AIns := [⟨some 13, none, .p (.mv (.t 0))⟩,
  ⟨some 14, none, .p (.mv (.t 3))⟩,
  ⟨some 15, none, .p (.idxp 1 (.t 13) (.t 14))⟩,
  ⟨some 16, none, .p (.load none (.t 15))⟩,
  ⟨some 17, none, .p (.bin .neq (.t 16) (.c (.int .u32 0)))⟩]
def b6T : List AIns := [⟨some 18, none, .p (.mv (.t 3))⟩,
  ⟨some 19, none, .p (.bin .mul (.c (.int .i64 32)) (.t 18))⟩,
  ⟨some 4, none, .p (.mv (.t 19))⟩]
def b6S : List AIns := [⟨some 20, none, .p (.mv (.t 0))⟩,
  ⟨some 21, none, .p (.mv (.t 3))⟩,
  ⟨some 22, none, .p (.idxp 1 (.t 20) (.t 21))⟩,
  ⟨some 23, none, .p (.load none (.t 22))⟩,
  ⟨some 5, none, .p (.mv (.t 23))⟩]
def a8Z : List AIns := [⟨some 24, none, .p (.mv (.t 5))⟩,
  ⟨some 25, none, .p (.bin .gtr (.t 24) (.c (.int .u32 0)))⟩]
def b6R : List AIns := [⟨some 28, none, .p (.mv (.t 4))⟩,
  ⟨some 29, none, .p (.bin .add (.t 28) (.c (.int .i64 1)))⟩,
  ⟨some 4, none, .p (.mv (.t 29))⟩]
def b6Q : List AIns := [⟨some 26, none, .p (.mv (.t 5))⟩,
  ⟨some 27, none, .p (.bin .quo (.t 26) (.c (.int .u32 2)))⟩,
  ⟨some 5, none, .p (.mv (.t 27))⟩]
def b6X : ACode := .seq (.seq (.region a8Z false) (.cond (.t 25) (.skip) (.exit 2))) (.seq (.block 3 (.region b6R false)) (.region b6Q false))
def a8Y : List AIns := [⟨some 30, none, .p (.mv (.t 4))⟩,
  ⟨some 2, none, .p (.mv (.t 30))⟩]
def b3h : List AIns := [⟨some 11, none, .p (.mv (.t 3))⟩,
  ⟨some 12, none, .p (.bin .sub (.t 11) (.c (.int .i64 1)))⟩,
  ⟨some 3, none, .p (.mv (.t 12))⟩]
def b6Y : ACode := .seq (.seq (.region a9a false) (.cond (.t 10) (.skip) (.exit 0))) (.seq (.block 1 (.seq (.region b6U false) (.cond (.t 17) (.seq (.region b6T false) (.seq (.seq (.region b6S false) (.block 2 (.loop b6X))) (.seq (.region a8Y false) (.ret)))) (.skip)))) (.region b3h false))
def a7v : List AIns := [⟨some 2, none, .p (.mv (.c (.int .i64 0)))⟩]
def d2e : ACode := .seq (.region b6W false) (.seq (.seq (.region b6V false) (.block 0 (.loop b6Y))) (.seq (.region a7v false) (.ret)))
theorem c9A : fchk Pr (fun _ _ => false) Try.f132 = some (d2e, [.tmp 2], 31) := by kernel_rfl
theorem c9B : Pr.funcs[a2E]? = some Try.f132 := Try.func132
def b6l : List AIns := [⟨some 4, none, .p (.mv (.c (.int .u64 0)))⟩]
def b6k : List AIns := [⟨some 5, none, .p (.mv (.t 1))⟩,
  ⟨some 6, none, .p (.mv (.t 0))⟩,
  ⟨some 7, none, .p (.len (.t 6))⟩,
  ⟨some 8, none, .p (.bin .lss (.t 5) (.t 7))⟩]
def b6j : List AIns := [⟨some 9, none, .p (.mv (.t 0))⟩,
  ⟨some 10, none, .p (.mv (.t 1))⟩,
  ⟨some 11, none, .p (.idxp 1 (.t 9) (.t 10))⟩,
  ⟨some 12, none, .p (.load none (.t 11))⟩,
  ⟨some 13, none, .p (.conv .u64 (.t 12))⟩,
  ⟨some 4, none, .p (.mv (.t 13))⟩]
def b6i : List AIns := [⟨some 4, none, .p (.mv (.c (.int .u64 0)))⟩]
def d1F : ACode := .seq (.region b6l false) (.seq (.seq (.region b6k false) (.cond (.t 8) (.seq (.region b6j false) (.ret)) (.skip))) (.seq (.region b6i false) (.ret)))
theorem c9u : fchk Pr (fun _ _ => false) Try.f133 = some (d1F, [.tmp 4], 14) := by kernel_rfl
theorem c9v : Pr.funcs[a0P]? = some Try.f133 := Try.func133
def b6u : List AIns := [⟨some 4, none, .p (.mv (.c (.nil)))⟩]
def b6t : List AIns := [⟨some 5, none, .p (.mv (.c (.nil)))⟩]
def b6s : List AIns := [⟨some 6, none, .p (.mv (.c (.int .u64 0)))⟩]
def b6r : List AIns := [⟨some 7, none, .p (.mv (.c (.int .i64 0)))⟩]
def a8L : List AIns := [⟨some 10, none, .p (.mv (.t 7))⟩,
  ⟨some 11, none, .p (.mv (.t 0))⟩,
  ⟨some 12, none, .p (.len (.t 11))⟩,
  ⟨some 13, none, .p (.bin .lss (.t 10) (.t 12))⟩]
def b6q : List AIns := [⟨some 16, none, .p (.mv (.t 0))⟩,
  ⟨some 17, none, .p (.mv (.t 7))⟩,
  ⟨some 18, none, .call a0P [(.t 16), (.t 17)]⟩,
  ⟨some 8, none, .p (.mv (.t 18))⟩]
def b6p : List AIns := [⟨some 19, none, .p (.mv (.t 1))⟩,
  ⟨some 20, none, .p (.mv (.t 7))⟩,
  ⟨some 21, none, .call a0P [(.t 19), (.t 20)]⟩,
  ⟨some 22, none, .p (.mv (.t 6))⟩,
  ⟨some 23, none, .p (.bin .add (.t 21) (.t 22))⟩,
  ⟨some 9, none, .p (.mv (.t 23))⟩]
def b6o : List AIns := [⟨some 6, none, .p (.mv (.c (.int .u64 0)))⟩]
def b6n : List AIns := [⟨some 24, none, .p (.mv (.t 8))⟩,
  ⟨some 25, none, .p (.mv (.t 9))⟩,
  ⟨some 26, none, .p (.bin .lss (.t 24) (.t 25))⟩]
def b6m : List AIns := [⟨some 27, none, .p (.mv (.t 8))⟩,
  ⟨some 28, none, .p (.bin .add (.t 27) (.c (.int .u64 4294967296)))⟩,
  ⟨some 8, none, .p (.mv (.t 28))⟩]
def b3g : List AIns := [⟨some 6, none, .p (.mv (.c (.int .u64 1)))⟩]
def a7u : List AIns := [⟨some 29, none, .p (.mv (.t 5))⟩,
  ⟨some 30, none, .p (.mv (.t 8))⟩,
  ⟨some 31, none, .p (.mv (.t 9))⟩,
  ⟨some 32, none, .p (.bin .sub (.t 30) (.t 31))⟩,
  ⟨some 33, none, .p (.conv .u32 (.t 32))⟩,
  ⟨some 34, none, .e (.bsl 1 [(.t 33)])⟩,
  ⟨some 35, none, .e (.app 1 4 false (.t 29) (.t 34))⟩,
  ⟨some 5, none, .p (.mv (.t 35))⟩]
def a7t : List AIns := [⟨some 14, none, .p (.mv (.t 7))⟩,
  ⟨some 15, none, .p (.bin .add (.t 14) (.c (.int .i64 1)))⟩,
  ⟨some 7, none, .p (.mv (.t 15))⟩]
def a8M : ACode := .seq (.seq (.region a8L false) (.cond (.t 13) (.skip) (.exit 0))) (.seq (.block 1 (.seq (.region b6q false) (.seq (.region b6p false) (.seq (.region b6o false) (.seq (.seq (.region b6n false) (.cond (.t 26) (.seq (.region b6m false) (.region b3g false)) (.skip))) (.region a7u false)))))) (.region a7t false))
def a4E : List AIns := [⟨some 36, none, .p (.mv (.t 5))⟩,
  ⟨some 37, none, .call a0z [(.t 36)]⟩,
  ⟨some 4, none, .p (.mv (.t 37))⟩]
def d1G : ACode := .seq (.region b6u false) (.seq (.region b6t false) (.seq (.region b6s false) (.seq (.seq (.region b6r false) (.block 0 (.loop a8M))) (.seq (.region a4E false) (.ret)))))
theorem c9w : fchk Pr (fun _ _ => false) Try.f134 = some (d1G, [.tmp 4], 38) := by kernel_rfl
theorem c9x : Pr.funcs[a2D]? = some Try.f134 := Try.func134
def c0H : List AIns := [⟨some 4, none, .p (.mv (.c (.nil)))⟩,
  ⟨some 5, none, .p (.mv (.c (.int .i64 0)))⟩]
def c0G : List AIns := [⟨some 9, none, .p (.mv (.t 1))⟩,
  ⟨some 10, none, .p (.bin .lss (.t 9) (.c (.int .i64 0)))⟩]
def d1P : List AIns := [⟨some 4, none, .p (.mv (.c (.nil)))⟩,
  ⟨some 5, none, .p (.mv (.c (.int .i64 1)))⟩]
def c0F : List AIns := [⟨some 11, none, .p (.mv (.t 1))⟩,
  ⟨some 12, none, .p (.mv (.t 0))⟩,
  ⟨some 13, none, .call a2E [(.t 12)]⟩,
  ⟨some 14, none, .p (.bin .geq (.t 11) (.t 13))⟩]
def c0E : List AIns := [⟨some 4, none, .p (.mv (.c (.nil)))⟩,
  ⟨some 5, none, .p (.mv (.c (.int .i64 0)))⟩]
def c0D : List AIns := [⟨some 6, none, .p (.mv (.c (.nil)))⟩]
def c0C : List AIns := [⟨some 15, none, .p (.mv (.t 1))⟩,
  ⟨some 16, none, .p (.bin .quo (.t 15) (.c (.int .i64 32)))⟩,
  ⟨some 7, none, .p (.mv (.t 16))⟩]
def b0Z : List AIns := [⟨some 17, none, .p (.mv (.t 7))⟩,
  ⟨some 18, none, .p (.mv (.t 0))⟩,
  ⟨some 19, none, .p (.len (.t 18))⟩,
  ⟨some 20, none, .p (.bin .lss (.t 17) (.t 19))⟩]
def c0B : List AIns := [⟨some 23, none, .p (.mv (.t 0))⟩,
  ⟨some 24, none, .p (.mv (.t 7))⟩,
  ⟨some 25, none, .call a0P [(.t 23), (.t 24)]⟩,
  ⟨some 26, none, .p (.mv (.t 0))⟩,
  ⟨some 27, none, .p (.mv (.t 7))⟩,
  ⟨some 28, none, .p (.bin .add (.t 27) (.c (.int .i64 1)))⟩,
  ⟨some 29, none, .call a0P [(.t 26), (.t 28)]⟩,
  ⟨some 30, none, .p (.bin .mul (.t 29) (.c (.int .u64 4294967296)))⟩,
  ⟨some 31, none, .p (.bin .add (.t 25) (.t 30))⟩,
  ⟨some 8, none, .p (.mv (.t 31))⟩]
def c0A : List AIns := [⟨some 32, none, .p (.mv (.t 6))⟩,
  ⟨some 33, none, .p (.mv (.t 8))⟩,
  ⟨some 34, none, .p (.mv (.t 1))⟩,
  ⟨some 35, none, .p (.bin .rem (.t 34) (.c (.int .i64 32)))⟩,
  ⟨some 36, none, .p (.conv .u64 (.t 35))⟩,
  ⟨some 37, none, .p (.bin .shr (.t 33) (.t 36))⟩,
  ⟨some 38, none, .p (.bin .rem (.t 37) (.c (.int .u64 4294967296)))⟩,
  ⟨some 39, none, .p (.conv .u32 (.t 38))⟩,
  ⟨some 40, none, .e (.bsl 1 [(.t 39)])⟩,
  ⟨some 41, none, .e (.app 1 4 false (.t 32) (.t 40))⟩,
  ⟨some 6, none, .p (.mv (.t 41))⟩]
def b6w : List AIns := [⟨some 21, none, .p (.mv (.t 7))⟩,
  ⟨some 22, none, .p (.bin .add (.t 21) (.c (.int .i64 1)))⟩,
  ⟨some 7, none, .p (.mv (.t 22))⟩]
def d1R : ACode := .seq (.seq (.region b0Z false) (.cond (.t 20) (.skip) (.exit 0))) (.seq (.block 1 (.seq (.region c0B false) (.region c0A false))) (.region b6w false))
def b6v : List AIns := [⟨some 42, none, .p (.mv (.t 6))⟩,
  ⟨some 43, none, .call a0z [(.t 42)]⟩,
  ⟨some 4, none, .p (.mv (.t 43))⟩,
  ⟨some 5, none, .p (.mv (.c (.int .i64 0)))⟩]
def d4n : ACode := .seq (.region c0H false) (.seq (.seq (.region c0G false) (.cond (.t 10) (.seq (.region d1P false) (.ret)) (.skip))) (.seq (.seq (.region c0F false) (.cond (.t 14) (.seq (.region c0E false) (.ret)) (.skip))) (.seq (.region c0D false) (.seq (.seq (.region c0C false) (.block 0 (.loop d1R))) (.seq (.region b6v false) (.ret))))))
theorem d1Q : fchk Pr (fun _ _ => false) Try.f135 = some (d4n, [.tmp 4, .tmp 5], 44) := by kernel_rfl
theorem d1S : Pr.funcs[b4Y]? = some Try.f135 := Try.func135
def c4D : List AIns := [⟨some 4, none, .p (.mv (.c (.nil)))⟩]
def c4C : List AIns := [⟨some 9, none, .p (.mv (.t 0))⟩,
  ⟨some 10, none, .p (.len (.t 9))⟩,
  ⟨some 11, none, .e (.mksl 1 4 (.int .u32 0) (.t 10) (.t 10))⟩,
  ⟨some 5, none, .p (.mv (.t 11))⟩]
def c4B : List AIns := [⟨some 6, none, .p (.mv (.c (.int .u64 0)))⟩]
def c4A : List AIns := [⟨some 12, none, .p (.mv (.t 0))⟩,
  ⟨some 13, none, .p (.len (.t 12))⟩,
  ⟨some 14, none, .p (.mv (.c (.int .i64 0)))⟩]
def b4x : List AIns := [⟨some 15, none, .p (.bin .lss (.t 14) (.t 13))⟩]
def c4z : List AIns := [⟨some 16, none, .p (.mv (.t 14))⟩,
  ⟨some 7, none, .p (.mv (.t 16))⟩]
def c4y : List AIns := [⟨some 17, none, .p (.mv (.t 0))⟩,
  ⟨some 18, none, .p (.mv (.t 7))⟩,
  ⟨some 19, none, .p (.idxp 1 (.t 17) (.t 18))⟩,
  ⟨some 20, none, .p (.load none (.t 19))⟩,
  ⟨some 21, none, .p (.conv .u64 (.t 20))⟩,
  ⟨some 22, none, .p (.mv (.t 6))⟩,
  ⟨some 23, none, .p (.bin .sub (.t 21) (.t 22))⟩,
  ⟨some 8, none, .p (.mv (.t 23))⟩]
def c4x : List AIns := [⟨some 24, none, .p (.mv (.t 7))⟩,
  ⟨some 25, none, .p (.mv (.t 1))⟩,
  ⟨some 26, none, .p (.len (.t 25))⟩,
  ⟨some 27, none, .p (.bin .lss (.t 24) (.t 26))⟩]
def c4w : List AIns := [⟨some 28, none, .p (.mv (.t 8))⟩,
  ⟨some 29, none, .p (.mv (.t 1))⟩,
  ⟨some 30, none, .p (.mv (.t 7))⟩,
  ⟨some 31, none, .p (.idxp 1 (.t 29) (.t 30))⟩,
  ⟨some 32, none, .p (.load none (.t 31))⟩,
  ⟨some 33, none, .p (.conv .u64 (.t 32))⟩,
  ⟨some 34, none, .p (.bin .sub (.t 28) (.t 33))⟩,
  ⟨some 8, none, .p (.mv (.t 34))⟩]
def b4w : List AIns := [⟨some 35, none, .p (.mv (.t 5))⟩,
  ⟨some 36, none, .p (.mv (.t 7))⟩,
  ⟨some 37, none, .p (.mv (.t 8))⟩,
  ⟨some 38, none, .p (.conv .u32 (.t 37))⟩,
  ⟨some 39, none, .p (.idxp 1 (.t 35) (.t 36))⟩,
  ⟨none, none, .e (.store 1 (.t 39) (.t 38))⟩]
def b1l : List AIns := [⟨some 40, none, .p (.mv (.t 8))⟩,
  ⟨some 41, none, .p (.bin .shr (.t 40) (.c (.int .u64 63)))⟩,
  ⟨some 6, none, .p (.mv (.t 41))⟩]
def b1k : List AIns := [⟨some 42, none, .p (.bin .add (.t 14) (.c (.int .i64 1)))⟩,
  ⟨some 14, none, .p (.mv (.t 42))⟩]
def b4y : ACode := .seq (.region b4x false) (.seq (.cond (.t 15) (.skip) (.exit 0)) (.seq (.block 1 (.seq (.region c4z false) (.seq (.region c4y false) (.seq (.seq (.region c4x false) (.cond (.t 27) (.region c4w false) (.skip))) (.seq (.region b4w false) (.region b1l false)))))) (.region b1k false)))
def a6M : List AIns := [⟨some 43, none, .p (.mv (.t 5))⟩,
  ⟨some 44, none, .call a0r [(.t 43)]⟩,
  ⟨some 4, none, .p (.mv (.t 44))⟩]
def d7M : ACode := .seq (.region c4D false) (.seq (.region c4C false) (.seq (.region c4B false) (.seq (.seq (.region c4A false) (.block 0 (.loop b4y))) (.seq (.region a6M false) (.ret)))))
theorem d4A : fchk Pr (fun _ _ => false) Try.f136 = some (d7M, [.tmp 4], 45) := by kernel_rfl
theorem d4B : Pr.funcs[a8q]? = some Try.f136 := Try.func136
def b6h : List AIns := [⟨some 4, none, .p (.mv (.c (.int .i64 0)))⟩]
def b6g : List AIns := [⟨some 5, none, .p (.mv (.t 0))⟩,
  ⟨some 6, none, .p (.mv (.t 1))⟩,
  ⟨some 7, none, .p (.bin .gtr (.t 5) (.t 6))⟩]
def b6f : List AIns := [⟨some 8, none, .p (.mv (.t 0))⟩,
  ⟨some 4, none, .p (.mv (.t 8))⟩]
def b6e : List AIns := [⟨some 9, none, .p (.mv (.t 1))⟩,
  ⟨some 4, none, .p (.mv (.t 9))⟩]
def d1E : ACode := .seq (.region b6h false) (.seq (.seq (.region b6g false) (.cond (.t 7) (.seq (.region b6f false) (.ret)) (.skip))) (.seq (.region b6e false) (.ret)))
theorem c9s : fchk Pr (fun _ _ => false) Try.f137 = some (d1E, [.tmp 4], 10) := by kernel_rfl
theorem c9t : Pr.funcs[a7h]? = some Try.f137 := Try.func137
end Go.Abs

/- Part 5 of the proof of ElimSolves: Code2. -/
import Derived.Test.YtkljokmnimblnaaElimSolvesK4
set_option maxRecDepth 100000
noncomputable section
namespace Go.Abs
open Go.Proofs
def b3I : List AIns := [⟨some 2, none, .p (.mv (.c (.nil)))⟩]
def b3H : List AIns := [⟨some 3, none, .e (.box 2 (.c (.agg [.bool false, .nil])))⟩]
def b3G : List AIns := [⟨some 13, none, .p (.mv (.t 0))⟩,
  ⟨some 14, none, .p (.len (.t 13))⟩,
  ⟨some 15, none, .p (.mv (.c (.int .i64 0)))⟩]
def a7E : List AIns := [⟨some 16, none, .p (.bin .lss (.t 15) (.t 14))⟩]
def b3F : List AIns := [⟨some 17, none, .p (.idxp 2 (.t 13) (.t 15))⟩,
  ⟨some 18, none, .p (.load (some 2) (.t 17))⟩,
  ⟨some 5, none, .e (.box 2 (.c (.agg [.bool false, .nil])))⟩,
  ⟨none, none, .e (.store 2 (.t 5) (.t 18))⟩]
def b3E : List AIns := [⟨some 19, none, .p (.load (some 2) (.t 3))⟩,
  ⟨some 20, none, .p (.load (some 2) (.t 5))⟩,
  ⟨some 21, none, .call b2n [(.t 19), (.t 20)]⟩,
  ⟨none, none, .e (.store 2 (.t 3) (.t 21))⟩]
def b3D : List AIns := [⟨some 22, none, .p (.bin .add (.t 15) (.c (.int .i64 1)))⟩,
  ⟨some 15, none, .p (.mv (.t 22))⟩]
def c6q : ACode := .seq (.region a7E false) (.seq (.cond (.t 16) (.skip) (.exit 0)) (.seq (.block 1 (.seq (.region b3F false) (.region b3E false))) (.region b3D false)))
def b3C : List AIns := [⟨some 23, none, .p (.mv (.t 0))⟩,
  ⟨some 24, none, .call b2p [(.t 23)]⟩,
  ⟨some 6, none, .p (.mv (.t 24))⟩]
def b3B : List AIns := [⟨some 25, none, .p (.mv (.t 6))⟩,
  ⟨some 26, none, .p (.bin .geq (.t 25) (.c (.int .i64 0)))⟩,
  ⟨some 27, none, .p (.mv (.t 26))⟩,
  ⟨some 28, some (27, true), .p (.mv (.t 0))⟩,
  ⟨some 29, some (27, true), .p (.mv (.t 6))⟩,
  ⟨some 30, some (27, true), .p (.idxp 2 (.t 28) (.t 29))⟩,
  ⟨some 31, some (27, true), .p (.load (some 2) (.t 30))⟩,
  ⟨some 32, some (27, true), .call a1Q [(.t 31)]⟩,
  ⟨some 33, some (27, true), .p (.bin .lss (.t 32) (.c (.int .i64 0)))⟩,
  ⟨some 34, none, .p (.pick (.t 27) (.t 33) (.c (.bool false)))⟩]
def b3A : List AIns := [⟨some 35, none, .p (.load (some 2) (.t 3))⟩,
  ⟨some 36, none, .call a8m [(.t 35)]⟩,
  ⟨none, none, .e (.store 2 (.t 3) (.t 36))⟩]
def a6p : List AIns := [⟨some 7, none, .p (.mv (.c (.nil)))⟩]
def a6o : List AIns := [⟨some 37, none, .p (.mv (.t 0))⟩,
  ⟨some 38, none, .p (.len (.t 37))⟩,
  ⟨some 39, none, .p (.mv (.c (.int .i64 0)))⟩]
def a6n : List AIns := [⟨some 40, none, .p (.bin .lss (.t 39) (.t 38))⟩]
def b1A : List AIns := [⟨some 41, none, .p (.idxp 2 (.t 37) (.t 39))⟩,
  ⟨some 42, none, .p (.load (some 2) (.t 41))⟩,
  ⟨some 9, none, .e (.box 2 (.c (.agg [.bool false, .nil])))⟩,
  ⟨none, none, .e (.store 2 (.t 9) (.t 42))⟩]
def b1z : List AIns := [⟨some 44, none, .p (.load (some 2) (.t 9))⟩,
  ⟨some 45, none, .p (.load (some 2) (.t 3))⟩,
  ⟨some 46, none, .call a2x [(.t 44), (.t 45)]⟩,
  ⟨some 43, none, .p (.mv (.t 46))⟩,
  ⟨some 47, none, .p (.ext (.t 43) 0)⟩,
  ⟨some 48, none, .p (.ext (.t 43) 1)⟩,
  ⟨some 49, none, .p (.ext (.t 43) 2)⟩,
  ⟨some 10, none, .e (.box 2 (.c (.agg [.bool false, .nil])))⟩,
  ⟨some 11, none, .e (.box 2 (.c (.agg [.bool false, .nil])))⟩,
  ⟨none, none, .e (.store 2 (.t 10) (.t 47))⟩,
  ⟨none, none, .e (.store 2 (.t 11) (.t 48))⟩,
  ⟨some 12, none, .p (.mv (.t 49))⟩]
def b1y : List AIns := [⟨some 50, none, .p (.mv (.t 7))⟩,
  ⟨some 51, none, .p (.load (some 2) (.t 10))⟩,
  ⟨some 52, none, .e (.bsl 2 [(.t 51)])⟩,
  ⟨some 53, none, .e (.app 2 32 false (.t 50) (.t 52))⟩,
  ⟨some 7, none, .p (.mv (.t 53))⟩]
def b1x : List AIns := [⟨some 54, none, .p (.bin .add (.t 39) (.c (.int .i64 1)))⟩,
  ⟨some 39, none, .p (.mv (.t 54))⟩]
def b3J : ACode := .seq (.region a6n false) (.seq (.cond (.t 40) (.skip) (.exit 2)) (.seq (.block 3 (.seq (.region b1A false) (.seq (.region b1z false) (.region b1y false)))) (.region b1x false)))
def a6m : List AIns := [⟨some 55, none, .p (.mv (.t 7))⟩,
  ⟨some 2, none, .p (.mv (.t 55))⟩]
def d0d : ACode := .seq (.region b3I false) (.seq (.region b3H false) (.seq (.seq (.region b3G false) (.block 0 (.loop c6q))) (.seq (.seq (.region b3C false) (.seq (.region b3B false) (.cond (.t 34) (.region b3A false) (.skip)))) (.seq (.region a6p false) (.seq (.seq (.region a6o false) (.block 2 (.loop b3J))) (.seq (.region a6m false) (.ret)))))))
theorem c6p : fchk Pr (fun _ _ => false) Try.f96 = some (d0d, [.tmp 2], 56) := by kernel_rfl
theorem c6r : Pr.funcs[a2H]? = some Try.f96 := Try.func96
def c0i : List AIns := [⟨some 2, none, .e (.box 2 (.t 0))⟩,
  ⟨some 3, none, .e (.box 2 (.t 1))⟩,
  ⟨some 4, none, .e (.box 2 (.c (.agg [.bool false, .nil])))⟩]
def c0h : List AIns := [⟨some 5, none, .p (.fldp (.t 2) 1)⟩,
  ⟨some 6, none, .p (.load none (.t 5))⟩,
  ⟨some 7, none, .p (.fldp (.t 3) 1)⟩,
  ⟨some 8, none, .p (.load none (.t 7))⟩,
  ⟨some 9, none, .call a9P [(.t 6), (.t 8)]⟩,
  ⟨some 10, none, .call a1j [(.c (.bool false)), (.t 9)]⟩,
  ⟨none, none, .e (.store 2 (.t 4) (.t 10))⟩]
def d4d : ACode := .seq (.region c0i false) (.seq (.region c0h false) (.ret))
theorem d1u : fchk Pr (fun _ _ => false) Try.f97 = some (d4d, [.cell 4 (some 2)], 11) := by kernel_rfl
theorem d1v : Pr.funcs[b4T]? = some Try.f97 := Try.func97
def b2S : List AIns := [⟨some 2, none, .e (.box 2 (.t 0))⟩,
  ⟨some 3, none, .e (.box 2 (.t 1))⟩,
  ⟨some 4, none, .e (.box 2 (.c (.agg [.bool false, .nil])))⟩,
  ⟨some 5, none, .e (.box 2 (.c (.agg [.bool false, .nil])))⟩]
def b2R : List AIns := [⟨some 12, none, .p (.fldp (.t 2) 1)⟩,
  ⟨some 13, none, .p (.load none (.t 12))⟩,
  ⟨some 14, none, .p (.fldp (.t 3) 1)⟩,
  ⟨some 15, none, .p (.load none (.t 14))⟩,
  ⟨some 16, none, .call a3i [(.t 13), (.t 15)]⟩,
  ⟨some 11, none, .p (.mv (.t 16))⟩,
  ⟨some 17, none, .p (.ext (.t 11) 0)⟩,
  ⟨some 18, none, .p (.ext (.t 11) 1)⟩,
  ⟨some 19, none, .p (.ext (.t 11) 2)⟩,
  ⟨some 6, none, .p (.mv (.t 17))⟩,
  ⟨some 7, none, .p (.mv (.t 18))⟩,
  ⟨some 8, none, .p (.mv (.t 19))⟩]
def b2Q : List AIns := [⟨some 20, none, .p (.fldp (.t 2) 0)⟩,
  ⟨some 21, none, .p (.load none (.t 20))⟩,
  ⟨some 22, none, .p (.fldp (.t 3) 0)⟩,
  ⟨some 23, none, .p (.load none (.t 22))⟩,
  ⟨some 24, none, .p (.beq true (.t 21) (.t 23))⟩,
  ⟨some 25, none, .p (.mv (.t 6))⟩,
  ⟨some 26, none, .call a1j [(.t 24), (.t 25)]⟩,
  ⟨some 9, none, .e (.box 2 (.c (.agg [.bool false, .nil])))⟩,
  ⟨none, none, .e (.store 2 (.t 9) (.t 26))⟩]
def b2P : List AIns := [⟨some 27, none, .p (.load (some 2) (.t 2))⟩,
  ⟨some 28, none, .p (.load (some 2) (.t 9))⟩,
  ⟨some 29, none, .p (.load (some 2) (.t 3))⟩,
  ⟨some 30, none, .call a1e [(.t 28), (.t 29)]⟩,
  ⟨some 31, none, .call a6A [(.t 27), (.t 30)]⟩,
  ⟨some 10, none, .e (.box 2 (.c (.agg [.bool false, .nil])))⟩,
  ⟨none, none, .e (.store 2 (.t 10) (.t 31))⟩]
def b2O : List AIns := [⟨some 32, none, .p (.load (some 2) (.t 10))⟩,
  ⟨some 33, none, .call a2z [(.t 32)]⟩,
  ⟨some 34, none, .p (.bin .neq (.t 33) (.c (.int .i64 0)))⟩,
  ⟨some 35, none, .p (.mv (.t 34))⟩,
  ⟨some 36, some (35, true), .p (.load (some 2) (.t 10))⟩,
  ⟨some 37, some (35, true), .call a2z [(.t 36)]⟩,
  ⟨some 38, some (35, true), .p (.load (some 2) (.t 3))⟩,
  ⟨some 39, some (35, true), .call a2z [(.t 38)]⟩,
  ⟨some 40, some (35, true), .p (.bin .neq (.t 37) (.t 39))⟩,
  ⟨some 41, none, .p (.pick (.t 35) (.t 40) (.c (.bool false)))⟩]
def b2N : List AIns := [⟨some 42, none, .p (.load (some 2) (.t 9))⟩,
  ⟨some 43, none, .call a3s [(.c (.int .i64 1))]⟩,
  ⟨some 44, none, .call a6A [(.t 42), (.t 43)]⟩,
  ⟨none, none, .e (.store 2 (.t 9) (.t 44))⟩]
def b2M : List AIns := [⟨some 45, none, .p (.load (some 2) (.t 10))⟩,
  ⟨some 46, none, .p (.load (some 2) (.t 3))⟩,
  ⟨some 47, none, .call a4t [(.t 45), (.t 46)]⟩,
  ⟨none, none, .e (.store 2 (.t 10) (.t 47))⟩]
def a4D : List AIns := [⟨some 48, none, .p (.load (some 2) (.t 9))⟩,
  ⟨some 49, none, .p (.load (some 2) (.t 10))⟩,
  ⟨none, none, .e (.store 2 (.t 4) (.t 48))⟩,
  ⟨none, none, .e (.store 2 (.t 5) (.t 49))⟩]
def a3G : List AIns := []
def a3F : List AIns := []
def c9j : ACode := .seq (.region b2S false) (.seq (.region b2R false) (.seq (.region b2Q false) (.seq (.region b2P true) (.seq (.seq (.region b2O true) (.cond (.t 41) (.seq (.region b2N true) (.region b2M false)) (.skip))) (.seq (.regionX a4D a3G a3F [(10, 4)]) (.ret))))))
theorem c6i : fchk Pr (fun _ _ => false) Try.f98 = some (c9j, [.cell 4 (some 2), .cell 5 (some 2)], 50) := by kernel_rfl
theorem c6j : Pr.funcs[a5I]? = some Try.f98 := Try.func98
def c0g : List AIns := [⟨some 2, none, .e (.box 2 (.t 0))⟩,
  ⟨some 3, none, .e (.box 2 (.t 1))⟩,
  ⟨some 4, none, .e (.box 2 (.c (.agg [.bool false, .nil])))⟩]
def c0f : List AIns := [⟨some 5, none, .p (.fldp (.t 2) 0)⟩,
  ⟨some 6, none, .p (.load none (.t 5))⟩,
  ⟨some 7, none, .p (.fldp (.t 3) 0)⟩,
  ⟨some 8, none, .p (.load none (.t 7))⟩,
  ⟨some 9, none, .p (.beq true (.t 6) (.t 8))⟩,
  ⟨some 10, none, .p (.fldp (.t 2) 1)⟩,
  ⟨some 11, none, .p (.load none (.t 10))⟩,
  ⟨some 12, none, .p (.fldp (.t 3) 1)⟩,
  ⟨some 13, none, .p (.load none (.t 12))⟩,
  ⟨some 14, none, .call a2b [(.t 11), (.t 13)]⟩,
  ⟨some 15, none, .call a1j [(.t 9), (.t 14)]⟩,
  ⟨none, none, .e (.store 2 (.t 4) (.t 15))⟩]
def d4c : ACode := .seq (.region c0g false) (.seq (.region c0f true) (.ret))
theorem d1s : fchk Pr (fun _ _ => false) Try.f99 = some (d4c, [.cell 4 (some 2)], 16) := by kernel_rfl
theorem d1t : Pr.funcs[a1e]? = some Try.f99 := Try.func99
def c3m : List AIns := [⟨some 2, none, .e (.box 2 (.t 0))⟩,
  ⟨some 3, none, .e (.box 2 (.t 1))⟩,
  ⟨some 4, none, .e (.box 2 (.c (.agg [.bool false, .nil])))⟩]
def c3l : List AIns := [⟨some 5, none, .p (.fldp (.t 2) 1)⟩,
  ⟨some 6, none, .p (.load none (.t 5))⟩,
  ⟨some 7, none, .p (.fldp (.t 3) 1)⟩,
  ⟨some 8, none, .p (.load none (.t 7))⟩,
  ⟨some 9, none, .call c6d [(.t 6), (.t 8)]⟩,
  ⟨some 10, none, .call a0X [(.c (.bool false)), (.t 9)]⟩,
  ⟨none, none, .e (.store 2 (.t 4) (.t 10))⟩]
def d6L : ACode := .seq (.region c3m false) (.seq (.region c3l false) (.ret))
theorem d3A : fchk Pr (fun _ _ => false) Try.f101 = some (d6L, [.cell 4 (some 2)], 11) := by kernel_rfl
theorem d3B : Pr.funcs[b2n]? = some Try.f101 := Try.func101
def c3r : List AIns := [⟨some 2, none, .e (.box 2 (.t 0))⟩,
  ⟨some 3, none, .e (.box 2 (.t 1))⟩,
  ⟨some 4, none, .e (.box 2 (.c (.agg [.bool false, .nil])))⟩]
def c3q : List AIns := [⟨some 7, none, .p (.fldp (.t 2) 0)⟩,
  ⟨some 8, none, .p (.load none (.t 7))⟩,
  ⟨some 9, none, .p (.fldp (.t 3) 0)⟩,
  ⟨some 10, none, .p (.load none (.t 9))⟩,
  ⟨some 11, none, .p (.beq false (.t 8) (.t 10))⟩]
def c3p : List AIns := [⟨some 12, none, .p (.fldp (.t 2) 0)⟩,
  ⟨some 13, none, .p (.load none (.t 12))⟩,
  ⟨some 14, none, .p (.fldp (.t 2) 1)⟩,
  ⟨some 15, none, .p (.load none (.t 14))⟩,
  ⟨some 16, none, .p (.fldp (.t 3) 1)⟩,
  ⟨some 17, none, .p (.load none (.t 16))⟩,
  ⟨some 18, none, .call a8s [(.t 15), (.t 17)]⟩,
  ⟨some 19, none, .call a0X [(.t 13), (.t 18)]⟩,
  ⟨none, none, .e (.store 2 (.t 4) (.t 19))⟩]
def c3o : List AIns := [⟨some 20, none, .p (.fldp (.t 2) 1)⟩,
  ⟨some 21, none, .p (.load none (.t 20))⟩,
  ⟨some 22, none, .p (.fldp (.t 3) 1)⟩,
  ⟨some 23, none, .p (.load none (.t 22))⟩,
  ⟨some 24, none, .call a8r [(.t 21), (.t 23)]⟩,
  ⟨some 25, none, .p (.bin .lss (.t 24) (.c (.int .i64 0)))⟩]
def c3n : List AIns := [⟨some 26, none, .p (.load (some 2) (.t 3))⟩,
  ⟨some 27, none, .p (.load (some 2) (.t 2))⟩,
  ⟨none, none, .e (.store 2 (.t 2) (.t 26))⟩,
  ⟨none, none, .e (.store 2 (.t 3) (.t 27))⟩]
def b4d : List AIns := [⟨some 29, none, .p (.fldp (.t 2) 1)⟩,
  ⟨some 30, none, .p (.load none (.t 29))⟩,
  ⟨some 31, none, .p (.fldp (.t 3) 1)⟩,
  ⟨some 32, none, .p (.load none (.t 31))⟩,
  ⟨some 33, none, .call c6c [(.t 30), (.t 32)]⟩,
  ⟨some 28, none, .p (.mv (.t 33))⟩,
  ⟨some 34, none, .p (.ext (.t 28) 0)⟩,
  ⟨some 35, none, .p (.ext (.t 28) 1)⟩,
  ⟨some 5, none, .p (.mv (.t 34))⟩,
  ⟨some 6, none, .p (.mv (.t 35))⟩]
def b4c : List AIns := [⟨some 36, none, .p (.fldp (.t 2) 0)⟩,
  ⟨some 37, none, .p (.load none (.t 36))⟩,
  ⟨some 38, none, .p (.mv (.t 5))⟩,
  ⟨some 39, none, .call a0X [(.t 37), (.t 38)]⟩,
  ⟨none, none, .e (.store 2 (.t 4) (.t 39))⟩]
def d6M : ACode := .seq (.region c3r false) (.seq (.seq (.region c3q false) (.cond (.t 11) (.seq (.region c3p true) (.ret)) (.skip))) (.seq (.seq (.region c3o false) (.cond (.t 25) (.region c3n false) (.skip))) (.seq (.region b4d false) (.seq (.region b4c false) (.ret)))))
theorem d3D : fchk Pr (fun _ _ => false) Try.f102 = some (d6M, [.cell 4 (some 2)], 40) := by kernel_rfl
theorem d3E : Pr.funcs[b2o]? = some Try.f102 := Try.func102
def b4o : List AIns := [⟨some 2, none, .p (.mv (.c (.nil)))⟩]
def a5Y : List AIns := [⟨some 3, none, .p (.mv (.t 0))⟩,
  ⟨some 4, none, .p (.len (.t 3))⟩,
  ⟨some 5, none, .p (.bin .gtr (.t 4) (.c (.int .i64 0)))⟩,
  ⟨some 6, none, .p (.mv (.t 5))⟩,
  ⟨some 7, some (6, true), .p (.mv (.t 0))⟩,
  ⟨some 8, some (6, true), .p (.mv (.t 0))⟩,
  ⟨some 9, some (6, true), .p (.len (.t 8))⟩,
  ⟨some 10, some (6, true), .p (.bin .sub (.t 9) (.c (.int .i64 1)))⟩,
  ⟨some 11, some (6, true), .p (.idxp 1 (.t 7) (.t 10))⟩,
  ⟨some 12, some (6, true), .p (.load none (.t 11))⟩,
  ⟨some 13, some (6, true), .p (.bin .eql (.t 12) (.c (.int .u32 0)))⟩,
  ⟨some 14, none, .p (.pick (.t 6) (.t 13) (.c (.bool false)))⟩]
def b4n : List AIns := [⟨some 15, none, .p (.mv (.t 0))⟩,
  ⟨some 16, none, .p (.mv (.t 0))⟩,
  ⟨some 17, none, .p (.len (.t 16))⟩,
  ⟨some 18, none, .p (.bin .sub (.t 17) (.c (.int .i64 1)))⟩,
  ⟨some 19, none, .p (.slc 1 (.t 15) none (some (.t 18)) none)⟩,
  ⟨some 0, none, .p (.mv (.t 19))⟩]
def c4j : ACode := .seq (.seq (.region a5Y false) (.cond (.t 14) (.skip) (.exit 0))) (.block 1 (.region b4n false))
def a4k : List AIns := [⟨some 20, none, .p (.mv (.t 0))⟩,
  ⟨some 2, none, .p (.mv (.t 20))⟩]
def d7y : ACode := .seq (.region b4o false) (.seq (.block 0 (.loop c4j)) (.seq (.region a4k false) (.ret)))
theorem c4i : fchk Pr (fun _ _ => false) Try.f103 = some (d7y, [.tmp 2], 21) := by kernel_rfl
theorem c4k : Pr.funcs[a0r]? = some Try.f103 := Try.func103
def c7M : List AIns := [⟨some 4, none, .p (.mv (.c (.nil)))⟩,
  ⟨some 5, none, .p (.mv (.c (.nil)))⟩,
  ⟨some 6, none, .p (.mv (.c (.int .i64 0)))⟩]
def c7L : List AIns := [⟨some 14, none, .p (.mv (.t 0))⟩,
  ⟨some 15, none, .call a0r [(.t 14)]⟩,
  ⟨some 16, none, .p (.mv (.t 1))⟩,
  ⟨some 17, none, .call a0r [(.t 16)]⟩,
  ⟨some 0, none, .p (.mv (.t 15))⟩,
  ⟨some 1, none, .p (.mv (.t 17))⟩]
def c7K : List AIns := [⟨some 19, none, .p (.mv (.t 1))⟩,
  ⟨some 20, none, .p (.len (.t 19))⟩,
  ⟨some 21, none, .p (.bin .eql (.t 20) (.c (.int .i64 0)))⟩,
  ⟨some 18, none, .p (.mv (.t 21))⟩]
def d7P : List AIns := [⟨some 4, none, .p (.mv (.c (.nil)))⟩,
  ⟨some 5, none, .p (.mv (.c (.nil)))⟩,
  ⟨some 6, none, .p (.mv (.c (.int .i64 11)))⟩]
def c7J : List AIns := [⟨some 23, none, .p (.mv (.t 0))⟩,
  ⟨some 24, none, .p (.mv (.t 1))⟩,
  ⟨some 25, none, .call a8r [(.t 23), (.t 24)]⟩,
  ⟨some 26, none, .p (.bin .lss (.t 25) (.c (.int .i64 0)))⟩,
  ⟨some 22, none, .p (.mv (.t 26))⟩]
def c7I : List AIns := [⟨some 27, none, .p (.mv (.t 0))⟩,
  ⟨some 28, none, .call a8p [(.t 27)]⟩,
  ⟨some 4, none, .p (.mv (.c (.nil)))⟩,
  ⟨some 5, none, .p (.mv (.t 28))⟩,
  ⟨some 6, none, .p (.mv (.c (.int .i64 0)))⟩]
def b8R : List AIns := [⟨some 30, none, .p (.mv (.t 1))⟩,
  ⟨some 31, none, .p (.len (.t 30))⟩,
  ⟨some 32, none, .p (.bin .eql (.t 31) (.c (.int .i64 1)))⟩,
  ⟨some 29, none, .p (.mv (.t 32))⟩]
def c7H : List AIns := [⟨some 34, none, .p (.mv (.t 0))⟩,
  ⟨some 35, none, .p (.mv (.t 1))⟩,
  ⟨some 36, none, .p (.idxp 1 (.t 35) (.c (.int .i64 0)))⟩,
  ⟨some 37, none, .p (.load none (.t 36))⟩,
  ⟨some 38, none, .call b4W [(.t 34), (.t 37)]⟩,
  ⟨some 33, none, .p (.mv (.t 38))⟩,
  ⟨some 39, none, .p (.ext (.t 33) 0)⟩,
  ⟨some 40, none, .p (.ext (.t 33) 1)⟩,
  ⟨some 7, none, .p (.mv (.t 39))⟩,
  ⟨some 8, none, .p (.mv (.t 40))⟩]
def c7G : List AIns := [⟨some 41, none, .p (.mv (.t 7))⟩,
  ⟨some 42, none, .p (.mv (.t 8))⟩,
  ⟨some 43, none, .e (.bsl 1 [(.t 42)])⟩,
  ⟨some 44, none, .call a0r [(.t 43)]⟩,
  ⟨some 4, none, .p (.mv (.t 41))⟩,
  ⟨some 5, none, .p (.mv (.t 44))⟩,
  ⟨some 6, none, .p (.mv (.c (.int .i64 0)))⟩]
def c7F : List AIns := [⟨some 45, none, .p (.mv (.t 1))⟩,
  ⟨some 46, none, .p (.mv (.t 1))⟩,
  ⟨some 47, none, .p (.len (.t 46))⟩,
  ⟨some 48, none, .p (.bin .sub (.t 47) (.c (.int .i64 1)))⟩,
  ⟨some 49, none, .p (.idxp 1 (.t 45) (.t 48))⟩,
  ⟨some 50, none, .p (.load none (.t 49))⟩,
  ⟨some 51, none, .call a1G [(.t 50)]⟩,
  ⟨some 9, none, .p (.mv (.t 51))⟩]
def c4M : List AIns := [⟨some 52, none, .p (.mv (.t 1))⟩,
  ⟨some 53, none, .p (.mv (.t 9))⟩,
  ⟨some 54, none, .call b8o [(.t 52), (.t 53)]⟩,
  ⟨some 10, none, .p (.mv (.t 54))⟩]
def c4L : List AIns := [⟨some 55, none, .p (.mv (.t 0))⟩,
  ⟨some 56, none, .p (.mv (.t 9))⟩,
  ⟨some 57, none, .call b8o [(.t 55), (.t 56)]⟩,
  ⟨some 58, none, .e (.bsl 1 [(.c (.int .u32 0)), (.c (.int .u32 0))])⟩,
  ⟨some 59, none, .e (.app 1 4 false (.t 57) (.t 58))⟩,
  ⟨some 60, none, .p (.mv (.t 0))⟩,
  ⟨some 61, none, .p (.len (.t 60))⟩,
  ⟨some 62, none, .p (.bin .add (.t 61) (.c (.int .i64 1)))⟩,
  ⟨some 63, none, .p (.slc 1 (.t 59) none (some (.t 62)) none)⟩,
  ⟨some 11, none, .p (.mv (.t 63))⟩]
def c4K : List AIns := [⟨some 64, none, .p (.mv (.t 0))⟩,
  ⟨some 65, none, .p (.len (.t 64))⟩,
  ⟨some 66, none, .p (.mv (.t 1))⟩,
  ⟨some 67, none, .p (.len (.t 66))⟩,
  ⟨some 68, none, .p (.bin .sub (.t 65) (.t 67))⟩,
  ⟨some 69, none, .p (.bin .add (.t 68) (.c (.int .i64 1)))⟩,
  ⟨some 70, none, .e (.mksl 1 4 (.int .u32 0) (.t 69) (.t 69))⟩,
  ⟨some 12, none, .p (.mv (.t 70))⟩]
def c4J : List AIns := [⟨some 71, none, .p (.mv (.t 0))⟩,
  ⟨some 72, none, .p (.len (.t 71))⟩,
  ⟨some 73, none, .p (.mv (.t 1))⟩,
  ⟨some 74, none, .p (.len (.t 73))⟩,
  ⟨some 75, none, .p (.bin .sub (.t 72) (.t 74))⟩,
  ⟨some 13, none, .p (.mv (.t 75))⟩]
def b4x : List AIns := [⟨some 76, none, .p (.mv (.t 13))⟩,
  ⟨some 77, none, .p (.bin .geq (.t 76) (.c (.int .i64 0)))⟩]
def c4I : List AIns := [⟨some 80, none, .p (.mv (.t 12))⟩,
  ⟨some 81, none, .p (.mv (.t 13))⟩,
  ⟨some 82, none, .p (.mv (.t 11))⟩,
  ⟨some 83, none, .p (.mv (.t 13))⟩,
  ⟨some 84, none, .p (.mv (.t 13))⟩,
  ⟨some 85, none, .p (.mv (.t 10))⟩,
  ⟨some 86, none, .p (.len (.t 85))⟩,
  ⟨some 87, none, .p (.bin .add (.t 84) (.t 86))⟩,
  ⟨some 88, none, .p (.bin .add (.t 87) (.c (.int .i64 1)))⟩,
  ⟨some 89, none, .p (.slc 1 (.t 82) (some (.t 83)) (some (.t 88)) none)⟩,
  ⟨some 90, none, .p (.mv (.t 10))⟩,
  ⟨some 91, none, .call a9R [(.t 89), (.t 90)]⟩,
  ⟨some 92, none, .p (.idxp 1 (.t 80) (.t 81))⟩,
  ⟨none, none, .e (.store 1 (.t 92) (.t 91))⟩]
def c4H : List AIns := [⟨some 78, none, .p (.mv (.t 13))⟩,
  ⟨some 79, none, .p (.bin .sub (.t 78) (.c (.int .i64 1)))⟩,
  ⟨some 13, none, .p (.mv (.t 79))⟩]
def d7R : ACode := .seq (.seq (.region b4x false) (.cond (.t 77) (.skip) (.exit 1))) (.seq (.block 2 (.region c4I false)) (.region c4H false))
def c4G : List AIns := [⟨some 93, none, .p (.mv (.t 12))⟩,
  ⟨some 94, none, .call a0r [(.t 93)]⟩,
  ⟨some 95, none, .p (.mv (.t 11))⟩,
  ⟨some 96, none, .call a0r [(.t 95)]⟩,
  ⟨some 97, none, .p (.mv (.t 9))⟩,
  ⟨some 98, none, .call b8n [(.t 96), (.t 97)]⟩,
  ⟨some 4, none, .p (.mv (.t 94))⟩,
  ⟨some 5, none, .p (.mv (.t 98))⟩,
  ⟨some 6, none, .p (.mv (.c (.int .i64 0)))⟩]
def d9F : ACode := .seq (.region c7M false) (.seq (.region c7L false) (.seq (.block 0 (.seq (.region c7K false) (.cond (.t 18) (.seq (.region d7P false) (.ret)) (.seq (.region c7J false) (.cond (.t 22) (.seq (.region c7I false) (.ret)) (.seq (.region b8R false) (.cond (.t 29) (.seq (.region c7H false) (.seq (.region c7G false) (.ret))) (.skip)))))))) (.seq (.region c7F false) (.seq (.region c4M false) (.seq (.region c4L false) (.seq (.region c4K false) (.seq (.seq (.region c4J false) (.block 1 (.loop d7R))) (.seq (.region c4G false) (.ret)))))))))
theorem d7Q : fchk Pr (fun _ _ => false) Try.f104 = some (d9F, [.tmp 4, .tmp 5, .tmp 6], 99) := by kernel_rfl
theorem d7S : Pr.funcs[b8p]? = some Try.f104 := Try.func104
def b6a : List AIns := [⟨some 1, none, .e (.box 2 (.t 0))⟩,
  ⟨some 2, none, .e (.box 2 (.c (.agg [.bool false, .nil])))⟩]
def b5Z : List AIns := [⟨some 3, none, .p (.fldp (.t 1) 0)⟩,
  ⟨some 4, none, .p (.load none (.t 3))⟩,
  ⟨some 5, none, .p (.fldp (.t 1) 1)⟩,
  ⟨some 6, none, .p (.load none (.t 5))⟩,
  ⟨some 7, none, .call a1j [(.t 4), (.t 6)]⟩,
  ⟨none, none, .e (.store 2 (.t 2) (.t 7))⟩]
def d1p : ACode := .seq (.region b6a false) (.seq (.region b5Z false) (.ret))
theorem c9h : fchk Pr (fun _ _ => false) Try.f105 = some (d1p, [.cell 2 (some 2)], 8) := by kernel_rfl
theorem c9i : Pr.funcs[a3t]? = some Try.f105 := Try.func105
def b9O : List AIns := [⟨some 0, none, .e (.box 2 (.c (.agg [.bool false, .nil])))⟩]
def b9N : List AIns := [⟨some 1, none, .call a3s [(.c (.int .i64 1))]⟩,
  ⟨none, none, .e (.store 2 (.t 0) (.t 1))⟩]
def d3Q : ACode := .seq (.region b9O false) (.seq (.region b9N false) (.ret))
theorem d0Y : fchk Pr (fun _ _ => false) Try.f106 = some (d3Q, [.cell 0 (some 2)], 2) := by kernel_rfl
theorem d0Z : Pr.funcs[b4P]? = some Try.f106 := Try.func106
def b5P : List AIns := [⟨some 2, none, .e (.box 2 (.t 0))⟩,
  ⟨some 3, none, .e (.box 2 (.t 1))⟩,
  ⟨some 4, none, .e (.box 4 (.c (.agg [.bool false, .nil, .bool false, .nil])))⟩]
def b5O : List AIns := [⟨some 14, none, .p (.load (some 2) (.t 2))⟩,
  ⟨some 15, none, .call a3t [(.t 14)]⟩,
  ⟨some 5, none, .e (.box 2 (.c (.agg [.bool false, .nil])))⟩,
  ⟨none, none, .e (.store 2 (.t 5) (.t 15))⟩]
def b5N : List AIns := [⟨some 16, none, .p (.load (some 2) (.t 3))⟩,
  ⟨some 17, none, .call a3t [(.t 16)]⟩,
  ⟨some 6, none, .e (.box 2 (.c (.agg [.bool false, .nil])))⟩,
  ⟨none, none, .e (.store 2 (.t 6) (.t 17))⟩]
def b5M : List AIns := [⟨some 18, none, .p (.load (some 2) (.t 6))⟩,
  ⟨some 19, none, .call a2z [(.t 18)]⟩,
  ⟨some 20, none, .p (.bin .lss (.t 19) (.c (.int .i64 0)))⟩]
def b5L : List AIns := [⟨some 21, none, .p (.load (some 2) (.t 5))⟩,
  ⟨some 22, none, .call a4s [(.t 21)]⟩,
  ⟨none, none, .e (.store 2 (.t 5) (.t 22))⟩]
def b5K : List AIns := [⟨some 23, none, .p (.load (some 2) (.t 6))⟩,
  ⟨some 24, none, .call a4s [(.t 23)]⟩,
  ⟨none, none, .e (.store 2 (.t 6) (.t 24))⟩]
def a8H : List AIns := [⟨some 25, none, .p (.fldp (.t 5) 1)⟩,
  ⟨some 26, none, .p (.load none (.t 25))⟩,
  ⟨some 27, none, .p (.fldp (.t 6) 1)⟩,
  ⟨some 28, none, .p (.load none (.t 27))⟩,
  ⟨some 29, none, .call a9P [(.t 26), (.t 28)]⟩,
  ⟨some 7, none, .p (.mv (.t 29))⟩]
def a8G : List AIns := [⟨some 31, none, .p (.fldp (.t 5) 1)⟩,
  ⟨some 32, none, .p (.load none (.t 31))⟩,
  ⟨some 33, none, .p (.mv (.t 7))⟩,
  ⟨some 34, none, .call a3i [(.t 32), (.t 33)]⟩,
  ⟨some 30, none, .p (.mv (.t 34))⟩,
  ⟨some 35, none, .p (.ext (.t 30) 0)⟩,
  ⟨some 36, none, .p (.ext (.t 30) 1)⟩,
  ⟨some 37, none, .p (.ext (.t 30) 2)⟩,
  ⟨some 8, none, .p (.mv (.t 35))⟩,
  ⟨some 9, none, .p (.mv (.t 36))⟩,
  ⟨some 10, none, .p (.mv (.t 37))⟩]
def a8F : List AIns := [⟨some 39, none, .p (.fldp (.t 6) 1)⟩,
  ⟨some 40, none, .p (.load none (.t 39))⟩,
  ⟨some 41, none, .p (.mv (.t 7))⟩,
  ⟨some 42, none, .call a3i [(.t 40), (.t 41)]⟩,
  ⟨some 38, none, .p (.mv (.t 42))⟩,
  ⟨some 43, none, .p (.ext (.t 38) 0)⟩,
  ⟨some 44, none, .p (.ext (.t 38) 1)⟩,
  ⟨some 45, none, .p (.ext (.t 38) 2)⟩,
  ⟨some 11, none, .p (.mv (.t 43))⟩,
  ⟨some 12, none, .p (.mv (.t 44))⟩,
  ⟨some 13, none, .p (.mv (.t 45))⟩]
def a8E : List AIns := [⟨some 46, none, .p (.fldp (.t 5) 0)⟩,
  ⟨some 47, none, .p (.load none (.t 46))⟩,
  ⟨some 48, none, .p (.mv (.t 8))⟩,
  ⟨some 49, none, .p (.bld [.bool false, .nil] [(0, 1, (.t 47)), (1, 1, (.t 48))])⟩,
  ⟨some 50, none, .call a3t [(.t 49)]⟩,
  ⟨some 51, none, .p (.mv (.t 11))⟩,
  ⟨some 52, none, .p (.bld [.bool false, .nil] [(1, 1, (.t 51))])⟩,
  ⟨some 53, none, .p (.bld [.bool false, .nil, .bool false, .nil] [(0, 2, (.t 50)), (2, 2, (.t 52))])⟩,
  ⟨none, none, .e (.store 4 (.t 4) (.t 53))⟩]
def d1g : ACode := .seq (.region b5P false) (.seq (.region b5O false) (.seq (.region b5N false) (.seq (.seq (.region b5M false) (.cond (.t 20) (.seq (.region b5L false) (.region b5K false)) (.skip))) (.seq (.region a8H false) (.seq (.region a8G false) (.seq (.region a8F false) (.seq (.region a8E false) (.ret))))))))
theorem c9b : fchk Pr (fun _ _ => false) Try.f107 = some (d1g, [.cell 4 (some 4)], 54) := by kernel_rfl
theorem c9c : Pr.funcs[a2y]? = some Try.f107 := Try.func107
def c0e : List AIns := [⟨some 1, none, .e (.box 2 (.t 0))⟩,
  ⟨some 2, none, .e (.box 2 (.c (.agg [.bool false, .nil])))⟩]
def c0d : List AIns := [⟨some 3, none, .p (.fldp (.t 1) 0)⟩,
  ⟨some 4, none, .p (.load none (.t 3))⟩,
  ⟨some 5, none, .p (.un .not (.t 4))⟩,
  ⟨some 6, none, .p (.fldp (.t 1) 1)⟩,
  ⟨some 7, none, .p (.load none (.t 6))⟩,
  ⟨some 8, none, .call a1j [(.t 5), (.t 7)]⟩,
  ⟨none, none, .e (.store 2 (.t 2) (.t 8))⟩]
def d4b : ACode := .seq (.region c0e false) (.seq (.region c0d false) (.ret))
theorem d1q : fchk Pr (fun _ _ => false) Try.f108 = some (d4b, [.cell 2 (some 2)], 9) := by kernel_rfl
theorem d1r : Pr.funcs[a4s]? = some Try.f108 := Try.func108
def a6S : List AIns := [⟨some 2, none, .p (.mv (.c (.int .i64 0)))⟩]
def a6R : List AIns := [⟨some 3, none, .p (.mv (.t 0))⟩,
  ⟨some 4, none, .p (.bin .geq (.t 3) (.c (.int .u32 65536)))⟩]
def a6Q : List AIns := [⟨some 5, none, .p (.mv (.t 0))⟩,
  ⟨some 6, none, .p (.bin .shr (.t 5) (.c (.int .u64 16)))⟩,
  ⟨some 0, none, .p (.mv (.t 6))⟩]
def a6P : List AIns := [⟨some 2, none, .p (.mv (.c (.int .i64 16)))⟩]
def a3L : List AIns := [⟨some 7, none, .p (.mv (.t 0))⟩,
  ⟨some 8, none, .p (.bin .geq (.t 7) (.c (.int .u32 256)))⟩]
def a3K : List AIns := [⟨some 9, none, .p (.mv (.t 0))⟩,
  ⟨some 10, none, .p (.bin .shr (.t 9) (.c (.int .u64 8)))⟩,
  ⟨some 0, none, .p (.mv (.t 10))⟩]
def a3J : List AIns := [⟨some 11, none, .p (.mv (.t 2))⟩,
  ⟨some 12, none, .p (.bin .add (.t 11) (.c (.int .i64 8)))⟩,
  ⟨some 2, none, .p (.mv (.t 12))⟩]
def a2k : List AIns := [⟨some 13, none, .p (.mv (.t 2))⟩,
  ⟨some 14, none, .p (.mv (.t 0))⟩,
  ⟨some 15, none, .p (.conv .u8 (.t 14))⟩,
  ⟨some 16, none, .p (.idxs (.c (.str e1v)) (.t 15))⟩,
  ⟨some 17, none, .p (.conv .i64 (.t 16))⟩,
  ⟨some 18, none, .p (.bin .add (.t 13) (.t 17))⟩,
  ⟨some 2, none, .p (.mv (.t 18))⟩]
def b8Y : ACode := .seq (.region a6S false) (.seq (.seq (.region a6R false) (.cond (.t 4) (.seq (.region a6Q false) (.region a6P false)) (.skip))) (.seq (.seq (.region a3L false) (.cond (.t 8) (.seq (.region a3K false) (.region a3J false)) (.skip))) (.seq (.region a2k false) (.ret))))
theorem b7j : fchk Pr (fun _ _ => false) Try.f109 = some (b8Y, [.tmp 2], 19) := by kernel_rfl
theorem b7k : Pr.funcs[a1y]? = some Try.f109 := Try.func109
def b9Q : List AIns := [⟨some 2, none, .e (.box 4 (.t 0))⟩,
  ⟨some 3, none, .e (.box 4 (.t 1))⟩,
  ⟨some 4, none, .e (.box 4 (.c (.agg [.bool false, .nil, .bool false, .nil])))⟩]
def b9P : List AIns := [⟨some 5, none, .p (.load (some 4) (.t 2))⟩,
  ⟨some 6, none, .p (.load (some 4) (.t 3))⟩,
  ⟨some 7, none, .call a9L [(.t 6)]⟩,
  ⟨some 8, none, .call b4S [(.t 5), (.t 7)]⟩,
  ⟨none, none, .e (.store 4 (.t 4) (.t 8))⟩]
def d3R : ACode := .seq (.region b9Q false) (.seq (.region b9P true) (.ret))
theorem d1a : fchk Pr (fun _ _ => false) Try.f110 = some (d3R, [.cell 4 (some 4)], 9) := by kernel_rfl
theorem d1b : Pr.funcs[b4Q]? = some Try.f110 := Try.func110
def b6y : List AIns := [⟨some 2, none, .p (.mv (.c (.nil)))⟩]
def b6x : List AIns := [⟨some 6, none, .p (.mv (.t 0))⟩,
  ⟨some 7, none, .p (.len (.t 6))⟩,
  ⟨some 3, none, .p (.mv (.t 7))⟩]
def a8M : List AIns := [⟨some 8, none, .p (.mv (.t 3))⟩,
  ⟨some 9, none, .p (.bin .gtr (.t 8) (.c (.int .i64 0)))⟩,
  ⟨some 10, none, .p (.mv (.t 9))⟩,
  ⟨some 11, some (10, true), .p (.mv (.t 0))⟩,
  ⟨some 12, some (10, true), .p (.mv (.t 3))⟩,
  ⟨some 13, some (10, true), .p (.bin .sub (.t 12) (.c (.int .i64 1)))⟩,
  ⟨some 14, some (10, true), .p (.idxp 1 (.t 11) (.t 13))⟩,
  ⟨some 15, some (10, true), .p (.load none (.t 14))⟩,
  ⟨some 16, some (10, true), .p (.bin .eql (.t 15) (.c (.int .u32 0)))⟩,
  ⟨some 17, none, .p (.pick (.t 10) (.t 16) (.c (.bool false)))⟩]
def b6w : List AIns := [⟨some 18, none, .p (.mv (.t 3))⟩,
  ⟨some 19, none, .p (.bin .sub (.t 18) (.c (.int .i64 1)))⟩,
  ⟨some 3, none, .p (.mv (.t 19))⟩]
def b6z : ACode := .seq (.seq (.region a8M false) (.cond (.t 17) (.skip) (.exit 0))) (.block 1 (.region b6w false))
def a5u : List AIns := [⟨some 4, none, .p (.mv (.c (.nil)))⟩]
def a5t : List AIns := [⟨some 5, none, .p (.mv (.c (.int .i64 0)))⟩]
def a8L : List AIns := [⟨some 20, none, .p (.mv (.t 5))⟩,
  ⟨some 21, none, .p (.mv (.t 3))⟩,
  ⟨some 22, none, .p (.bin .lss (.t 20) (.t 21))⟩]
def b6v : List AIns := [⟨some 25, none, .p (.mv (.t 4))⟩,
  ⟨some 26, none, .p (.mv (.t 0))⟩,
  ⟨some 27, none, .p (.mv (.t 5))⟩,
  ⟨some 28, none, .p (.idxp 1 (.t 26) (.t 27))⟩,
  ⟨some 29, none, .p (.load none (.t 28))⟩,
  ⟨some 30, none, .e (.bsl 1 [(.t 29)])⟩,
  ⟨some 31, none, .e (.app 1 4 false (.t 25) (.t 30))⟩,
  ⟨some 4, none, .p (.mv (.t 31))⟩]
def b6u : List AIns := [⟨some 23, none, .p (.mv (.t 5))⟩,
  ⟨some 24, none, .p (.bin .add (.t 23) (.c (.int .i64 1)))⟩,
  ⟨some 5, none, .p (.mv (.t 24))⟩]
def a5v : ACode := .seq (.seq (.region a8L false) (.cond (.t 22) (.skip) (.exit 2))) (.seq (.block 3 (.region b6v false)) (.region b6u false))
def a3H : List AIns := [⟨some 32, none, .p (.mv (.t 4))⟩,
  ⟨some 2, none, .p (.mv (.t 32))⟩]
def d1N : ACode := .seq (.region b6y false) (.seq (.region b6x false) (.seq (.block 0 (.loop b6z)) (.seq (.region a5u false) (.seq (.seq (.region a5t false) (.block 2 (.loop a5v))) (.seq (.region a3H false) (.ret))))))
theorem c9r : fchk Pr (fun _ _ => false) Try.f111 = some (d1N, [.tmp 2], 33) := by kernel_rfl
theorem c9s : Pr.funcs[a0y]? = some Try.f111 := Try.func111
def c0q : List AIns := [⟨some 2, none, .e (.box 2 (.t 0))⟩,
  ⟨some 3, none, .e (.box 2 (.t 1))⟩,
  ⟨some 4, none, .e (.box 2 (.c (.agg [.bool false, .nil])))⟩]
def c0p : List AIns := [⟨some 9, none, .p (.fldp (.t 2) 0)⟩,
  ⟨some 10, none, .p (.load none (.t 9))⟩,
  ⟨some 11, none, .p (.fldp (.t 3) 0)⟩,
  ⟨some 12, none, .p (.load none (.t 11))⟩,
  ⟨some 13, none, .p (.beq false (.t 10) (.t 12))⟩]
def c0o : List AIns := [⟨some 14, none, .p (.fldp (.t 2) 0)⟩,
  ⟨some 15, none, .p (.load none (.t 14))⟩,
  ⟨some 16, none, .p (.fldp (.t 2) 1)⟩,
  ⟨some 17, none, .p (.load none (.t 16))⟩,
  ⟨some 18, none, .p (.fldp (.t 3) 1)⟩,
  ⟨some 19, none, .p (.load none (.t 18))⟩,
  ⟨some 20, none, .call a9Q [(.t 17), (.t 19)]⟩,
  ⟨some 21, none, .call a1j [(.t 15), (.t 20)]⟩,
  ⟨none, none, .e (.store 2 (.t 4) (.t 21))⟩]
def c0n : List AIns := [⟨some 22, none, .p (.fldp (.t 2) 1)⟩,
  ⟨some 23, none, .p (.load none (.t 22))⟩,
  ⟨some 24, none, .p (.fldp (.t 3) 1)⟩,
  ⟨some 25, none, .p (.load none (.t 24))⟩,
  ⟨some 26, none, .call a3j [(.t 23), (.t 25)]⟩,
  ⟨some 27, none, .p (.bin .geq (.t 26) (.c (.int .i64 0)))⟩]
def c0m : List AIns := [⟨some 29, none, .p (.fldp (.t 2) 1)⟩,
  ⟨some 30, none, .p (.load none (.t 29))⟩,
  ⟨some 31, none, .p (.fldp (.t 3) 1)⟩,
  ⟨some 32, none, .p (.load none (.t 31))⟩,
  ⟨some 33, none, .call a9O [(.t 30), (.t 32)]⟩,
  ⟨some 28, none, .p (.mv (.t 33))⟩,
  ⟨some 34, none, .p (.ext (.t 28) 0)⟩,
  ⟨some 35, none, .p (.ext (.t 28) 1)⟩,
  ⟨some 5, none, .p (.mv (.t 34))⟩,
  ⟨some 6, none, .p (.mv (.t 35))⟩]
def c0l : List AIns := [⟨some 36, none, .p (.fldp (.t 2) 0)⟩,
  ⟨some 37, none, .p (.load none (.t 36))⟩,
  ⟨some 38, none, .p (.mv (.t 5))⟩,
  ⟨some 39, none, .call a1j [(.t 37), (.t 38)]⟩,
  ⟨none, none, .e (.store 2 (.t 4) (.t 39))⟩]
def c0k : List AIns := [⟨some 41, none, .p (.fldp (.t 3) 1)⟩,
  ⟨some 42, none, .p (.load none (.t 41))⟩,
  ⟨some 43, none, .p (.fldp (.t 2) 1)⟩,
  ⟨some 44, none, .p (.load none (.t 43))⟩,
  ⟨some 45, none, .call a9O [(.t 42), (.t 44)]⟩,
  ⟨some 40, none, .p (.mv (.t 45))⟩,
  ⟨some 46, none, .p (.ext (.t 40) 0)⟩,
  ⟨some 47, none, .p (.ext (.t 40) 1)⟩,
  ⟨some 7, none, .p (.mv (.t 46))⟩,
  ⟨some 8, none, .p (.mv (.t 47))⟩]
def c0j : List AIns := [⟨some 48, none, .p (.fldp (.t 3) 0)⟩,
  ⟨some 49, none, .p (.load none (.t 48))⟩,
  ⟨some 50, none, .p (.mv (.t 7))⟩,
  ⟨some 51, none, .call a1j [(.t 49), (.t 50)]⟩,
  ⟨none, none, .e (.store 2 (.t 4) (.t 51))⟩]
def d4e : ACode := .seq (.region c0q false) (.seq (.seq (.region c0p false) (.cond (.t 13) (.seq (.region c0o true) (.ret)) (.skip))) (.seq (.seq (.region c0n false) (.cond (.t 27) (.seq (.region c0m false) (.seq (.region c0l false) (.ret))) (.skip))) (.seq (.region c0k false) (.seq (.region c0j false) (.ret)))))
theorem d1w : fchk Pr (fun _ _ => false) Try.f112 = some (d4e, [.cell 4 (some 2)], 52) := by kernel_rfl
theorem d1x : Pr.funcs[a4t]? = some Try.f112 := Try.func112
def c0X : List AIns := [⟨some 4, none, .p (.mv (.c (.nil)))⟩]
def c0W : List AIns := [⟨some 10, none, .p (.mv (.t 0))⟩,
  ⟨some 11, none, .call a0y [(.t 10)]⟩,
  ⟨some 5, none, .p (.mv (.t 11))⟩]
def c0V : List AIns := [⟨some 12, none, .p (.mv (.t 1))⟩,
  ⟨some 13, none, .call a0y [(.t 12)]⟩,
  ⟨some 6, none, .p (.mv (.t 13))⟩]
def b0Z : List AIns := [⟨some 14, none, .p (.mv (.t 6))⟩,
  ⟨some 15, none, .p (.len (.t 14))⟩,
  ⟨some 16, none, .p (.bin .gtr (.t 15) (.c (.int .i64 0)))⟩]
def c0U : List AIns := [⟨some 18, none, .p (.mv (.t 5))⟩,
  ⟨some 19, none, .p (.mv (.t 6))⟩,
  ⟨some 20, none, .call a3i [(.t 18), (.t 19)]⟩,
  ⟨some 17, none, .p (.mv (.t 20))⟩,
  ⟨some 21, none, .p (.ext (.t 17) 0)⟩,
  ⟨some 22, none, .p (.ext (.t 17) 1)⟩,
  ⟨some 23, none, .p (.ext (.t 17) 2)⟩,
  ⟨some 7, none, .p (.mv (.t 21))⟩,
  ⟨some 8, none, .p (.mv (.t 22))⟩,
  ⟨some 9, none, .p (.mv (.t 23))⟩]
def c0T : List AIns := [⟨some 24, none, .p (.mv (.t 6))⟩,
  ⟨some 5, none, .p (.mv (.t 24))⟩]
def c0S : List AIns := [⟨some 25, none, .p (.mv (.t 8))⟩,
  ⟨some 6, none, .p (.mv (.t 25))⟩]
def d1R : ACode := .seq (.seq (.region b0Z false) (.cond (.t 16) (.skip) (.exit 0))) (.block 1 (.seq (.region c0U false) (.seq (.region c0T false) (.region c0S false))))
def c0R : List AIns := [⟨some 26, none, .p (.mv (.t 5))⟩,
  ⟨some 4, none, .p (.mv (.t 26))⟩]
def d4j : ACode := .seq (.region c0X false) (.seq (.region c0W false) (.seq (.region c0V false) (.seq (.block 0 (.loop d1R)) (.seq (.region c0R false) (.ret)))))
theorem d1Q : fchk Pr (fun _ _ => false) Try.f113 = some (d4j, [.tmp 4], 27) := by kernel_rfl
theorem d1S : Pr.funcs[a9P]? = some Try.f113 := Try.func113
def c1f : List AIns := [⟨some 4, none, .p (.mv (.c (.nil)))⟩,
  ⟨some 5, none, .p (.mv (.c (.nil)))⟩,
  ⟨some 6, none, .p (.mv (.c (.int .i64 0)))⟩]
def c1e : List AIns := [⟨some 20, none, .p (.mv (.t 1))⟩,
  ⟨some 21, none, .call a0y [(.t 20)]⟩,
  ⟨some 7, none, .p (.mv (.t 21))⟩]
def c1d : List AIns := [⟨some 22, none, .p (.mv (.t 7))⟩,
  ⟨some 23, none, .p (.len (.t 22))⟩,
  ⟨some 24, none, .p (.bin .eql (.t 23) (.c (.int .i64 0)))⟩]
def d1T : List AIns := [⟨some 4, none, .p (.mv (.c (.nil)))⟩,
  ⟨some 5, none, .p (.mv (.c (.nil)))⟩,
  ⟨some 6, none, .p (.mv (.c (.int .i64 11)))⟩]
def b1a : List AIns := [⟨some 25, none, .p (.mv (.t 7))⟩,
  ⟨some 26, none, .p (.len (.t 25))⟩,
  ⟨some 27, none, .p (.bin .eql (.t 26) (.c (.int .i64 1)))⟩]
def c1c : List AIns := [⟨some 29, none, .p (.mv (.t 0))⟩,
  ⟨some 30, none, .p (.mv (.t 7))⟩,
  ⟨some 31, none, .p (.idxp 1 (.t 30) (.c (.int .i64 0)))⟩,
  ⟨some 32, none, .p (.load none (.t 31))⟩,
  ⟨some 33, none, .p (.conv .u64 (.t 32))⟩,
  ⟨some 34, none, .call a9N [(.t 29), (.t 33)]⟩,
  ⟨some 28, none, .p (.mv (.t 34))⟩,
  ⟨some 35, none, .p (.ext (.t 28) 0)⟩,
  ⟨some 36, none, .p (.ext (.t 28) 1)⟩,
  ⟨some 8, none, .p (.mv (.t 35))⟩,
  ⟨some 9, none, .p (.mv (.t 36))⟩]
def c1b : List AIns := [⟨some 37, none, .p (.mv (.t 8))⟩,
  ⟨some 38, none, .p (.mv (.t 9))⟩,
  ⟨some 39, none, .p (.conv .u32 (.t 38))⟩,
  ⟨some 40, none, .e (.bsl 1 [(.t 39)])⟩,
  ⟨some 41, none, .call a0y [(.t 40)]⟩,
  ⟨some 4, none, .p (.mv (.t 37))⟩,
  ⟨some 5, none, .p (.mv (.t 41))⟩,
  ⟨some 6, none, .p (.mv (.c (.int .i64 0)))⟩]
def c1a : List AIns := [⟨some 42, none, .p (.mv (.t 7))⟩,
  ⟨some 43, none, .p (.len (.t 42))⟩,
  ⟨some 44, none, .p (.bin .mul (.c (.int .i64 32)) (.t 43))⟩,
  ⟨some 45, none, .p (.mv (.t 7))⟩,
  ⟨some 46, none, .call a2B [(.t 45)]⟩,
  ⟨some 47, none, .p (.bin .sub (.t 44) (.t 46))⟩,
  ⟨some 48, none, .call b4U [(.t 47)]⟩,
  ⟨some 10, none, .p (.mv (.t 48))⟩]
def c0Z : List AIns := [⟨some 49, none, .p (.mv (.t 0))⟩,
  ⟨some 50, none, .p (.mv (.t 10))⟩,
  ⟨some 51, none, .call a2b [(.t 49), (.t 50)]⟩,
  ⟨some 11, none, .p (.mv (.t 51))⟩]
def c0Y : List AIns := [⟨some 52, none, .p (.mv (.t 7))⟩,
  ⟨some 53, none, .p (.mv (.t 10))⟩,
  ⟨some 54, none, .call a2b [(.t 52), (.t 53)]⟩,
  ⟨some 12, none, .p (.mv (.t 54))⟩]
def b6M : List AIns := [⟨some 55, none, .p (.mv (.t 11))⟩,
  ⟨some 56, none, .p (.len (.t 55))⟩,
  ⟨some 57, none, .e (.mksl 1 4 (.int .u32 0) (.t 56) (.t 56))⟩,
  ⟨some 13, none, .p (.mv (.t 57))⟩]
def b6L : List AIns := [⟨some 14, none, .p (.mv (.c (.nil)))⟩]
def b6K : List AIns := [⟨some 58, none, .p (.mv (.t 11))⟩,
  ⟨some 59, none, .p (.len (.t 58))⟩,
  ⟨some 60, none, .p (.bin .sub (.t 59) (.c (.int .i64 1)))⟩,
  ⟨some 15, none, .p (.mv (.t 60))⟩]
def a8U : List AIns := [⟨some 61, none, .p (.mv (.t 15))⟩,
  ⟨some 62, none, .p (.bin .geq (.t 61) (.c (.int .i64 0)))⟩]
def b6J : List AIns := [⟨some 65, none, .p (.mv (.t 11))⟩,
  ⟨some 66, none, .p (.mv (.t 15))⟩,
  ⟨some 67, none, .p (.idxp 1 (.t 65) (.t 66))⟩,
  ⟨some 68, none, .p (.load none (.t 67))⟩,
  ⟨some 69, none, .e (.bslm 1 [(.t 68)])⟩,
  ⟨some 70, none, .p (.mv (.t 14))⟩,
  ⟨some 71, none, .e (.app 1 4 false (.t 69) (.t 70))⟩,
  ⟨some 72, none, .call a0y [(.t 71)]⟩,
  ⟨some 14, none, .p (.mv (.t 72))⟩]
def b6I : List AIns := [⟨some 73, none, .p (.mv (.t 14))⟩,
  ⟨some 74, none, .p (.mv (.t 12))⟩,
  ⟨some 75, none, .call a3j [(.t 73), (.t 74)]⟩,
  ⟨some 76, none, .p (.bin .lss (.t 75) (.c (.int .i64 0)))⟩]
def b6H : List AIns := [⟨some 77, none, .p (.mv (.t 14))⟩,
  ⟨some 78, none, .p (.mv (.t 12))⟩,
  ⟨some 79, none, .p (.len (.t 78))⟩,
  ⟨some 80, none, .call a0P [(.t 77), (.t 79)]⟩,
  ⟨some 81, none, .p (.bin .mul (.t 80) (.c (.int .u64 4294967296)))⟩,
  ⟨some 82, none, .p (.mv (.t 14))⟩,
  ⟨some 83, none, .p (.mv (.t 12))⟩,
  ⟨some 84, none, .p (.len (.t 83))⟩,
  ⟨some 85, none, .p (.bin .sub (.t 84) (.c (.int .i64 1)))⟩,
  ⟨some 86, none, .call a0P [(.t 82), (.t 85)]⟩,
  ⟨some 87, none, .p (.bin .add (.t 81) (.t 86))⟩,
  ⟨some 88, none, .p (.mv (.t 12))⟩,
  ⟨some 89, none, .p (.mv (.t 12))⟩,
  ⟨some 90, none, .p (.len (.t 89))⟩,
  ⟨some 91, none, .p (.bin .sub (.t 90) (.c (.int .i64 1)))⟩,
  ⟨some 92, none, .call a0P [(.t 88), (.t 91)]⟩,
  ⟨some 93, none, .p (.bin .quo (.t 87) (.t 92))⟩,
  ⟨some 16, none, .p (.mv (.t 93))⟩]
def a8T : List AIns := [⟨some 94, none, .p (.mv (.t 16))⟩,
  ⟨some 95, none, .p (.bin .geq (.t 94) (.c (.int .u64 4294967296)))⟩]
def b6G : List AIns := [⟨some 16, none, .p (.mv (.c (.int .u64 4294967295)))⟩]
def a8S : List AIns := [⟨some 96, none, .p (.mv (.t 12))⟩,
  ⟨some 97, none, .p (.mv (.t 16))⟩,
  ⟨some 98, none, .p (.conv .u32 (.t 97))⟩,
  ⟨some 99, none, .e (.bsl 1 [(.t 98)])⟩,
  ⟨some 100, none, .call a2b [(.t 96), (.t 99)]⟩,
  ⟨some 17, none, .p (.mv (.t 100))⟩]
def b6F : List AIns := [⟨some 101, none, .p (.mv (.t 17))⟩,
  ⟨some 102, none, .p (.mv (.t 14))⟩,
  ⟨some 103, none, .call a3j [(.t 101), (.t 102)]⟩,
  ⟨some 104, none, .p (.bin .gtr (.t 103) (.c (.int .i64 0)))⟩]
def b6E : List AIns := [⟨some 105, none, .p (.mv (.t 16))⟩,
  ⟨some 106, none, .p (.bin .sub (.t 105) (.c (.int .u64 1)))⟩,
  ⟨some 16, none, .p (.mv (.t 106))⟩]
def b6D : List AIns := [⟨some 107, none, .p (.mv (.t 17))⟩,
  ⟨some 108, none, .p (.mv (.t 12))⟩,
  ⟨some 109, none, .call a2A [(.t 107), (.t 108)]⟩,
  ⟨some 17, none, .p (.mv (.t 109))⟩]
def c1g : ACode := .seq (.seq (.region b6F false) (.cond (.t 104) (.skip) (.exit 2))) (.block 3 (.seq (.region b6E false) (.region b6D false)))
def a8R : List AIns := [⟨some 110, none, .p (.mv (.t 13))⟩,
  ⟨some 111, none, .p (.mv (.t 15))⟩,
  ⟨some 112, none, .p (.mv (.t 16))⟩,
  ⟨some 113, none, .p (.conv .u32 (.t 112))⟩,
  ⟨some 114, none, .p (.idxp 1 (.t 110) (.t 111))⟩,
  ⟨none, none, .e (.store 1 (.t 114) (.t 113))⟩]
def a8Q : List AIns := [⟨some 115, none, .p (.mv (.t 14))⟩,
  ⟨some 116, none, .p (.mv (.t 17))⟩,
  ⟨some 117, none, .call a2A [(.t 115), (.t 116)]⟩,
  ⟨some 14, none, .p (.mv (.t 117))⟩]
def a5w : List AIns := [⟨some 63, none, .p (.mv (.t 15))⟩,
  ⟨some 64, none, .p (.bin .sub (.t 63) (.c (.int .i64 1)))⟩,
  ⟨some 15, none, .p (.mv (.t 64))⟩]
def c1h : ACode := .seq (.seq (.region a8U false) (.cond (.t 62) (.skip) (.exit 0))) (.seq (.block 1 (.seq (.region b6J false) (.seq (.seq (.region b6I false) (.cond (.t 76) (.exit 1) (.skip))) (.seq (.region b6H false) (.seq (.seq (.region a8T false) (.cond (.t 95) (.region b6G false) (.skip))) (.seq (.region a8S false) (.seq (.block 2 (.loop c1g)) (.seq (.region a8R false) (.region a8Q false))))))))) (.region a5w false))
def a8P : List AIns := [⟨some 119, none, .p (.mv (.t 14))⟩,
  ⟨some 120, none, .p (.mv (.t 7))⟩,
  ⟨some 121, none, .p (.len (.t 120))⟩,
  ⟨some 122, none, .p (.bin .mul (.c (.int .i64 32)) (.t 121))⟩,
  ⟨some 123, none, .p (.mv (.t 7))⟩,
  ⟨some 124, none, .call a2B [(.t 123)]⟩,
  ⟨some 125, none, .p (.bin .sub (.t 122) (.t 124))⟩,
  ⟨some 126, none, .call b4V [(.t 119), (.t 125)]⟩,
  ⟨some 118, none, .p (.mv (.t 126))⟩,
  ⟨some 127, none, .p (.ext (.t 118) 0)⟩,
  ⟨some 128, none, .p (.ext (.t 118) 1)⟩,
  ⟨some 18, none, .p (.mv (.t 127))⟩,
  ⟨some 19, none, .p (.mv (.t 128))⟩]
def a8O : List AIns := [⟨some 129, none, .p (.mv (.t 13))⟩,
  ⟨some 130, none, .call a0y [(.t 129)]⟩,
  ⟨some 131, none, .p (.mv (.t 18))⟩,
  ⟨some 4, none, .p (.mv (.t 130))⟩,
  ⟨some 5, none, .p (.mv (.t 131))⟩,
  ⟨some 6, none, .p (.mv (.c (.int .i64 0)))⟩]
def d4k : ACode := .seq (.region c1f false) (.seq (.region c1e false) (.seq (.seq (.region c1d false) (.cond (.t 24) (.seq (.region d1T false) (.ret)) (.skip))) (.seq (.seq (.region b1a false) (.cond (.t 27) (.seq (.region c1c false) (.seq (.region c1b false) (.ret))) (.skip))) (.seq (.region c1a false) (.seq (.region c0Z false) (.seq (.region c0Y false) (.seq (.region b6M false) (.seq (.region b6L false) (.seq (.seq (.region b6K false) (.block 0 (.loop c1h))) (.seq (.region a8P false) (.seq (.region a8O false) (.ret))))))))))))
theorem d1U : fchk Pr (fun _ k => (k == 4)) Try.f114 = some (d4k, [.tmp 4, .tmp 5, .tmp 6], 132) := by kernel_rfl
theorem d1V : Pr.funcs[a3i]? = some Try.f114 := Try.func114
def c0O : List AIns := [⟨some 4, none, .p (.mv (.c (.nil)))⟩]
def c0N : List AIns := [⟨some 9, none, .p (.mv (.t 0))⟩,
  ⟨some 10, none, .p (.len (.t 9))⟩,
  ⟨some 11, none, .p (.mv (.t 1))⟩,
  ⟨some 12, none, .p (.len (.t 11))⟩,
  ⟨some 13, none, .p (.bin .add (.t 10) (.t 12))⟩,
  ⟨some 14, none, .e (.mksl 1 4 (.int .u32 0) (.t 13) (.t 13))⟩,
  ⟨some 5, none, .p (.mv (.t 14))⟩]
def c0M : List AIns := [⟨some 6, none, .p (.mv (.c (.int .i64 0)))⟩]
def b0Y : List AIns := [⟨some 15, none, .p (.mv (.t 6))⟩,
  ⟨some 16, none, .p (.mv (.t 0))⟩,
  ⟨some 17, none, .p (.len (.t 16))⟩,
  ⟨some 18, none, .p (.bin .lss (.t 15) (.t 17))⟩]
def c0L : List AIns := [⟨some 7, none, .p (.mv (.c (.int .u64 0)))⟩]
def c0K : List AIns := [⟨some 8, none, .p (.mv (.c (.int .i64 0)))⟩]
def b0X : List AIns := [⟨some 21, none, .p (.mv (.t 8))⟩,
  ⟨some 22, none, .p (.mv (.t 1))⟩,
  ⟨some 23, none, .p (.len (.t 22))⟩,
  ⟨some 24, none, .p (.bin .lss (.t 21) (.t 23))⟩]
def c0J : List AIns := [⟨some 27, none, .p (.mv (.t 7))⟩,
  ⟨some 28, none, .p (.mv (.t 5))⟩,
  ⟨some 29, none, .p (.mv (.t 6))⟩,
  ⟨some 30, none, .p (.mv (.t 8))⟩,
  ⟨some 31, none, .p (.bin .add (.t 29) (.t 30))⟩,
  ⟨some 32, none, .p (.idxp 1 (.t 28) (.t 31))⟩,
  ⟨some 33, none, .p (.load none (.t 32))⟩,
  ⟨some 34, none, .p (.conv .u64 (.t 33))⟩,
  ⟨some 35, none, .p (.bin .add (.t 27) (.t 34))⟩,
  ⟨some 36, none, .p (.mv (.t 0))⟩,
  ⟨some 37, none, .p (.mv (.t 6))⟩,
  ⟨some 38, none, .p (.idxp 1 (.t 36) (.t 37))⟩,
  ⟨some 39, none, .p (.load none (.t 38))⟩,
  ⟨some 40, none, .p (.conv .u64 (.t 39))⟩,
  ⟨some 41, none, .p (.mv (.t 1))⟩,
  ⟨some 42, none, .p (.mv (.t 8))⟩,
  ⟨some 43, none, .p (.idxp 1 (.t 41) (.t 42))⟩,
  ⟨some 44, none, .p (.load none (.t 43))⟩,
  ⟨some 45, none, .p (.conv .u64 (.t 44))⟩,
  ⟨some 46, none, .p (.bin .mul (.t 40) (.t 45))⟩,
  ⟨some 47, none, .p (.bin .add (.t 35) (.t 46))⟩,
  ⟨some 7, none, .p (.mv (.t 47))⟩]
def c0I : List AIns := [⟨some 48, none, .p (.mv (.t 5))⟩,
  ⟨some 49, none, .p (.mv (.t 6))⟩,
  ⟨some 50, none, .p (.mv (.t 8))⟩,
  ⟨some 51, none, .p (.bin .add (.t 49) (.t 50))⟩,
  ⟨some 52, none, .p (.mv (.t 7))⟩,
  ⟨some 53, none, .p (.bin .rem (.t 52) (.c (.int .u64 4294967296)))⟩,
  ⟨some 54, none, .p (.conv .u32 (.t 53))⟩,
  ⟨some 55, none, .p (.idxp 1 (.t 48) (.t 51))⟩,
  ⟨none, none, .e (.store 1 (.t 55) (.t 54))⟩]
def c0H : List AIns := [⟨some 56, none, .p (.mv (.t 7))⟩,
  ⟨some 57, none, .p (.bin .quo (.t 56) (.c (.int .u64 4294967296)))⟩,
  ⟨some 7, none, .p (.mv (.t 57))⟩]
def b6C : List AIns := [⟨some 25, none, .p (.mv (.t 8))⟩,
  ⟨some 26, none, .p (.bin .add (.t 25) (.c (.int .i64 1)))⟩,
  ⟨some 8, none, .p (.mv (.t 26))⟩]
def c0P : ACode := .seq (.seq (.region b0X false) (.cond (.t 24) (.skip) (.exit 2))) (.seq (.block 3 (.seq (.region c0J true) (.seq (.region c0I false) (.region c0H false)))) (.region b6C false))
def b6B : List AIns := [⟨some 58, none, .p (.mv (.t 5))⟩,
  ⟨some 59, none, .p (.mv (.t 6))⟩,
  ⟨some 60, none, .p (.mv (.t 1))⟩,
  ⟨some 61, none, .p (.len (.t 60))⟩,
  ⟨some 62, none, .p (.bin .add (.t 59) (.t 61))⟩,
  ⟨some 63, none, .p (.mv (.t 7))⟩,
  ⟨some 64, none, .p (.conv .u32 (.t 63))⟩,
  ⟨some 65, none, .p (.idxp 1 (.t 58) (.t 62))⟩,
  ⟨none, none, .e (.store 1 (.t 65) (.t 64))⟩]
def b6A : List AIns := [⟨some 19, none, .p (.mv (.t 6))⟩,
  ⟨some 20, none, .p (.bin .add (.t 19) (.c (.int .i64 1)))⟩,
  ⟨some 6, none, .p (.mv (.t 20))⟩]
def c0Q : ACode := .seq (.seq (.region b0Y false) (.cond (.t 18) (.skip) (.exit 0))) (.seq (.block 1 (.seq (.region c0L false) (.seq (.seq (.region c0K false) (.block 2 (.loop c0P))) (.region b6B false)))) (.region b6A false))
def a8N : List AIns := [⟨some 66, none, .p (.mv (.t 5))⟩,
  ⟨some 67, none, .call a0y [(.t 66)]⟩,
  ⟨some 4, none, .p (.mv (.t 67))⟩]
def d4i : ACode := .seq (.region c0O false) (.seq (.region c0N false) (.seq (.seq (.region c0M false) (.block 0 (.loop c0Q))) (.seq (.region a8N false) (.ret))))
theorem d1O : fchk Pr (fun _ _ => false) Try.f115 = some (d4i, [.tmp 4], 68) := by kernel_rfl
theorem d1P : Pr.funcs[a2b]? = some Try.f115 := Try.func115
def c7E : List AIns := [⟨some 4, none, .p (.mv (.c (.nil)))⟩]
def c7D : List AIns := [⟨some 10, none, .p (.mv (.t 0))⟩,
  ⟨some 11, none, .call a8p [(.t 10)]⟩,
  ⟨some 12, none, .p (.mv (.t 1))⟩,
  ⟨some 13, none, .call a8p [(.t 12)]⟩,
  ⟨some 5, none, .p (.mv (.t 11))⟩,
  ⟨some 6, none, .p (.mv (.t 13))⟩]
def b8Q : List AIns := [⟨some 14, none, .p (.mv (.t 6))⟩,
  ⟨some 15, none, .p (.len (.t 14))⟩,
  ⟨some 16, none, .p (.bin .gtr (.t 15) (.c (.int .i64 0)))⟩]
def c7C : List AIns := [⟨some 18, none, .p (.mv (.t 5))⟩,
  ⟨some 19, none, .p (.mv (.t 6))⟩,
  ⟨some 20, none, .call b8p [(.t 18), (.t 19)]⟩,
  ⟨some 17, none, .p (.mv (.t 20))⟩,
  ⟨some 21, none, .p (.ext (.t 17) 0)⟩,
  ⟨some 22, none, .p (.ext (.t 17) 1)⟩,
  ⟨some 23, none, .p (.ext (.t 17) 2)⟩,
  ⟨some 7, none, .p (.mv (.t 21))⟩,
  ⟨some 8, none, .p (.mv (.t 22))⟩,
  ⟨some 9, none, .p (.mv (.t 23))⟩]
def c7B : List AIns := [⟨some 24, none, .p (.mv (.t 6))⟩,
  ⟨some 25, none, .p (.mv (.t 8))⟩,
  ⟨some 5, none, .p (.mv (.t 24))⟩,
  ⟨some 6, none, .p (.mv (.t 25))⟩]
def d7N : ACode := .seq (.seq (.region b8Q false) (.cond (.t 16) (.skip) (.exit 0))) (.block 1 (.seq (.region c7C false) (.region c7B false)))
def c7A : List AIns := [⟨some 26, none, .p (.mv (.t 5))⟩,
  ⟨some 4, none, .p (.mv (.t 26))⟩]
def d9E : ACode := .seq (.region c7E false) (.seq (.region c7D false) (.seq (.block 0 (.loop d7N)) (.seq (.region c7A false) (.ret))))
theorem d7M : fchk Pr (fun _ _ => false) Try.f117 = some (d9E, [.tmp 4], 27) := by kernel_rfl
theorem d7O : Pr.funcs[c6d]? = some Try.f117 := Try.func117
def c8c : List AIns := [⟨some 4, none, .p (.mv (.c (.nil)))⟩]
def c8b : List AIns := [⟨some 8, none, .p (.mv (.t 0))⟩,
  ⟨some 9, none, .p (.len (.t 8))⟩,
  ⟨some 10, none, .p (.mv (.t 1))⟩,
  ⟨some 11, none, .p (.len (.t 10))⟩,
  ⟨some 12, none, .p (.bin .lss (.t 9) (.t 11))⟩]
def c8a : List AIns := [⟨some 13, none, .p (.mv (.t 1))⟩,
  ⟨some 14, none, .p (.mv (.t 0))⟩,
  ⟨some 0, none, .p (.mv (.t 13))⟩,
  ⟨some 1, none, .p (.mv (.t 14))⟩]
def b8W : List AIns := [⟨some 15, none, .p (.mv (.t 0))⟩,
  ⟨some 16, none, .p (.len (.t 15))⟩,
  ⟨some 17, none, .p (.bin .add (.t 16) (.c (.int .i64 1)))⟩,
  ⟨some 18, none, .e (.mksl 1 4 (.int .u32 0) (.t 17) (.t 17))⟩,
  ⟨some 5, none, .p (.mv (.t 18))⟩]
def b8V : List AIns := [⟨some 6, none, .p (.mv (.c (.int .u64 0)))⟩]
def b8U : List AIns := [⟨some 19, none, .p (.mv (.t 0))⟩,
  ⟨some 20, none, .p (.len (.t 19))⟩,
  ⟨some 21, none, .p (.mv (.c (.int .i64 0)))⟩]
def b8T : List AIns := [⟨some 22, none, .p (.bin .lss (.t 21) (.t 20))⟩]
def c7Z : List AIns := [⟨some 23, none, .p (.mv (.t 21))⟩,
  ⟨some 7, none, .p (.mv (.t 23))⟩]
def c7Y : List AIns := [⟨some 24, none, .p (.mv (.t 6))⟩,
  ⟨some 25, none, .p (.mv (.t 0))⟩,
  ⟨some 26, none, .p (.mv (.t 7))⟩,
  ⟨some 27, none, .p (.idxp 1 (.t 25) (.t 26))⟩,
  ⟨some 28, none, .p (.load none (.t 27))⟩,
  ⟨some 29, none, .p (.conv .u64 (.t 28))⟩,
  ⟨some 30, none, .p (.bin .add (.t 24) (.t 29))⟩,
  ⟨some 6, none, .p (.mv (.t 30))⟩]
def c7X : List AIns := [⟨some 31, none, .p (.mv (.t 7))⟩,
  ⟨some 32, none, .p (.mv (.t 1))⟩,
  ⟨some 33, none, .p (.len (.t 32))⟩,
  ⟨some 34, none, .p (.bin .lss (.t 31) (.t 33))⟩]
def c4V : List AIns := [⟨some 35, none, .p (.mv (.t 6))⟩,
  ⟨some 36, none, .p (.mv (.t 1))⟩,
  ⟨some 37, none, .p (.mv (.t 7))⟩,
  ⟨some 38, none, .p (.idxp 1 (.t 36) (.t 37))⟩,
  ⟨some 39, none, .p (.load none (.t 38))⟩,
  ⟨some 40, none, .p (.conv .u64 (.t 39))⟩,
  ⟨some 41, none, .p (.bin .add (.t 35) (.t 40))⟩,
  ⟨some 6, none, .p (.mv (.t 41))⟩]
def b4B : List AIns := [⟨some 42, none, .p (.mv (.t 5))⟩,
  ⟨some 43, none, .p (.mv (.t 7))⟩,
  ⟨some 44, none, .p (.mv (.t 6))⟩,
  ⟨some 45, none, .p (.conv .u32 (.t 44))⟩,
  ⟨some 46, none, .p (.idxp 1 (.t 42) (.t 43))⟩,
  ⟨none, none, .e (.store 1 (.t 46) (.t 45))⟩]
def b4A : List AIns := [⟨some 47, none, .p (.mv (.t 6))⟩,
  ⟨some 48, none, .p (.bin .shr (.t 47) (.c (.int .u64 32)))⟩,
  ⟨some 6, none, .p (.mv (.t 48))⟩]
def b4z : List AIns := [⟨some 49, none, .p (.bin .add (.t 21) (.c (.int .i64 1)))⟩,
  ⟨some 21, none, .p (.mv (.t 49))⟩]
def b2a : ACode := .seq (.region b8T false) (.seq (.cond (.t 22) (.skip) (.exit 0)) (.seq (.block 1 (.seq (.region c7Z false) (.seq (.region c7Y false) (.seq (.seq (.region c7X false) (.cond (.t 34) (.region c4V false) (.skip))) (.seq (.region b4B false) (.region b4A false)))))) (.region b4z false)))
def a6a : List AIns := [⟨some 50, none, .p (.mv (.t 5))⟩,
  ⟨some 51, none, .p (.mv (.t 0))⟩,
  ⟨some 52, none, .p (.len (.t 51))⟩,
  ⟨some 53, none, .p (.mv (.t 6))⟩,
  ⟨some 54, none, .p (.conv .u32 (.t 53))⟩,
  ⟨some 55, none, .p (.idxp 1 (.t 50) (.t 52))⟩,
  ⟨none, none, .e (.store 1 (.t 55) (.t 54))⟩]
def a5Z : List AIns := [⟨some 56, none, .p (.mv (.t 5))⟩,
  ⟨some 57, none, .call a0r [(.t 56)]⟩,
  ⟨some 4, none, .p (.mv (.t 57))⟩]
def d9H : ACode := .seq (.region c8c false) (.seq (.seq (.region c8b false) (.cond (.t 12) (.region c8a false) (.skip))) (.seq (.region b8W false) (.seq (.region b8V false) (.seq (.seq (.region b8U false) (.block 0 (.loop b2a))) (.seq (.region a6a false) (.seq (.region a5Z false) (.ret)))))))
theorem d7W : fchk Pr (fun _ _ => false) Try.f118 = some (d9H, [.tmp 4], 58) := by kernel_rfl
theorem d7X : Pr.funcs[a8s]? = some Try.f118 := Try.func118
def c7p : List AIns := [⟨some 4, none, .p (.mv (.c (.nil)))⟩,
  ⟨some 5, none, .p (.mv (.c (.int .i64 0)))⟩]
def c7o : List AIns := [⟨some 6, none, .p (.mv (.t 0))⟩,
  ⟨some 7, none, .p (.mv (.t 1))⟩,
  ⟨some 8, none, .call a8r [(.t 6), (.t 7)]⟩,
  ⟨some 9, none, .p (.bin .lss (.t 8) (.c (.int .i64 0)))⟩]
def d7G : List AIns := [⟨some 4, none, .p (.mv (.c (.nil)))⟩,
  ⟨some 5, none, .p (.mv (.c (.int .i64 10)))⟩]
def c7n : List AIns := [⟨some 10, none, .p (.mv (.t 0))⟩,
  ⟨some 11, none, .call a0r [(.t 10)]⟩,
  ⟨some 12, none, .p (.mv (.t 1))⟩,
  ⟨some 13, none, .call a0r [(.t 12)]⟩,
  ⟨some 14, none, .call a8o [(.t 11), (.t 13)]⟩,
  ⟨some 4, none, .p (.mv (.t 14))⟩,
  ⟨some 5, none, .p (.mv (.c (.int .i64 0)))⟩]
def d9C : ACode := .seq (.region c7p false) (.seq (.seq (.region c7o false) (.cond (.t 9) (.seq (.region d7G false) (.ret)) (.skip))) (.seq (.region c7n false) (.ret)))
theorem d7H : fchk Pr (fun _ _ => false) Try.f119 = some (d9C, [.tmp 4, .tmp 5], 15) := by kernel_rfl
theorem d7I : Pr.funcs[c6c]? = some Try.f119 := Try.func119
def c4z : List AIns := [⟨some 2, none, .p (.mv (.c (.nil)))⟩]
def c4y : List AIns := [⟨some 3, none, .p (.mv (.t 0))⟩,
  ⟨some 4, none, .call a0r [(.t 3)]⟩,
  ⟨some 5, none, .e (.app 1 4 false (.c (.nil)) (.t 4))⟩,
  ⟨some 2, none, .p (.mv (.t 5))⟩]
def d7J : ACode := .seq (.region c4z false) (.seq (.region c4y false) (.ret))
theorem d4x : fchk Pr (fun _ _ => false) Try.f120 = some (d7J, [.tmp 2], 6) := by kernel_rfl
theorem d4y : Pr.funcs[a8p]? = some Try.f120 := Try.func120
def c1O : List AIns := [⟨some 4, none, .p (.mv (.c (.nil)))⟩,
  ⟨some 5, none, .p (.mv (.c (.int .u32 0)))⟩]
def c1N : List AIns := [⟨some 9, none, .p (.mv (.t 0))⟩,
  ⟨some 10, none, .p (.len (.t 9))⟩,
  ⟨some 11, none, .e (.mksl 1 4 (.int .u32 0) (.t 10) (.t 10))⟩,
  ⟨some 6, none, .p (.mv (.t 11))⟩]
def c1M : List AIns := [⟨some 7, none, .p (.mv (.c (.int .u64 0)))⟩]
def c1L : List AIns := [⟨some 12, none, .p (.mv (.t 0))⟩,
  ⟨some 13, none, .p (.len (.t 12))⟩,
  ⟨some 14, none, .p (.bin .sub (.t 13) (.c (.int .i64 1)))⟩,
  ⟨some 8, none, .p (.mv (.t 14))⟩]
def b1f : List AIns := [⟨some 15, none, .p (.mv (.t 8))⟩,
  ⟨some 16, none, .p (.bin .geq (.t 15) (.c (.int .i64 0)))⟩]
def c1K : List AIns := [⟨some 19, none, .p (.mv (.t 7))⟩,
  ⟨some 20, none, .p (.bin .shl (.t 19) (.c (.int .u64 32)))⟩,
  ⟨some 21, none, .p (.mv (.t 0))⟩,
  ⟨some 22, none, .p (.mv (.t 8))⟩,
  ⟨some 23, none, .p (.idxp 1 (.t 21) (.t 22))⟩,
  ⟨some 24, none, .p (.load none (.t 23))⟩,
  ⟨some 25, none, .p (.conv .u64 (.t 24))⟩,
  ⟨some 26, none, .p (.bin .or (.t 20) (.t 25))⟩,
  ⟨some 7, none, .p (.mv (.t 26))⟩]
def c1J : List AIns := [⟨some 27, none, .p (.mv (.t 6))⟩,
  ⟨some 28, none, .p (.mv (.t 8))⟩,
  ⟨some 29, none, .p (.mv (.t 7))⟩,
  ⟨some 30, none, .p (.mv (.t 1))⟩,
  ⟨some 31, none, .p (.conv .u64 (.t 30))⟩,
  ⟨some 32, none, .p (.bin .quo (.t 29) (.t 31))⟩,
  ⟨some 33, none, .p (.conv .u32 (.t 32))⟩,
  ⟨some 34, none, .p (.idxp 1 (.t 27) (.t 28))⟩,
  ⟨none, none, .e (.store 1 (.t 34) (.t 33))⟩]
def c1I : List AIns := [⟨some 35, none, .p (.mv (.t 7))⟩,
  ⟨some 36, none, .p (.mv (.t 1))⟩,
  ⟨some 37, none, .p (.conv .u64 (.t 36))⟩,
  ⟨some 38, none, .p (.bin .rem (.t 35) (.t 37))⟩,
  ⟨some 7, none, .p (.mv (.t 38))⟩]
def c1H : List AIns := [⟨some 17, none, .p (.mv (.t 8))⟩,
  ⟨some 18, none, .p (.bin .sub (.t 17) (.c (.int .i64 1)))⟩,
  ⟨some 8, none, .p (.mv (.t 18))⟩]
def d2l : ACode := .seq (.seq (.region b1f false) (.cond (.t 16) (.skip) (.exit 0))) (.seq (.block 1 (.seq (.region c1K false) (.seq (.region c1J false) (.region c1I false)))) (.region c1H false))
def c1G : List AIns := [⟨some 39, none, .p (.mv (.t 6))⟩,
  ⟨some 40, none, .call a0r [(.t 39)]⟩,
  ⟨some 41, none, .p (.mv (.t 7))⟩,
  ⟨some 42, none, .p (.conv .u32 (.t 41))⟩,
  ⟨some 4, none, .p (.mv (.t 40))⟩,
  ⟨some 5, none, .p (.mv (.t 42))⟩]
def d4t : ACode := .seq (.region c1O false) (.seq (.region c1N false) (.seq (.region c1M false) (.seq (.seq (.region c1L false) (.block 0 (.loop d2l))) (.seq (.region c1G false) (.ret)))))
theorem d2k : fchk Pr (fun _ _ => false) Try.f121 = some (d4t, [.tmp 4, .tmp 5], 43) := by kernel_rfl
theorem d2m : Pr.funcs[b4W]? = some Try.f121 := Try.func121
def a2t : List AIns := [⟨some 2, none, .p (.mv (.c (.int .i64 0)))⟩]
def a2s : List AIns := [⟨some 3, none, .p (.mv (.t 0))⟩,
  ⟨some 4, none, .call a1y [(.t 3)]⟩,
  ⟨some 5, none, .p (.bin .sub (.c (.int .i64 32)) (.t 4))⟩,
  ⟨some 2, none, .p (.mv (.t 5))⟩]
def a6D : ACode := .seq (.region a2t false) (.seq (.region a2s false) (.ret))
theorem a6c : fchk Pr (fun _ _ => false) Try.f122 = some (a6D, [.tmp 2], 6) := by kernel_rfl
theorem a6d : Pr.funcs[a1G]? = some Try.f122 := Try.func122
def c7m : List AIns := [⟨some 4, none, .p (.mv (.c (.nil)))⟩]
def c7l : List AIns := [⟨some 10, none, .p (.mv (.t 0))⟩,
  ⟨some 11, none, .call a0r [(.t 10)]⟩,
  ⟨some 0, none, .p (.mv (.t 11))⟩]
def c7k : List AIns := [⟨some 12, none, .p (.mv (.t 0))⟩,
  ⟨some 13, none, .p (.len (.t 12))⟩,
  ⟨some 14, none, .p (.bin .eql (.t 13) (.c (.int .i64 0)))⟩]
def d7B : List AIns := [⟨some 4, none, .p (.mv (.c (.nil)))⟩]
def c7j : List AIns := [⟨some 15, none, .p (.mv (.t 1))⟩,
  ⟨some 16, none, .p (.bin .quo (.t 15) (.c (.int .i64 32)))⟩,
  ⟨some 17, none, .p (.mv (.t 1))⟩,
  ⟨some 18, none, .p (.bin .rem (.t 17) (.c (.int .i64 32)))⟩,
  ⟨some 19, none, .p (.conv .u64 (.t 18))⟩,
  ⟨some 5, none, .p (.mv (.t 16))⟩,
  ⟨some 6, none, .p (.mv (.t 19))⟩]
def c7i : List AIns := [⟨some 20, none, .p (.mv (.t 0))⟩,
  ⟨some 21, none, .p (.len (.t 20))⟩,
  ⟨some 22, none, .p (.mv (.t 5))⟩,
  ⟨some 23, none, .p (.bin .add (.t 21) (.t 22))⟩,
  ⟨some 24, none, .p (.bin .add (.t 23) (.c (.int .i64 1)))⟩,
  ⟨some 25, none, .e (.mksl 1 4 (.int .u32 0) (.t 24) (.t 24))⟩,
  ⟨some 7, none, .p (.mv (.t 25))⟩]
def c7h : List AIns := [⟨some 26, none, .p (.mv (.t 0))⟩,
  ⟨some 27, none, .p (.len (.t 26))⟩,
  ⟨some 28, none, .p (.mv (.c (.int .i64 0)))⟩]
def b8N : List AIns := [⟨some 29, none, .p (.bin .lss (.t 28) (.t 27))⟩]
def c7g : List AIns := [⟨some 30, none, .p (.mv (.t 28))⟩,
  ⟨some 8, none, .p (.mv (.t 30))⟩]
def c7f : List AIns := [⟨some 31, none, .p (.mv (.t 0))⟩,
  ⟨some 32, none, .p (.mv (.t 8))⟩,
  ⟨some 33, none, .p (.idxp 1 (.t 31) (.t 32))⟩,
  ⟨some 34, none, .p (.load none (.t 33))⟩,
  ⟨some 35, none, .p (.conv .u64 (.t 34))⟩,
  ⟨some 36, none, .p (.mv (.t 6))⟩,
  ⟨some 37, none, .p (.bin .shl (.t 35) (.t 36))⟩,
  ⟨some 9, none, .p (.mv (.t 37))⟩]
def c4p : List AIns := [⟨some 38, none, .p (.mv (.t 7))⟩,
  ⟨some 39, none, .p (.mv (.t 8))⟩,
  ⟨some 40, none, .p (.mv (.t 5))⟩,
  ⟨some 41, none, .p (.bin .add (.t 39) (.t 40))⟩,
  ⟨some 42, none, .p (.idxp 1 (.t 38) (.t 41))⟩,
  ⟨some 43, none, .p (.load none (.t 42))⟩,
  ⟨some 44, none, .p (.mv (.t 9))⟩,
  ⟨some 45, none, .p (.conv .u32 (.t 44))⟩,
  ⟨some 46, none, .p (.bin .or (.t 43) (.t 45))⟩,
  ⟨some 47, none, .p (.idxp 1 (.t 38) (.t 41))⟩,
  ⟨none, none, .e (.store 1 (.t 47) (.t 46))⟩]
def c4o : List AIns := [⟨some 48, none, .p (.mv (.t 7))⟩,
  ⟨some 49, none, .p (.mv (.t 8))⟩,
  ⟨some 50, none, .p (.mv (.t 5))⟩,
  ⟨some 51, none, .p (.bin .add (.t 49) (.t 50))⟩,
  ⟨some 52, none, .p (.bin .add (.t 51) (.c (.int .i64 1)))⟩,
  ⟨some 53, none, .p (.mv (.t 9))⟩,
  ⟨some 54, none, .p (.bin .shr (.t 53) (.c (.int .u64 32)))⟩,
  ⟨some 55, none, .p (.conv .u32 (.t 54))⟩,
  ⟨some 56, none, .p (.idxp 1 (.t 48) (.t 52))⟩,
  ⟨none, none, .e (.store 1 (.t 56) (.t 55))⟩]
def c4n : List AIns := [⟨some 57, none, .p (.bin .add (.t 28) (.c (.int .i64 1)))⟩,
  ⟨some 28, none, .p (.mv (.t 57))⟩]
def d7D : ACode := .seq (.region b8N false) (.seq (.cond (.t 29) (.skip) (.exit 0)) (.seq (.block 1 (.seq (.region c7g false) (.seq (.region c7f false) (.seq (.region c4p false) (.region c4o false))))) (.region c4n false)))
def c4m : List AIns := [⟨some 58, none, .p (.mv (.t 7))⟩,
  ⟨some 59, none, .call a0r [(.t 58)]⟩,
  ⟨some 4, none, .p (.mv (.t 59))⟩]
def d9B : ACode := .seq (.region c7m false) (.seq (.region c7l false) (.seq (.seq (.region c7k false) (.cond (.t 14) (.seq (.region d7B false) (.ret)) (.skip))) (.seq (.region c7j false) (.seq (.region c7i false) (.seq (.seq (.region c7h false) (.block 0 (.loop d7D))) (.seq (.region c4m false) (.ret)))))))
theorem d7C : fchk Pr (fun _ _ => false) Try.f123 = some (d9B, [.tmp 4], 60) := by kernel_rfl
theorem d7E : Pr.funcs[b8o]? = some Try.f123 := Try.func123
def c1W : List AIns := [⟨some 4, none, .p (.mv (.c (.int .u32 0)))⟩]
def c1V : List AIns := [⟨some 15, none, .p (.mv (.t 1))⟩,
  ⟨some 16, none, .p (.len (.t 15))⟩,
  ⟨some 5, none, .p (.mv (.t 16))⟩]
def c1U : List AIns := [⟨some 17, none, .p (.mv (.t 0))⟩,
  ⟨some 18, none, .p (.mv (.t 5))⟩,
  ⟨some 19, none, .p (.idxp 1 (.t 17) (.t 18))⟩,
  ⟨some 20, none, .p (.load none (.t 19))⟩,
  ⟨some 21, none, .p (.conv .u64 (.t 20))⟩,
  ⟨some 22, none, .p (.bin .shl (.t 21) (.c (.int .u64 32)))⟩,
  ⟨some 23, none, .p (.mv (.t 0))⟩,
  ⟨some 24, none, .p (.mv (.t 5))⟩,
  ⟨some 25, none, .p (.bin .sub (.t 24) (.c (.int .i64 1)))⟩,
  ⟨some 26, none, .p (.idxp 1 (.t 23) (.t 25))⟩,
  ⟨some 27, none, .p (.load none (.t 26))⟩,
  ⟨some 28, none, .p (.conv .u64 (.t 27))⟩,
  ⟨some 29, none, .p (.bin .or (.t 22) (.t 28))⟩,
  ⟨some 6, none, .p (.mv (.t 29))⟩]
def c1T : List AIns := [⟨some 30, none, .p (.mv (.t 6))⟩,
  ⟨some 31, none, .p (.mv (.t 1))⟩,
  ⟨some 32, none, .p (.mv (.t 5))⟩,
  ⟨some 33, none, .p (.bin .sub (.t 32) (.c (.int .i64 1)))⟩,
  ⟨some 34, none, .p (.idxp 1 (.t 31) (.t 33))⟩,
  ⟨some 35, none, .p (.load none (.t 34))⟩,
  ⟨some 36, none, .p (.conv .u64 (.t 35))⟩,
  ⟨some 37, none, .p (.bin .quo (.t 30) (.t 36))⟩,
  ⟨some 38, none, .p (.mnx false (.t 37) (.c (.int .u64 4294967295)))⟩,
  ⟨some 7, none, .p (.mv (.t 38))⟩]
def c1S : List AIns := [⟨some 8, none, .p (.mv (.c (.int .u64 0)))⟩,
  ⟨some 9, none, .p (.mv (.c (.int .u64 0)))⟩]
def c1R : List AIns := [⟨some 39, none, .p (.mv (.t 5))⟩,
  ⟨some 40, none, .p (.bin .add (.t 39) (.c (.int .i64 1)))⟩,
  ⟨some 41, none, .p (.mv (.c (.int .i64 0)))⟩]
def b1j : List AIns := [⟨some 42, none, .p (.bin .lss (.t 41) (.t 40))⟩]
def c1Q : List AIns := [⟨some 43, none, .p (.mv (.t 41))⟩,
  ⟨some 10, none, .p (.mv (.t 43))⟩]
def c1P : List AIns := [⟨some 44, none, .p (.mv (.t 8))⟩,
  ⟨some 11, none, .p (.mv (.t 44))⟩]
def b1i : List AIns := [⟨some 45, none, .p (.mv (.t 10))⟩,
  ⟨some 46, none, .p (.mv (.t 5))⟩,
  ⟨some 47, none, .p (.bin .lss (.t 45) (.t 46))⟩]
def b7g : List AIns := [⟨some 48, none, .p (.mv (.t 11))⟩,
  ⟨some 49, none, .p (.mv (.t 7))⟩,
  ⟨some 50, none, .p (.mv (.t 1))⟩,
  ⟨some 51, none, .p (.mv (.t 10))⟩,
  ⟨some 52, none, .p (.idxp 1 (.t 50) (.t 51))⟩,
  ⟨some 53, none, .p (.load none (.t 52))⟩,
  ⟨some 54, none, .p (.conv .u64 (.t 53))⟩,
  ⟨some 55, none, .p (.bin .mul (.t 49) (.t 54))⟩,
  ⟨some 56, none, .p (.bin .add (.t 48) (.t 55))⟩,
  ⟨some 11, none, .p (.mv (.t 56))⟩]
def a9m : List AIns := [⟨some 57, none, .p (.mv (.t 11))⟩,
  ⟨some 58, none, .p (.bin .shr (.t 57) (.c (.int .u64 32)))⟩,
  ⟨some 8, none, .p (.mv (.t 58))⟩]
def a9l : List AIns := [⟨some 59, none, .p (.mv (.t 0))⟩,
  ⟨some 60, none, .p (.mv (.t 10))⟩,
  ⟨some 61, none, .p (.idxp 1 (.t 59) (.t 60))⟩,
  ⟨some 62, none, .p (.load none (.t 61))⟩,
  ⟨some 63, none, .p (.conv .u64 (.t 62))⟩,
  ⟨some 64, none, .p (.mv (.t 11))⟩,
  ⟨some 65, none, .p (.conv .u32 (.t 64))⟩,
  ⟨some 66, none, .p (.conv .u64 (.t 65))⟩,
  ⟨some 67, none, .p (.bin .sub (.t 63) (.t 66))⟩,
  ⟨some 68, none, .p (.mv (.t 9))⟩,
  ⟨some 69, none, .p (.bin .sub (.t 67) (.t 68))⟩,
  ⟨some 12, none, .p (.mv (.t 69))⟩]
def a9k : List AIns := [⟨some 70, none, .p (.mv (.t 0))⟩,
  ⟨some 71, none, .p (.mv (.t 10))⟩,
  ⟨some 72, none, .p (.mv (.t 12))⟩,
  ⟨some 73, none, .p (.conv .u32 (.t 72))⟩,
  ⟨some 74, none, .p (.idxp 1 (.t 70) (.t 71))⟩,
  ⟨none, none, .e (.store 1 (.t 74) (.t 73))⟩]
def a9j : List AIns := [⟨some 75, none, .p (.mv (.t 12))⟩,
  ⟨some 76, none, .p (.bin .shr (.t 75) (.c (.int .u64 63)))⟩,
  ⟨some 9, none, .p (.mv (.t 76))⟩]
def a9i : List AIns := [⟨some 77, none, .p (.bin .add (.t 41) (.c (.int .i64 1)))⟩,
  ⟨some 41, none, .p (.mv (.t 77))⟩]
def a6N : ACode := .seq (.region b1j false) (.seq (.cond (.t 42) (.skip) (.exit 0)) (.seq (.block 1 (.seq (.region c1Q false) (.seq (.region c1P false) (.seq (.seq (.region b1i false) (.cond (.t 47) (.region b7g false) (.skip))) (.seq (.region a9m false) (.seq (.region a9l false) (.seq (.region a9k false) (.region a9j false)))))))) (.region a9i false)))
def a5A : List AIns := [⟨some 78, none, .p (.mv (.t 9))⟩,
  ⟨some 79, none, .p (.bin .gtr (.t 78) (.c (.int .u64 0)))⟩]
def b7f : List AIns := [⟨some 80, none, .p (.mv (.t 7))⟩,
  ⟨some 81, none, .p (.bin .sub (.t 80) (.c (.int .u64 1)))⟩,
  ⟨some 7, none, .p (.mv (.t 81))⟩]
def b7e : List AIns := [⟨some 13, none, .p (.mv (.c (.int .u64 0)))⟩]
def b7d : List AIns := [⟨some 82, none, .p (.mv (.t 5))⟩,
  ⟨some 83, none, .p (.bin .add (.t 82) (.c (.int .i64 1)))⟩,
  ⟨some 84, none, .p (.mv (.c (.int .i64 0)))⟩]
def a9h : List AIns := [⟨some 85, none, .p (.bin .lss (.t 84) (.t 83))⟩]
def b7c : List AIns := [⟨some 86, none, .p (.mv (.t 84))⟩,
  ⟨some 14, none, .p (.mv (.t 86))⟩]
def b7b : List AIns := [⟨some 87, none, .p (.mv (.t 13))⟩,
  ⟨some 88, none, .p (.mv (.t 0))⟩,
  ⟨some 89, none, .p (.mv (.t 14))⟩,
  ⟨some 90, none, .p (.idxp 1 (.t 88) (.t 89))⟩,
  ⟨some 91, none, .p (.load none (.t 90))⟩,
  ⟨some 92, none, .p (.conv .u64 (.t 91))⟩,
  ⟨some 93, none, .p (.bin .add (.t 87) (.t 92))⟩,
  ⟨some 13, none, .p (.mv (.t 93))⟩]
def a9g : List AIns := [⟨some 94, none, .p (.mv (.t 14))⟩,
  ⟨some 95, none, .p (.mv (.t 5))⟩,
  ⟨some 96, none, .p (.bin .lss (.t 94) (.t 95))⟩]
def b7a : List AIns := [⟨some 97, none, .p (.mv (.t 13))⟩,
  ⟨some 98, none, .p (.mv (.t 1))⟩,
  ⟨some 99, none, .p (.mv (.t 14))⟩,
  ⟨some 100, none, .p (.idxp 1 (.t 98) (.t 99))⟩,
  ⟨some 101, none, .p (.load none (.t 100))⟩,
  ⟨some 102, none, .p (.conv .u64 (.t 101))⟩,
  ⟨some 103, none, .p (.bin .add (.t 97) (.t 102))⟩,
  ⟨some 13, none, .p (.mv (.t 103))⟩]
def a9f : List AIns := [⟨some 104, none, .p (.mv (.t 0))⟩,
  ⟨some 105, none, .p (.mv (.t 14))⟩,
  ⟨some 106, none, .p (.mv (.t 13))⟩,
  ⟨some 107, none, .p (.conv .u32 (.t 106))⟩,
  ⟨some 108, none, .p (.idxp 1 (.t 104) (.t 105))⟩,
  ⟨none, none, .e (.store 1 (.t 108) (.t 107))⟩]
def a9e : List AIns := [⟨some 109, none, .p (.mv (.t 13))⟩,
  ⟨some 110, none, .p (.bin .shr (.t 109) (.c (.int .u64 32)))⟩,
  ⟨some 13, none, .p (.mv (.t 110))⟩]
def a9d : List AIns := [⟨some 111, none, .p (.bin .add (.t 84) (.c (.int .i64 1)))⟩,
  ⟨some 84, none, .p (.mv (.t 111))⟩]
def a6M : ACode := .seq (.region a9h false) (.seq (.cond (.t 85) (.skip) (.exit 4)) (.seq (.block 5 (.seq (.region b7c false) (.seq (.region b7b false) (.seq (.seq (.region a9g false) (.cond (.t 96) (.region b7a false) (.skip))) (.seq (.region a9f false) (.region a9e false)))))) (.region a9d false)))
def b6Z : List AIns := [⟨some 112, none, .p (.mv (.t 9))⟩,
  ⟨some 113, none, .p (.mv (.t 13))⟩,
  ⟨some 114, none, .p (.bin .sub (.t 112) (.t 113))⟩,
  ⟨some 9, none, .p (.mv (.t 114))⟩]
def c1X : ACode := .seq (.seq (.region a5A false) (.cond (.t 79) (.skip) (.exit 2))) (.block 3 (.seq (.region b7f false) (.seq (.region b7e false) (.seq (.seq (.region b7d false) (.block 4 (.loop a6M))) (.region b6Z false)))))
def a5z : List AIns := [⟨some 115, none, .p (.mv (.t 7))⟩,
  ⟨some 116, none, .p (.conv .u32 (.t 115))⟩,
  ⟨some 4, none, .p (.mv (.t 116))⟩]
def d4w : ACode := .seq (.region c1W false) (.seq (.region c1V false) (.seq (.region c1U true) (.seq (.region c1T false) (.seq (.region c1S false) (.seq (.seq (.region c1R false) (.block 0 (.loop a6N))) (.seq (.block 2 (.loop c1X)) (.seq (.region a5z false) (.ret))))))))
theorem d2n : fchk Pr (fun _ _ => false) Try.f124 = some (d4w, [.tmp 4], 117) := by kernel_rfl
theorem d2o : Pr.funcs[a9R]? = some Try.f124 := Try.func124
def c7d : List AIns := [⟨some 4, none, .p (.mv (.c (.nil)))⟩]
def c7c : List AIns := [⟨some 10, none, .p (.mv (.t 0))⟩,
  ⟨some 11, none, .call a0r [(.t 10)]⟩,
  ⟨some 0, none, .p (.mv (.t 11))⟩]
def c7b : List AIns := [⟨some 12, none, .p (.mv (.t 1))⟩,
  ⟨some 13, none, .p (.bin .quo (.t 12) (.c (.int .i64 32)))⟩,
  ⟨some 14, none, .p (.mv (.t 1))⟩,
  ⟨some 15, none, .p (.bin .rem (.t 14) (.c (.int .i64 32)))⟩,
  ⟨some 16, none, .p (.conv .u64 (.t 15))⟩,
  ⟨some 5, none, .p (.mv (.t 13))⟩,
  ⟨some 6, none, .p (.mv (.t 16))⟩]
def b8M : List AIns := [⟨some 17, none, .p (.mv (.t 5))⟩,
  ⟨some 18, none, .p (.mv (.t 0))⟩,
  ⟨some 19, none, .p (.len (.t 18))⟩,
  ⟨some 20, none, .p (.bin .geq (.t 17) (.t 19))⟩]
def c7a : List AIns := [⟨some 4, none, .p (.mv (.c (.nil)))⟩]
def c6Z : List AIns := [⟨some 21, none, .p (.mv (.t 0))⟩,
  ⟨some 22, none, .p (.len (.t 21))⟩,
  ⟨some 23, none, .p (.mv (.t 5))⟩,
  ⟨some 24, none, .p (.bin .sub (.t 22) (.t 23))⟩,
  ⟨some 25, none, .e (.mksl 1 4 (.int .u32 0) (.t 24) (.t 24))⟩,
  ⟨some 7, none, .p (.mv (.t 25))⟩]
def c6Y : List AIns := [⟨some 26, none, .p (.mv (.t 7))⟩,
  ⟨some 27, none, .p (.len (.t 26))⟩,
  ⟨some 28, none, .p (.mv (.c (.int .i64 0)))⟩]
def b8L : List AIns := [⟨some 29, none, .p (.bin .lss (.t 28) (.t 27))⟩]
def c6X : List AIns := [⟨some 30, none, .p (.mv (.t 28))⟩,
  ⟨some 8, none, .p (.mv (.t 30))⟩]
def c6W : List AIns := [⟨some 31, none, .p (.mv (.t 0))⟩,
  ⟨some 32, none, .p (.mv (.t 8))⟩,
  ⟨some 33, none, .p (.mv (.t 5))⟩,
  ⟨some 34, none, .p (.bin .add (.t 32) (.t 33))⟩,
  ⟨some 35, none, .p (.idxp 1 (.t 31) (.t 34))⟩,
  ⟨some 36, none, .p (.load none (.t 35))⟩,
  ⟨some 37, none, .p (.conv .u64 (.t 36))⟩,
  ⟨some 9, none, .p (.mv (.t 37))⟩]
def b4s : List AIns := [⟨some 38, none, .p (.mv (.t 8))⟩,
  ⟨some 39, none, .p (.mv (.t 5))⟩,
  ⟨some 40, none, .p (.bin .add (.t 38) (.t 39))⟩,
  ⟨some 41, none, .p (.bin .add (.t 40) (.c (.int .i64 1)))⟩,
  ⟨some 42, none, .p (.mv (.t 0))⟩,
  ⟨some 43, none, .p (.len (.t 42))⟩,
  ⟨some 44, none, .p (.bin .lss (.t 41) (.t 43))⟩]
def c4l : List AIns := [⟨some 45, none, .p (.mv (.t 9))⟩,
  ⟨some 46, none, .p (.mv (.t 0))⟩,
  ⟨some 47, none, .p (.mv (.t 8))⟩,
  ⟨some 48, none, .p (.mv (.t 5))⟩,
  ⟨some 49, none, .p (.bin .add (.t 47) (.t 48))⟩,
  ⟨some 50, none, .p (.bin .add (.t 49) (.c (.int .i64 1)))⟩,
  ⟨some 51, none, .p (.idxp 1 (.t 46) (.t 50))⟩,
  ⟨some 52, none, .p (.load none (.t 51))⟩,
  ⟨some 53, none, .p (.conv .u64 (.t 52))⟩,
  ⟨some 54, none, .p (.bin .shl (.t 53) (.c (.int .u64 32)))⟩,
  ⟨some 55, none, .p (.bin .or (.t 45) (.t 54))⟩,
  ⟨some 9, none, .p (.mv (.t 55))⟩]
def b4r : List AIns := [⟨some 56, none, .p (.mv (.t 7))⟩,
  ⟨some 57, none, .p (.mv (.t 8))⟩,
  ⟨some 58, none, .p (.mv (.t 9))⟩,
  ⟨some 59, none, .p (.mv (.t 6))⟩,
  ⟨some 60, none, .p (.bin .shr (.t 58) (.t 59))⟩,
  ⟨some 61, none, .p (.conv .u32 (.t 60))⟩,
  ⟨some 62, none, .p (.idxp 1 (.t 56) (.t 57))⟩,
  ⟨none, none, .e (.store 1 (.t 62) (.t 61))⟩]
def b4q : List AIns := [⟨some 63, none, .p (.bin .add (.t 28) (.c (.int .i64 1)))⟩,
  ⟨some 28, none, .p (.mv (.t 63))⟩]
def c7e : ACode := .seq (.region b8L false) (.seq (.cond (.t 29) (.skip) (.exit 0)) (.seq (.block 1 (.seq (.region c6X false) (.seq (.region c6W false) (.seq (.seq (.region b4s false) (.cond (.t 44) (.region c4l false) (.skip))) (.region b4r false))))) (.region b4q false)))
def b4p : List AIns := [⟨some 64, none, .p (.mv (.t 7))⟩,
  ⟨some 65, none, .call a0r [(.t 64)]⟩,
  ⟨some 4, none, .p (.mv (.t 65))⟩]
def d9A : ACode := .seq (.region c7d false) (.seq (.region c7c false) (.seq (.region c7b false) (.seq (.seq (.region b8M false) (.cond (.t 20) (.seq (.region c7a false) (.ret)) (.skip))) (.seq (.region c6Z false) (.seq (.seq (.region c6Y false) (.block 0 (.loop c7e))) (.seq (.region b4p false) (.ret)))))))
theorem d7z : fchk Pr (fun _ _ => false) Try.f125 = some (d9A, [.tmp 4], 66) := by kernel_rfl
theorem d7A : Pr.funcs[b8n]? = some Try.f125 := Try.func125
def c0a : List AIns := [⟨some 2, none, .e (.box 4 (.t 0))⟩,
  ⟨some 3, none, .e (.box 4 (.t 1))⟩,
  ⟨some 4, none, .e (.box 4 (.c (.agg [.bool false, .nil, .bool false, .nil])))⟩]
def b9Z : List AIns := [⟨some 7, none, .p (.fldp (.t 2) 0)⟩,
  ⟨some 8, none, .p (.load (some 2) (.t 7))⟩,
  ⟨some 9, none, .p (.fldp (.t 3) 2)⟩,
  ⟨some 10, none, .p (.load (some 2) (.t 9))⟩,
  ⟨some 11, none, .call a1e [(.t 8), (.t 10)]⟩,
  ⟨some 5, none, .e (.box 2 (.c (.agg [.bool false, .nil])))⟩,
  ⟨none, none, .e (.store 2 (.t 5) (.t 11))⟩]
def b9Y : List AIns := [⟨some 12, none, .p (.fldp (.t 3) 0)⟩,
  ⟨some 13, none, .p (.load (some 2) (.t 12))⟩,
  ⟨some 14, none, .p (.fldp (.t 2) 2)⟩,
  ⟨some 15, none, .p (.load (some 2) (.t 14))⟩,
  ⟨some 16, none, .call a1e [(.t 13), (.t 15)]⟩,
  ⟨some 6, none, .e (.box 2 (.c (.agg [.bool false, .nil])))⟩,
  ⟨none, none, .e (.store 2 (.t 6) (.t 16))⟩]
def b9X : List AIns := [⟨some 17, none, .p (.load (some 2) (.t 5))⟩,
  ⟨some 18, none, .p (.load (some 2) (.t 6))⟩,
  ⟨some 19, none, .call a4t [(.t 17), (.t 18)]⟩,
  ⟨some 20, none, .p (.fldp (.t 2) 2)⟩,
  ⟨some 21, none, .p (.load (some 2) (.t 20))⟩,
  ⟨some 22, none, .p (.fldp (.t 3) 2)⟩,
  ⟨some 23, none, .p (.load (some 2) (.t 22))⟩,
  ⟨some 24, none, .call a1e [(.t 21), (.t 23)]⟩,
  ⟨some 25, none, .call a2y [(.t 19), (.t 24)]⟩,
  ⟨none, none, .e (.store 4 (.t 4) (.t 25))⟩]
def d3X : ACode := .seq (.region c0a false) (.seq (.region b9Z false) (.seq (.region b9Y false) (.seq (.region b9X true) (.ret))))
theorem d1j : fchk Pr (fun _ _ => false) Try.f126 = some (d3X, [.cell 4 (some 4)], 26) := by kernel_rfl
theorem d1k : Pr.funcs[b4S]? = some Try.f126 := Try.func126
def c1z : List AIns := [⟨some 4, none, .p (.mv (.c (.nil)))⟩]
def c1y : List AIns := [⟨some 5, none, .p (.mv (.c (.nil)))⟩]
def c1x : List AIns := [⟨some 6, none, .p (.mv (.c (.int .u64 0)))⟩]
def c1w : List AIns := [⟨some 7, none, .p (.mv (.c (.int .i64 0)))⟩]
def b1d : List AIns := [⟨some 8, none, .p (.mv (.t 7))⟩,
  ⟨some 9, none, .p (.mv (.t 0))⟩,
  ⟨some 10, none, .p (.len (.t 9))⟩,
  ⟨some 11, none, .p (.mv (.t 1))⟩,
  ⟨some 12, none, .p (.len (.t 11))⟩,
  ⟨some 13, none, .call a7g [(.t 10), (.t 12)]⟩,
  ⟨some 14, none, .p (.bin .lss (.t 8) (.t 13))⟩]
def c1v : List AIns := [⟨some 17, none, .p (.mv (.t 6))⟩,
  ⟨some 18, none, .p (.mv (.t 0))⟩,
  ⟨some 19, none, .p (.mv (.t 7))⟩,
  ⟨some 20, none, .call a0P [(.t 18), (.t 19)]⟩,
  ⟨some 21, none, .p (.bin .add (.t 17) (.t 20))⟩,
  ⟨some 22, none, .p (.mv (.t 1))⟩,
  ⟨some 23, none, .p (.mv (.t 7))⟩,
  ⟨some 24, none, .call a0P [(.t 22), (.t 23)]⟩,
  ⟨some 25, none, .p (.bin .add (.t 21) (.t 24))⟩,
  ⟨some 6, none, .p (.mv (.t 25))⟩]
def c1u : List AIns := [⟨some 26, none, .p (.mv (.t 5))⟩,
  ⟨some 27, none, .p (.mv (.t 6))⟩,
  ⟨some 28, none, .p (.bin .rem (.t 27) (.c (.int .u64 4294967296)))⟩,
  ⟨some 29, none, .p (.conv .u32 (.t 28))⟩,
  ⟨some 30, none, .e (.bsl 1 [(.t 29)])⟩,
  ⟨some 31, none, .e (.app 1 4 false (.t 26) (.t 30))⟩,
  ⟨some 5, none, .p (.mv (.t 31))⟩]
def c1t : List AIns := [⟨some 32, none, .p (.mv (.t 6))⟩,
  ⟨some 33, none, .p (.bin .quo (.t 32) (.c (.int .u64 4294967296)))⟩,
  ⟨some 6, none, .p (.mv (.t 33))⟩]
def c1s : List AIns := [⟨some 15, none, .p (.mv (.t 7))⟩,
  ⟨some 16, none, .p (.bin .add (.t 15) (.c (.int .i64 1)))⟩,
  ⟨some 7, none, .p (.mv (.t 16))⟩]
def c1A : ACode := .seq (.seq (.region b1d false) (.cond (.t 14) (.skip) (.exit 0))) (.seq (.block 1 (.seq (.region c1v false) (.seq (.region c1u false) (.region c1t false)))) (.region c1s false))
def b1c : List AIns := [⟨some 34, none, .p (.mv (.t 5))⟩,
  ⟨some 35, none, .p (.mv (.t 6))⟩,
  ⟨some 36, none, .p (.conv .u32 (.t 35))⟩,
  ⟨some 37, none, .e (.bsl 1 [(.t 36)])⟩,
  ⟨some 38, none, .e (.app 1 4 false (.t 34) (.t 37))⟩,
  ⟨some 5, none, .p (.mv (.t 38))⟩]
def a8Z : List AIns := [⟨some 39, none, .p (.mv (.t 5))⟩,
  ⟨some 40, none, .call a0y [(.t 39)]⟩,
  ⟨some 4, none, .p (.mv (.t 40))⟩]
def d4m : ACode := .seq (.region c1z false) (.seq (.region c1y false) (.seq (.region c1x false) (.seq (.seq (.region c1w false) (.block 0 (.loop c1A))) (.seq (.region b1c false) (.seq (.region a8Z false) (.ret))))))
theorem d1Z : fchk Pr (fun _ _ => false) Try.f127 = some (d4m, [.tmp 4], 41) := by kernel_rfl
theorem d2a : Pr.funcs[a9Q]? = some Try.f127 := Try.func127
def c1q : List AIns := [⟨some 4, none, .p (.mv (.c (.int .i64 0)))⟩]
def c1p : List AIns := [⟨some 8, none, .p (.mv (.t 0))⟩,
  ⟨some 9, none, .p (.len (.t 8))⟩,
  ⟨some 10, none, .p (.mv (.t 1))⟩,
  ⟨some 11, none, .p (.len (.t 10))⟩,
  ⟨some 12, none, .call a7g [(.t 9), (.t 11)]⟩,
  ⟨some 13, none, .p (.bin .sub (.t 12) (.c (.int .i64 1)))⟩,
  ⟨some 5, none, .p (.mv (.t 13))⟩]
def b1b : List AIns := [⟨some 14, none, .p (.mv (.t 5))⟩,
  ⟨some 15, none, .p (.bin .geq (.t 14) (.c (.int .i64 0)))⟩]
def c1o : List AIns := [⟨some 18, none, .p (.mv (.t 0))⟩,
  ⟨some 19, none, .p (.mv (.t 5))⟩,
  ⟨some 20, none, .call a0P [(.t 18), (.t 19)]⟩,
  ⟨some 6, none, .p (.mv (.t 20))⟩]
def c1n : List AIns := [⟨some 21, none, .p (.mv (.t 1))⟩,
  ⟨some 22, none, .p (.mv (.t 5))⟩,
  ⟨some 23, none, .call a0P [(.t 21), (.t 22)]⟩,
  ⟨some 7, none, .p (.mv (.t 23))⟩]
def c1m : List AIns := [⟨some 24, none, .p (.mv (.t 6))⟩,
  ⟨some 25, none, .p (.mv (.t 7))⟩,
  ⟨some 26, none, .p (.bin .lss (.t 24) (.t 25))⟩]
def c1l : List AIns := [⟨some 4, none, .p (.mv (.c (.int .i64 (-1))))⟩]
def c1k : List AIns := [⟨some 27, none, .p (.mv (.t 6))⟩,
  ⟨some 28, none, .p (.mv (.t 7))⟩,
  ⟨some 29, none, .p (.bin .gtr (.t 27) (.t 28))⟩]
def c1j : List AIns := [⟨some 4, none, .p (.mv (.c (.int .i64 1)))⟩]
def c1i : List AIns := [⟨some 16, none, .p (.mv (.t 5))⟩,
  ⟨some 17, none, .p (.bin .sub (.t 16) (.c (.int .i64 1)))⟩,
  ⟨some 5, none, .p (.mv (.t 17))⟩]
def c1r : ACode := .seq (.seq (.region b1b false) (.cond (.t 15) (.skip) (.exit 0))) (.seq (.block 1 (.seq (.region c1o false) (.seq (.region c1n false) (.seq (.seq (.region c1m false) (.cond (.t 26) (.seq (.region c1l false) (.ret)) (.skip))) (.seq (.region c1k false) (.cond (.t 29) (.seq (.region c1j false) (.ret)) (.skip))))))) (.region c1i false))
def a8V : List AIns := [⟨some 4, none, .p (.mv (.c (.int .i64 0)))⟩]
def d4l : ACode := .seq (.region c1q false) (.seq (.seq (.region c1p false) (.block 0 (.loop c1r))) (.seq (.region a8V false) (.ret)))
theorem d1W : fchk Pr (fun _ _ => false) Try.f128 = some (d4l, [.tmp 4], 30) := by kernel_rfl
theorem d1X : Pr.funcs[a3j]? = some Try.f128 := Try.func128
def c0y : List AIns := [⟨some 4, none, .p (.mv (.c (.nil)))⟩,
  ⟨some 5, none, .p (.mv (.c (.int .i64 0)))⟩]
def c0x : List AIns := [⟨some 6, none, .p (.mv (.t 0))⟩,
  ⟨some 7, none, .p (.mv (.t 1))⟩,
  ⟨some 8, none, .call a3j [(.t 6), (.t 7)]⟩,
  ⟨some 9, none, .p (.bin .lss (.t 8) (.c (.int .i64 0)))⟩]
def d1G : List AIns := [⟨some 4, none, .p (.mv (.c (.nil)))⟩,
  ⟨some 5, none, .p (.mv (.c (.int .i64 10)))⟩]
def c0w : List AIns := [⟨some 10, none, .p (.mv (.t 0))⟩,
  ⟨some 11, none, .p (.mv (.t 1))⟩,
  ⟨some 12, none, .call a2A [(.t 10), (.t 11)]⟩,
  ⟨some 4, none, .p (.mv (.t 12))⟩,
  ⟨some 5, none, .p (.mv (.c (.int .i64 0)))⟩]
def d4g : ACode := .seq (.region c0y false) (.seq (.seq (.region c0x false) (.cond (.t 9) (.seq (.region d1G false) (.ret)) (.skip))) (.seq (.region c0w false) (.ret)))
theorem d1H : fchk Pr (fun _ _ => false) Try.f129 = some (d4g, [.tmp 4, .tmp 5], 13) := by kernel_rfl
theorem d1I : Pr.funcs[a9O]? = some Try.f129 := Try.func129
def b3b : List AIns := [⟨some 4, none, .p (.mv (.c (.nil)))⟩,
  ⟨some 5, none, .p (.mv (.c (.int .u64 0)))⟩]
def b3a : List AIns := [⟨some 9, none, .p (.mv (.t 0))⟩,
  ⟨some 10, none, .p (.len (.t 9))⟩,
  ⟨some 11, none, .e (.mksl 1 4 (.int .u32 0) (.t 10) (.t 10))⟩,
  ⟨some 6, none, .p (.mv (.t 11))⟩]
def b2Z : List AIns := [⟨some 7, none, .p (.mv (.c (.int .u64 0)))⟩]
def b2Y : List AIns := [⟨some 12, none, .p (.mv (.t 0))⟩,
  ⟨some 13, none, .p (.len (.t 12))⟩,
  ⟨some 14, none, .p (.bin .sub (.t 13) (.c (.int .i64 1)))⟩,
  ⟨some 8, none, .p (.mv (.t 14))⟩]
def a7r : List AIns := [⟨some 15, none, .p (.mv (.t 8))⟩,
  ⟨some 16, none, .p (.bin .geq (.t 15) (.c (.int .i64 0)))⟩]
def b2X : List AIns := [⟨some 19, none, .p (.mv (.t 7))⟩,
  ⟨some 20, none, .p (.bin .mul (.t 19) (.c (.int .u64 4294967296)))⟩,
  ⟨some 21, none, .p (.mv (.t 0))⟩,
  ⟨some 22, none, .p (.mv (.t 8))⟩,
  ⟨some 23, none, .p (.idxp 1 (.t 21) (.t 22))⟩,
  ⟨some 24, none, .p (.load none (.t 23))⟩,
  ⟨some 25, none, .p (.conv .u64 (.t 24))⟩,
  ⟨some 26, none, .p (.bin .add (.t 20) (.t 25))⟩,
  ⟨some 7, none, .p (.mv (.t 26))⟩]
def b2W : List AIns := [⟨some 27, none, .p (.mv (.t 6))⟩,
  ⟨some 28, none, .p (.mv (.t 8))⟩,
  ⟨some 29, none, .p (.mv (.t 7))⟩,
  ⟨some 30, none, .p (.mv (.t 1))⟩,
  ⟨some 31, none, .p (.bin .quo (.t 29) (.t 30))⟩,
  ⟨some 32, none, .p (.conv .u32 (.t 31))⟩,
  ⟨some 33, none, .p (.idxp 1 (.t 27) (.t 28))⟩,
  ⟨none, none, .e (.store 1 (.t 33) (.t 32))⟩]
def b2V : List AIns := [⟨some 34, none, .p (.mv (.t 7))⟩,
  ⟨some 35, none, .p (.mv (.t 1))⟩,
  ⟨some 36, none, .p (.bin .rem (.t 34) (.t 35))⟩,
  ⟨some 7, none, .p (.mv (.t 36))⟩]
def b2U : List AIns := [⟨some 17, none, .p (.mv (.t 8))⟩,
  ⟨some 18, none, .p (.bin .sub (.t 17) (.c (.int .i64 1)))⟩,
  ⟨some 8, none, .p (.mv (.t 18))⟩]
def c6l : ACode := .seq (.seq (.region a7r false) (.cond (.t 16) (.skip) (.exit 0))) (.seq (.block 1 (.seq (.region b2X false) (.seq (.region b2W false) (.region b2V false)))) (.region b2U false))
def b2T : List AIns := [⟨some 37, none, .p (.mv (.t 6))⟩,
  ⟨some 38, none, .call a0y [(.t 37)]⟩,
  ⟨some 39, none, .p (.mv (.t 7))⟩,
  ⟨some 4, none, .p (.mv (.t 38))⟩,
  ⟨some 5, none, .p (.mv (.t 39))⟩]
def c9k : ACode := .seq (.region b3b false) (.seq (.region b3a false) (.seq (.region b2Z false) (.seq (.seq (.region b2Y false) (.block 0 (.loop c6l))) (.seq (.region b2T false) (.ret)))))
theorem c6k : fchk Pr (fun _ _ => false) Try.f130 = some (c9k, [.tmp 4, .tmp 5], 40) := by kernel_rfl
theorem c6m : Pr.funcs[a9N]? = some Try.f130 := Try.func130
def c0v : List AIns := [⟨some 2, none, .p (.mv (.c (.nil)))⟩]
def c0u : List AIns := [⟨some 3, none, .p (.mv (.c (.nil)))⟩]
def c0t : List AIns := [⟨some 4, none, .p (.mv (.c (.int .i64 0)))⟩]
def c0s : List AIns := [⟨some 5, none, .p (.mv (.t 4))⟩,
  ⟨some 6, none, .p (.mv (.t 0))⟩,
  ⟨some 7, none, .p (.bin .quo (.t 6) (.c (.int .i64 32)))⟩,
  ⟨some 8, none, .p (.bin .lss (.t 5) (.t 7))⟩]
def d1C : List AIns := [⟨some 11, none, .p (.mv (.t 3))⟩,
  ⟨some 12, none, .e (.bsl 1 [(.c (.int .u32 0))])⟩,
  ⟨some 13, none, .e (.app 1 4 false (.t 11) (.t 12))⟩,
  ⟨some 3, none, .p (.mv (.t 13))⟩]
def d1B : List AIns := [⟨some 9, none, .p (.mv (.t 4))⟩,
  ⟨some 10, none, .p (.bin .add (.t 9) (.c (.int .i64 1)))⟩,
  ⟨some 4, none, .p (.mv (.t 10))⟩]
def d1E : ACode := .seq (.seq (.region c0s false) (.cond (.t 8) (.skip) (.exit 0))) (.seq (.block 1 (.region d1C false)) (.region d1B false))
def c0r : List AIns := [⟨some 14, none, .p (.mv (.t 3))⟩,
  ⟨some 15, none, .p (.mv (.t 0))⟩,
  ⟨some 16, none, .p (.bin .rem (.t 15) (.c (.int .i64 32)))⟩,
  ⟨some 17, none, .p (.conv .u64 (.t 16))⟩,
  ⟨some 18, none, .p (.bin .shl (.c (.int .u32 1)) (.t 17))⟩,
  ⟨some 19, none, .e (.bsl 1 [(.t 18)])⟩,
  ⟨some 20, none, .e (.app 1 4 false (.t 14) (.t 19))⟩,
  ⟨some 2, none, .p (.mv (.t 20))⟩]
def d4f : ACode := .seq (.region c0v false) (.seq (.region c0u false) (.seq (.seq (.region c0t false) (.block 0 (.loop d1E))) (.seq (.region c0r false) (.ret))))
theorem d1D : fchk Pr (fun _ _ => false) Try.f131 = some (d4f, [.tmp 2], 21) := by kernel_rfl
theorem d1F : Pr.funcs[b4U]? = some Try.f131 := Try.func131
def b6T : List AIns := [⟨some 2, none, .p (.mv (.c (.int .i64 0)))⟩]
def b6S : List AIns := [⟨some 6, none, .p (.mv (.t 0))⟩,
  ⟨some 7, none, .p (.len (.t 6))⟩,
  ⟨some 8, none, .p (.bin .sub (.t 7) (.c (.int .i64 1)))⟩,
  ⟨some 3, none, .p (.mv (.t 8))⟩]
def a8Y : List AIns := [⟨some 9, none, .p (.mv (.t 3))⟩,
  ⟨some 10, none, .p (.bin .geq (.t 9) (.c (.int .i64 0)))⟩]
def b6R : List AIns := [⟨some 13, none, .p (.mv (.t 0))⟩,
  ⟨some 14, none, .p (.mv (.t 3))⟩,
  ⟨some 15, none, .p (.idxp 1 (.t 13) (.t 14))⟩,
  ⟨some 16, none, .p (.load none (.t 15))⟩,
  ⟨some 17, none, .p (.bin .neq (.t 16) (.c (.int .u32 0)))⟩]
def b6Q : List AIns := [⟨some 18, none, .p (.mv (.t 3))⟩,
  ⟨some 19, none, .p (.bin .mul (.c (.int .i64 32)) (.t 18))⟩,
  ⟨some 4, none, .p (.mv (.t 19))⟩]
def b6P : List AIns := [⟨some 20, none, .p (.mv (.t 0))⟩,
  ⟨some 21, none, .p (.mv (.t 3))⟩,
  ⟨some 22, none, .p (.idxp 1 (.t 20) (.t 21))⟩,
  ⟨some 23, none, .p (.load none (.t 22))⟩,
  ⟨some 5, none, .p (.mv (.t 23))⟩]
def a8X : List AIns := [⟨some 24, none, .p (.mv (.t 5))⟩,
  ⟨some 25, none, .p (.bin .gtr (.t 24) (.c (.int .u32 0)))⟩]
def b6O : List AIns := [⟨some 28, none, .p (.mv (.t 4))⟩,
  ⟨some 29, none, .p (.bin .add (.t 28) (.c (.int .i64 1)))⟩,
  ⟨some 4, none, .p (.mv (.t 29))⟩]
def b6N : List AIns := [⟨some 26, none, .p (.mv (.t 5))⟩,
  ⟨some 27, none, .p (.bin .quo (.t 26) (.c (.int .u32 2)))⟩,
  ⟨some 5, none, .p (.mv (.t 27))⟩]
def b6U : ACode := .seq (.seq (.region a8X false) (.cond (.t 25) (.skip) (.exit 2))) (.seq (.block 3 (.region b6O false)) (.region b6N false))
def a8W : List AIns := [⟨some 30, none, .p (.mv (.t 4))⟩,
  ⟨some 2, none, .p (.mv (.t 30))⟩]
def b3d : List AIns := [⟨some 11, none, .p (.mv (.t 3))⟩,
  ⟨some 12, none, .p (.bin .sub (.t 11) (.c (.int .i64 1)))⟩,
  ⟨some 3, none, .p (.mv (.t 12))⟩]
def b6V : ACode := .seq (.seq (.region a8Y false) (.cond (.t 10) (.skip) (.exit 0))) (.seq (.block 1 (.seq (.region b6R false) (.cond (.t 17) (.seq (.region b6Q false) (.seq (.seq (.region b6P false) (.block 2 (.loop b6U))) (.seq (.region a8W false) (.ret)))) (.skip)))) (.region b3d false))
def a7u : List AIns := [⟨some 2, none, .p (.mv (.c (.int .i64 0)))⟩]
def d1Y : ACode := .seq (.region b6T false) (.seq (.seq (.region b6S false) (.block 0 (.loop b6V))) (.seq (.region a7u false) (.ret)))
theorem c9t : fchk Pr (fun _ _ => false) Try.f132 = some (d1Y, [.tmp 2], 31) := by kernel_rfl
theorem c9u : Pr.funcs[a2B]? = some Try.f132 := Try.func132
def b6i : List AIns := [⟨some 4, none, .p (.mv (.c (.int .u64 0)))⟩]
def b6h : List AIns := [⟨some 5, none, .p (.mv (.t 1))⟩,
  ⟨some 6, none, .p (.mv (.t 0))⟩,
  ⟨some 7, none, .p (.len (.t 6))⟩,
  ⟨some 8, none, .p (.bin .lss (.t 5) (.t 7))⟩]
def b6g : List AIns := [⟨some 9, none, .p (.mv (.t 0))⟩,
  ⟨some 10, none, .p (.mv (.t 1))⟩,
  ⟨some 11, none, .p (.idxp 1 (.t 9) (.t 10))⟩,
  ⟨some 12, none, .p (.load none (.t 11))⟩,
  ⟨some 13, none, .p (.conv .u64 (.t 12))⟩,
  ⟨some 4, none, .p (.mv (.t 13))⟩]
def b6f : List AIns := [⟨some 4, none, .p (.mv (.c (.int .u64 0)))⟩]
def d1z : ACode := .seq (.region b6i false) (.seq (.seq (.region b6h false) (.cond (.t 8) (.seq (.region b6g false) (.ret)) (.skip))) (.seq (.region b6f false) (.ret)))
theorem c9n : fchk Pr (fun _ _ => false) Try.f133 = some (d1z, [.tmp 4], 14) := by kernel_rfl
theorem c9o : Pr.funcs[a0P]? = some Try.f133 := Try.func133
def b6r : List AIns := [⟨some 4, none, .p (.mv (.c (.nil)))⟩]
def b6q : List AIns := [⟨some 5, none, .p (.mv (.c (.nil)))⟩]
def b6p : List AIns := [⟨some 6, none, .p (.mv (.c (.int .u64 0)))⟩]
def b6o : List AIns := [⟨some 7, none, .p (.mv (.c (.int .i64 0)))⟩]
def a8J : List AIns := [⟨some 10, none, .p (.mv (.t 7))⟩,
  ⟨some 11, none, .p (.mv (.t 0))⟩,
  ⟨some 12, none, .p (.len (.t 11))⟩,
  ⟨some 13, none, .p (.bin .lss (.t 10) (.t 12))⟩]
def b6n : List AIns := [⟨some 16, none, .p (.mv (.t 0))⟩,
  ⟨some 17, none, .p (.mv (.t 7))⟩,
  ⟨some 18, none, .call a0P [(.t 16), (.t 17)]⟩,
  ⟨some 8, none, .p (.mv (.t 18))⟩]
def b6m : List AIns := [⟨some 19, none, .p (.mv (.t 1))⟩,
  ⟨some 20, none, .p (.mv (.t 7))⟩,
  ⟨some 21, none, .call a0P [(.t 19), (.t 20)]⟩,
  ⟨some 22, none, .p (.mv (.t 6))⟩,
  ⟨some 23, none, .p (.bin .add (.t 21) (.t 22))⟩,
  ⟨some 9, none, .p (.mv (.t 23))⟩]
def b6l : List AIns := [⟨some 6, none, .p (.mv (.c (.int .u64 0)))⟩]
def b6k : List AIns := [⟨some 24, none, .p (.mv (.t 8))⟩,
  ⟨some 25, none, .p (.mv (.t 9))⟩,
  ⟨some 26, none, .p (.bin .lss (.t 24) (.t 25))⟩]
def b6j : List AIns := [⟨some 27, none, .p (.mv (.t 8))⟩,
  ⟨some 28, none, .p (.bin .add (.t 27) (.c (.int .u64 4294967296)))⟩,
  ⟨some 8, none, .p (.mv (.t 28))⟩]
def b3c : List AIns := [⟨some 6, none, .p (.mv (.c (.int .u64 1)))⟩]
def a7t : List AIns := [⟨some 29, none, .p (.mv (.t 5))⟩,
  ⟨some 30, none, .p (.mv (.t 8))⟩,
  ⟨some 31, none, .p (.mv (.t 9))⟩,
  ⟨some 32, none, .p (.bin .sub (.t 30) (.t 31))⟩,
  ⟨some 33, none, .p (.conv .u32 (.t 32))⟩,
  ⟨some 34, none, .e (.bsl 1 [(.t 33)])⟩,
  ⟨some 35, none, .e (.app 1 4 false (.t 29) (.t 34))⟩,
  ⟨some 5, none, .p (.mv (.t 35))⟩]
def a7s : List AIns := [⟨some 14, none, .p (.mv (.t 7))⟩,
  ⟨some 15, none, .p (.bin .add (.t 14) (.c (.int .i64 1)))⟩,
  ⟨some 7, none, .p (.mv (.t 15))⟩]
def a8K : ACode := .seq (.seq (.region a8J false) (.cond (.t 13) (.skip) (.exit 0))) (.seq (.block 1 (.seq (.region b6n false) (.seq (.region b6m false) (.seq (.region b6l false) (.seq (.seq (.region b6k false) (.cond (.t 26) (.seq (.region b6j false) (.region b3c false)) (.skip))) (.region a7t false)))))) (.region a7s false))
def a4E : List AIns := [⟨some 36, none, .p (.mv (.t 5))⟩,
  ⟨some 37, none, .call a0y [(.t 36)]⟩,
  ⟨some 4, none, .p (.mv (.t 37))⟩]
def d1A : ACode := .seq (.region b6r false) (.seq (.region b6q false) (.seq (.region b6p false) (.seq (.seq (.region b6o false) (.block 0 (.loop a8K))) (.seq (.region a4E false) (.ret)))))
theorem c9p : fchk Pr (fun _ _ => false) Try.f134 = some (d1A, [.tmp 4], 38) := by kernel_rfl
theorem c9q : Pr.funcs[a2A]? = some Try.f134 := Try.func134
def c0G : List AIns := [⟨some 4, none, .p (.mv (.c (.nil)))⟩,
  ⟨some 5, none, .p (.mv (.c (.int .i64 0)))⟩]
def c0F : List AIns := [⟨some 9, none, .p (.mv (.t 1))⟩,
  ⟨some 10, none, .p (.bin .lss (.t 9) (.c (.int .i64 0)))⟩]
def d1J : List AIns := [⟨some 4, none, .p (.mv (.c (.nil)))⟩,
  ⟨some 5, none, .p (.mv (.c (.int .i64 1)))⟩]
def c0E : List AIns := [⟨some 11, none, .p (.mv (.t 1))⟩,
  ⟨some 12, none, .p (.mv (.t 0))⟩,
  ⟨some 13, none, .call a2B [(.t 12)]⟩,
  ⟨some 14, none, .p (.bin .geq (.t 11) (.t 13))⟩]
def c0D : List AIns := [⟨some 4, none, .p (.mv (.c (.nil)))⟩,
  ⟨some 5, none, .p (.mv (.c (.int .i64 0)))⟩]
def c0C : List AIns := [⟨some 6, none, .p (.mv (.c (.nil)))⟩]
def c0B : List AIns := [⟨some 15, none, .p (.mv (.t 1))⟩,
  ⟨some 16, none, .p (.bin .quo (.t 15) (.c (.int .i64 32)))⟩,
  ⟨some 7, none, .p (.mv (.t 16))⟩]
def b0W : List AIns := [⟨some 17, none, .p (.mv (.t 7))⟩,
  ⟨some 18, none, .p (.mv (.t 0))⟩,
  ⟨some 19, none, .p (.len (.t 18))⟩,
  ⟨some 20, none, .p (.bin .lss (.t 17) (.t 19))⟩]
def c0A : List AIns := [⟨some 23, none, .p (.mv (.t 0))⟩,
  ⟨some 24, none, .p (.mv (.t 7))⟩,
  ⟨some 25, none, .call a0P [(.t 23), (.t 24)]⟩,
  ⟨some 26, none, .p (.mv (.t 0))⟩,
  ⟨some 27, none, .p (.mv (.t 7))⟩,
  ⟨some 28, none, .p (.bin .add (.t 27) (.c (.int .i64 1)))⟩,
  ⟨some 29, none, .call a0P [(.t 26), (.t 28)]⟩,
  ⟨some 30, none, .p (.bin .mul (.t 29) (.c (.int .u64 4294967296)))⟩,
  ⟨some 31, none, .p (.bin .add (.t 25) (.t 30))⟩,
  ⟨some 8, none, .p (.mv (.t 31))⟩]
def c0z : List AIns := [⟨some 32, none, .p (.mv (.t 6))⟩,
  ⟨some 33, none, .p (.mv (.t 8))⟩,
  ⟨some 34, none, .p (.mv (.t 1))⟩,
  ⟨some 35, none, .p (.bin .rem (.t 34) (.c (.int .i64 32)))⟩,
  ⟨some 36, none, .p (.conv .u64 (.t 35))⟩,
  ⟨some 37, none, .p (.bin .shr (.t 33) (.t 36))⟩,
  ⟨some 38, none, .p (.bin .rem (.t 37) (.c (.int .u64 4294967296)))⟩,
  ⟨some 39, none, .p (.conv .u32 (.t 38))⟩,
  ⟨some 40, none, .e (.bsl 1 [(.t 39)])⟩,
  ⟨some 41, none, .e (.app 1 4 false (.t 32) (.t 40))⟩,
  ⟨some 6, none, .p (.mv (.t 41))⟩]
def b6t : List AIns := [⟨some 21, none, .p (.mv (.t 7))⟩,
  ⟨some 22, none, .p (.bin .add (.t 21) (.c (.int .i64 1)))⟩,
  ⟨some 7, none, .p (.mv (.t 22))⟩]
def d1L : ACode := .seq (.seq (.region b0W false) (.cond (.t 20) (.skip) (.exit 0))) (.seq (.block 1 (.seq (.region c0A false) (.region c0z false))) (.region b6t false))
def b6s : List AIns := [⟨some 42, none, .p (.mv (.t 6))⟩,
  ⟨some 43, none, .call a0y [(.t 42)]⟩,
  ⟨some 4, none, .p (.mv (.t 43))⟩,
  ⟨some 5, none, .p (.mv (.c (.int .i64 0)))⟩]
def d4h : ACode := .seq (.region c0G false) (.seq (.seq (.region c0F false) (.cond (.t 10) (.seq (.region d1J false) (.ret)) (.skip))) (.seq (.seq (.region c0E false) (.cond (.t 14) (.seq (.region c0D false) (.ret)) (.skip))) (.seq (.region c0C false) (.seq (.seq (.region c0B false) (.block 0 (.loop d1L))) (.seq (.region b6s false) (.ret))))))
theorem d1K : fchk Pr (fun _ _ => false) Try.f135 = some (d4h, [.tmp 4, .tmp 5], 44) := by kernel_rfl
theorem d1M : Pr.funcs[b4V]? = some Try.f135 := Try.func135
def c4x : List AIns := [⟨some 4, none, .p (.mv (.c (.nil)))⟩]
def c4w : List AIns := [⟨some 9, none, .p (.mv (.t 0))⟩,
  ⟨some 10, none, .p (.len (.t 9))⟩,
  ⟨some 11, none, .e (.mksl 1 4 (.int .u32 0) (.t 10) (.t 10))⟩,
  ⟨some 5, none, .p (.mv (.t 11))⟩]
def c4v : List AIns := [⟨some 6, none, .p (.mv (.c (.int .u64 0)))⟩]
def c4u : List AIns := [⟨some 12, none, .p (.mv (.t 0))⟩,
  ⟨some 13, none, .p (.len (.t 12))⟩,
  ⟨some 14, none, .p (.mv (.c (.int .i64 0)))⟩]
def b4u : List AIns := [⟨some 15, none, .p (.bin .lss (.t 14) (.t 13))⟩]
def c4t : List AIns := [⟨some 16, none, .p (.mv (.t 14))⟩,
  ⟨some 7, none, .p (.mv (.t 16))⟩]
def c4s : List AIns := [⟨some 17, none, .p (.mv (.t 0))⟩,
  ⟨some 18, none, .p (.mv (.t 7))⟩,
  ⟨some 19, none, .p (.idxp 1 (.t 17) (.t 18))⟩,
  ⟨some 20, none, .p (.load none (.t 19))⟩,
  ⟨some 21, none, .p (.conv .u64 (.t 20))⟩,
  ⟨some 22, none, .p (.mv (.t 6))⟩,
  ⟨some 23, none, .p (.bin .sub (.t 21) (.t 22))⟩,
  ⟨some 8, none, .p (.mv (.t 23))⟩]
def c4r : List AIns := [⟨some 24, none, .p (.mv (.t 7))⟩,
  ⟨some 25, none, .p (.mv (.t 1))⟩,
  ⟨some 26, none, .p (.len (.t 25))⟩,
  ⟨some 27, none, .p (.bin .lss (.t 24) (.t 26))⟩]
def c4q : List AIns := [⟨some 28, none, .p (.mv (.t 8))⟩,
  ⟨some 29, none, .p (.mv (.t 1))⟩,
  ⟨some 30, none, .p (.mv (.t 7))⟩,
  ⟨some 31, none, .p (.idxp 1 (.t 29) (.t 30))⟩,
  ⟨some 32, none, .p (.load none (.t 31))⟩,
  ⟨some 33, none, .p (.conv .u64 (.t 32))⟩,
  ⟨some 34, none, .p (.bin .sub (.t 28) (.t 33))⟩,
  ⟨some 8, none, .p (.mv (.t 34))⟩]
def b4t : List AIns := [⟨some 35, none, .p (.mv (.t 5))⟩,
  ⟨some 36, none, .p (.mv (.t 7))⟩,
  ⟨some 37, none, .p (.mv (.t 8))⟩,
  ⟨some 38, none, .p (.conv .u32 (.t 37))⟩,
  ⟨some 39, none, .p (.idxp 1 (.t 35) (.t 36))⟩,
  ⟨none, none, .e (.store 1 (.t 39) (.t 38))⟩]
def b1h : List AIns := [⟨some 40, none, .p (.mv (.t 8))⟩,
  ⟨some 41, none, .p (.bin .shr (.t 40) (.c (.int .u64 63)))⟩,
  ⟨some 6, none, .p (.mv (.t 41))⟩]
def b1g : List AIns := [⟨some 42, none, .p (.bin .add (.t 14) (.c (.int .i64 1)))⟩,
  ⟨some 14, none, .p (.mv (.t 42))⟩]
def b4v : ACode := .seq (.region b4u false) (.seq (.cond (.t 15) (.skip) (.exit 0)) (.seq (.block 1 (.seq (.region c4t false) (.seq (.region c4s false) (.seq (.seq (.region c4r false) (.cond (.t 27) (.region c4q false) (.skip))) (.seq (.region b4t false) (.region b1h false)))))) (.region b1g false)))
def a6L : List AIns := [⟨some 43, none, .p (.mv (.t 5))⟩,
  ⟨some 44, none, .call a0r [(.t 43)]⟩,
  ⟨some 4, none, .p (.mv (.t 44))⟩]
def d7F : ACode := .seq (.region c4x false) (.seq (.region c4w false) (.seq (.region c4v false) (.seq (.seq (.region c4u false) (.block 0 (.loop b4v))) (.seq (.region a6L false) (.ret)))))
theorem d4u : fchk Pr (fun _ _ => false) Try.f136 = some (d7F, [.tmp 4], 45) := by kernel_rfl
theorem d4v : Pr.funcs[a8o]? = some Try.f136 := Try.func136
def b6e : List AIns := [⟨some 4, none, .p (.mv (.c (.int .i64 0)))⟩]
def b6d : List AIns := [⟨some 5, none, .p (.mv (.t 0))⟩,
  ⟨some 6, none, .p (.mv (.t 1))⟩,
  ⟨some 7, none, .p (.bin .gtr (.t 5) (.t 6))⟩]
def b6c : List AIns := [⟨some 8, none, .p (.mv (.t 0))⟩,
  ⟨some 4, none, .p (.mv (.t 8))⟩]
def b6b : List AIns := [⟨some 9, none, .p (.mv (.t 1))⟩,
  ⟨some 4, none, .p (.mv (.t 9))⟩]
def d1y : ACode := .seq (.region b6e false) (.seq (.seq (.region b6d false) (.cond (.t 7) (.seq (.region b6c false) (.ret)) (.skip))) (.seq (.region b6b false) (.ret)))
theorem c9l : fchk Pr (fun _ _ => false) Try.f137 = some (d1y, [.tmp 4], 10) := by kernel_rfl
theorem c9m : Pr.funcs[a7g]? = some Try.f137 := Try.func137
end Go.Abs

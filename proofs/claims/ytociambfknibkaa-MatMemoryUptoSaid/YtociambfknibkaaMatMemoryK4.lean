/- Part 4 of the proof of MatMemory: Code0, Code1. -/
import Derived.Test.YtociambfknibkaaMatMemoryK3
set_option maxRecDepth 100000
noncomputable section
namespace Go.Abs
abbrev mvI (d s : Nat) : AIns := ⟨some d, none, .p (.mv (.t s))⟩
abbrev opI (d : Nat) (o : POp) : AIns := ⟨some d, none, .p o⟩
abbrev rgI (l : List AIns) : ACode := .region l false
open Go.Proofs
def a4E : List AIns := [opI 4 (.mv (.c (.bool false)))]
def a4D : List AIns := [⟨some 20, none, .call a6c []⟩,
  opI 21 (.un .not (.t 20))]
def b1D : List AIns := [opI 4 (.mv (.c (.bool false)))]
def a4C : List AIns := [mvI 22 0,
  ⟨some 23, none, .call a4L [(.t 22)]⟩,
  mvI 24 1,
  ⟨some 25, none, .call a2P [(.t 24)]⟩,
  mvI 5 23,
  mvI 6 25]
def a4B : List AIns := [mvI 26 5,
  ⟨some 27, none, .call a5p [(.t 26)]⟩,
  mvI 7 27]
def a4A : List AIns := [mvI 29 5,
  ⟨some 30, none, .call a2e [(.t 29)]⟩,
  mvI 28 30,
  opI 31 (.ext (.t 28) 0),
  opI 32 (.ext (.t 28) 1),
  mvI 8 31,
  mvI 9 32]
def a4z : List AIns := [mvI 34 5,
  ⟨some 35, none, .call b2P [(.t 34)]⟩,
  mvI 33 35,
  opI 36 (.ext (.t 33) 0),
  opI 37 (.ext (.t 33) 1),
  mvI 10 36,
  mvI 11 37]
def a4y : List AIns := [mvI 38 6,
  ⟨some 39, none, .call a2s [(.t 38)]⟩,
  mvI 12 39]
def a4x : List AIns := [⟨some 40, none, .call a8g [(.c (.int .i64 1))]⟩,
  mvI 41 6,
  ⟨some 42, none, .call b0b [(.t 40), (.t 41)]⟩,
  mvI 13 42]
def a4w : List AIns := [mvI 44 6,
  mvI 45 6,
  ⟨some 46, none, .call b2N [(.t 44), (.t 45)]⟩,
  mvI 43 46,
  opI 47 (.ext (.t 43) 0),
  opI 48 (.ext (.t 43) 1),
  mvI 14 47,
  mvI 15 48]
def a3V : List AIns := [mvI 49 7,
  ⟨some 50, none, .call a1S [(.t 49)]⟩]
def a3U : List AIns := [mvI 51 8,
  ⟨some 52, none, .call a1S [(.t 51)]⟩]
def a3T : List AIns := [mvI 53 10,
  ⟨some 54, none, .call a1S [(.t 53)]⟩]
def a3S : List AIns := [mvI 55 12,
  ⟨some 56, none, .call a1m [(.t 55)]⟩]
def a3R : List AIns := [mvI 57 13,
  ⟨some 58, none, .call a1m [(.t 57)]⟩]
def a3Q : List AIns := [mvI 59 14,
  ⟨some 60, none, .call a1m [(.t 59)]⟩]
def a3P : List AIns := [mvI 62 5,
  ⟨some 63, none, .call a2e [(.t 62)]⟩,
  mvI 61 63,
  opI 64 (.ext (.t 61) 0),
  opI 65 (.ext (.t 61) 1),
  mvI 16 64,
  mvI 17 65]
def a3O : List AIns := [mvI 67 0,
  ⟨some 68, none, .call a2M [(.t 67)]⟩,
  mvI 66 68,
  opI 69 (.ext (.t 66) 0),
  opI 70 (.ext (.t 66) 1),
  mvI 18 69,
  mvI 19 70]
def a3N : List AIns := [mvI 71 5,
  mvI 72 0,
  ⟨some 73, none, .call a4f [(.t 71), (.t 72)]⟩,
  mvI 74 73,
  ⟨some 75, some (74, true), .p (.mv (.t 6))⟩,
  ⟨some 76, some (74, true), .p (.mv (.t 1))⟩,
  ⟨some 77, some (74, true), .call a4e [(.t 75), (.t 76)]⟩,
  opI 78 (.pick (.t 74) (.t 77) (.c (.bool false))),
  mvI 79 78,
  ⟨some 80, some (79, true), .p (.mv (.t 16))⟩,
  ⟨some 81, some (79, true), .p (.mv (.t 18))⟩,
  ⟨some 82, some (79, true), .call a4f [(.t 80), (.t 81)]⟩,
  opI 83 (.pick (.t 79) (.t 82) (.c (.bool false))),
  mvI 84 83,
  ⟨some 85, some (84, true), .p (.mv (.t 6))⟩,
  ⟨some 86, some (84, true), .call a2s [(.t 85)]⟩,
  ⟨some 87, some (84, true), .p (.mv (.t 1))⟩,
  ⟨some 88, some (84, true), .call a4b [(.t 87)]⟩,
  ⟨some 89, some (84, true), .call a4e [(.t 86), (.t 88)]⟩,
  opI 90 (.pick (.t 84) (.t 89) (.c (.bool false))),
  mvI 91 90,
  ⟨some 92, some (91, true), .p (.mv (.t 5))⟩,
  ⟨some 93, some (91, true), .call a5p [(.t 92)]⟩,
  ⟨some 94, some (91, true), .p (.mv (.t 0))⟩,
  ⟨some 95, some (91, true), .call a2N [(.t 94)]⟩,
  ⟨some 96, some (91, true), .call a4f [(.t 93), (.t 95)]⟩,
  opI 97 (.pick (.t 91) (.t 96) (.c (.bool false))),
  mvI 4 97]
def b2v : ACode := .seq (rgI a4E) (.seq (.seq (rgI a4D) (.cond (.t 21) (.seq (rgI b1D) (.ret)) (.skip))) (.seq (rgI a4C) (.seq (rgI a4B) (.seq (rgI a4A) (.seq (rgI a4z) (.seq (rgI a4y) (.seq (rgI a4x) (.seq (rgI a4w) (.seq (rgI a3V) (.seq (rgI a3U) (.seq (rgI a3T) (.seq (rgI a3S) (.seq (rgI a3R) (.seq (rgI a3Q) (.seq (rgI a3P) (.seq (rgI a3O) (.seq (rgI a3N) (.ret))))))))))))))))))
theorem b1E : fchk Pr (fun _ _ => false) Try.f3 = some (b2v, [.tmp 4], 98) := by kernel_rfl
theorem b1F : Pr.funcs[a5q]? = some Try.f3 := Try.func3
def a9e : List AIns := [opI 0 (.mv (.c (.bool false)))]
def a9d : List AIns := [⟨some 4, none, .call b2L [(.c (.int .i64 2))]⟩,
  mvI 3 4,
  opI 5 (.ext (.t 3) 0),
  opI 6 (.ext (.t 3) 1),
  mvI 1 5,
  mvI 2 6]
def a9c : List AIns := [mvI 7 1,
  ⟨some 8, none, .call b2M [(.t 7)]⟩,
  ⟨some 9, none, .p (.bin .eql (.t 8) (.c (.str ⟨#[49, 32, 48, 59, 32, 48, 32, 49]⟩)))⟩,
  mvI 0 9]
def c0o : ACode := .seq (rgI a9e) (.seq (rgI a9d) (.seq (rgI a9c) (.ret)))
theorem b8n : fchk Pr (fun _ _ => false) Try.f4 = some (c0o, [.tmp 0], 10) := by kernel_rfl
theorem b8o : Pr.funcs[a6c]? = some Try.f4 := Try.func4
def b1B : List AIns := [opI 2 (.mv (.c (.nil)))]
def b1A : List AIns := [opI 3 (.mv (.c (.nil)))]
def b1z : List AIns := [opI 4 (.mv (.c (.int .i64 0)))]
def a5Y : List AIns := [mvI 5 4,
  mvI 6 0,
  opI 7 (.len (.t 6)),
  opI 8 (.bin .lss (.t 5) (.t 7))]
def b1y : List AIns := [mvI 11 3,
  mvI 12 0,
  mvI 13 4,
  opI 14 (.idxp 1 (.t 12) (.t 13)),
  opI 15 (.load none (.t 14)),
  ⟨some 16, none, .call a2P [(.t 15)]⟩,
  ⟨some 17, none, .e (.bsl 1 [(.t 16)])⟩,
  ⟨some 18, none, .e (.app 1 24 false (.t 11) (.t 17))⟩,
  mvI 3 18]
def b1x : List AIns := [mvI 9 4,
  opI 10 (.bin .add (.t 9) (.c (.int .i64 1))),
  mvI 4 10]
def b1C : ACode := .seq (.seq (rgI a5Y) (.cond (.t 8) (.skip) (.exit 0))) (.seq (.block 1 (rgI b1y)) (rgI b1x))
def a5X : List AIns := [mvI 19 3,
  mvI 2 19]
def c1E : ACode := .seq (rgI b1B) (.seq (rgI b1A) (.seq (.seq (rgI b1z) (.block 0 (.loop b1C))) (.seq (rgI a5X) (.ret))))
theorem c0m : fchk Pr (fun _ _ => false) Try.f5 = some (c1E, [.tmp 2], 20) := by kernel_rfl
theorem c0n : Pr.funcs[a4L]? = some Try.f5 := Try.func5
def b1v : List AIns := [opI 2 (.mv (.c (.nil)))]
def b1u : List AIns := [opI 3 (.mv (.c (.nil)))]
def b1t : List AIns := [opI 4 (.mv (.c (.int .i64 0)))]
def a5W : List AIns := [mvI 5 4,
  mvI 6 0,
  opI 7 (.len (.t 6)),
  opI 8 (.bin .lss (.t 5) (.t 7))]
def b1s : List AIns := [mvI 11 3,
  mvI 12 0,
  mvI 13 4,
  opI 14 (.idxp 2 (.t 12) (.t 13)),
  opI 15 (.load (some 2) (.t 14)),
  ⟨some 16, none, .call b0c [(.t 15)]⟩,
  ⟨some 17, none, .e (.bsl 2 [(.t 16)])⟩,
  ⟨some 18, none, .e (.app 2 32 false (.t 11) (.t 17))⟩,
  mvI 3 18]
def b1r : List AIns := [mvI 9 4,
  opI 10 (.bin .add (.t 9) (.c (.int .i64 1))),
  mvI 4 10]
def b1w : ACode := .seq (.seq (rgI a5W) (.cond (.t 8) (.skip) (.exit 0))) (.seq (.block 1 (rgI b1s)) (rgI b1r))
def a5V : List AIns := [mvI 19 3,
  mvI 2 19]
def c1D : ACode := .seq (rgI b1v) (.seq (rgI b1u) (.seq (.seq (rgI b1t) (.block 0 (.loop b1w))) (.seq (rgI a5V) (.ret))))
theorem c0k : fchk Pr (fun _ _ => false) Try.f6 = some (c1D, [.tmp 2], 20) := by kernel_rfl
theorem c0l : Pr.funcs[a2P]? = some Try.f6 := Try.func6
def a9T : List AIns := [opI 2 (.mv (.c (.nil)))]
def a9S : List AIns := [mvI 3 0,
  ⟨some 4, none, .call a1l [(.t 3), (.c (.fn a2f []))]⟩,
  mvI 2 4]
def c5E : ACode := .seq (rgI a9T) (.seq (rgI a9S) (.ret))
theorem b7s : fchk Pr (fun _ _ => false) Try.f7 = some (c5E, [.tmp 2], 5) := by kernel_rfl
theorem b7t : Pr.funcs[a5p]? = some Try.f7 := Try.func7
def a9N : List AIns := [opI 2 (.mv (.c (.nil))),
  opI 3 (.mv (.c (.int .i64 0)))]
def a9M : List AIns := [mvI 12 0,
  ⟨some 13, none, .call a2A [(.t 12)]⟩,
  mvI 11 13,
  opI 14 (.ext (.t 11) 0),
  opI 15 (.ext (.t 11) 1),
  opI 16 (.ext (.t 11) 2),
  mvI 4 14,
  mvI 5 15,
  mvI 6 16]
def a9L : List AIns := [mvI 17 6,
  opI 18 (.bin .neq (.t 17) (.c (.int .i64 0)))]
def b7b : List AIns := [mvI 19 6,
  opI 2 (.mv (.c (.nil))),
  mvI 3 19]
def b7a : List AIns := [mvI 20 4,
  mvI 21 5,
  opI 22 (.bin .mul (.t 20) (.t 21)),
  ⟨some 23, none, .e (.mksl 2 32 (.agg [.bool false, .nil]) (.c (.int .i64 0)) (.t 22))⟩,
  mvI 7 23]
def b6Z : List AIns := [opI 8 (.mv (.c (.nil)))]
def b6Y : List AIns := [mvI 24 5,
  opI 25 (.mv (.c (.int .i64 0)))]
def a9K : List AIns := [opI 26 (.bin .lss (.t 25) (.t 24))]
def b6X : List AIns := [mvI 27 25,
  mvI 9 27]
def b6W : List AIns := [mvI 28 4,
  opI 29 (.mv (.c (.int .i64 0)))]
def a7y : List AIns := [opI 30 (.bin .lss (.t 29) (.t 28))]
def b3T : List AIns := [mvI 31 29,
  mvI 10 31]
def b3S : List AIns := [mvI 32 7,
  mvI 33 0,
  mvI 34 10,
  opI 35 (.idxp 1 (.t 33) (.t 34)),
  opI 36 (.load none (.t 35)),
  mvI 37 9,
  opI 38 (.idxp 2 (.t 36) (.t 37)),
  opI 39 (.load (some 2) (.t 38)),
  ⟨some 40, none, .call a0N [(.t 39)]⟩,
  ⟨some 41, none, .e (.bsl 2 [(.t 40)])⟩,
  ⟨some 42, none, .e (.app 2 32 false (.t 32) (.t 41))⟩,
  mvI 7 42]
def b3R : List AIns := [opI 43 (.bin .add (.t 29) (.c (.int .i64 1))),
  mvI 29 43]
def c3f : ACode := .seq (rgI a7y) (.seq (.cond (.t 30) (.skip) (.exit 2)) (.seq (.block 3 (.seq (rgI b3T) (rgI b3S))) (rgI b3R)))
def b3Q : List AIns := [mvI 44 8,
  mvI 45 7,
  mvI 46 9,
  mvI 47 4,
  opI 48 (.bin .mul (.t 46) (.t 47)),
  mvI 49 9,
  opI 50 (.bin .add (.t 49) (.c (.int .i64 1))),
  mvI 51 4,
  opI 52 (.bin .mul (.t 50) (.t 51)),
  mvI 53 9,
  opI 54 (.bin .add (.t 53) (.c (.int .i64 1))),
  mvI 55 4,
  opI 56 (.bin .mul (.t 54) (.t 55)),
  opI 57 (.slc 2 (.t 45) (some (.t 48)) (some (.t 52)) (some (.t 56))),
  ⟨some 58, none, .e (.bslm 1 [(.t 57)])⟩,
  ⟨some 59, none, .e (.app 1 24 false (.t 44) (.t 58))⟩,
  mvI 8 59]
def b3P : List AIns := [opI 60 (.bin .add (.t 25) (.c (.int .i64 1))),
  mvI 25 60]
def c3g : ACode := .seq (rgI a9K) (.seq (.cond (.t 26) (.skip) (.exit 0)) (.seq (.block 1 (.seq (rgI b6X) (.seq (.seq (rgI b6W) (.block 2 (.loop c3f))) (rgI b3Q)))) (rgI b3P)))
def b3O : List AIns := [mvI 61 8,
  mvI 2 61,
  opI 3 (.mv (.c (.int .i64 0)))]
def c5z : ACode := .seq (rgI a9N) (.seq (rgI a9M) (.seq (.seq (rgI a9L) (.cond (.t 18) (.seq (rgI b7b) (.ret)) (.skip))) (.seq (rgI b7a) (.seq (rgI b6Z) (.seq (.seq (rgI b6Y) (.block 0 (.loop c3g))) (.seq (rgI b3O) (.ret)))))))
theorem b7c : fchk Pr (fun _ k => (k == 14)) Try.f8 = some (c5z, [.tmp 2, .tmp 3], 62) := by kernel_rfl
theorem b7d : Pr.funcs[a2e]? = some Try.f8 := Try.func8
def a9R : List AIns := [⟨some 1, none, .e (.box 1 (.t 0))⟩,
  opI 2 (.mv (.c (.nil))),
  opI 3 (.mv (.c (.int .i64 0)))]
def a9Q : List AIns := [opI 8 (.load none (.t 1)),
  ⟨some 9, none, .call a2A [(.t 8)]⟩,
  mvI 7 9,
  opI 10 (.ext (.t 7) 0),
  opI 11 (.ext (.t 7) 1),
  opI 12 (.ext (.t 7) 2),
  mvI 4 10,
  mvI 5 11,
  mvI 6 12]
def a9P : List AIns := [mvI 13 6,
  opI 14 (.bin .neq (.t 13) (.c (.int .i64 0)))]
def b7n : List AIns := [mvI 15 6,
  opI 2 (.mv (.c (.nil))),
  mvI 3 15]
def b7m : List AIns := [opI 16 (.load none (.t 1)),
  opI 17 (.mkfn a4K [(.t 1)]),
  ⟨some 18, none, .call a1l [(.t 16), (.t 17)]⟩,
  mvI 2 18,
  opI 3 (.mv (.c (.int .i64 0)))]
def c5D : ACode := .seq (rgI a9R) (.seq (.seq (rgI a9Q) (.seq (rgI a9P) (.cond (.t 14) (.seq (rgI b7n) (.ret)) (.skip)))) (.seq (rgI b7m) (.ret)))
theorem b7o : fchk Pr (fun _ _ => false) Try.f9 = some (c5D, [.tmp 2, .tmp 3], 19) := by kernel_rfl
theorem b7p : Pr.funcs[b2P]? = some Try.f9 := Try.func9
def a4U : List AIns := [opI 2 (.mv (.c (.nil)))]
def a4T : List AIns := [mvI 4 0,
  ⟨some 5, none, .call b2O [(.t 4)]⟩,
  mvI 3 5]
def a0X : List AIns := [mvI 6 3,
  opI 7 (.bin .geq (.t 6) (.c (.int .i64 0))),
  mvI 8 7,
  ⟨some 9, some (8, true), .p (.mv (.t 0))⟩,
  ⟨some 10, some (8, true), .p (.mv (.t 3))⟩,
  ⟨some 11, some (8, true), .p (.idxp 2 (.t 9) (.t 10))⟩,
  ⟨some 12, some (8, true), .p (.load (some 2) (.t 11))⟩,
  ⟨some 13, some (8, true), .call a4a [(.t 12)]⟩,
  ⟨some 14, some (8, true), .p (.bin .lss (.t 13) (.c (.int .i64 0)))⟩,
  opI 15 (.pick (.t 8) (.t 14) (.c (.bool false)))]
def a4S : List AIns := [mvI 16 0,
  ⟨some 17, none, .call a0t [(.t 16), (.c (.fn a2d []))]⟩,
  mvI 2 17]
def a1O : List AIns := [mvI 18 0,
  ⟨some 19, none, .call a0t [(.t 18), (.c (.fn a0N []))]⟩,
  mvI 2 19]
def c0c : ACode := .seq (rgI a4U) (.seq (.seq (rgI a4T) (.seq (rgI a0X) (.cond (.t 15) (.seq (rgI a4S) (.ret)) (.skip)))) (.seq (rgI a1O) (.ret)))
theorem a8U : fchk Pr (fun _ _ => false) Try.f10 = some (c0c, [.tmp 2], 20) := by kernel_rfl
theorem a8V : Pr.funcs[a2s]? = some Try.f10 := Try.func10
def b4d : List AIns := [⟨some 2, none, .e (.box 2 (.t 0))⟩,
  opI 4 (.mv (.c (.nil)))]
def b4c : List AIns := [mvI 5 1,
  opI 6 (.mkfn a3u [(.t 2)]),
  ⟨some 7, none, .call a0t [(.t 5), (.t 6)]⟩,
  mvI 4 7]
def c3i : ACode := .seq (rgI b4d) (.seq (rgI b4c) (.ret))
theorem c1t : fchk Pr (fun _ _ => false) Try.f11 = some (c3i, [.tmp 4], 8) := by kernel_rfl
theorem c1u : Pr.funcs[b0b]? = some Try.f11 := Try.func11
def b8v : List AIns := [⟨some 2, none, .e (.box 2 (.c (.agg [.bool false, .nil])))⟩]
def b8u : List AIns := [mvI 4 0,
  opI 5 (.conv .u64 (.t 4)),
  mvI 3 5]
def b8t : List AIns := [mvI 6 0,
  opI 7 (.bin .lss (.t 6) (.c (.int .i64 0)))]
def b8s : List AIns := [mvI 8 3,
  opI 9 (.un .neg (.t 8)),
  mvI 3 9]
def b1S : List AIns := [mvI 10 0,
  opI 11 (.bin .lss (.t 10) (.c (.int .i64 0))),
  mvI 12 3,
  opI 13 (.conv .u32 (.t 12)),
  mvI 14 3,
  opI 15 (.bin .shr (.t 14) (.c (.int .u64 32))),
  opI 16 (.conv .u32 (.t 15)),
  ⟨some 17, none, .e (.bsl 1 [(.t 13), (.t 16)])⟩,
  ⟨some 18, none, .call a0q [(.t 11), (.t 17)]⟩,
  ⟨none, none, .e (.store 2 (.t 2) (.t 18))⟩]
def c6e : ACode := .seq (rgI b8v) (.seq (rgI b8u) (.seq (.seq (rgI b8t) (.cond (.t 7) (rgI b8s) (.skip))) (.seq (rgI b1S) (.ret))))
theorem c4z : fchk Pr (fun _ _ => false) Try.f12 = some (c6e, [.cell 2 (some 2)], 19) := by kernel_rfl
theorem c4A : Pr.funcs[a8g]? = some Try.f12 := Try.func12
def b7h : List AIns := [opI 4 (.mv (.c (.nil))),
  opI 5 (.mv (.c (.int .i64 0)))]
def b7g : List AIns := [mvI 6 0,
  mvI 7 1,
  ⟨some 8, none, .call b0a [(.t 6), (.t 7), (.c (.fn a1j []))]⟩,
  opI 9 (.ext (.t 8) 0),
  opI 10 (.ext (.t 8) 1),
  mvI 4 9,
  mvI 5 10]
def c5B : ACode := .seq (rgI b7h) (.seq (rgI b7g) (.ret))
theorem c3m : fchk Pr (fun _ _ => false) Try.f13 = some (c5B, [.tmp 4, .tmp 5], 11) := by kernel_rfl
theorem c3n : Pr.funcs[b2N]? = some Try.f13 := Try.func13
def a3M : List AIns := [opI 2 (.mv (.c (.int .i64 0)))]
def a2p : List AIns := [mvI 3 2,
  mvI 4 0,
  opI 5 (.len (.t 4)),
  opI 6 (.bin .lss (.t 3) (.t 5))]
def a7Q : List AIns := [mvI 9 0,
  mvI 10 2,
  opI 11 (.idxp 1 (.t 9) (.t 10)),
  opI 12 (.load none (.t 11)),
  ⟨some 13, none, .call a1m [(.t 12)]⟩]
def a7P : List AIns := [mvI 7 2,
  opI 8 (.bin .add (.t 7) (.c (.int .i64 1))),
  mvI 2 8]
def b7y : ACode := .seq (.seq (rgI a2p) (.cond (.t 6) (.skip) (.exit 0))) (.seq (.block 1 (rgI a7Q)) (rgI a7P))
def b8l : ACode := .seq (rgI a3M) (.block 0 (.loop b7y))
theorem a7R : fchk Pr (fun _ _ => false) Try.f14 = some (b8l, [], 14) := by kernel_rfl
theorem a7S : Pr.funcs[a1S]? = some Try.f14 := Try.func14
def a3L : List AIns := [opI 2 (.mv (.c (.int .i64 0)))]
def a2o : List AIns := [mvI 3 2,
  mvI 4 0,
  opI 5 (.len (.t 4)),
  opI 6 (.bin .lss (.t 3) (.t 5))]
def a7M : List AIns := [mvI 9 0,
  mvI 10 2,
  opI 11 (.idxp 2 (.t 9) (.t 10)),
  opI 12 (.load (some 2) (.t 11)),
  ⟨some 13, none, .call a3v [(.t 12)]⟩]
def a7L : List AIns := [mvI 14 0,
  mvI 15 2,
  opI 16 (.bld [.bool false, .nil] [(0, 1, (.c (.bool true))), (1, 1, (.c (.nil)))]),
  opI 17 (.idxp 2 (.t 14) (.t 15)),
  ⟨none, none, .e (.store 2 (.t 17) (.t 16))⟩]
def a7K : List AIns := [mvI 7 2,
  opI 8 (.bin .add (.t 7) (.c (.int .i64 1))),
  mvI 2 8]
def b7x : ACode := .seq (.seq (rgI a2o) (.cond (.t 6) (.skip) (.exit 0))) (.seq (.block 1 (.seq (rgI a7M) (rgI a7L))) (rgI a7K))
def b8k : ACode := .seq (rgI a3L) (.block 0 (.loop b7x))
theorem a7N : fchk Pr (fun _ _ => false) Try.f15 = some (b8k, [], 18) := by kernel_rfl
theorem a7O : Pr.funcs[a1m]? = some Try.f15 := Try.func15
def a5z : List AIns := [opI 2 (.mv (.c (.nil))),
  opI 3 (.mv (.c (.int .i64 0)))]
def a5y : List AIns := [mvI 12 0,
  ⟨some 13, none, .call a3t [(.t 12)]⟩,
  mvI 11 13,
  opI 14 (.ext (.t 11) 0),
  opI 15 (.ext (.t 11) 1),
  opI 16 (.ext (.t 11) 2),
  mvI 4 14,
  mvI 5 15,
  mvI 6 16]
def a5x : List AIns := [mvI 17 6,
  opI 18 (.bin .neq (.t 17) (.c (.int .i64 0)))]
def b0n : List AIns := [opI 2 (.mv (.c (.nil))),
  opI 3 (.mv (.c (.int .i64 8)))]
def b0m : List AIns := [opI 7 (.mv (.c (.nil)))]
def b0l : List AIns := [opI 8 (.mv (.c (.int .i64 0)))]
def a5w : List AIns := [mvI 19 8,
  mvI 20 5,
  opI 21 (.bin .lss (.t 19) (.t 20))]
def b0k : List AIns := [opI 9 (.mv (.c (.nil)))]
def b0j : List AIns := [opI 10 (.mv (.c (.int .i64 0)))]
def a5v : List AIns := [mvI 24 10,
  mvI 25 0,
  opI 26 (.len (.t 25)),
  opI 27 (.bin .lss (.t 24) (.t 26))]
def a8G : List AIns := [mvI 30 9,
  mvI 31 0,
  mvI 32 10,
  opI 33 (.idxp 1 (.t 31) (.t 32)),
  opI 34 (.load none (.t 33)),
  mvI 35 8,
  opI 36 (.idxp 2 (.t 34) (.t 35)),
  opI 37 (.load (some 2) (.t 36)),
  ⟨some 38, none, .call a8i [(.t 37)]⟩,
  ⟨some 39, none, .e (.bsl 2 [(.t 38)])⟩,
  ⟨some 40, none, .e (.app 2 32 false (.t 30) (.t 39))⟩,
  mvI 9 40]
def a8F : List AIns := [mvI 28 10,
  opI 29 (.bin .add (.t 28) (.c (.int .i64 1))),
  mvI 10 29]
def b9C : ACode := .seq (.seq (rgI a5v) (.cond (.t 27) (.skip) (.exit 2))) (.seq (.block 3 (rgI a8G)) (rgI a8F))
def a8E : List AIns := [mvI 41 7,
  mvI 42 9,
  ⟨some 43, none, .e (.bsl 1 [(.t 42)])⟩,
  ⟨some 44, none, .e (.app 1 24 false (.t 41) (.t 43))⟩,
  mvI 7 44]
def a8D : List AIns := [mvI 22 8,
  opI 23 (.bin .add (.t 22) (.c (.int .i64 1))),
  mvI 8 23]
def b9D : ACode := .seq (.seq (rgI a5w) (.cond (.t 21) (.skip) (.exit 0))) (.seq (.block 1 (.seq (rgI b0k) (.seq (.seq (rgI b0j) (.block 2 (.loop b9C))) (rgI a8E)))) (rgI a8D))
def a8C : List AIns := [mvI 45 7,
  mvI 2 45,
  opI 3 (.mv (.c (.int .i64 0)))]
def c0V : ACode := .seq (rgI a5z) (.seq (rgI a5y) (.seq (.seq (rgI a5x) (.cond (.t 18) (.seq (rgI b0n) (.ret)) (.skip))) (.seq (rgI b0m) (.seq (.seq (rgI b0l) (.block 0 (.loop b9D))) (.seq (rgI a8C) (.ret))))))
theorem b0o : fchk Pr (fun _ _ => false) Try.f16 = some (c0V, [.tmp 2, .tmp 3], 46) := by kernel_rfl
theorem b0p : Pr.funcs[a2M]? = some Try.f16 := Try.func16
def b4z : List AIns := [opI 4 (.mv (.c (.bool false)))]
def b4y : List AIns := [mvI 6 0,
  opI 7 (.len (.t 6)),
  mvI 8 1,
  opI 9 (.len (.t 8)),
  opI 10 (.bin .neq (.t 7) (.t 9))]
def c1N : List AIns := [opI 4 (.mv (.c (.bool false)))]
def b4x : List AIns := [opI 5 (.mv (.c (.int .i64 0)))]
def a7U : List AIns := [mvI 11 5,
  mvI 12 0,
  opI 13 (.len (.t 12)),
  opI 14 (.bin .lss (.t 11) (.t 13))]
def b4w : List AIns := [mvI 17 0,
  mvI 18 5,
  opI 19 (.idxp 1 (.t 17) (.t 18)),
  opI 20 (.load none (.t 19)),
  mvI 21 1,
  mvI 22 5,
  opI 23 (.idxp 1 (.t 21) (.t 22)),
  opI 24 (.load none (.t 23)),
  ⟨some 25, none, .call a4e [(.t 20), (.t 24)]⟩,
  opI 26 (.un .not (.t 25))]
def c1M : List AIns := [opI 4 (.mv (.c (.bool false)))]
def b4v : List AIns := [mvI 15 5,
  opI 16 (.bin .add (.t 15) (.c (.int .i64 1))),
  mvI 5 16]
def c1P : ACode := .seq (.seq (rgI a7U) (.cond (.t 14) (.skip) (.exit 0))) (.seq (.block 1 (.seq (.region b4w true) (.cond (.t 26) (.seq (rgI c1M) (.ret)) (.skip)))) (rgI b4v))
def b4u : List AIns := [opI 4 (.mv (.c (.bool true)))]
def c3w : ACode := .seq (rgI b4z) (.seq (.seq (rgI b4y) (.cond (.t 10) (.seq (rgI c1N) (.ret)) (.skip))) (.seq (.seq (rgI b4x) (.block 0 (.loop c1P))) (.seq (rgI b4u) (.ret))))
theorem c1O : fchk Pr (fun _ _ => false) Try.f17 = some (c3w, [.tmp 4], 27) := by kernel_rfl
theorem c1Q : Pr.funcs[a4f]? = some Try.f17 := Try.func17
def b4t : List AIns := [opI 4 (.mv (.c (.bool false)))]
def b4s : List AIns := [mvI 6 0,
  opI 7 (.len (.t 6)),
  mvI 8 1,
  opI 9 (.len (.t 8)),
  opI 10 (.bin .neq (.t 7) (.t 9))]
def c1I : List AIns := [opI 4 (.mv (.c (.bool false)))]
def b4r : List AIns := [opI 5 (.mv (.c (.int .i64 0)))]
def a7T : List AIns := [mvI 11 5,
  mvI 12 0,
  opI 13 (.len (.t 12)),
  opI 14 (.bin .lss (.t 11) (.t 13))]
def b4q : List AIns := [mvI 17 0,
  mvI 18 5,
  opI 19 (.idxp 2 (.t 17) (.t 18)),
  opI 20 (.load (some 2) (.t 19)),
  mvI 21 1,
  mvI 22 5,
  opI 23 (.idxp 2 (.t 21) (.t 22)),
  opI 24 (.load (some 2) (.t 23)),
  ⟨some 25, none, .call b2Q [(.t 20), (.t 24)]⟩,
  opI 26 (.un .not (.t 25))]
def c1H : List AIns := [opI 4 (.mv (.c (.bool false)))]
def b4p : List AIns := [mvI 15 5,
  opI 16 (.bin .add (.t 15) (.c (.int .i64 1))),
  mvI 5 16]
def c1K : ACode := .seq (.seq (rgI a7T) (.cond (.t 14) (.skip) (.exit 0))) (.seq (.block 1 (.seq (.region b4q true) (.cond (.t 26) (.seq (rgI c1H) (.ret)) (.skip)))) (rgI b4p))
def b4o : List AIns := [opI 4 (.mv (.c (.bool true)))]
def c3v : ACode := .seq (rgI b4t) (.seq (.seq (rgI b4s) (.cond (.t 10) (.seq (rgI c1I) (.ret)) (.skip))) (.seq (.seq (rgI b4r) (.block 0 (.loop c1K))) (.seq (rgI b4o) (.ret))))
theorem c1J : fchk Pr (fun _ _ => false) Try.f18 = some (c3v, [.tmp 4], 27) := by kernel_rfl
theorem c1L : Pr.funcs[a4e]? = some Try.f18 := Try.func18
def a6g : List AIns := [opI 2 (.mv (.c (.nil)))]
def a6f : List AIns := [opI 3 (.mv (.c (.int .i64 1)))]
def a6e : List AIns := [mvI 5 0,
  ⟨some 6, none, .call a8h [(.t 5)]⟩,
  mvI 4 6]
def a1U : List AIns := [mvI 7 4,
  opI 8 (.bin .geq (.t 7) (.c (.int .i64 0))),
  mvI 9 8,
  ⟨some 10, some (9, true), .p (.mv (.t 0))⟩,
  ⟨some 11, some (9, true), .p (.mv (.t 4))⟩,
  ⟨some 12, some (9, true), .p (.idxp 2 (.t 10) (.t 11))⟩,
  ⟨some 13, some (9, true), .p (.load (some 2) (.t 12))⟩,
  ⟨some 14, some (9, true), .call a4J [(.t 13)]⟩,
  ⟨some 15, some (9, true), .p (.bin .lss (.t 14) (.c (.int .i64 0)))⟩,
  opI 16 (.pick (.t 9) (.t 15) (.c (.bool false)))]
def a6d : List AIns := [opI 3 (.mv (.c (.int .i64 (-1))))]
def a1T : List AIns := [mvI 17 3,
  ⟨some 18, none, .call a3y [(.t 17)]⟩,
  mvI 19 0,
  ⟨some 20, none, .call a1e [(.t 18), (.t 19)]⟩,
  mvI 2 20]
def b5L : ACode := .seq (rgI a6g) (.seq (rgI a6f) (.seq (rgI a6e) (.seq (.seq (rgI a1U) (.cond (.t 16) (rgI a6d) (.skip))) (.seq (rgI a1T) (.ret)))))
theorem b4H : fchk Pr (fun _ _ => false) Try.f19 = some (b5L, [.tmp 2], 21) := by kernel_rfl
theorem b4I : Pr.funcs[a4b]? = some Try.f19 := Try.func19
def b0y : List AIns := [opI 2 (.mv (.c (.nil)))]
def b0x : List AIns := [opI 3 (.mv (.c (.nil)))]
def b0w : List AIns := [opI 4 (.mv (.c (.int .i64 0)))]
def a5C : List AIns := [mvI 5 4,
  mvI 6 0,
  opI 7 (.len (.t 6)),
  opI 8 (.bin .lss (.t 5) (.t 7))]
def b0v : List AIns := [mvI 11 3,
  ⟨some 12, none, .call a3y [(.c (.int .i64 1))]⟩,
  mvI 13 0,
  mvI 14 4,
  opI 15 (.idxp 1 (.t 13) (.t 14)),
  opI 16 (.load none (.t 15)),
  ⟨some 17, none, .call a1e [(.t 12), (.t 16)]⟩,
  ⟨some 18, none, .e (.bsl 1 [(.t 17)])⟩,
  ⟨some 19, none, .e (.app 1 24 false (.t 11) (.t 18))⟩,
  mvI 3 19]
def b0u : List AIns := [mvI 9 4,
  opI 10 (.bin .add (.t 9) (.c (.int .i64 1))),
  mvI 4 10]
def b0z : ACode := .seq (.seq (rgI a5C) (.cond (.t 8) (.skip) (.exit 0))) (.seq (.block 1 (.region b0v true)) (rgI b0u))
def a5B : List AIns := [mvI 20 3,
  mvI 2 20]
def c0X : ACode := .seq (rgI b0y) (.seq (rgI b0x) (.seq (.seq (rgI b0w) (.block 0 (.loop b0z))) (.seq (rgI a5B) (.ret))))
theorem b9J : fchk Pr (fun _ _ => false) Try.f20 = some (c0X, [.tmp 2], 21) := by kernel_rfl
theorem b9K : Pr.funcs[a2N]? = some Try.f20 := Try.func20
def b6V : List AIns := [opI 2 (.mv (.c (.nil))),
  opI 3 (.mv (.c (.int .i64 0)))]
def b6U : List AIns := [mvI 8 0,
  opI 9 (.bin .lss (.t 8) (.c (.int .i64 0))),
  mvI 7 9]
def c3b : List AIns := [opI 2 (.mv (.c (.nil))),
  opI 3 (.mv (.c (.int .i64 1)))]
def b6T : List AIns := [mvI 11 0,
  opI 12 (.bin .gtr (.t 11) (.c (.int .i64 64))),
  mvI 10 12]
def c3a : List AIns := [opI 2 (.mv (.c (.nil))),
  opI 3 (.mv (.c (.int .i64 2)))]
def b6S : List AIns := [opI 4 (.mv (.c (.nil)))]
def b6R : List AIns := [mvI 13 0,
  opI 14 (.mv (.c (.int .i64 0)))]
def a9J : List AIns := [opI 15 (.bin .lss (.t 14) (.t 13))]
def b6Q : List AIns := [mvI 16 14,
  mvI 5 16]
def b6P : List AIns := [mvI 17 0,
  ⟨some 18, none, .e (.mksl 2 32 (.agg [.bool false, .nil]) (.t 17) (.t 17))⟩,
  mvI 6 18]
def b3N : List AIns := [mvI 19 6,
  mvI 20 5,
  ⟨some 21, none, .call a8g [(.c (.int .i64 1))]⟩,
  opI 22 (.idxp 2 (.t 19) (.t 20)),
  ⟨none, none, .e (.store 2 (.t 22) (.t 21))⟩]
def b3M : List AIns := [mvI 23 4,
  mvI 24 6,
  ⟨some 25, none, .e (.bsl 1 [(.t 24)])⟩,
  ⟨some 26, none, .e (.app 1 24 false (.t 23) (.t 25))⟩,
  mvI 4 26]
def b3L : List AIns := [opI 27 (.bin .add (.t 14) (.c (.int .i64 1))),
  mvI 14 27]
def c3d : ACode := .seq (rgI a9J) (.seq (.cond (.t 15) (.skip) (.exit 1)) (.seq (.block 2 (.seq (rgI b6Q) (.seq (rgI b6P) (.seq (rgI b3N) (rgI b3M))))) (rgI b3L)))
def b3K : List AIns := [mvI 28 4,
  mvI 2 28,
  opI 3 (.mv (.c (.int .i64 0)))]
def c5y : ACode := .seq (rgI b6V) (.seq (.block 0 (.seq (rgI b6U) (.cond (.t 7) (.seq (rgI c3b) (.ret)) (.seq (rgI b6T) (.cond (.t 10) (.seq (rgI c3a) (.ret)) (.skip)))))) (.seq (rgI b6S) (.seq (.seq (rgI b6R) (.block 1 (.loop c3d))) (.seq (rgI b3K) (.ret)))))
theorem c3c : fchk Pr (fun _ _ => false) Try.f21 = some (c5y, [.tmp 2, .tmp 3], 29) := by kernel_rfl
theorem c3e : Pr.funcs[b2L]? = some Try.f21 := Try.func21
def b7f : List AIns := [⟨some 2, none, .p (.mv (.c (.str ⟨#[]⟩)))⟩]
def b7e : List AIns := [mvI 3 0,
  ⟨some 4, none, .call a1Z [(.t 3), (.c (.fn a1W []))]⟩,
  ⟨some 5, none, .call a1k [(.t 4), (.c (.str ⟨#[59, 32]⟩))]⟩,
  mvI 2 5]
def c5A : ACode := .seq (rgI b7f) (.seq (rgI b7e) (.ret))
theorem c3j : fchk Pr (fun _ _ => false) Try.f22 = some (c5A, [.tmp 2], 6) := by kernel_rfl
theorem c3k : Pr.funcs[b2M]? = some Try.f22 := Try.func22
def b4n : List AIns := [⟨some 1, none, .e (.box 2 (.t 0))⟩,
  ⟨some 2, none, .e (.box 2 (.c (.agg [.bool false, .nil])))⟩]
def b4m : List AIns := [opI 3 (.mv (.c (.nil)))]
def b4l : List AIns := [mvI 4 3,
  opI 5 (.fldp (.t 1) 1),
  opI 6 (.load none (.t 5)),
  ⟨some 7, none, .e (.app 1 4 false (.t 4) (.t 6))⟩,
  mvI 3 7]
def b4k : List AIns := [mvI 8 3,
  ⟨some 9, none, .e (.bsl 1 [(.c (.int .u32 77)), (.c (.int .u32 78)), (.c (.int .u32 79)), (.c (.int .u32 80)), (.c (.int .u32 81)), (.c (.int .u32 82)), (.c (.int .u32 83)), (.c (.int .u32 84)), (.c (.int .u32 85))])⟩,
  ⟨some 10, none, .e (.app 1 4 false (.t 8) (.t 9))⟩,
  mvI 3 10]
def b4j : List AIns := [opI 11 (.fldp (.t 1) 0),
  opI 12 (.load none (.t 11)),
  mvI 13 3,
  opI 14 (.fldp (.t 1) 1),
  opI 15 (.load none (.t 14)),
  opI 16 (.len (.t 15)),
  opI 17 (.slc 1 (.t 13) none (some (.t 16)) none),
  opI 18 (.bld [.bool false, .nil] [(0, 1, (.t 12)), (1, 1, (.t 17))]),
  ⟨none, none, .e (.store 2 (.t 2) (.t 18))⟩]
def c3u : ACode := .seq (rgI b4n) (.seq (rgI b4m) (.seq (rgI b4l) (.seq (rgI b4k) (.seq (.region b4j true) (.ret)))))
theorem c1F : fchk Pr (fun _ _ => false) Try.f23 = some (c3u, [.cell 2 (some 2)], 19) := by kernel_rfl
theorem c1G : Pr.funcs[b0c]? = some Try.f23 := Try.func23
def a7q : List AIns := [opI 4 (.mv (.c (.nil)))]
def a7p : List AIns := [mvI 8 0,
  opI 9 (.len (.t 8)),
  ⟨some 10, none, .e (.mksl 1 24 (.nil) (.c (.int .i64 0)) (.t 9))⟩,
  mvI 5 10]
def a7o : List AIns := [mvI 11 0,
  opI 12 (.len (.t 11)),
  opI 13 (.mv (.c (.int .i64 0)))]
def a3G : List AIns := [opI 14 (.bin .lss (.t 13) (.t 12))]
def a7n : List AIns := [opI 15 (.idxp 1 (.t 11) (.t 13)),
  opI 16 (.load none (.t 15)),
  mvI 7 16]
def a7m : List AIns := [mvI 17 5,
  mvI 18 1,
  mvI 19 7,
  ⟨some 20, none, .callv (.t 18) [(.t 19)]⟩,
  ⟨some 21, none, .e (.bsl 1 [(.t 20)])⟩,
  ⟨some 22, none, .e (.app 1 24 false (.t 17) (.t 21))⟩,
  mvI 5 22]
def a7l : List AIns := [opI 23 (.bin .add (.t 13) (.c (.int .i64 1))),
  mvI 13 23]
def b6F : ACode := .seq (rgI a3G) (.seq (.cond (.t 14) (.skip) (.exit 0)) (.seq (.block 1 (.seq (rgI a7n) (rgI a7m))) (rgI a7l)))
def a7k : List AIns := [mvI 24 5,
  mvI 4 24]
def b8e : ACode := .seq (rgI a7q) (.seq (rgI a7p) (.seq (.seq (rgI a7o) (.block 0 (.loop b6F))) (.seq (rgI a7k) (.ret))))
theorem b6E : fchk Pr (fun _ _ => false) Try.f24 = some (b8e, [.tmp 4], 25) := by kernel_rfl
theorem b6G : Pr.funcs[a1l]? = some Try.f24 := Try.func24
def a5T : List AIns := [opI 2 (.mv (.c (.nil)))]
def a5S : List AIns := [mvI 3 0,
  ⟨some 4, none, .call a0t [(.t 3), (.c (.fn a0N []))]⟩,
  mvI 2 4]
def c1x : ACode := .seq (rgI a5T) (.seq (rgI a5S) (.ret))
theorem b1o : fchk Pr (fun _ _ => false) Try.f25 = some (c1x, [.tmp 2], 5) := by kernel_rfl
theorem b1p : Pr.funcs[a2f]? = some Try.f25 := Try.func25
def a7x : List AIns := [opI 4 (.mv (.c (.nil)))]
def a7w : List AIns := [mvI 8 0,
  opI 9 (.len (.t 8)),
  ⟨some 10, none, .e (.mksl 2 32 (.agg [.bool false, .nil]) (.c (.int .i64 0)) (.t 9))⟩,
  mvI 5 10]
def a7v : List AIns := [mvI 11 0,
  opI 12 (.len (.t 11)),
  opI 13 (.mv (.c (.int .i64 0)))]
def a3H : List AIns := [opI 14 (.bin .lss (.t 13) (.t 12))]
def a7u : List AIns := [opI 15 (.idxp 2 (.t 11) (.t 13)),
  opI 16 (.load (some 2) (.t 15)),
  ⟨some 7, none, .e (.box 2 (.c (.agg [.bool false, .nil])))⟩,
  ⟨none, none, .e (.store 2 (.t 7) (.t 16))⟩]
def a7t : List AIns := [mvI 17 5,
  mvI 18 1,
  opI 19 (.load (some 2) (.t 7)),
  ⟨some 20, none, .callv (.t 18) [(.t 19)]⟩,
  ⟨some 21, none, .e (.bsl 2 [(.t 20)])⟩,
  ⟨some 22, none, .e (.app 2 32 false (.t 17) (.t 21))⟩,
  mvI 5 22]
def a7s : List AIns := [opI 23 (.bin .add (.t 13) (.c (.int .i64 1))),
  mvI 13 23]
def b6K : ACode := .seq (rgI a3H) (.seq (.cond (.t 14) (.skip) (.exit 0)) (.seq (.block 1 (.seq (rgI a7u) (rgI a7t))) (rgI a7s)))
def a7r : List AIns := [mvI 24 5,
  mvI 4 24]
def b8f : ACode := .seq (rgI a7x) (.seq (rgI a7w) (.seq (.seq (rgI a7v) (.block 0 (.loop b6K))) (.seq (rgI a7r) (.ret))))
theorem b6J : fchk Pr (fun _ _ => false) Try.f26 = some (b8f, [.tmp 4], 25) := by kernel_rfl
theorem b6L : Pr.funcs[a0t]? = some Try.f26 := Try.func26
def a6K : List AIns := [⟨some 1, none, .e (.box 2 (.t 0))⟩,
  ⟨some 2, none, .e (.box 2 (.c (.agg [.bool false, .nil])))⟩]
def a6J : List AIns := [opI 3 (.fldp (.t 1) 0),
  opI 4 (.load none (.t 3)),
  opI 5 (.fldp (.t 1) 1),
  opI 6 (.load none (.t 5)),
  ⟨some 7, none, .call a0q [(.t 4), (.t 6)]⟩,
  ⟨none, none, .e (.store 2 (.t 2) (.t 7))⟩]
def c2p : ACode := .seq (rgI a6K) (.seq (rgI a6J) (.ret))
theorem b3f : fchk Pr (fun _ _ => false) Try.f27 = some (c2p, [.cell 2 (some 2)], 8) := by kernel_rfl
theorem b3g : Pr.funcs[a0N]? = some Try.f27 := Try.func27
def a7G : List AIns := [opI 2 (.mv (.c (.int .i64 0))),
  opI 3 (.mv (.c (.int .i64 0))),
  opI 4 (.mv (.c (.int .i64 0)))]
def a7F : List AIns := [mvI 7 0,
  opI 8 (.len (.t 7)),
  opI 9 (.bin .eql (.t 8) (.c (.int .i64 0)))]
def b4g : List AIns := [opI 2 (.mv (.c (.int .i64 0))),
  opI 3 (.mv (.c (.int .i64 0))),
  opI 4 (.mv (.c (.int .i64 0)))]
def a7E : List AIns := [mvI 10 0,
  opI 11 (.len (.t 10)),
  opI 12 (.mv (.c (.int .i64 0)))]
def a2I : List AIns := [opI 13 (.bin .lss (.t 12) (.t 11))]
def a4v : List AIns := [opI 14 (.idxp 1 (.t 10) (.t 12)),
  opI 15 (.load none (.t 14)),
  mvI 6 15]
def a4u : List AIns := [mvI 16 6,
  opI 17 (.len (.t 16)),
  mvI 18 0,
  opI 19 (.idxp 1 (.t 18) (.c (.int .i64 0))),
  opI 20 (.load none (.t 19)),
  opI 21 (.len (.t 20)),
  opI 22 (.bin .neq (.t 17) (.t 21))]
def b4f : List AIns := [opI 2 (.mv (.c (.int .i64 0))),
  opI 3 (.mv (.c (.int .i64 0))),
  opI 4 (.mv (.c (.int .i64 8)))]
def a7D : List AIns := [opI 23 (.bin .add (.t 12) (.c (.int .i64 1))),
  mvI 12 23]
def c1v : ACode := .seq (rgI a2I) (.seq (.cond (.t 13) (.skip) (.exit 0)) (.seq (.block 1 (.seq (rgI a4v) (.seq (rgI a4u) (.cond (.t 22) (.seq (rgI b4f) (.ret)) (.skip))))) (rgI a7D)))
def b4e : List AIns := [mvI 24 0,
  opI 25 (.len (.t 24)),
  mvI 26 0,
  opI 27 (.idxp 1 (.t 26) (.c (.int .i64 0))),
  opI 28 (.load none (.t 27)),
  opI 29 (.len (.t 28)),
  mvI 2 25,
  mvI 3 29,
  opI 4 (.mv (.c (.int .i64 0)))]
def c3l : ACode := .seq (rgI a7G) (.seq (.seq (rgI a7F) (.cond (.t 9) (.seq (rgI b4g) (.ret)) (.skip))) (.seq (.seq (rgI a7E) (.block 0 (.loop c1v))) (.seq (.region b4e true) (.ret))))
theorem b4h : fchk Pr (fun _ _ => false) Try.f28 = some (c3l, [.tmp 2, .tmp 3, .tmp 4], 30) := by kernel_rfl
theorem b4i : Pr.funcs[a2A]? = some Try.f28 := Try.func28
def b1n : List AIns := [⟨some 2, none, .e (.box 1 (.t 0))⟩,
  opI 3 (.mv (.c (.nil)))]
def b1m : List AIns := [opI 4 (.load none (.t 1)),
  opI 5 (.mkfn a2F [(.t 2)]),
  ⟨some 6, none, .call a5a [(.t 4), (.t 5)]⟩,
  mvI 3 6]
def c1w : ACode := .seq (rgI b1n) (.seq (rgI b1m) (.ret))
theorem c0e : fchk Pr (fun _ _ => false) Try.f29 = some (c1w, [.tmp 3], 7) := by kernel_rfl
theorem c0f : Pr.funcs[a4K]? = some Try.f29 := Try.func29
def a7I : List AIns := [⟨some 3, none, .e (.box 2 (.c (.agg [.bool false, .nil])))⟩]
def a7H : List AIns := [opI 4 (.load none (.t 1)),
  mvI 5 0,
  ⟨some 6, none, .call b7Y [(.t 4), (.t 5)]⟩,
  ⟨none, none, .e (.store 2 (.t 3) (.t 6))⟩]
def b8i : ACode := .seq (rgI a7I) (.seq (rgI a7H) (.ret))
theorem b7q : fchk Pr (fun _ _ => false) Try.f31 = some (b8i, [.cell 3 (some 2)], 7) := by kernel_rfl
theorem b7r : Pr.funcs[a2F]? = some Try.f31 := Try.func31
def b7l : List AIns := [opI 2 (.mv (.c (.int .i64 0)))]
def b7k : List AIns := [mvI 5 0,
  opI 6 (.len (.t 5)),
  opI 7 (.mv (.c (.int .i64 0)))]
def a3J : List AIns := [opI 8 (.bin .lss (.t 7) (.t 6))]
def a5R : List AIns := [mvI 9 7,
  opI 10 (.idxp 2 (.t 5) (.t 7)),
  opI 11 (.load (some 2) (.t 10)),
  ⟨some 4, none, .e (.box 2 (.c (.agg [.bool false, .nil])))⟩,
  mvI 3 9,
  ⟨none, none, .e (.store 2 (.t 4) (.t 11))⟩]
def a5Q : List AIns := [opI 12 (.load (some 2) (.t 4)),
  ⟨some 13, none, .call a4a [(.t 12)]⟩,
  opI 14 (.bin .neq (.t 13) (.c (.int .i64 0)))]
def b7j : List AIns := [mvI 15 3,
  mvI 2 15]
def a9O : List AIns := [opI 16 (.bin .add (.t 7) (.c (.int .i64 1))),
  mvI 7 16]
def c3p : ACode := .seq (rgI a3J) (.seq (.cond (.t 8) (.skip) (.exit 0)) (.seq (.block 1 (.seq (rgI a5R) (.seq (rgI a5Q) (.cond (.t 14) (.seq (rgI b7j) (.ret)) (.skip))))) (rgI a9O)))
def b7i : List AIns := [opI 2 (.mv (.c (.int .i64 (-1))))]
def c5C : ACode := .seq (rgI b7l) (.seq (.seq (rgI b7k) (.block 0 (.loop c3p))) (.seq (rgI b7i) (.ret)))
theorem c3o : fchk Pr (fun _ _ => false) Try.f33 = some (c5C, [.tmp 2], 17) := by kernel_rfl
theorem c3q : Pr.funcs[b2O]? = some Try.f33 := Try.func33
def b3c : List AIns := [⟨some 1, none, .e (.box 2 (.t 0))⟩,
  opI 2 (.mv (.c (.int .i64 0)))]
def b3b : List AIns := [opI 4 (.fldp (.t 1) 1),
  opI 5 (.load none (.t 4)),
  ⟨some 6, none, .call b2K [(.t 5)]⟩,
  opI 7 (.bin .eql (.t 6) (.c (.int .i64 0))),
  mvI 3 7]
def b3a : List AIns := [opI 2 (.mv (.c (.int .i64 0)))]
def b2Z : List AIns := [opI 9 (.fldp (.t 1) 0),
  opI 10 (.load none (.t 9)),
  mvI 8 10]
def b2Y : List AIns := [opI 2 (.mv (.c (.int .i64 (-1))))]
def b2X : List AIns := [opI 2 (.mv (.c (.int .i64 1)))]
def c2l : ACode := .seq (rgI b3c) (.seq (.block 0 (.seq (rgI b3b) (.cond (.t 3) (.seq (rgI b3a) (.ret)) (.seq (rgI b2Z) (.cond (.t 8) (.seq (rgI b2Y) (.ret)) (.skip)))))) (.seq (rgI b2X) (.ret)))
theorem c0D : fchk Pr (fun _ _ => false) Try.f34 = some (c2l, [.tmp 2], 11) := by kernel_rfl
theorem c0E : Pr.funcs[a4a]? = some Try.f34 := Try.func34
def a9i : List AIns := [⟨some 1, none, .e (.box 2 (.t 0))⟩,
  ⟨some 2, none, .e (.box 2 (.c (.agg [.bool false, .nil])))⟩]
def a9h : List AIns := [opI 3 (.fldp (.t 1) 0),
  opI 4 (.load none (.t 3)),
  opI 5 (.un .not (.t 4)),
  opI 6 (.fldp (.t 1) 1),
  opI 7 (.load none (.t 6)),
  ⟨some 8, none, .call a0q [(.t 5), (.t 7)]⟩,
  ⟨none, none, .e (.store 2 (.t 2) (.t 8))⟩]
def c4B : ACode := .seq (rgI a9i) (.seq (rgI a9h) (.ret))
theorem b5n : fchk Pr (fun _ _ => false) Try.f35 = some (c4B, [.cell 2 (some 2)], 9) := by kernel_rfl
theorem b5o : Pr.funcs[a2d]? = some Try.f35 := Try.func35
def a8X : List AIns := [⟨some 2, none, .e (.box 2 (.t 0))⟩,
  ⟨some 3, none, .e (.box 2 (.c (.agg [.bool false, .nil])))⟩]
def a8W : List AIns := [opI 4 (.load (some 2) (.t 1)),
  opI 5 (.load (some 2) (.t 2)),
  ⟨some 6, none, .call a2y [(.t 4), (.t 5)]⟩,
  ⟨none, none, .e (.store 2 (.t 3) (.t 6))⟩]
def c0d : ACode := .seq (rgI a8X) (.seq (rgI a8W) (.ret))
theorem b8g : fchk Pr (fun _ _ => false) Try.f36 = some (c0d, [.cell 3 (some 2)], 7) := by kernel_rfl
theorem b8h : Pr.funcs[a3u]? = some Try.f36 := Try.func36
def b5q : List AIns := [⟨some 2, none, .e (.box 2 (.t 0))⟩,
  ⟨some 3, none, .e (.box 2 (.t 1))⟩,
  ⟨some 4, none, .e (.box 2 (.c (.agg [.bool false, .nil])))⟩]
def b5p : List AIns := [opI 5 (.fldp (.t 2) 0),
  opI 6 (.load none (.t 5)),
  opI 7 (.fldp (.t 3) 0),
  opI 8 (.load none (.t 7)),
  opI 9 (.beq true (.t 6) (.t 8)),
  opI 10 (.fldp (.t 2) 1),
  opI 11 (.load none (.t 10)),
  opI 12 (.fldp (.t 3) 1),
  opI 13 (.load none (.t 12)),
  ⟨some 14, none, .call a4c [(.t 11), (.t 13)]⟩,
  ⟨some 15, none, .call a0q [(.t 9), (.t 14)]⟩,
  ⟨none, none, .e (.store 2 (.t 4) (.t 15))⟩]
def c4C : ACode := .seq (rgI b5q) (.seq (.region b5p true) (.ret))
theorem c2m : fchk Pr (fun _ _ => false) Try.f37 = some (c4C, [.cell 4 (some 2)], 16) := by kernel_rfl
theorem c2n : Pr.funcs[a2y]? = some Try.f37 := Try.func37
def a6F : List AIns := [⟨some 4, none, .e (.box 2 (.c (.agg [.bool false, .nil])))⟩]
def a6E : List AIns := [mvI 7 1,
  opI 8 (.len (.t 7)),
  mvI 5 8]
def a2G : List AIns := [mvI 9 5,
  opI 10 (.bin .gtr (.t 9) (.c (.int .i64 0))),
  mvI 11 10,
  ⟨some 12, some (11, true), .p (.mv (.t 1))⟩,
  ⟨some 13, some (11, true), .p (.mv (.t 5))⟩,
  ⟨some 14, some (11, true), .p (.bin .sub (.t 13) (.c (.int .i64 1)))⟩,
  ⟨some 15, some (11, true), .p (.idxp 1 (.t 12) (.t 14))⟩,
  ⟨some 16, some (11, true), .p (.load none (.t 15))⟩,
  ⟨some 17, some (11, true), .p (.bin .eql (.t 16) (.c (.int .u32 0)))⟩,
  opI 18 (.pick (.t 11) (.t 17) (.c (.bool false)))]
def a6D : List AIns := [mvI 19 5,
  opI 20 (.bin .sub (.t 19) (.c (.int .i64 1))),
  mvI 5 20]
def a6G : ACode := .seq (.seq (rgI a2G) (.cond (.t 18) (.skip) (.exit 0))) (.block 1 (rgI a6D))
def a1x : List AIns := [mvI 21 5,
  opI 22 (.bin .eql (.t 21) (.c (.int .i64 0)))]
def a1w : List AIns := [opI 23 (.bld [.bool false, .nil] []),
  ⟨none, none, .e (.store 2 (.t 4) (.t 23))⟩]
def a1v : List AIns := [mvI 24 5,
  ⟨some 25, none, .e (.mksl 1 4 (.int .u32 0) (.t 24) (.t 24))⟩,
  mvI 6 25]
def a1u : List AIns := [mvI 26 6,
  mvI 27 1,
  ⟨some 28, none, .e (.cpy 1 (.t 26) (.t 27))⟩]
def a1t : List AIns := [mvI 29 0,
  mvI 30 6,
  opI 31 (.bld [.bool false, .nil] [(0, 1, (.t 29)), (1, 1, (.t 30))]),
  ⟨none, none, .e (.store 2 (.t 4) (.t 31))⟩]
def c2j : ACode := .seq (rgI a6F) (.seq (rgI a6E) (.seq (.block 0 (.loop a6G)) (.seq (.seq (rgI a1x) (.cond (.t 22) (.seq (rgI a1w) (.ret)) (.skip))) (.seq (rgI a1v) (.seq (rgI a1u) (.seq (rgI a1t) (.ret)))))))
theorem b2R : fchk Pr (fun _ _ => false) Try.f38 = some (c2j, [.cell 4 (some 2)], 32) := by kernel_rfl
theorem b2S : Pr.funcs[a0q]? = some Try.f38 := Try.func38
def b5v : List AIns := [⟨some 2, none, .e (.box 2 (.t 0))⟩,
  ⟨some 3, none, .e (.box 2 (.t 1))⟩,
  ⟨some 4, none, .e (.box 2 (.c (.agg [.bool false, .nil])))⟩]
def b5u : List AIns := [opI 7 (.fldp (.t 2) 0),
  opI 8 (.load none (.t 7)),
  opI 9 (.fldp (.t 3) 0),
  opI 10 (.load none (.t 9)),
  opI 11 (.beq false (.t 8) (.t 10))]
def b5t : List AIns := [opI 12 (.fldp (.t 2) 0),
  opI 13 (.load none (.t 12)),
  opI 14 (.fldp (.t 2) 1),
  opI 15 (.load none (.t 14)),
  opI 16 (.fldp (.t 3) 1),
  opI 17 (.load none (.t 16)),
  ⟨some 18, none, .call a4d [(.t 15), (.t 17)]⟩,
  ⟨some 19, none, .call a0q [(.t 13), (.t 18)]⟩,
  ⟨none, none, .e (.store 2 (.t 4) (.t 19))⟩]
def b5s : List AIns := [opI 20 (.fldp (.t 2) 1),
  opI 21 (.load none (.t 20)),
  opI 22 (.fldp (.t 3) 1),
  opI 23 (.load none (.t 22)),
  ⟨some 24, none, .call a5o [(.t 21), (.t 23)]⟩,
  opI 25 (.bin .lss (.t 24) (.c (.int .i64 0)))]
def b5r : List AIns := [opI 26 (.load (some 2) (.t 3)),
  opI 27 (.load (some 2) (.t 2)),
  ⟨none, none, .e (.store 2 (.t 2) (.t 26))⟩,
  ⟨none, none, .e (.store 2 (.t 3) (.t 27))⟩]
def a9k : List AIns := [opI 29 (.fldp (.t 2) 1),
  opI 30 (.load none (.t 29)),
  opI 31 (.fldp (.t 3) 1),
  opI 32 (.load none (.t 31)),
  ⟨some 33, none, .call b1Q [(.t 30), (.t 32)]⟩,
  mvI 28 33,
  opI 34 (.ext (.t 28) 0),
  opI 35 (.ext (.t 28) 1),
  mvI 5 34,
  mvI 6 35]
def a9j : List AIns := [opI 36 (.fldp (.t 2) 0),
  opI 37 (.load none (.t 36)),
  mvI 38 5,
  ⟨some 39, none, .call a0q [(.t 37), (.t 38)]⟩,
  ⟨none, none, .e (.store 2 (.t 4) (.t 39))⟩]
def c4D : ACode := .seq (rgI b5v) (.seq (.seq (rgI b5u) (.cond (.t 11) (.seq (.region b5t true) (.ret)) (.skip))) (.seq (.seq (rgI b5s) (.cond (.t 25) (rgI b5r) (.skip))) (.seq (rgI a9k) (.seq (rgI a9j) (.ret)))))
theorem c2q : fchk Pr (fun _ _ => false) Try.f40 = some (c4D, [.cell 4 (some 2)], 40) := by kernel_rfl
theorem c2r : Pr.funcs[a1j]? = some Try.f40 := Try.func40
def a4X : List AIns := [⟨some 1, none, .e (.box 2 (.t 0))⟩]
def a4W : List AIns := [opI 2 (.mv (.c (.int .i64 0)))]
def a2D : List AIns := [mvI 4 2,
  opI 5 (.fldp (.t 1) 1),
  opI 6 (.load none (.t 5)),
  opI 7 (.len (.t 6)),
  opI 8 (.bin .lss (.t 4) (.t 7))]
def a8Z : List AIns := [opI 11 (.fldp (.t 1) 1),
  opI 12 (.load none (.t 11)),
  mvI 13 2,
  opI 14 (.fldp (.t 1) 1),
  opI 15 (.load none (.t 14)),
  mvI 16 2,
  opI 17 (.idxp 1 (.t 15) (.t 16)),
  opI 18 (.load none (.t 17)),
  opI 19 (.bin .xor (.t 18) (.c (.int .u32 21845))),
  opI 20 (.idxp 1 (.t 12) (.t 13)),
  ⟨none, none, .e (.store 1 (.t 20) (.t 19))⟩]
def a8Y : List AIns := [mvI 9 2,
  opI 10 (.bin .add (.t 9) (.c (.int .i64 1))),
  mvI 2 10]
def b8m : ACode := .seq (.seq (rgI a2D) (.cond (.t 8) (.skip) (.exit 0))) (.seq (.block 1 (.region a8Z true)) (rgI a8Y))
def a4V : List AIns := [opI 3 (.mv (.c (.int .i64 0)))]
def a1Q : List AIns := [mvI 21 3,
  opI 22 (.bin .lss (.t 21) (.c (.int .i64 9)))]
def a1P : List AIns := [opI 25 (.fldp (.t 1) 1),
  opI 26 (.load none (.t 25)),
  mvI 27 3,
  opI 28 (.bin .add (.c (.int .i64 900)) (.t 27)),
  opI 29 (.conv .u32 (.t 28)),
  ⟨some 30, none, .e (.bsl 1 [(.t 29)])⟩,
  ⟨some 31, none, .e (.app 1 4 false (.t 26) (.t 30))⟩,
  opI 32 (.fldp (.t 1) 1),
  ⟨none, none, .e (.store 1 (.t 32) (.t 31))⟩]
def a2C : List AIns := [mvI 23 3,
  opI 24 (.bin .add (.t 23) (.c (.int .i64 1))),
  mvI 3 24]
def a2E : ACode := .seq (.seq (rgI a1Q) (.cond (.t 22) (.skip) (.exit 2))) (.seq (.block 3 (rgI a1P)) (rgI a2C))
def c0j : ACode := .seq (rgI a4X) (.seq (.seq (rgI a4W) (.block 0 (.loop b8m))) (.seq (rgI a4V) (.block 2 (.loop a2E))))
theorem a9a : fchk Pr (fun _ _ => false) Try.f41 = some (c0j, [], 33) := by kernel_rfl
theorem a9b : Pr.funcs[a3v]? = some Try.f41 := Try.func41
def a4R : List AIns := [opI 2 (.mv (.c (.int .i64 0))),
  opI 3 (.mv (.c (.int .i64 0))),
  opI 4 (.mv (.c (.int .i64 0)))]
def a4Q : List AIns := [opI 5 (.mv (.c (.int .i64 0)))]
def a1M : List AIns := [mvI 6 5,
  mvI 7 0,
  opI 8 (.len (.t 7)),
  opI 9 (.bin .lss (.t 6) (.t 8))]
def a2B : List AIns := [mvI 12 0,
  mvI 13 5,
  opI 14 (.idxp 1 (.t 12) (.t 13)),
  opI 15 (.load none (.t 14)),
  opI 16 (.len (.t 15)),
  mvI 17 0,
  opI 18 (.idxp 1 (.t 17) (.c (.int .i64 0))),
  opI 19 (.load none (.t 18)),
  opI 20 (.len (.t 19)),
  opI 21 (.bin .neq (.t 16) (.t 20))]
def a8Q : List AIns := [opI 2 (.mv (.c (.int .i64 0))),
  opI 3 (.mv (.c (.int .i64 0))),
  opI 4 (.mv (.c (.int .i64 8)))]
def a4P : List AIns := [mvI 10 5,
  opI 11 (.bin .add (.t 10) (.c (.int .i64 1))),
  mvI 5 11]
def b8c : ACode := .seq (.seq (rgI a1M) (.cond (.t 9) (.skip) (.exit 0))) (.seq (.block 1 (.seq (.region a2B true) (.cond (.t 21) (.seq (rgI a8Q) (.ret)) (.skip)))) (rgI a4P))
def a8P : List AIns := [mvI 22 0,
  opI 23 (.len (.t 22)),
  opI 24 (.bin .eql (.t 23) (.c (.int .i64 0)))]
def a8O : List AIns := [opI 2 (.mv (.c (.int .i64 0))),
  opI 3 (.mv (.c (.int .i64 0))),
  opI 4 (.mv (.c (.int .i64 0)))]
def a8N : List AIns := [mvI 25 0,
  opI 26 (.len (.t 25)),
  mvI 27 0,
  opI 28 (.idxp 1 (.t 27) (.c (.int .i64 0))),
  opI 29 (.load none (.t 28)),
  opI 30 (.len (.t 29)),
  mvI 2 26,
  mvI 3 30,
  opI 4 (.mv (.c (.int .i64 0)))]
def b9F : ACode := .seq (rgI a4R) (.seq (.seq (rgI a4Q) (.block 0 (.loop b8c))) (.seq (.seq (rgI a8P) (.cond (.t 24) (.seq (rgI a8O) (.ret)) (.skip))) (.seq (.region a8N true) (.ret))))
theorem a8R : fchk Pr (fun _ _ => false) Try.f42 = some (b9F, [.tmp 2, .tmp 3, .tmp 4], 31) := by kernel_rfl
theorem a8S : Pr.funcs[a3t]? = some Try.f42 := Try.func42
def b0K : List AIns := [⟨some 1, none, .e (.box 2 (.t 0))⟩,
  ⟨some 2, none, .e (.box 2 (.c (.agg [.bool false, .nil])))⟩]
def b0J : List AIns := [opI 3 (.fldp (.t 1) 0),
  opI 4 (.load none (.t 3)),
  opI 5 (.fldp (.t 1) 1),
  opI 6 (.load none (.t 5)),
  ⟨some 7, none, .call a2O [(.t 4), (.t 6)]⟩,
  ⟨none, none, .e (.store 2 (.t 2) (.t 7))⟩]
def c1a : ACode := .seq (rgI b0K) (.seq (rgI b0J) (.ret))
theorem b9P : fchk Pr (fun _ _ => false) Try.f43 = some (c1a, [.cell 2 (some 2)], 8) := by kernel_rfl
theorem b9Q : Pr.funcs[a8i]? = some Try.f43 := Try.func43
def b7E : List AIns := [⟨some 2, none, .e (.box 2 (.t 0))⟩,
  ⟨some 3, none, .e (.box 2 (.t 1))⟩,
  opI 4 (.mv (.c (.bool false)))]
def b7D : List AIns := [opI 6 (.fldp (.t 2) 0),
  opI 7 (.load none (.t 6)),
  opI 8 (.fldp (.t 3) 0),
  opI 9 (.load none (.t 8)),
  opI 10 (.beq true (.t 7) (.t 9)),
  mvI 11 10,
  ⟨some 12, some (11, false), .p (.fldp (.t 2) 1)⟩,
  ⟨some 13, some (11, false), .p (.load none (.t 12))⟩,
  ⟨some 14, some (11, false), .p (.len (.t 13))⟩,
  ⟨some 15, some (11, false), .p (.fldp (.t 3) 1)⟩,
  ⟨some 16, some (11, false), .p (.load none (.t 15))⟩,
  ⟨some 17, some (11, false), .p (.len (.t 16))⟩,
  ⟨some 18, some (11, false), .p (.bin .neq (.t 14) (.t 17))⟩,
  opI 19 (.pick (.t 11) (.c (.bool true)) (.t 18))]
def c3y : List AIns := [opI 4 (.mv (.c (.bool false)))]
def b7C : List AIns := [opI 5 (.mv (.c (.int .i64 0)))]
def a9W : List AIns := [mvI 20 5,
  opI 21 (.fldp (.t 2) 1),
  opI 22 (.load none (.t 21)),
  opI 23 (.len (.t 22)),
  opI 24 (.bin .lss (.t 20) (.t 23))]
def b7B : List AIns := [opI 27 (.fldp (.t 2) 1),
  opI 28 (.load none (.t 27)),
  mvI 29 5,
  opI 30 (.idxp 1 (.t 28) (.t 29)),
  opI 31 (.load none (.t 30)),
  opI 32 (.fldp (.t 3) 1),
  opI 33 (.load none (.t 32)),
  mvI 34 5,
  opI 35 (.idxp 1 (.t 33) (.t 34)),
  opI 36 (.load none (.t 35)),
  opI 37 (.bin .neq (.t 31) (.t 36))]
def c3x : List AIns := [opI 4 (.mv (.c (.bool false)))]
def b7A : List AIns := [mvI 25 5,
  opI 26 (.bin .add (.t 25) (.c (.int .i64 1))),
  mvI 5 26]
def c3A : ACode := .seq (.seq (rgI a9W) (.cond (.t 24) (.skip) (.exit 0))) (.seq (.block 1 (.seq (.region b7B true) (.cond (.t 37) (.seq (rgI c3x) (.ret)) (.skip)))) (rgI b7A))
def b7z : List AIns := [opI 4 (.mv (.c (.bool true)))]
def c5K : ACode := .seq (rgI b7E) (.seq (.seq (rgI b7D) (.cond (.t 19) (.seq (rgI c3y) (.ret)) (.skip))) (.seq (.seq (rgI b7C) (.block 0 (.loop c3A))) (.seq (rgI b7z) (.ret))))
theorem c3z : fchk Pr (fun _ _ => false) Try.f44 = some (c5K, [.tmp 4], 38) := by kernel_rfl
theorem c3B : Pr.funcs[b2Q]? = some Try.f44 := Try.func44
def b0t : List AIns := [opI 2 (.mv (.c (.int .i64 0)))]
def b0s : List AIns := [opI 3 (.mv (.c (.int .i64 0)))]
def a2h : List AIns := [mvI 4 3,
  mvI 5 0,
  opI 6 (.len (.t 5)),
  opI 7 (.bin .lss (.t 4) (.t 6))]
def a3l : List AIns := [mvI 10 0,
  mvI 11 3,
  opI 12 (.idxp 2 (.t 10) (.t 11)),
  opI 13 (.load (some 2) (.t 12)),
  ⟨some 14, none, .call a4J [(.t 13)]⟩,
  opI 15 (.bin .neq (.t 14) (.c (.int .i64 0)))]
def b0r : List AIns := [mvI 16 3,
  mvI 2 16]
def a5A : List AIns := [mvI 8 3,
  opI 9 (.bin .add (.t 8) (.c (.int .i64 1))),
  mvI 3 9]
def b9H : ACode := .seq (.seq (rgI a2h) (.cond (.t 7) (.skip) (.exit 0))) (.seq (.block 1 (.seq (rgI a3l) (.cond (.t 15) (.seq (rgI b0r) (.ret)) (.skip)))) (rgI a5A))
def b0q : List AIns := [opI 2 (.mv (.c (.int .i64 (-1))))]
def c0W : ACode := .seq (rgI b0t) (.seq (.seq (rgI b0s) (.block 0 (.loop b9H))) (.seq (rgI b0q) (.ret)))
theorem b9G : fchk Pr (fun _ _ => false) Try.f45 = some (c0W, [.tmp 2], 17) := by kernel_rfl
theorem b9I : Pr.funcs[a8h]? = some Try.f45 := Try.func45
def b0I : List AIns := [⟨some 1, none, .e (.box 2 (.t 0))⟩,
  opI 2 (.mv (.c (.int .i64 0)))]
def b0H : List AIns := [opI 4 (.fldp (.t 1) 1),
  opI 5 (.load none (.t 4)),
  ⟨some 6, none, .call a1b [(.t 5)]⟩,
  mvI 3 6]
def b0G : List AIns := [mvI 8 3,
  opI 9 (.len (.t 8)),
  opI 10 (.bin .eql (.t 9) (.c (.int .i64 0))),
  mvI 7 10]
def b0F : List AIns := [opI 2 (.mv (.c (.int .i64 0)))]
def b0E : List AIns := [opI 12 (.fldp (.t 1) 0),
  opI 13 (.load none (.t 12)),
  mvI 11 13]
def b0D : List AIns := [opI 2 (.mv (.c (.int .i64 (-1))))]
def b0C : List AIns := [opI 2 (.mv (.c (.int .i64 1)))]
def c0Z : ACode := .seq (rgI b0I) (.seq (rgI b0H) (.seq (.block 0 (.seq (rgI b0G) (.cond (.t 7) (.seq (rgI b0F) (.ret)) (.seq (rgI b0E) (.cond (.t 11) (.seq (rgI b0D) (.ret)) (.skip)))))) (.seq (rgI b0C) (.ret))))
theorem b9N : fchk Pr (fun _ _ => false) Try.f46 = some (c0Z, [.tmp 2], 14) := by kernel_rfl
theorem b9O : Pr.funcs[a4J]? = some Try.f46 := Try.func46
def a8L : List AIns := [⟨some 2, none, .e (.box 2 (.t 0))⟩,
  opI 4 (.mv (.c (.nil)))]
def a8K : List AIns := [opI 5 (.mv (.c (.nil)))]
def a8J : List AIns := [opI 6 (.mv (.c (.int .i64 0)))]
def a4O : List AIns := [mvI 7 6,
  mvI 8 1,
  opI 9 (.len (.t 8)),
  opI 10 (.bin .lss (.t 7) (.t 9))]
def a8I : List AIns := [mvI 13 5,
  opI 14 (.load (some 2) (.t 2)),
  mvI 15 1,
  mvI 16 6,
  opI 17 (.idxp 2 (.t 15) (.t 16)),
  opI 18 (.load (some 2) (.t 17)),
  ⟨some 19, none, .call a9Y [(.t 14), (.t 18)]⟩,
  ⟨some 20, none, .e (.bsl 2 [(.t 19)])⟩,
  ⟨some 21, none, .e (.app 2 32 false (.t 13) (.t 20))⟩,
  mvI 5 21]
def a8H : List AIns := [mvI 11 6,
  opI 12 (.bin .add (.t 11) (.c (.int .i64 1))),
  mvI 6 12]
def a8M : ACode := .seq (.seq (rgI a4O) (.cond (.t 10) (.skip) (.exit 0))) (.seq (.block 1 (.region a8I true)) (rgI a8H))
def a4N : List AIns := [mvI 22 5,
  mvI 4 22]
def b9E : ACode := .seq (rgI a8L) (.seq (rgI a8K) (.seq (.seq (rgI a8J) (.block 0 (.loop a8M))) (.seq (rgI a4N) (.ret))))
theorem b8a : fchk Pr (fun _ _ => false) Try.f47 = some (b9E, [.tmp 4], 23) := by kernel_rfl
theorem b8b : Pr.funcs[a1e]? = some Try.f47 := Try.func47
def b5P : List AIns := [⟨some 2, none, .e (.box 2 (.c (.agg [.bool false, .nil])))⟩]
def b5O : List AIns := [mvI 4 0,
  opI 5 (.conv .u64 (.t 4)),
  mvI 3 5]
def b5N : List AIns := [mvI 6 0,
  opI 7 (.bin .lss (.t 6) (.c (.int .i64 0)))]
def b5M : List AIns := [mvI 8 3,
  opI 9 (.un .neg (.t 8)),
  mvI 3 9]
def a9n : List AIns := [mvI 10 0,
  opI 11 (.bin .lss (.t 10) (.c (.int .i64 0))),
  mvI 12 3,
  opI 13 (.conv .u32 (.t 12)),
  mvI 14 3,
  opI 15 (.bin .shr (.t 14) (.c (.int .u64 32))),
  opI 16 (.conv .u32 (.t 15)),
  ⟨some 17, none, .e (.bsl 1 [(.t 13), (.t 16)])⟩,
  ⟨some 18, none, .call a2O [(.t 11), (.t 17)]⟩,
  ⟨none, none, .e (.store 2 (.t 2) (.t 18))⟩]
def c4X : ACode := .seq (rgI b5P) (.seq (rgI b5O) (.seq (.seq (rgI b5N) (.cond (.t 7) (rgI b5M) (.skip))) (.seq (rgI a9n) (.ret))))
theorem c2z : fchk Pr (fun _ _ => false) Try.f48 = some (c4X, [.cell 2 (some 2)], 19) := by kernel_rfl
theorem c2A : Pr.funcs[a3y]? = some Try.f48 := Try.func48
def a3c : List AIns := [opI 4 (.mv (.c (.nil)))]
def a3b : List AIns := [mvI 8 0,
  opI 9 (.len (.t 8)),
  ⟨some 10, none, .e (.mksl 1 16 (.str ⟨#[]⟩) (.c (.int .i64 0)) (.t 9))⟩,
  mvI 5 10]
def a3a : List AIns := [mvI 11 0,
  opI 12 (.len (.t 11)),
  opI 13 (.mv (.c (.int .i64 0)))]
def a1J : List AIns := [opI 14 (.bin .lss (.t 13) (.t 12))]
def a2Z : List AIns := [opI 15 (.idxp 1 (.t 11) (.t 13)),
  opI 16 (.load none (.t 15)),
  mvI 7 16]
def a2Y : List AIns := [mvI 17 5,
  mvI 18 1,
  mvI 19 7,
  ⟨some 20, none, .callv (.t 18) [(.t 19)]⟩,
  ⟨some 21, none, .e (.bsl 1 [(.t 20)])⟩,
  ⟨some 22, none, .e (.app 1 16 false (.t 17) (.t 21))⟩,
  mvI 5 22]
def a2X : List AIns := [opI 23 (.bin .add (.t 13) (.c (.int .i64 1))),
  mvI 13 23]
def a8u : ACode := .seq (rgI a1J) (.seq (.cond (.t 14) (.skip) (.exit 0)) (.seq (.block 1 (.seq (rgI a2Z) (rgI a2Y))) (rgI a2X)))
def a2W : List AIns := [mvI 24 5,
  mvI 4 24]
def a9C : ACode := .seq (rgI a3c) (.seq (rgI a3b) (.seq (.seq (rgI a3a) (.block 0 (.loop a8u))) (.seq (rgI a2W) (.ret))))
theorem a8t : fchk Pr (fun _ _ => false) Try.f50 = some (a9C, [.tmp 4], 25) := by kernel_rfl
theorem a8v : Pr.funcs[a1Z]? = some Try.f50 := Try.func50
def a5i : List AIns := [⟨some 2, none, .p (.mv (.c (.str ⟨#[]⟩)))⟩]
def a5h : List AIns := [mvI 3 0,
  ⟨some 4, none, .call a2a [(.t 3), (.c (.fn a6b []))]⟩,
  ⟨some 5, none, .call a1k [(.t 4), (.c (.str ⟨#[32]⟩))]⟩,
  mvI 2 5]
def b4T : ACode := .seq (rgI a5i) (.seq (rgI a5h) (.ret))
theorem b2p : fchk Pr (fun _ _ => false) Try.f51 = some (b4T, [.tmp 2], 6) := by kernel_rfl
theorem b2q : Pr.funcs[a1W]? = some Try.f51 := Try.func51
def b6B : List AIns := [opI 2 (.mv (.c (.int .i64 0)))]
def b6A : List AIns := [mvI 3 0,
  ⟨some 4, none, .call a0J [(.t 3)]⟩,
  mvI 0 4]
def b6z : List AIns := [mvI 5 0,
  opI 6 (.len (.t 5)),
  opI 7 (.bin .eql (.t 6) (.c (.int .i64 0)))]
def b6y : List AIns := [opI 2 (.mv (.c (.int .i64 0)))]
def b6x : List AIns := [mvI 8 0,
  opI 9 (.len (.t 8)),
  opI 10 (.bin .sub (.t 9) (.c (.int .i64 1))),
  opI 11 (.bin .mul (.c (.int .i64 32)) (.t 10)),
  mvI 12 0,
  mvI 13 0,
  opI 14 (.len (.t 13)),
  opI 15 (.bin .sub (.t 14) (.c (.int .i64 1))),
  opI 16 (.idxp 1 (.t 12) (.t 15)),
  opI 17 (.load none (.t 16)),
  ⟨some 18, none, .call a0Z [(.t 17)]⟩,
  opI 19 (.bin .add (.t 11) (.t 18)),
  mvI 2 19]
def c5q : ACode := .seq (rgI b6B) (.seq (rgI b6A) (.seq (.seq (rgI b6z) (.cond (.t 7) (.seq (rgI b6y) (.ret)) (.skip))) (.seq (rgI b6x) (.ret))))
theorem c2Q : fchk Pr (fun _ _ => false) Try.f52 = some (c5q, [.tmp 2], 20) := by kernel_rfl
theorem c2R : Pr.funcs[b2K]? = some Try.f52 := Try.func52
def b8Q : List AIns := [opI 4 (.mv (.c (.nil)))]
def b8P : List AIns := [mvI 9 0,
  ⟨some 10, none, .call a0J [(.t 9)]⟩,
  mvI 11 1,
  ⟨some 12, none, .call a0J [(.t 11)]⟩,
  mvI 0 10,
  mvI 1 12]
def b8O : List AIns := [mvI 13 0,
  opI 14 (.len (.t 13)),
  mvI 15 1,
  opI 16 (.len (.t 15)),
  opI 17 (.bin .add (.t 14) (.t 16)),
  ⟨some 18, none, .e (.mksl 1 4 (.int .u32 0) (.t 17) (.t 17))⟩,
  mvI 5 18]
def b8N : List AIns := [mvI 19 0,
  opI 20 (.len (.t 19)),
  opI 21 (.mv (.c (.int .i64 0)))]
def b2g : List AIns := [opI 22 (.bin .lss (.t 21) (.t 20))]
def b8M : List AIns := [mvI 23 21,
  mvI 6 23]
def b8L : List AIns := [opI 7 (.mv (.c (.int .u64 0)))]
def b8K : List AIns := [mvI 24 1,
  opI 25 (.len (.t 24)),
  opI 26 (.mv (.c (.int .i64 0)))]
def b2f : List AIns := [opI 27 (.bin .lss (.t 26) (.t 25))]
def b8J : List AIns := [mvI 28 26,
  mvI 8 28]
def b6t : List AIns := [mvI 29 7,
  mvI 30 0,
  mvI 31 6,
  opI 32 (.idxp 1 (.t 30) (.t 31)),
  opI 33 (.load none (.t 32)),
  opI 34 (.conv .u64 (.t 33)),
  mvI 35 1,
  mvI 36 8,
  opI 37 (.idxp 1 (.t 35) (.t 36)),
  opI 38 (.load none (.t 37)),
  opI 39 (.conv .u64 (.t 38)),
  opI 40 (.bin .mul (.t 34) (.t 39)),
  mvI 41 5,
  mvI 42 6,
  mvI 43 8,
  opI 44 (.bin .add (.t 42) (.t 43)),
  opI 45 (.idxp 1 (.t 41) (.t 44)),
  opI 46 (.load none (.t 45)),
  opI 47 (.conv .u64 (.t 46)),
  opI 48 (.bin .add (.t 40) (.t 47)),
  opI 49 (.bin .add (.t 29) (.t 48)),
  mvI 7 49]
def b6s : List AIns := [mvI 50 5,
  mvI 51 6,
  mvI 52 8,
  opI 53 (.bin .add (.t 51) (.t 52)),
  mvI 54 7,
  opI 55 (.conv .u32 (.t 54)),
  opI 56 (.idxp 1 (.t 50) (.t 53)),
  ⟨none, none, .e (.store 1 (.t 56) (.t 55))⟩]
def b6r : List AIns := [mvI 57 7,
  opI 58 (.bin .shr (.t 57) (.c (.int .u64 32))),
  mvI 7 58]
def b6q : List AIns := [opI 59 (.bin .add (.t 26) (.c (.int .i64 1))),
  mvI 26 59]
def b8R : ACode := .seq (rgI b2f) (.seq (.cond (.t 27) (.skip) (.exit 2)) (.seq (.block 3 (.seq (rgI b8J) (.seq (.region b6t true) (.seq (rgI b6s) (rgI b6r))))) (rgI b6q)))
def b6p : List AIns := [mvI 60 5,
  mvI 61 6,
  mvI 62 1,
  opI 63 (.len (.t 62)),
  opI 64 (.bin .add (.t 61) (.t 63)),
  mvI 65 7,
  opI 66 (.conv .u32 (.t 65)),
  opI 67 (.idxp 1 (.t 60) (.t 64)),
  ⟨none, none, .e (.store 1 (.t 67) (.t 66))⟩]
def b6o : List AIns := [opI 68 (.bin .add (.t 21) (.c (.int .i64 1))),
  mvI 21 68]
def b8S : ACode := .seq (rgI b2g) (.seq (.cond (.t 22) (.skip) (.exit 0)) (.seq (.block 1 (.seq (rgI b8M) (.seq (rgI b8L) (.seq (.seq (rgI b8K) (.block 2 (.loop b8R))) (rgI b6p))))) (rgI b6o)))
def a9x : List AIns := [mvI 69 5,
  ⟨some 70, none, .call a0J [(.t 69)]⟩,
  mvI 4 70]
def c6Z : ACode := .seq (rgI b8Q) (.seq (rgI b8P) (.seq (rgI b8O) (.seq (.seq (rgI b8N) (.block 0 (.loop b8S))) (.seq (rgI a9x) (.ret)))))
theorem c5m : fchk Pr (fun _ _ => false) Try.f53 = some (c6Z, [.tmp 4], 71) := by kernel_rfl
theorem c5n : Pr.funcs[a4c]? = some Try.f53 := Try.func53
def b9i : List AIns := [opI 4 (.mv (.c (.nil)))]
def b9h : List AIns := [mvI 8 0,
  opI 9 (.len (.t 8)),
  mvI 10 1,
  opI 11 (.len (.t 10)),
  opI 12 (.bin .lss (.t 9) (.t 11))]
def b9g : List AIns := [mvI 13 1,
  mvI 14 0,
  mvI 0 13,
  mvI 1 14]
def b2l : List AIns := [mvI 15 0,
  opI 16 (.len (.t 15)),
  opI 17 (.bin .add (.t 16) (.c (.int .i64 1))),
  ⟨some 18, none, .e (.mksl 1 4 (.int .u32 0) (.t 17) (.t 17))⟩,
  mvI 5 18]
def b2k : List AIns := [opI 6 (.mv (.c (.int .u64 0)))]
def b2j : List AIns := [mvI 19 0,
  opI 20 (.len (.t 19)),
  opI 21 (.mv (.c (.int .i64 0)))]
def b2i : List AIns := [opI 22 (.bin .lss (.t 21) (.t 20))]
def b9f : List AIns := [mvI 23 21,
  mvI 7 23]
def b9e : List AIns := [mvI 24 6,
  mvI 25 0,
  mvI 26 7,
  opI 27 (.idxp 1 (.t 25) (.t 26)),
  opI 28 (.load none (.t 27)),
  opI 29 (.conv .u64 (.t 28)),
  opI 30 (.bin .add (.t 24) (.t 29)),
  mvI 6 30]
def b9d : List AIns := [mvI 31 7,
  mvI 32 1,
  opI 33 (.len (.t 32)),
  opI 34 (.bin .lss (.t 31) (.t 33))]
def b6C : List AIns := [mvI 35 6,
  mvI 36 1,
  mvI 37 7,
  opI 38 (.idxp 1 (.t 36) (.t 37)),
  opI 39 (.load none (.t 38)),
  opI 40 (.conv .u64 (.t 39)),
  opI 41 (.bin .add (.t 35) (.t 40)),
  mvI 6 41]
def a9B : List AIns := [mvI 42 5,
  mvI 43 7,
  mvI 44 6,
  opI 45 (.conv .u32 (.t 44)),
  opI 46 (.idxp 1 (.t 42) (.t 43)),
  ⟨none, none, .e (.store 1 (.t 46) (.t 45))⟩]
def a9A : List AIns := [mvI 47 6,
  opI 48 (.bin .shr (.t 47) (.c (.int .u64 32))),
  mvI 6 48]
def a9z : List AIns := [opI 49 (.bin .add (.t 21) (.c (.int .i64 1))),
  mvI 21 49]
def a8p : ACode := .seq (rgI b2i) (.seq (.cond (.t 22) (.skip) (.exit 0)) (.seq (.block 1 (.seq (rgI b9f) (.seq (rgI b9e) (.seq (.seq (rgI b9d) (.cond (.t 34) (rgI b6C) (.skip))) (.seq (rgI a9B) (rgI a9A)))))) (rgI a9z)))
def a3F : List AIns := [mvI 50 5,
  mvI 51 0,
  opI 52 (.len (.t 51)),
  mvI 53 6,
  opI 54 (.conv .u32 (.t 53)),
  opI 55 (.idxp 1 (.t 50) (.t 52)),
  ⟨none, none, .e (.store 1 (.t 55) (.t 54))⟩]
def a3E : List AIns := [mvI 56 5,
  ⟨some 57, none, .call a0J [(.t 56)]⟩,
  mvI 4 57]
def c7b : ACode := .seq (rgI b9i) (.seq (.seq (rgI b9h) (.cond (.t 12) (rgI b9g) (.skip))) (.seq (rgI b2l) (.seq (rgI b2k) (.seq (.seq (rgI b2j) (.block 0 (.loop a8p))) (.seq (rgI a3F) (.seq (rgI a3E) (.ret)))))))
theorem c5r : fchk Pr (fun _ _ => false) Try.f54 = some (c7b, [.tmp 4], 58) := by kernel_rfl
theorem c5s : Pr.funcs[a4d]? = some Try.f54 := Try.func54
def b9b : List AIns := [opI 4 (.mv (.c (.int .i64 0)))]
def b9a : List AIns := [mvI 6 0,
  ⟨some 7, none, .call a0J [(.t 6)]⟩,
  mvI 8 1,
  ⟨some 9, none, .call a0J [(.t 8)]⟩,
  mvI 0 7,
  mvI 1 9]
def b8Z : List AIns := [mvI 10 0,
  opI 11 (.len (.t 10)),
  mvI 12 1,
  opI 13 (.len (.t 12)),
  opI 14 (.bin .neq (.t 11) (.t 13))]
def b8Y : List AIns := [mvI 15 0,
  opI 16 (.len (.t 15)),
  mvI 17 1,
  opI 18 (.len (.t 17)),
  opI 19 (.bin .lss (.t 16) (.t 18))]
def b8X : List AIns := [opI 4 (.mv (.c (.int .i64 (-1))))]
def b8W : List AIns := [opI 4 (.mv (.c (.int .i64 1)))]
def b8V : List AIns := [mvI 20 0,
  opI 21 (.len (.t 20)),
  opI 22 (.bin .sub (.t 21) (.c (.int .i64 1))),
  mvI 5 22]
def b2h : List AIns := [mvI 23 5,
  opI 24 (.bin .geq (.t 23) (.c (.int .i64 0)))]
def b8U : List AIns := [mvI 27 0,
  mvI 28 5,
  opI 29 (.idxp 1 (.t 27) (.t 28)),
  opI 30 (.load none (.t 29)),
  mvI 31 1,
  mvI 32 5,
  opI 33 (.idxp 1 (.t 31) (.t 32)),
  opI 34 (.load none (.t 33)),
  opI 35 (.bin .neq (.t 30) (.t 34))]
def b8T : List AIns := [mvI 36 0,
  mvI 37 5,
  opI 38 (.idxp 1 (.t 36) (.t 37)),
  opI 39 (.load none (.t 38)),
  mvI 40 1,
  mvI 41 5,
  opI 42 (.idxp 1 (.t 40) (.t 41)),
  opI 43 (.load none (.t 42)),
  opI 44 (.bin .lss (.t 39) (.t 43))]
def b6w : List AIns := [opI 4 (.mv (.c (.int .i64 (-1))))]
def b6v : List AIns := [opI 4 (.mv (.c (.int .i64 1)))]
def b6u : List AIns := [mvI 25 5,
  opI 26 (.bin .sub (.t 25) (.c (.int .i64 1))),
  mvI 5 26]
def b9c : ACode := .seq (.seq (rgI b2h) (.cond (.t 24) (.skip) (.exit 0))) (.seq (.block 1 (.seq (.region b8U true) (.cond (.t 35) (.seq (.seq (.region b8T true) (.cond (.t 44) (.seq (rgI b6w) (.ret)) (.skip))) (.seq (rgI b6v) (.ret))) (.skip)))) (rgI b6u))
def a9y : List AIns := [opI 4 (.mv (.c (.int .i64 0)))]
def c7a : ACode := .seq (rgI b9b) (.seq (rgI b9a) (.seq (.seq (rgI b8Z) (.cond (.t 14) (.seq (.seq (rgI b8Y) (.cond (.t 19) (.seq (rgI b8X) (.ret)) (.skip))) (.seq (rgI b8W) (.ret))) (.skip))) (.seq (.seq (rgI b8V) (.block 0 (.loop b9c))) (.seq (rgI a9y) (.ret)))))
theorem c5o : fchk Pr (fun _ _ => false) Try.f55 = some (c7a, [.tmp 4], 45) := by kernel_rfl
theorem c5p : Pr.funcs[a5o]? = some Try.f55 := Try.func55
def b8I : List AIns := [opI 4 (.mv (.c (.nil))),
  opI 5 (.mv (.c (.int .i64 0)))]
def b8H : List AIns := [mvI 6 0,
  mvI 7 1,
  ⟨some 8, none, .call a5o [(.t 6), (.t 7)]⟩,
  opI 9 (.bin .lss (.t 8) (.c (.int .i64 0)))]
def c5i : List AIns := [opI 4 (.mv (.c (.nil))),
  opI 5 (.mv (.c (.int .i64 10)))]
def b8G : List AIns := [mvI 10 0,
  ⟨some 11, none, .call a0J [(.t 10)]⟩,
  mvI 12 1,
  ⟨some 13, none, .call a0J [(.t 12)]⟩,
  ⟨some 14, none, .call a5n [(.t 11), (.t 13)]⟩,
  mvI 4 14,
  opI 5 (.mv (.c (.int .i64 0)))]
def c6Y : ACode := .seq (rgI b8I) (.seq (.seq (rgI b8H) (.cond (.t 9) (.seq (rgI c5i) (.ret)) (.skip))) (.seq (rgI b8G) (.ret)))
theorem c5j : fchk Pr (fun _ _ => false) Try.f56 = some (c6Y, [.tmp 4, .tmp 5], 15) := by kernel_rfl
theorem c5k : Pr.funcs[b1Q]? = some Try.f56 := Try.func56
def b0B : List AIns := [⟨some 4, none, .e (.box 2 (.c (.agg [.bool false, .nil])))⟩]
def b0A : List AIns := [mvI 6 1,
  ⟨some 7, none, .call a1b [(.t 6)]⟩,
  mvI 5 7]
def a5D : List AIns := [mvI 8 0,
  mvI 9 8,
  ⟨some 10, some (9, true), .p (.mv (.t 5))⟩,
  ⟨some 11, some (9, true), .p (.len (.t 10))⟩,
  ⟨some 12, some (9, true), .p (.bin .gtr (.t 11) (.c (.int .i64 0)))⟩,
  opI 13 (.pick (.t 9) (.t 12) (.c (.bool false))),
  mvI 14 5,
  opI 15 (.bld [.bool false, .nil] [(0, 1, (.t 13)), (1, 1, (.t 14))]),
  ⟨none, none, .e (.store 2 (.t 4) (.t 15))⟩]
def c0Y : ACode := .seq (rgI b0B) (.seq (rgI b0A) (.seq (rgI a5D) (.ret)))
theorem b9L : fchk Pr (fun _ _ => false) Try.f57 = some (c0Y, [.cell 4 (some 2)], 16) := by kernel_rfl
theorem b9M : Pr.funcs[a2O]? = some Try.f57 := Try.func57
def b0P : List AIns := [opI 2 (.mv (.c (.nil)))]
def b0O : List AIns := [mvI 6 0,
  opI 7 (.len (.t 6)),
  mvI 3 7]
def a5F : List AIns := [mvI 8 3,
  opI 9 (.bin .gtr (.t 8) (.c (.int .i64 0))),
  mvI 10 9,
  ⟨some 11, some (10, true), .p (.mv (.t 0))⟩,
  ⟨some 12, some (10, true), .p (.mv (.t 3))⟩,
  ⟨some 13, some (10, true), .p (.bin .sub (.t 12) (.c (.int .i64 1)))⟩,
  ⟨some 14, some (10, true), .p (.idxp 1 (.t 11) (.t 13))⟩,
  ⟨some 15, some (10, true), .p (.load none (.t 14))⟩,
  ⟨some 16, some (10, true), .p (.bin .eql (.t 15) (.c (.int .u32 0)))⟩,
  opI 17 (.pick (.t 10) (.t 16) (.c (.bool false)))]
def b0N : List AIns := [mvI 18 3,
  opI 19 (.bin .sub (.t 18) (.c (.int .i64 1))),
  mvI 3 19]
def b0Q : ACode := .seq (.seq (rgI a5F) (.cond (.t 17) (.skip) (.exit 0))) (.block 1 (rgI b0N))
def a3n : List AIns := [opI 4 (.mv (.c (.nil)))]
def a3m : List AIns := [opI 5 (.mv (.c (.int .i64 0)))]
def a5E : List AIns := [mvI 20 5,
  mvI 21 3,
  opI 22 (.bin .lss (.t 20) (.t 21))]
def b0M : List AIns := [mvI 25 4,
  mvI 26 0,
  mvI 27 5,
  opI 28 (.idxp 1 (.t 26) (.t 27)),
  opI 29 (.load none (.t 28)),
  ⟨some 30, none, .e (.bsl 1 [(.t 29)])⟩,
  ⟨some 31, none, .e (.app 1 4 false (.t 25) (.t 30))⟩,
  mvI 4 31]
def b0L : List AIns := [mvI 23 5,
  opI 24 (.bin .add (.t 23) (.c (.int .i64 1))),
  mvI 5 24]
def a3o : ACode := .seq (.seq (rgI a5E) (.cond (.t 22) (.skip) (.exit 2))) (.seq (.block 3 (rgI b0M)) (rgI b0L))
def a2i : List AIns := [mvI 32 4,
  mvI 2 32]
def c1d : ACode := .seq (rgI b0P) (.seq (rgI b0O) (.seq (.block 0 (.loop b0Q)) (.seq (rgI a3n) (.seq (.seq (rgI a3m) (.block 2 (.loop a3o))) (.seq (rgI a2i) (.ret))))))
theorem b9R : fchk Pr (fun _ _ => false) Try.f58 = some (c1d, [.tmp 2], 33) := by kernel_rfl
theorem b9S : Pr.funcs[a1b]? = some Try.f58 := Try.func58
def b3m : List AIns := [⟨some 2, none, .e (.box 2 (.t 0))⟩,
  ⟨some 3, none, .e (.box 2 (.t 1))⟩,
  ⟨some 4, none, .e (.box 2 (.c (.agg [.bool false, .nil])))⟩]
def b3l : List AIns := [opI 5 (.fldp (.t 2) 0),
  opI 6 (.load none (.t 5)),
  opI 7 (.fldp (.t 3) 0),
  opI 8 (.load none (.t 7)),
  opI 9 (.beq true (.t 6) (.t 8)),
  opI 10 (.fldp (.t 2) 1),
  opI 11 (.load none (.t 10)),
  opI 12 (.fldp (.t 3) 1),
  opI 13 (.load none (.t 12)),
  ⟨some 14, none, .call a2z [(.t 11), (.t 13)]⟩,
  ⟨some 15, none, .call a2O [(.t 9), (.t 14)]⟩,
  ⟨none, none, .e (.store 2 (.t 4) (.t 15))⟩]
def c2B : ACode := .seq (rgI b3m) (.seq (.region b3l true) (.ret))
theorem c1b : fchk Pr (fun _ _ => false) Try.f59 = some (c2B, [.cell 4 (some 2)], 16) := by kernel_rfl
theorem c1c : Pr.funcs[a9Y]? = some Try.f59 := Try.func59
def a3j : List AIns := [opI 4 (.mv (.c (.nil)))]
def a3i : List AIns := [mvI 8 0,
  opI 9 (.len (.t 8)),
  ⟨some 10, none, .e (.mksl 1 16 (.str ⟨#[]⟩) (.c (.int .i64 0)) (.t 9))⟩,
  mvI 5 10]
def a3h : List AIns := [mvI 11 0,
  opI 12 (.len (.t 11)),
  opI 13 (.mv (.c (.int .i64 0)))]
def a1K : List AIns := [opI 14 (.bin .lss (.t 13) (.t 12))]
def a3g : List AIns := [opI 15 (.idxp 2 (.t 11) (.t 13)),
  opI 16 (.load (some 2) (.t 15)),
  ⟨some 7, none, .e (.box 2 (.c (.agg [.bool false, .nil])))⟩,
  ⟨none, none, .e (.store 2 (.t 7) (.t 16))⟩]
def a3f : List AIns := [mvI 17 5,
  mvI 18 1,
  opI 19 (.load (some 2) (.t 7)),
  ⟨some 20, none, .callv (.t 18) [(.t 19)]⟩,
  ⟨some 21, none, .e (.bsl 1 [(.t 20)])⟩,
  ⟨some 22, none, .e (.app 1 16 false (.t 17) (.t 21))⟩,
  mvI 5 22]
def a3e : List AIns := [opI 23 (.bin .add (.t 13) (.c (.int .i64 1))),
  mvI 13 23]
def a8x : ACode := .seq (rgI a1K) (.seq (.cond (.t 14) (.skip) (.exit 0)) (.seq (.block 1 (.seq (rgI a3g) (rgI a3f))) (rgI a3e)))
def a3d : List AIns := [mvI 24 5,
  mvI 4 24]
def a9D : ACode := .seq (rgI a3j) (.seq (rgI a3i) (.seq (.seq (rgI a3h) (.block 0 (.loop a8x))) (.seq (rgI a3d) (.ret))))
theorem a8w : fchk Pr (fun _ _ => false) Try.f63 = some (a9D, [.tmp 4], 25) := by kernel_rfl
theorem a8y : Pr.funcs[a2a]? = some Try.f63 := Try.func63
def a6I : List AIns := [⟨some 1, none, .e (.box 2 (.t 0))⟩,
  ⟨some 2, none, .p (.mv (.c (.str ⟨#[]⟩)))⟩]
def a6H : List AIns := [opI 3 (.load (some 2) (.t 1)),
  ⟨some 4, none, .call a4a [(.t 3)]⟩,
  opI 5 (.bin .lss (.t 4) (.c (.int .i64 0)))]
def b2U : List AIns := [opI 6 (.fldp (.t 1) 1),
  opI 7 (.load none (.t 6)),
  ⟨some 8, none, .call a3z [(.t 7)]⟩,
  ⟨some 9, none, .p (.bin .add (.c (.str ⟨#[45]⟩)) (.t 8))⟩,
  mvI 2 9]
def b2T : List AIns := [opI 10 (.fldp (.t 1) 1),
  opI 11 (.load none (.t 10)),
  ⟨some 12, none, .call a3z [(.t 11)]⟩,
  mvI 2 12]
def c2k : ACode := .seq (rgI a6I) (.seq (.seq (rgI a6H) (.cond (.t 5) (.seq (rgI b2U) (.ret)) (.skip))) (.seq (rgI b2T) (.ret)))
theorem b2V : fchk Pr (fun _ _ => false) Try.f64 = some (c2k, [.tmp 2], 13) := by kernel_rfl
theorem b2W : Pr.funcs[a6b]? = some Try.f64 := Try.func64
def b5V : List AIns := [opI 2 (.mv (.c (.nil)))]
def a9p : List AIns := [mvI 3 0,
  opI 4 (.len (.t 3)),
  opI 5 (.bin .gtr (.t 4) (.c (.int .i64 0))),
  mvI 6 5,
  ⟨some 7, some (6, true), .p (.mv (.t 0))⟩,
  ⟨some 8, some (6, true), .p (.mv (.t 0))⟩,
  ⟨some 9, some (6, true), .p (.len (.t 8))⟩,
  ⟨some 10, some (6, true), .p (.bin .sub (.t 9) (.c (.int .i64 1)))⟩,
  ⟨some 11, some (6, true), .p (.idxp 1 (.t 7) (.t 10))⟩,
  ⟨some 12, some (6, true), .p (.load none (.t 11))⟩,
  ⟨some 13, some (6, true), .p (.bin .eql (.t 12) (.c (.int .u32 0)))⟩,
  opI 14 (.pick (.t 6) (.t 13) (.c (.bool false)))]
def b5U : List AIns := [mvI 15 0,
  mvI 16 0,
  opI 17 (.len (.t 16)),
  opI 18 (.bin .sub (.t 17) (.c (.int .i64 1))),
  opI 19 (.slc 1 (.t 15) none (some (.t 18)) none),
  mvI 0 19]
def c2H : ACode := .seq (.seq (rgI a9p) (.cond (.t 14) (.skip) (.exit 0))) (.block 1 (rgI b5U))
def a9o : List AIns := [mvI 20 0,
  mvI 2 20]
def c5f : ACode := .seq (rgI b5V) (.seq (.block 0 (.loop c2H)) (.seq (rgI a9o) (.ret)))
theorem c2G : fchk Pr (fun _ _ => false) Try.f65 = some (c5f, [.tmp 2], 21) := by kernel_rfl
theorem c2I : Pr.funcs[a0J]? = some Try.f65 := Try.func65
def a4s : List AIns := [opI 2 (.mv (.c (.int .i64 0)))]
def a4r : List AIns := [mvI 3 0,
  opI 4 (.bin .geq (.t 3) (.c (.int .u32 65536)))]
def a4q : List AIns := [mvI 5 0,
  opI 6 (.bin .shr (.t 5) (.c (.int .u64 16))),
  mvI 0 6]
def a4p : List AIns := [opI 2 (.mv (.c (.int .i64 16)))]
def a2n : List AIns := [mvI 7 0,
  opI 8 (.bin .geq (.t 7) (.c (.int .u32 256)))]
def a2m : List AIns := [mvI 9 0,
  opI 10 (.bin .shr (.t 9) (.c (.int .u64 8))),
  mvI 0 10]
def a2l : List AIns := [mvI 11 2,
  opI 12 (.bin .add (.t 11) (.c (.int .i64 8))),
  mvI 2 12]
def a1s : List AIns := [mvI 13 2,
  mvI 14 0,
  opI 15 (.conv .u8 (.t 14)),
  opI 16 (.idxs (.c (.str c8E)) (.t 15)),
  opI 17 (.conv .i64 (.t 16)),
  opI 18 (.bin .add (.t 13) (.t 17)),
  mvI 2 18]
def b2o : ACode := .seq (rgI a4s) (.seq (.seq (rgI a4r) (.cond (.t 4) (.seq (rgI a4q) (rgI a4p)) (.skip))) (.seq (.seq (rgI a2n) (.cond (.t 8) (.seq (rgI a2m) (rgI a2l)) (.skip))) (.seq (rgI a1s) (.ret))))
theorem b0W : fchk Pr (fun _ _ => false) Try.f66 = some (b2o, [.tmp 2], 19) := by kernel_rfl
theorem b0X : Pr.funcs[a0Z]? = some Try.f66 := Try.func66
def b6d : List AIns := [opI 4 (.mv (.c (.nil)))]
def b6c : List AIns := [mvI 9 0,
  opI 10 (.len (.t 9)),
  ⟨some 11, none, .e (.mksl 1 4 (.int .u32 0) (.t 10) (.t 10))⟩,
  mvI 5 11]
def b6b : List AIns := [opI 6 (.mv (.c (.int .u64 0)))]
def b6a : List AIns := [mvI 12 0,
  opI 13 (.len (.t 12)),
  opI 14 (.mv (.c (.int .i64 0)))]
def a9r : List AIns := [opI 15 (.bin .lss (.t 14) (.t 13))]
def b5Z : List AIns := [mvI 16 14,
  mvI 7 16]
def b5Y : List AIns := [mvI 17 0,
  mvI 18 7,
  opI 19 (.idxp 1 (.t 17) (.t 18)),
  opI 20 (.load none (.t 19)),
  opI 21 (.conv .u64 (.t 20)),
  mvI 22 6,
  opI 23 (.bin .sub (.t 21) (.t 22)),
  mvI 8 23]
def b5X : List AIns := [mvI 24 7,
  mvI 25 1,
  opI 26 (.len (.t 25)),
  opI 27 (.bin .lss (.t 24) (.t 26))]
def b5W : List AIns := [mvI 28 8,
  mvI 29 1,
  mvI 30 7,
  opI 31 (.idxp 1 (.t 29) (.t 30)),
  opI 32 (.load none (.t 31)),
  opI 33 (.conv .u64 (.t 32)),
  opI 34 (.bin .sub (.t 28) (.t 33)),
  mvI 8 34]
def a9q : List AIns := [mvI 35 5,
  mvI 36 7,
  mvI 37 8,
  opI 38 (.conv .u32 (.t 37)),
  opI 39 (.idxp 1 (.t 35) (.t 36)),
  ⟨none, none, .e (.store 1 (.t 39) (.t 38))⟩]
def a7g : List AIns := [mvI 40 8,
  opI 41 (.bin .shr (.t 40) (.c (.int .u64 63))),
  mvI 6 41]
def a7f : List AIns := [opI 42 (.bin .add (.t 14) (.c (.int .i64 1))),
  mvI 14 42]
def a9s : ACode := .seq (rgI a9r) (.seq (.cond (.t 15) (.skip) (.exit 0)) (.seq (.block 1 (.seq (rgI b5Z) (.seq (rgI b5Y) (.seq (.seq (rgI b5X) (.cond (.t 27) (rgI b5W) (.skip))) (.seq (rgI a9q) (rgI a7g)))))) (rgI a7f)))
def a4l : List AIns := [mvI 43 5,
  ⟨some 44, none, .call a0J [(.t 43)]⟩,
  mvI 4 44]
def c5g : ACode := .seq (rgI b6d) (.seq (rgI b6c) (.seq (rgI b6b) (.seq (.seq (rgI b6a) (.block 0 (.loop a9s))) (.seq (rgI a4l) (.ret)))))
theorem c2K : fchk Pr (fun _ _ => false) Try.f67 = some (c5g, [.tmp 4], 45) := by kernel_rfl
theorem c2L : Pr.funcs[a5n]? = some Try.f67 := Try.func67
def b3u : List AIns := [opI 4 (.mv (.c (.nil)))]
def b3t : List AIns := [mvI 9 0,
  opI 10 (.len (.t 9)),
  mvI 11 1,
  opI 12 (.len (.t 11)),
  opI 13 (.bin .add (.t 10) (.t 12)),
  ⟨some 14, none, .e (.mksl 1 4 (.int .u32 0) (.t 13) (.t 13))⟩,
  mvI 5 14]
def b3s : List AIns := [opI 6 (.mv (.c (.int .i64 0)))]
def a7b : List AIns := [mvI 15 6,
  mvI 16 0,
  opI 17 (.len (.t 16)),
  opI 18 (.bin .lss (.t 15) (.t 17))]
def b3r : List AIns := [opI 7 (.mv (.c (.int .u64 0)))]
def b3q : List AIns := [opI 8 (.mv (.c (.int .i64 0)))]
def a7a : List AIns := [mvI 21 8,
  mvI 22 1,
  opI 23 (.len (.t 22)),
  opI 24 (.bin .lss (.t 21) (.t 23))]
def b3p : List AIns := [mvI 27 7,
  mvI 28 5,
  mvI 29 6,
  mvI 30 8,
  opI 31 (.bin .add (.t 29) (.t 30)),
  opI 32 (.idxp 1 (.t 28) (.t 31)),
  opI 33 (.load none (.t 32)),
  opI 34 (.conv .u64 (.t 33)),
  opI 35 (.bin .add (.t 27) (.t 34)),
  mvI 36 0,
  mvI 37 6,
  opI 38 (.idxp 1 (.t 36) (.t 37)),
  opI 39 (.load none (.t 38)),
  opI 40 (.conv .u64 (.t 39)),
  mvI 41 1,
  mvI 42 8,
  opI 43 (.idxp 1 (.t 41) (.t 42)),
  opI 44 (.load none (.t 43)),
  opI 45 (.conv .u64 (.t 44)),
  opI 46 (.bin .mul (.t 40) (.t 45)),
  opI 47 (.bin .add (.t 35) (.t 46)),
  mvI 7 47]
def b3o : List AIns := [mvI 48 5,
  mvI 49 6,
  mvI 50 8,
  opI 51 (.bin .add (.t 49) (.t 50)),
  mvI 52 7,
  opI 53 (.bin .rem (.t 52) (.c (.int .u64 4294967296))),
  opI 54 (.conv .u32 (.t 53)),
  opI 55 (.idxp 1 (.t 48) (.t 51)),
  ⟨none, none, .e (.store 1 (.t 55) (.t 54))⟩]
def b3n : List AIns := [mvI 56 7,
  opI 57 (.bin .quo (.t 56) (.c (.int .u64 4294967296))),
  mvI 7 57]
def b0T : List AIns := [mvI 25 8,
  opI 26 (.bin .add (.t 25) (.c (.int .i64 1))),
  mvI 8 26]
def b3v : ACode := .seq (.seq (rgI a7a) (.cond (.t 24) (.skip) (.exit 2))) (.seq (.block 3 (.seq (.region b3p true) (.seq (rgI b3o) (rgI b3n)))) (rgI b0T))
def b0S : List AIns := [mvI 58 5,
  mvI 59 6,
  mvI 60 1,
  opI 61 (.len (.t 60)),
  opI 62 (.bin .add (.t 59) (.t 61)),
  mvI 63 7,
  opI 64 (.conv .u32 (.t 63)),
  opI 65 (.idxp 1 (.t 58) (.t 62)),
  ⟨none, none, .e (.store 1 (.t 65) (.t 64))⟩]
def b0R : List AIns := [mvI 19 6,
  opI 20 (.bin .add (.t 19) (.c (.int .i64 1))),
  mvI 6 20]
def b3w : ACode := .seq (.seq (rgI a7b) (.cond (.t 18) (.skip) (.exit 0))) (.seq (.block 1 (.seq (rgI b3r) (.seq (.seq (rgI b3q) (.block 2 (.loop b3v))) (rgI b0S)))) (rgI b0R))
def a5G : List AIns := [mvI 66 5,
  ⟨some 67, none, .call a1b [(.t 66)]⟩,
  mvI 4 67]
def c2C : ACode := .seq (rgI b3u) (.seq (rgI b3t) (.seq (.seq (rgI b3s) (.block 0 (.loop b3w))) (.seq (rgI a5G) (.ret))))
theorem c1e : fchk Pr (fun _ _ => false) Try.f68 = some (c2C, [.tmp 4], 68) := by kernel_rfl
theorem c1f : Pr.funcs[a2z]? = some Try.f68 := Try.func68
def b6k : List AIns := [⟨some 2, none, .p (.mv (.c (.str ⟨#[]⟩)))⟩]
def b6j : List AIns := [mvI 9 0,
  ⟨some 10, none, .call b2J [(.t 9)]⟩,
  mvI 0 10]
def b6i : List AIns := [mvI 11 0,
  opI 12 (.len (.t 11)),
  opI 13 (.bin .eql (.t 12) (.c (.int .i64 0)))]
def b6h : List AIns := [⟨some 2, none, .p (.mv (.c (.str ⟨#[48]⟩)))⟩]
def b6g : List AIns := [opI 3 (.mv (.c (.nil)))]
def a9u : List AIns := [mvI 14 0,
  opI 15 (.len (.t 14)),
  opI 16 (.bin .gtr (.t 15) (.c (.int .i64 0)))]
def b6f : List AIns := [mvI 18 0,
  ⟨some 19, none, .call a9Z [(.t 18), (.c (.int .u32 1000000000))]⟩,
  mvI 17 19,
  opI 20 (.ext (.t 17) 0),
  opI 21 (.ext (.t 17) 1),
  mvI 4 20,
  mvI 5 21]
def b6e : List AIns := [opI 6 (.mv (.c (.int .i64 0)))]
def a3D : List AIns := [mvI 22 6,
  opI 23 (.bin .lss (.t 22) (.c (.int .i64 9))),
  mvI 24 23,
  ⟨some 25, some (24, true), .p (.mv (.t 4))⟩,
  ⟨some 26, some (24, true), .p (.len (.t 25))⟩,
  ⟨some 27, some (24, true), .p (.bin .gtr (.t 26) (.c (.int .i64 0)))⟩,
  ⟨some 28, some (24, true), .p (.mv (.t 27))⟩,
  ⟨some 29, some (28, false), .p (.mv (.t 5))⟩,
  ⟨some 30, some (28, false), .p (.bin .gtr (.t 29) (.c (.int .u32 0)))⟩,
  ⟨some 31, some (24, true), .p (.pick (.t 28) (.c (.bool true)) (.t 30))⟩,
  opI 32 (.pick (.t 24) (.t 31) (.c (.bool false)))]
def a9t : List AIns := [mvI 35 3,
  mvI 36 5,
  opI 37 (.bin .rem (.t 36) (.c (.int .u32 10))),
  opI 38 (.bin .add (.c (.int .u32 48)) (.t 37)),
  opI 39 (.conv .u8 (.t 38)),
  ⟨some 40, none, .e (.bsl 1 [(.t 39)])⟩,
  ⟨some 41, none, .e (.app 1 1 false (.t 35) (.t 40))⟩,
  mvI 3 41]
def a7j : List AIns := [mvI 42 5,
  opI 43 (.bin .quo (.t 42) (.c (.int .u32 10))),
  mvI 5 43]
def a7i : List AIns := [mvI 33 6,
  opI 34 (.bin .add (.t 33) (.c (.int .i64 1))),
  mvI 6 34]
def b6l : ACode := .seq (.seq (rgI a3D) (.cond (.t 32) (.skip) (.exit 2))) (.seq (.block 3 (.seq (rgI a9t) (rgI a7j))) (rgI a7i))
def a4o : List AIns := [mvI 44 4,
  mvI 0 44]
def a9w : ACode := .seq (.seq (rgI a9u) (.cond (.t 16) (.skip) (.exit 0))) (.block 1 (.seq (rgI b6f) (.seq (.seq (rgI b6e) (.block 2 (.loop b6l))) (rgI a4o))))
def a4n : List AIns := [mvI 45 3,
  opI 46 (.len (.t 45)),
  opI 47 (.bin .sub (.t 46) (.c (.int .i64 1))),
  opI 7 (.mv (.c (.int .i64 0))),
  mvI 8 47]
def a7h : List AIns := [mvI 48 7,
  mvI 49 8,
  opI 50 (.bin .lss (.t 48) (.t 49))]
def b3J : List AIns := [mvI 55 3,
  mvI 56 7,
  mvI 57 3,
  mvI 58 8,
  mvI 59 3,
  mvI 60 8,
  opI 61 (.idxp 1 (.t 59) (.t 60)),
  opI 62 (.load none (.t 61)),
  mvI 63 3,
  mvI 64 7,
  opI 65 (.idxp 1 (.t 63) (.t 64)),
  opI 66 (.load none (.t 65)),
  opI 67 (.idxp 1 (.t 55) (.t 56)),
  ⟨none, none, .e (.store 1 (.t 67) (.t 62))⟩,
  opI 68 (.idxp 1 (.t 57) (.t 58)),
  ⟨none, none, .e (.store 1 (.t 68) (.t 66))⟩]
def b3I : List AIns := [mvI 51 7,
  opI 52 (.bin .add (.t 51) (.c (.int .i64 1))),
  mvI 53 8,
  opI 54 (.bin .sub (.t 53) (.c (.int .i64 1))),
  mvI 7 52,
  mvI 8 54]
def a9v : ACode := .seq (.seq (rgI a7h) (.cond (.t 50) (.skip) (.exit 4))) (.seq (.block 5 (.region b3J true)) (rgI b3I))
def a4m : List AIns := [mvI 69 3,
  opI 70 (.b2s (.t 69)),
  mvI 2 70]
def c5h : ACode := .seq (rgI b6k) (.seq (rgI b6j) (.seq (.seq (rgI b6i) (.cond (.t 13) (.seq (rgI b6h) (.ret)) (.skip))) (.seq (rgI b6g) (.seq (.block 0 (.loop a9w)) (.seq (.seq (rgI a4n) (.block 4 (.loop a9v))) (.seq (rgI a4m) (.ret)))))))
theorem c2M : fchk Pr (fun _ _ => false) Try.f71 = some (c5h, [.tmp 2], 71) := by kernel_rfl
theorem c2N : Pr.funcs[a3z]? = some Try.f71 := Try.func71
def b6n : List AIns := [opI 2 (.mv (.c (.nil)))]
def b6m : List AIns := [mvI 3 0,
  ⟨some 4, none, .call a0J [(.t 3)]⟩,
  ⟨some 5, none, .e (.app 1 4 false (.c (.nil)) (.t 4))⟩,
  mvI 2 5]
def c5l : ACode := .seq (rgI b6n) (.seq (rgI b6m) (.ret))
theorem c2O : fchk Pr (fun _ _ => false) Try.f74 = some (c5l, [.tmp 2], 6) := by kernel_rfl
theorem c2P : Pr.funcs[b2J]? = some Try.f74 := Try.func74
def b3H : List AIns := [opI 4 (.mv (.c (.nil))),
  opI 5 (.mv (.c (.int .u32 0)))]
def b3G : List AIns := [mvI 9 0,
  opI 10 (.len (.t 9)),
  ⟨some 11, none, .e (.mksl 1 4 (.int .u32 0) (.t 10) (.t 10))⟩,
  mvI 6 11]
def b3F : List AIns := [opI 7 (.mv (.c (.int .u64 0)))]
def b3E : List AIns := [mvI 12 0,
  opI 13 (.len (.t 12)),
  opI 14 (.bin .sub (.t 13) (.c (.int .i64 1))),
  mvI 8 14]
def a7e : List AIns := [mvI 15 8,
  opI 16 (.bin .geq (.t 15) (.c (.int .i64 0)))]
def b3D : List AIns := [mvI 19 7,
  opI 20 (.bin .shl (.t 19) (.c (.int .u64 32))),
  mvI 21 0,
  mvI 22 8,
  opI 23 (.idxp 1 (.t 21) (.t 22)),
  opI 24 (.load none (.t 23)),
  opI 25 (.conv .u64 (.t 24)),
  opI 26 (.bin .or (.t 20) (.t 25)),
  mvI 7 26]
def b3C : List AIns := [mvI 27 6,
  mvI 28 8,
  mvI 29 7,
  mvI 30 1,
  opI 31 (.conv .u64 (.t 30)),
  opI 32 (.bin .quo (.t 29) (.t 31)),
  opI 33 (.conv .u32 (.t 32)),
  opI 34 (.idxp 1 (.t 27) (.t 28)),
  ⟨none, none, .e (.store 1 (.t 34) (.t 33))⟩]
def b3B : List AIns := [mvI 35 7,
  mvI 36 1,
  opI 37 (.conv .u64 (.t 36)),
  opI 38 (.bin .rem (.t 35) (.t 37)),
  mvI 7 38]
def b3A : List AIns := [mvI 17 8,
  opI 18 (.bin .sub (.t 17) (.c (.int .i64 1))),
  mvI 8 18]
def c1n : ACode := .seq (.seq (rgI a7e) (.cond (.t 16) (.skip) (.exit 0))) (.seq (.block 1 (.seq (rgI b3D) (.seq (rgI b3C) (rgI b3B)))) (rgI b3A))
def b3z : List AIns := [mvI 39 6,
  ⟨some 40, none, .call a0J [(.t 39)]⟩,
  mvI 41 7,
  opI 42 (.conv .u32 (.t 41)),
  mvI 4 40,
  mvI 5 42]
def c2J : ACode := .seq (rgI b3H) (.seq (rgI b3G) (.seq (rgI b3F) (.seq (.seq (rgI b3E) (.block 0 (.loop c1n))) (.seq (rgI b3z) (.ret)))))
theorem c1m : fchk Pr (fun _ _ => false) Try.f75 = some (c2J, [.tmp 4, .tmp 5], 43) := by kernel_rfl
theorem c1o : Pr.funcs[a9Z]? = some Try.f75 := Try.func75
end Go.Abs
set_option maxRecDepth 100000
noncomputable section
namespace Go.Abs
open Go.Proofs
def a7C : List AIns := [opI 2 (.mv (.c (.nil))),
  opI 3 (.mv (.c (.int .i64 0)))]
def a7B : List AIns := [mvI 12 0,
  ⟨some 13, none, .call a2A [(.t 12)]⟩,
  mvI 11 13,
  opI 14 (.ext (.t 11) 0),
  opI 15 (.ext (.t 11) 1),
  opI 16 (.ext (.t 11) 2),
  mvI 4 14,
  mvI 5 15,
  mvI 6 16]
def a7A : List AIns := [mvI 17 6,
  opI 18 (.bin .neq (.t 17) (.c (.int .i64 0)))]
def b3Z : List AIns := [mvI 19 6,
  opI 2 (.mv (.c (.nil))),
  mvI 3 19]
def b3Y : List AIns := [mvI 20 4,
  mvI 21 5,
  opI 22 (.bin .mul (.t 20) (.t 21)),
  ⟨some 23, none, .e (.mksl 2 32 (.agg [.bool false, .nil]) (.c (.int .i64 0)) (.t 22))⟩,
  mvI 7 23]
def b3X : List AIns := [opI 8 (.mv (.c (.nil)))]
def b3W : List AIns := [mvI 24 5,
  opI 25 (.mv (.c (.int .i64 0)))]
def a7z : List AIns := [opI 26 (.bin .lss (.t 25) (.t 24))]
def b3V : List AIns := [mvI 27 25,
  mvI 9 27]
def b3U : List AIns := [mvI 28 4,
  opI 29 (.mv (.c (.int .i64 0)))]
def a5P : List AIns := [opI 30 (.bin .lss (.t 29) (.t 28))]
def b1l : List AIns := [mvI 31 29,
  mvI 10 31]
def b1k : List AIns := [mvI 32 7,
  mvI 33 0,
  mvI 34 10,
  opI 35 (.idxp 1 (.t 33) (.t 34)),
  opI 36 (.load none (.t 35)),
  mvI 37 9,
  opI 38 (.idxp 2 (.t 36) (.t 37)),
  opI 39 (.load (some 2) (.t 38)),
  ⟨some 40, none, .call a0N [(.t 39)]⟩,
  ⟨some 41, none, .e (.bslm 2 [(.t 40)])⟩,
  ⟨some 42, none, .e (.app 2 32 false (.t 32) (.t 41))⟩,
  mvI 7 42]
def b1j : List AIns := [opI 43 (.bin .add (.t 29) (.c (.int .i64 1))),
  mvI 29 43]
def c1r : ACode := .seq (rgI a5P) (.seq (.cond (.t 30) (.skip) (.exit 2)) (.seq (.block 3 (.seq (rgI b1l) (rgI b1k))) (rgI b1j)))
def b1i : List AIns := [mvI 44 8,
  mvI 45 7,
  mvI 46 9,
  mvI 47 4,
  opI 48 (.bin .mul (.t 46) (.t 47)),
  mvI 49 9,
  opI 50 (.bin .add (.t 49) (.c (.int .i64 1))),
  mvI 51 4,
  opI 52 (.bin .mul (.t 50) (.t 51)),
  mvI 53 9,
  opI 54 (.bin .add (.t 53) (.c (.int .i64 1))),
  mvI 55 4,
  opI 56 (.bin .mul (.t 54) (.t 55)),
  opI 57 (.slc 2 (.t 45) (some (.t 48)) (some (.t 52)) (some (.t 56))),
  ⟨some 58, none, .e (.bslm 1 [(.t 57)])⟩,
  ⟨some 59, none, .e (.app 1 24 false (.t 44) (.t 58))⟩,
  mvI 8 59]
def b1h : List AIns := [opI 60 (.bin .add (.t 25) (.c (.int .i64 1))),
  mvI 25 60]
def c1s : ACode := .seq (rgI a7z) (.seq (.cond (.t 26) (.skip) (.exit 0)) (.seq (.block 1 (.seq (rgI b3V) (.seq (.seq (rgI b3U) (.block 2 (.loop c1r))) (rgI b1i)))) (rgI b1h)))
def b1g : List AIns := [mvI 61 8,
  mvI 2 61,
  opI 3 (.mv (.c (.int .i64 0)))]
def c3h : ACode := .seq (rgI a7C) (.seq (rgI a7B) (.seq (.seq (rgI a7A) (.cond (.t 18) (.seq (rgI b3Z) (.ret)) (.skip))) (.seq (rgI b3Y) (.seq (rgI b3X) (.seq (.seq (rgI b3W) (.block 0 (.loop c1s))) (.seq (rgI b1g) (.ret)))))))
theorem b4a : fchk Pr (fun _ k => (k == 9) || (k == 14)) Try.f8 = some (c3h, [.tmp 2, .tmp 3], 62) := by kernel_rfl
theorem b4b : Pr.funcs[a2e]? = some Try.f8 := Try.func8
def a6n : List AIns := [opI 4 (.mv (.c (.nil)))]
def a6m : List AIns := [mvI 8 0,
  opI 9 (.len (.t 8)),
  ⟨some 10, none, .e (.mksl 1 24 (.nil) (.c (.int .i64 0)) (.t 9))⟩,
  mvI 5 10]
def a6l : List AIns := [mvI 11 0,
  opI 12 (.len (.t 11)),
  opI 13 (.mv (.c (.int .i64 0)))]
def a2Q : List AIns := [opI 14 (.bin .lss (.t 13) (.t 12))]
def a6k : List AIns := [opI 15 (.idxp 1 (.t 11) (.t 13)),
  opI 16 (.load none (.t 15)),
  mvI 7 16]
def a6j : List AIns := [mvI 17 5,
  mvI 18 1,
  mvI 19 7,
  ⟨some 20, none, .callv (.t 18) [(.t 19)]⟩,
  ⟨some 21, none, .e (.bslm 1 [(.t 20)])⟩,
  ⟨some 22, none, .e (.app 1 24 false (.t 17) (.t 21))⟩,
  mvI 5 22]
def a6i : List AIns := [opI 23 (.bin .add (.t 13) (.c (.int .i64 1))),
  mvI 13 23]
def b4L : ACode := .seq (rgI a2Q) (.seq (.cond (.t 14) (.skip) (.exit 0)) (.seq (.block 1 (.seq (rgI a6k) (rgI a6j))) (rgI a6i)))
def a6h : List AIns := [mvI 24 5,
  mvI 4 24]
def b6H : ACode := .seq (rgI a6n) (.seq (rgI a6m) (.seq (.seq (rgI a6l) (.block 0 (.loop b4L))) (.seq (rgI a6h) (.ret))))
theorem b4K : fchk Pr (fun _ k => (k == 4)) Try.f24 = some (b6H, [.tmp 4], 25) := by kernel_rfl
theorem b4M : Pr.funcs[a1l]? = some Try.f24 := Try.func24
def a6B : List AIns := [opI 4 (.mv (.c (.nil)))]
def a6A : List AIns := [mvI 8 0,
  opI 9 (.len (.t 8)),
  ⟨some 10, none, .e (.mksl 2 32 (.agg [.bool false, .nil]) (.c (.int .i64 0)) (.t 9))⟩,
  mvI 5 10]
def a6z : List AIns := [mvI 11 0,
  opI 12 (.len (.t 11)),
  opI 13 (.mv (.c (.int .i64 0)))]
def a2S : List AIns := [opI 14 (.bin .lss (.t 13) (.t 12))]
def a6y : List AIns := [opI 15 (.idxp 2 (.t 11) (.t 13)),
  opI 16 (.load (some 2) (.t 15)),
  ⟨some 7, none, .e (.box 2 (.c (.agg [.bool false, .nil])))⟩,
  ⟨none, none, .e (.store 2 (.t 7) (.t 16))⟩]
def a6x : List AIns := [mvI 17 5,
  mvI 18 1,
  opI 19 (.load (some 2) (.t 7)),
  ⟨some 20, none, .callv (.t 18) [(.t 19)]⟩,
  ⟨some 21, none, .e (.bslm 2 [(.t 20)])⟩,
  ⟨some 22, none, .e (.app 2 32 false (.t 17) (.t 21))⟩,
  mvI 5 22]
def a6w : List AIns := [opI 23 (.bin .add (.t 13) (.c (.int .i64 1))),
  mvI 13 23]
def b4R : ACode := .seq (rgI a2S) (.seq (.cond (.t 14) (.skip) (.exit 0)) (.seq (.block 1 (.seq (rgI a6y) (rgI a6x))) (rgI a6w)))
def a6v : List AIns := [mvI 24 5,
  mvI 4 24]
def b6M : ACode := .seq (rgI a6B) (.seq (rgI a6A) (.seq (.seq (rgI a6z) (.block 0 (.loop b4R))) (.seq (rgI a6v) (.ret))))
theorem b4Q : fchk Pr (fun _ k => (k == 4)) Try.f26 = some (b6M, [.tmp 4], 25) := by kernel_rfl
theorem b4S : Pr.funcs[a0t]? = some Try.f26 := Try.func26
def a6u : List AIns := [opI 4 (.mv (.c (.nil)))]
def a6t : List AIns := [mvI 8 0,
  opI 9 (.len (.t 8)),
  ⟨some 10, none, .e (.mksl 2 32 (.agg [.bool false, .nil]) (.c (.int .i64 0)) (.t 9))⟩,
  mvI 5 10]
def a6s : List AIns := [mvI 11 0,
  opI 12 (.len (.t 11)),
  opI 13 (.mv (.c (.int .i64 0)))]
def a2R : List AIns := [opI 14 (.bin .lss (.t 13) (.t 12))]
def a6r : List AIns := [opI 15 (.idxp 1 (.t 11) (.t 13)),
  opI 16 (.load none (.t 15)),
  mvI 7 16]
def a6q : List AIns := [mvI 17 5,
  mvI 18 1,
  mvI 19 7,
  ⟨some 20, none, .callv (.t 18) [(.t 19)]⟩,
  ⟨some 21, none, .e (.bslm 2 [(.t 20)])⟩,
  ⟨some 22, none, .e (.app 2 32 false (.t 17) (.t 21))⟩,
  mvI 5 22]
def a6p : List AIns := [opI 23 (.bin .add (.t 13) (.c (.int .i64 1))),
  mvI 13 23]
def b4O : ACode := .seq (rgI a2R) (.seq (.cond (.t 14) (.skip) (.exit 0)) (.seq (.block 1 (.seq (rgI a6r) (rgI a6q))) (rgI a6p)))
def a6o : List AIns := [mvI 24 5,
  mvI 4 24]
def b6I : ACode := .seq (rgI a6u) (.seq (rgI a6t) (.seq (.seq (rgI a6s) (.block 0 (.loop b4O))) (.seq (rgI a6o) (.ret))))
theorem b4N : fchk Pr (fun _ k => (k == 4)) Try.f30 = some (b6I, [.tmp 4], 25) := by kernel_rfl
theorem b4P : Pr.funcs[a5a]? = some Try.f30 := Try.func30
def b6O : List AIns := [⟨some 4, none, .e (.box 2 (.c (.agg [.bool false, .nil])))⟩]
def b6N : List AIns := [⟨some 5, none, .e (.box 2 (.c (.agg [.bool false, .nil])))⟩]
def a9I : List AIns := [mvI 7 0,
  opI 8 (.len (.t 7)),
  opI 9 (.mv (.c (.int .i64 0)))]
def a3I : List AIns := [opI 10 (.bin .lss (.t 9) (.t 8))]
def a9H : List AIns := [mvI 11 9,
  mvI 6 11]
def a9G : List AIns := [opI 12 (.load (some 2) (.t 5)),
  mvI 13 0,
  mvI 14 6,
  opI 15 (.idxp 2 (.t 13) (.t 14)),
  opI 16 (.load (some 2) (.t 15)),
  mvI 17 1,
  mvI 18 6,
  opI 19 (.idxp 2 (.t 17) (.t 18)),
  opI 20 (.load (some 2) (.t 19)),
  ⟨some 21, none, .call a2y [(.t 16), (.t 20)]⟩,
  ⟨some 22, none, .gcall a1j [(.t 12), (.t 21)]⟩,
  ⟨none, none, .e (.store 2 (.t 5) (.t 22))⟩]
def a9F : List AIns := [opI 23 (.bin .add (.t 9) (.c (.int .i64 1))),
  mvI 9 23]
def c2Y : ACode := .seq (rgI a3I) (.seq (.cond (.t 10) (.skip) (.exit 0)) (.seq (.block 1 (.seq (rgI a9H) (.region a9G true))) (rgI a9F)))
def a9E : List AIns := [opI 24 (.load (some 2) (.t 5)),
  ⟨none, none, .e (.store 2 (.t 4) (.t 24))⟩]
def c5x : ACode := .seq (rgI b6O) (.seq (rgI b6N) (.seq (.seq (rgI a9I) (.block 0 (.loop c2Y))) (.seq (rgI a9E) (.ret))))
theorem c2X : fchk Pr (fun _ k => (k == 10)) Try.f32 = some (c5x, [.cell 4 (some 2)], 25) := by kernel_rfl
theorem c2Z : Pr.funcs[b7Y]? = some Try.f32 := Try.func32
def b3e : List AIns := [⟨some 2, none, .e (.box 2 (.t 0))⟩,
  ⟨some 3, none, .e (.box 2 (.t 1))⟩,
  ⟨some 4, none, .e (.box 2 (.c (.agg [.bool false, .nil])))⟩]
def b3d : List AIns := [opI 5 (.fldp (.t 2) 0),
  opI 6 (.load none (.t 5)),
  opI 7 (.fldp (.t 3) 0),
  opI 8 (.load none (.t 7)),
  opI 9 (.beq true (.t 6) (.t 8)),
  opI 10 (.fldp (.t 2) 1),
  opI 11 (.load none (.t 10)),
  opI 12 (.fldp (.t 3) 1),
  opI 13 (.load none (.t 12)),
  ⟨some 14, none, .call a4c [(.t 11), (.t 13)]⟩,
  ⟨some 15, none, .gcall a0q [(.t 9), (.t 14)]⟩,
  ⟨none, none, .e (.store 2 (.t 4) (.t 15))⟩]
def c2o : ACode := .seq (rgI b3e) (.seq (.region b3d true) (.ret))
theorem c0F : fchk Pr (fun _ k => (k == 10)) Try.f37 = some (c2o, [.cell 4 (some 2)], 16) := by kernel_rfl
theorem c0G : Pr.funcs[a2y]? = some Try.f37 := Try.func37
def b1f : List AIns := [opI 6 (.mv (.c (.nil))),
  opI 7 (.mv (.c (.int .i64 0)))]
def b1e : List AIns := [mvI 10 0,
  opI 11 (.len (.t 10)),
  mvI 12 1,
  opI 13 (.len (.t 12)),
  opI 14 (.bin .neq (.t 11) (.t 13))]
def b9Y : List AIns := [opI 6 (.mv (.c (.nil))),
  opI 7 (.mv (.c (.int .i64 8)))]
def b1d : List AIns := [opI 8 (.mv (.c (.nil)))]
def b1c : List AIns := [mvI 15 0,
  opI 16 (.len (.t 15)),
  opI 17 (.mv (.c (.int .i64 0)))]
def a5O : List AIns := [opI 18 (.bin .lss (.t 17) (.t 16))]
def b1b : List AIns := [mvI 19 17,
  mvI 9 19]
def b1a : List AIns := [mvI 20 8,
  mvI 21 2,
  mvI 22 0,
  mvI 23 9,
  opI 24 (.idxp 2 (.t 22) (.t 23)),
  opI 25 (.load (some 2) (.t 24)),
  mvI 26 1,
  mvI 27 9,
  opI 28 (.idxp 2 (.t 26) (.t 27)),
  opI 29 (.load (some 2) (.t 28)),
  ⟨some 30, none, .gcallv (.t 21) [(.t 25), (.t 29)]⟩,
  ⟨some 31, none, .e (.bslm 2 [(.t 30)])⟩,
  ⟨some 32, none, .e (.app 2 32 false (.t 20) (.t 31))⟩,
  mvI 8 32]
def b0Z : List AIns := [opI 33 (.bin .add (.t 17) (.c (.int .i64 1))),
  mvI 17 33]
def c0a : ACode := .seq (rgI a5O) (.seq (.cond (.t 18) (.skip) (.exit 0)) (.seq (.block 1 (.seq (rgI b1b) (.region b1a true))) (rgI b0Z)))
def b0Y : List AIns := [mvI 34 8,
  mvI 6 34,
  opI 7 (.mv (.c (.int .i64 0)))]
def c1q : ACode := .seq (rgI b1f) (.seq (.seq (rgI b1e) (.cond (.t 14) (.seq (rgI b9Y) (.ret)) (.skip))) (.seq (rgI b1d) (.seq (.seq (rgI b1c) (.block 0 (.loop c0a))) (.seq (rgI b0Y) (.ret)))))
theorem b9Z : fchk Pr (fun _ k => (k == 10) || (k == 11)) Try.f39 = some (c1q, [.tmp 6, .tmp 7], 35) := by kernel_rfl
theorem c0b : Pr.funcs[b0a]? = some Try.f39 := Try.func39
def a4i : List AIns := [⟨some 2, none, .e (.box 2 (.t 0))⟩,
  ⟨some 3, none, .e (.box 2 (.t 1))⟩,
  ⟨some 4, none, .e (.box 2 (.c (.agg [.bool false, .nil])))⟩]
def a4h : List AIns := [opI 7 (.fldp (.t 2) 0),
  opI 8 (.load none (.t 7)),
  opI 9 (.fldp (.t 3) 0),
  opI 10 (.load none (.t 9)),
  opI 11 (.beq false (.t 8) (.t 10))]
def b3i : List AIns := [opI 12 (.fldp (.t 2) 0),
  opI 13 (.load none (.t 12)),
  opI 14 (.fldp (.t 2) 1),
  opI 15 (.load none (.t 14)),
  opI 16 (.fldp (.t 3) 1),
  opI 17 (.load none (.t 16)),
  ⟨some 18, none, .call a4d [(.t 15), (.t 17)]⟩,
  ⟨some 19, none, .gcall a0q [(.t 13), (.t 18)]⟩,
  ⟨none, none, .e (.store 2 (.t 4) (.t 19))⟩]
def a6N : List AIns := [opI 20 (.fldp (.t 2) 1),
  opI 21 (.load none (.t 20)),
  opI 22 (.fldp (.t 3) 1),
  opI 23 (.load none (.t 22)),
  ⟨some 24, none, .call a5o [(.t 21), (.t 23)]⟩,
  opI 25 (.bin .lss (.t 24) (.c (.int .i64 0)))]
def b3h : List AIns := [opI 26 (.load (some 2) (.t 3)),
  opI 27 (.load (some 2) (.t 2)),
  ⟨none, none, .e (.store 2 (.t 2) (.t 26))⟩,
  ⟨none, none, .e (.store 2 (.t 3) (.t 27))⟩]
def a6M : List AIns := [opI 29 (.fldp (.t 2) 1),
  opI 30 (.load none (.t 29)),
  opI 31 (.fldp (.t 3) 1),
  opI 32 (.load none (.t 31)),
  ⟨some 33, none, .call b1Q [(.t 30), (.t 32)]⟩,
  mvI 28 33,
  opI 34 (.ext (.t 28) 0),
  opI 35 (.ext (.t 28) 1),
  mvI 5 34,
  mvI 6 35]
def a6L : List AIns := [opI 36 (.fldp (.t 2) 0),
  opI 37 (.load none (.t 36)),
  mvI 38 5,
  ⟨some 39, none, .call a0q [(.t 37), (.t 38)]⟩,
  ⟨none, none, .e (.store 2 (.t 4) (.t 39))⟩]
def c2s : ACode := .seq (rgI a4i) (.seq (.seq (rgI a4h) (.cond (.t 11) (.seq (.region b3i true) (.ret)) (.skip))) (.seq (.seq (rgI a6N) (.cond (.t 25) (rgI b3h) (.skip))) (.seq (rgI a6M) (.seq (rgI a6L) (.ret)))))
theorem a6O : fchk Pr (fun _ k => (k == 7)) Try.f40 = some (c2s, [.cell 4 (some 2)], 40) := by kernel_rfl
theorem a6P : Pr.funcs[a1j]? = some Try.f40 := Try.func40
end Go.Abs

/- Part 5 of the proof of BookNil: Code0, Code1, Code2, Code3. -/
import Derived.Test.YtclecbomkhgflaaGreatDoorBookNilK4
set_option maxRecDepth 100000
noncomputable section
namespace Go.Abs
abbrev mvI (d s : Nat) : AIns := ⟨some d, none, .p (.mv (.t s))⟩
abbrev opI (d : Nat) (o : POp) : AIns := ⟨some d, none, .p o⟩
abbrev rgI (l : List AIns) : ACode := .region l false
open Go.Proofs
def b1T : List AIns := [⟨some 5, none, .e (.box 2 (.t 2))⟩,
 opI 6 (.mv (.c (.bool false)))]
def b1S : List AIns := [⟨some 12, none, .call b1G []⟩,
 opI 13 (.un .not (.t 12))]
def c0H : List AIns := [opI 6 (.mv (.c (.bool false)))]
def b1R : List AIns := [opI 14 (.bld [.lit (.map none)] []),
 ⟨some 15, none, .e (.box 1 (.t 14))⟩,
 ⟨some 16, none, .e (.bslm 1 [(.c (.lit (.pointer none))), (.t 15)])⟩,
 mvI 7 16]
def b1Q : List AIns := [mvI 17 7,
 opI 18 (.len (.t 17)),
 opI 19 (.mv (.c (.int .i64 0)))]
def a3I : List AIns := [opI 20 (.bin .lss (.t 19) (.t 18))]
def a6M : List AIns := [opI 21 (.idxp 1 (.t 17) (.t 19)),
 opI 22 (.load none (.t 21)),
 mvI 9 22]
def a6L : List AIns := [mvI 24 9,
 mvI 25 0,
 ⟨some 26, none, .gcall a8M [(.t 24), (.t 25)]⟩,
 mvI 23 26,
 opI 27 (.ext (.t 23) 0),
 opI 28 (.ext (.t 23) 1),
 mvI 10 27,
 mvI 11 28]
def a6K : List AIns := [mvI 29 10,
 opI 30 (.len (.t 29)),
 opI 31 (.bin .neq (.t 30) (.c (.int .i64 0))),
 mvI 32 31,
 ⟨some 33, some (32, false), .p (.mv (.t 11))⟩,
 ⟨some 34, some (32, false), .p (.bin .neq (.t 33) (.c (.int .i64 7)))⟩,
 opI 35 (.pick (.t 32) (.c (.bool true)) (.t 34)),
 mvI 36 35,
 ⟨some 37, some (36, false), .p (.mv (.t 9))⟩,
 ⟨some 38, some (36, false), .call a2h [(.t 37)]⟩,
 ⟨some 39, some (36, false), .p (.len (.t 38))⟩,
 ⟨some 40, some (36, false), .p (.bin .neq (.t 39) (.c (.int .i64 0)))⟩,
 opI 41 (.pick (.t 36) (.c (.bool true)) (.t 40)),
 mvI 42 41,
 ⟨some 43, some (42, false), .p (.mv (.t 9))⟩,
 ⟨some 44, some (42, false), .call a1O [(.t 43)]⟩,
 ⟨some 45, some (42, false), .p (.bin .neq (.t 44) (.c (.str ⟨#[]⟩)))⟩,
 opI 46 (.pick (.t 42) (.c (.bool true)) (.t 45))]
def b1P : List AIns := [opI 6 (.mv (.c (.bool false)))]
def a5H : List AIns := [mvI 47 9,
 mvI 48 0,
 ⟨some 49, none, .gcall a8O [(.t 47), (.t 48), (.c (.nil))]⟩,
 opI 50 (.bin .neq (.t 49) (.c (.int .i64 7))),
 mvI 51 50,
 ⟨some 52, some (51, false), .p (.mv (.t 9))⟩,
 ⟨some 53, some (51, false), .p (.mv (.t 0))⟩,
 ⟨some 54, some (51, false), .call a6X [(.t 52), (.t 53)]⟩,
 ⟨some 55, some (51, false), .p (.bin .neq (.t 54) (.c (.int .i64 7)))⟩,
 opI 56 (.pick (.t 51) (.c (.bool true)) (.t 55)),
 mvI 57 56,
 ⟨some 58, some (57, false), .p (.mv (.t 9))⟩,
 ⟨some 59, some (57, false), .p (.mv (.t 0))⟩,
 ⟨some 60, some (57, false), .p (.mv (.t 0))⟩,
 ⟨some 61, some (57, false), .call a4C [(.t 58), (.t 59), (.t 60)]⟩,
 ⟨some 62, some (57, false), .p (.bin .neq (.t 61) (.c (.int .i64 7)))⟩,
 opI 63 (.pick (.t 57) (.c (.bool true)) (.t 62)),
 mvI 64 63,
 ⟨some 65, some (64, false), .p (.mv (.t 9))⟩,
 ⟨some 66, some (64, false), .p (.mv (.t 0))⟩,
 ⟨some 67, some (64, false), .p (.mv (.t 1))⟩,
 ⟨some 68, some (64, false), .call a8K [(.t 65), (.t 66), (.t 67), (.c (.nil))]⟩,
 ⟨some 69, some (64, false), .p (.bin .neq (.t 68) (.c (.int .i64 7)))⟩,
 opI 70 (.pick (.t 64) (.c (.bool true)) (.t 69)),
 mvI 71 70,
 ⟨some 72, some (71, false), .p (.mv (.t 9))⟩,
 ⟨some 73, some (71, false), .p (.mv (.t 0))⟩,
 ⟨some 74, some (71, false), .p (.mv (.t 1))⟩,
 ⟨some 75, some (71, false), .call a8N [(.t 72), (.t 73), (.t 74)]⟩,
 ⟨some 76, some (71, false), .p (.bin .neq (.t 75) (.c (.int .i64 7)))⟩,
 opI 77 (.pick (.t 71) (.c (.bool true)) (.t 76)),
 mvI 78 77,
 ⟨some 79, some (78, false), .p (.mv (.t 9))⟩,
 ⟨some 80, some (78, false), .p (.mv (.t 0))⟩,
 ⟨some 81, some (78, false), .p (.mv (.t 1))⟩,
 ⟨some 82, some (78, false), .p (.mv (.t 1))⟩,
 ⟨some 83, some (78, false), .p (.load (some 2) (.t 5))⟩,
 ⟨some 84, some (78, false), .call a8L [(.t 79), (.t 80), (.t 81), (.t 82), (.t 83)]⟩,
 ⟨some 85, some (78, false), .p (.bin .neq (.t 84) (.c (.int .i64 7)))⟩,
 opI 86 (.pick (.t 78) (.c (.bool true)) (.t 85))]
def b0k : List AIns := [opI 6 (.mv (.c (.bool false)))]
def a5G : List AIns := [opI 87 (.bin .add (.t 19) (.c (.int .i64 1))),
 mvI 19 87]
def a2v : ACode := .seq (rgI a3I) (.seq (.cond (.t 20) (.skip) (.exit 0)) (.seq (.block 1 (.seq (rgI a6M) (.seq (rgI a6L) (.seq (.seq (rgI a6K) (.cond (.t 46) (.seq (rgI b1P) (.ret)) (.skip))) (.seq (rgI a5H) (.cond (.t 86) (.seq (rgI b0k) (.ret)) (.skip))))))) (rgI a5G)))
def a1C : List AIns := [opI 6 (.mv (.c (.bool true)))]
def c4n : ACode := .seq (rgI b1T) (.seq (.seq (rgI b1S) (.cond (.t 13) (.seq (rgI c0H) (.ret)) (.skip))) (.seq (rgI b1R) (.seq (.seq (rgI b1Q) (.block 0 (.loop a2v))) (.seq (rgI a1C) (.ret)))))
theorem c0I : fchk Pr (fun _ k => (k == 2)) Tryz.f7 = some (c4n, [.tmp 6], 88) := by kernel_rfl
theorem c0J : Pr.funcs[a2g]? = some Tryz.f7 := Tryz.func7
def c0v : List AIns := [opI 2 (.mv (.c (.lit (.pointer none)))),
 opI 3 (.mv (.c (.int .i64 0))),
 opI 4 (.mv (.c (.int .i64 0)))]
def b3S : List AIns := [mvI 14 0,
 opI 15 (.lens (.t 14)),
 opI 16 (.bin .gtr (.t 15) (.c (.int .i64 262144)))]
def c0u : List AIns := [opI 2 (.mv (.c (.lit (.pointer none)))),
 opI 3 (.mv (.c (.int .i64 0))),
 opI 4 (.mv (.c (.int .i64 2)))]
def c0t : List AIns := [⟨some 17, none, .call b8X []⟩,
 ⟨some 18, none, .p (.bld [.lit (.pointer none), .lit .nilFunc, .str ⟨#[]⟩, .nil] [(0, 1, (.t 17))])⟩,
 ⟨some 19, none, .e (.box 4 (.t 18))⟩,
 mvI 5 19]
def c0s : List AIns := [mvI 20 5,
 mvI 21 5,
 opI 22 (.mkbf a0R [(.t 21)]),
 opI 23 (.fldp (.t 20) 0),
 opI 24 (.fldp (.t 23) 1),
 ⟨none, none, .e (.store 1 (.t 24) (.t 22))⟩]
def c0r : List AIns := [opI 6 (.mv (.c (.int .i64 0)))]
def c0q : List AIns := [mvI 25 0,
 mvI 7 25]
def b3R : List AIns := [mvI 26 7,
 ⟨some 27, none, .p (.bin .neq (.t 26) (.c (.str ⟨#[]⟩)))⟩]
def c0p : List AIns := [mvI 29 7,
 ⟨some 30, none, .call b1D [(.t 29), (.c (.str ⟨#[10]⟩))]⟩,
 mvI 28 30,
 opI 31 (.ext (.t 28) 0),
 opI 32 (.ext (.t 28) 1),
 opI 33 (.ext (.t 28) 2),
 mvI 8 31,
 mvI 9 32,
 mvI 10 33]
def c0o : List AIns := [mvI 34 9,
 mvI 7 34]
def b7t : List AIns := [mvI 35 6,
 opI 36 (.bin .add (.t 35) (.c (.int .i64 1))),
 mvI 6 36]
def a7P : List AIns := [mvI 37 8,
 ⟨some 38, none, .p (.bin .eql (.t 37) (.c (.str ⟨#[]⟩)))⟩,
 mvI 39 38,
 ⟨some 40, some (39, false), .p (.mv (.t 8))⟩,
 ⟨some 41, some (39, false), .p (.idxs (.t 40) (.c (.int .i64 0)))⟩,
 ⟨some 42, some (39, false), .p (.bin .eql (.t 41) (.c (.int .u8 35)))⟩,
 opI 43 (.pick (.t 39) (.c (.bool true)) (.t 42))]
def c8u : List AIns := [mvI 44 5,
 opI 45 (.fldp (.t 44) 0),
 opI 46 (.fldp (.t 45) 1),
 opI 47 (.load none (.t 46)),
 mvI 48 8,
 ⟨some 49, none, .callv (.t 47) [(.t 48)]⟩,
 mvI 11 49]
def a7O : List AIns := [mvI 50 11,
 opI 51 (.bin .neq (.t 50) (.c (.int .i64 0)))]
def b1B : List AIns := [mvI 52 6,
 mvI 53 11,
 opI 2 (.mv (.c (.lit (.pointer none)))),
 mvI 3 52,
 mvI 4 53]
def a6H : ACode := .seq (.seq (rgI b3R) (.cond (.t 27) (.skip) (.exit 0))) (.block 1 (.seq (rgI c0p) (.seq (rgI c0o) (.seq (rgI b7t) (.seq (.seq (rgI a7P) (.cond (.t 43) (.exit 1) (.skip))) (.seq (rgI c8u) (.seq (rgI a7O) (.cond (.t 51) (.seq (rgI b1B) (.ret)) (.skip)))))))))
def a3k : List AIns := [mvI 54 5,
 opI 55 (.fldp (.t 54) 0),
 opI 56 (.fldp (.t 55) 2),
 opI 57 (.load none (.t 56)),
 ⟨some 58, none, .p (.bin .neq (.t 57) (.c (.str ⟨#[]⟩)))⟩]
def a7N : List AIns := [mvI 60 5,
 opI 61 (.fldp (.t 60) 0),
 opI 62 (.fldp (.t 61) 0),
 opI 63 (.load none (.t 62)),
 opI 64 (.fldp (.t 63) 0),
 opI 65 (.fldp (.t 64) 0),
 opI 66 (.load none (.t 65)),
 mvI 67 5,
 opI 68 (.fldp (.t 67) 0),
 opI 69 (.fldp (.t 68) 2),
 opI 70 (.load none (.t 69)),
 opI 71 (.smap 0 (.t 66) (.t 70)),
 mvI 59 71,
 opI 72 (.ext (.t 59) 0),
 opI 73 (.ext (.t 59) 1),
 mvI 12 72,
 mvI 13 73]
def a7M : List AIns := [mvI 74 13,
 opI 75 (.un .not (.t 74))]
def b1A : List AIns := [mvI 76 6,
 opI 77 (.bin .add (.t 76) (.c (.int .i64 1))),
 opI 2 (.mv (.c (.lit (.pointer none)))),
 mvI 3 77,
 opI 4 (.mv (.c (.int .i64 4)))]
def a7L : List AIns := [mvI 78 5,
 opI 79 (.fldp (.t 78) 0),
 opI 80 (.fldp (.t 79) 0),
 opI 81 (.load none (.t 80)),
 mvI 2 81,
 opI 3 (.mv (.c (.int .i64 0))),
 opI 4 (.mv (.c (.int .i64 0)))]
def d2l : ACode := .seq (rgI c0v) (.seq (.seq (rgI b3S) (.cond (.t 16) (.seq (rgI c0u) (.ret)) (.skip))) (.seq (rgI c0t) (.seq (rgI c0s) (.seq (rgI c0r) (.seq (.seq (rgI c0q) (.block 0 (.loop a6H))) (.seq (.seq (rgI a3k) (.cond (.t 58) (.seq (.region a7N true) (.seq (rgI a7M) (.cond (.t 75) (.seq (rgI b1A) (.ret)) (.skip)))) (.skip))) (.seq (rgI a7L) (.ret))))))))
theorem d0r : fchk Pr (fun _ _ => false) Tryz.f8 = some (d2l, [.tmp 2, .tmp 3, .tmp 4], 82) := by kernel_rfl
theorem d0s : Pr.funcs[b1H]? = some Tryz.f8 := Tryz.func8
def b4F : List AIns := [opI 0 (.mv (.c (.bool false)))]
def b4E : List AIns := [⟨some 5, none, .call b1H [(.c (.str ⟨#[108, 97, 116, 116, 105, 99, 101, 32, 122, 10, 32, 49, 32, 48, 10, 32, 48, 32, 49, 10, 101, 110, 100, 10]⟩))]⟩,
 mvI 4 5,
 opI 6 (.ext (.t 4) 0),
 opI 7 (.ext (.t 4) 1),
 opI 8 (.ext (.t 4) 2),
 mvI 1 6,
 mvI 2 7,
 mvI 3 8]
def b4D : List AIns := [mvI 9 1,
 opI 10 (.isn true true (.t 9)),
 mvI 11 10,
 ⟨some 12, some (11, true), .p (.mv (.t 2))⟩,
 ⟨some 13, some (11, true), .p (.bin .eql (.t 12) (.c (.int .i64 0)))⟩,
 opI 14 (.pick (.t 11) (.t 13) (.c (.bool false))),
 mvI 15 14,
 ⟨some 16, some (15, true), .p (.mv (.t 3))⟩,
 ⟨some 17, some (15, true), .p (.bin .eql (.t 16) (.c (.int .i64 0)))⟩,
 opI 18 (.pick (.t 15) (.t 17) (.c (.bool false))),
 mvI 19 18,
 ⟨some 20, some (19, true), .p (.mv (.t 1))⟩,
 ⟨some 21, some (19, true), .call a1O [(.t 20)]⟩,
 ⟨some 22, some (19, true), .p (.bin .eql (.t 21) (.c (.str ⟨#[108, 97, 116, 116, 105, 99, 101, 32, 122, 10, 32, 49, 32, 48, 10, 32, 48, 32, 49, 10, 101, 110, 100, 10]⟩)))⟩,
 opI 23 (.pick (.t 19) (.t 22) (.c (.bool false))),
 mvI 0 23]
def c7V : ACode := .seq (rgI b4F) (.seq (rgI b4E) (.seq (rgI b4D) (.ret)))
theorem c5p : fchk Pr (fun _ _ => false) Tryz.f10 = some (c7V, [.tmp 0], 24) := by kernel_rfl
theorem c5q : Pr.funcs[b1G]? = some Tryz.f10 := Tryz.func10
def a4z : List AIns := [opI 2 (.mv (.c (.nil)))]
def a4y : List AIns := [mvI 5 0,
 ⟨some 6, none, .call a1N [(.t 5)]⟩]
def a9K : List AIns := [opI 2 (.mv (.c (.nil)))]
def a9J : List AIns := [opI 3 (.mv (.c (.nil)))]
def a9I : List AIns := [mvI 7 0,
 opI 8 (.fldp (.t 7) 0),
 opI 9 (.fldp (.t 8) 0),
 opI 10 (.load none (.t 9)),
 ⟨some 11, none, .e (.smut 3 (.t 10) (.c (.nil)) (.c (.nil)))⟩]
def a9H : List AIns := [⟨some 12, none, .nxt (.t 11)⟩,
 opI 13 (.ext (.t 12) 0)]
def a9G : List AIns := [opI 14 (.ment (.t 11)),
 opI 15 (.ext (.t 14) 0),
 mvI 4 15]
def a9F : List AIns := [mvI 16 3,
 mvI 17 4,
 ⟨some 18, none, .e (.bsl 1 [(.t 17)])⟩,
 ⟨some 19, none, .e (.app 1 16 false (.t 16) (.t 18))⟩,
 mvI 3 19]
def b7v : ACode := .seq (rgI a9H) (.seq (.cond (.t 13) (.skip) (.exit 0)) (.block 1 (.seq (rgI a9G) (rgI a9F))))
def a4x : List AIns := [mvI 20 3,
 ⟨some 21, none, .call a1d [(.t 20)]⟩]
def a4w : List AIns := [mvI 22 3,
 mvI 2 22]
def b8M : ACode := .seq (rgI a4z) (.seq (.seq (rgI a4y) (.cond (.t 6) (.seq (rgI a9K) (.ret)) (.skip))) (.seq (rgI a9J) (.seq (.seq (rgI a9I) (.block 0 (.loop b7v))) (.seq (rgI a4x) (.seq (rgI a4w) (.ret))))))
theorem a9L : fchk Pr (fun _ _ => false) Tryz.f12 = some (b8M, [.tmp 2], 23) := by kernel_rfl
theorem a9M : Pr.funcs[a2h]? = some Tryz.f12 := Tryz.func12
def c4Q : List AIns := [opI 0 (.mv (.c (.lit (.pointer none))))]
def c4P : List AIns := [⟨some 1, none, .e (.smut 0 (.c (.nil)) (.c (.nil)) (.c (.nil)))⟩,
 opI 2 (.bld [.lit (.map none)] [(0, 1, (.t 1))]),
 ⟨some 3, none, .e (.box 1 (.t 2))⟩,
 mvI 0 3]
def d5E : ACode := .seq (rgI c4Q) (.seq (rgI c4P) (.ret))
theorem d2m : fchk Pr (fun _ _ => false) Tryz.f15 = some (d5E, [.tmp 0], 4) := by kernel_rfl
theorem d2n : Pr.funcs[b8X]? = some Tryz.f15 := Tryz.func15
def b2r : List AIns := [opI 6 (.mv (.c (.int .i64 0)))]
def b2q : List AIns := [mvI 8 0,
 ⟨some 9, none, .call a1N [(.t 8)]⟩]
def b2p : List AIns := [opI 6 (.mv (.c (.int .i64 7)))]
def c1o : List AIns := [mvI 10 0,
 mvI 11 1,
 ⟨some 12, none, .call a3J [(.t 10), (.t 11)]⟩,
 mvI 7 12]
def c1n : List AIns := [mvI 13 7,
 opI 14 (.bin .neq (.t 13) (.c (.int .i64 0)))]
def c1m : List AIns := [mvI 15 7,
 mvI 6 15]
def c1l : List AIns := [mvI 16 0,
 mvI 17 1,
 mvI 18 2,
 ⟨some 19, none, .call a1o [(.t 16), (.t 17), (.t 18)]⟩,
 mvI 6 19]
def c4W : ACode := .seq (rgI b2r) (.seq (.seq (rgI b2q) (.cond (.t 9) (.seq (rgI b2p) (.ret)) (.skip))) (.seq (.seq (rgI c1o) (.seq (rgI c1n) (.cond (.t 14) (.seq (rgI c1m) (.ret)) (.skip)))) (.seq (rgI c1l) (.ret))))
theorem c1p : fchk Pr (fun _ _ => false) Tryz.f16 = some (c4W, [.tmp 6], 20) := by kernel_rfl
theorem c1q : Pr.funcs[a8O]? = some Tryz.f16 := Tryz.func16
def b2g : List AIns := [⟨some 9, none, .e (.box 2 (.t 4))⟩,
 opI 10 (.mv (.c (.int .i64 0)))]
def b2f : List AIns := [mvI 15 0,
 mvI 16 1,
 ⟨some 17, none, .call a1g [(.t 15), (.t 16)]⟩,
 mvI 14 17,
 opI 18 (.ext (.t 14) 0),
 opI 19 (.ext (.t 14) 1),
 mvI 11 18,
 mvI 12 19]
def b2e : List AIns := [mvI 20 12,
 opI 21 (.bin .neq (.t 20) (.c (.int .i64 0)))]
def b2d : List AIns := [mvI 22 12,
 mvI 10 22]
def c0Z : List AIns := [mvI 23 2,
 opI 24 (.bin .lss (.t 23) (.c (.int .i64 0))),
 mvI 25 24,
 ⟨some 26, some (25, false), .p (.mv (.t 2))⟩,
 ⟨some 27, some (25, false), .p (.mv (.t 11))⟩,
 ⟨some 28, some (25, false), .p (.len (.t 27))⟩,
 ⟨some 29, some (25, false), .p (.bin .geq (.t 26) (.t 28))⟩,
 opI 30 (.pick (.t 25) (.c (.bool true)) (.t 29)),
 mvI 31 30,
 ⟨some 32, some (31, false), .p (.mv (.t 3))⟩,
 ⟨some 33, some (31, false), .p (.bin .lss (.t 32) (.c (.int .i64 0)))⟩,
 opI 34 (.pick (.t 31) (.c (.bool true)) (.t 33)),
 mvI 35 34,
 ⟨some 36, some (35, false), .p (.mv (.t 3))⟩,
 ⟨some 37, some (35, false), .p (.mv (.t 11))⟩,
 ⟨some 38, some (35, false), .p (.len (.t 37))⟩,
 ⟨some 39, some (35, false), .p (.bin .geq (.t 36) (.t 38))⟩,
 opI 40 (.pick (.t 35) (.c (.bool true)) (.t 39)),
 mvI 41 40,
 ⟨some 42, some (41, false), .p (.mv (.t 2))⟩,
 ⟨some 43, some (41, false), .p (.mv (.t 3))⟩,
 ⟨some 44, some (41, false), .p (.bin .eql (.t 42) (.t 43))⟩,
 opI 45 (.pick (.t 41) (.c (.bool true)) (.t 44))]
def c0Y : List AIns := [opI 10 (.mv (.c (.int .i64 1)))]
def c0X : List AIns := [mvI 46 11,
 ⟨some 47, none, .call a4B [(.t 46)]⟩,
 mvI 13 47]
def c0W : List AIns := [mvI 49 13,
 mvI 50 2,
 mvI 51 13,
 mvI 52 2,
 opI 53 (.idxp 1 (.t 51) (.t 52)),
 opI 54 (.load none (.t 53)),
 opI 55 (.load (some 2) (.t 9)),
 mvI 56 13,
 mvI 57 3,
 opI 58 (.idxp 1 (.t 56) (.t 57)),
 opI 59 (.load none (.t 58)),
 ⟨some 60, none, .call d2v [(.t 55), (.t 59)]⟩,
 ⟨some 61, none, .call d5I [(.t 54), (.t 60)]⟩,
 mvI 48 61,
 opI 62 (.ext (.t 48) 0),
 opI 63 (.ext (.t 48) 1),
 opI 64 (.idxp 1 (.t 49) (.t 50)),
 ⟨none, none, .e (.store 1 (.t 64) (.t 62))⟩]
def c0V : List AIns := [mvI 65 0,
 mvI 66 1,
 mvI 67 13,
 ⟨some 68, none, .call a1o [(.t 65), (.t 66), (.t 67)]⟩,
 mvI 10 68]
def c4T : ACode := .seq (rgI b2g) (.seq (rgI b2f) (.seq (.seq (rgI b2e) (.cond (.t 21) (.seq (rgI b2d) (.ret)) (.skip))) (.seq (.seq (rgI c0Z) (.cond (.t 45) (.seq (rgI c0Y) (.ret)) (.skip))) (.seq (rgI c0X) (.seq (.region c0W true) (.seq (rgI c0V) (.ret)))))))
theorem c1a : fchk Pr (fun _ _ => false) Tryz.f17 = some (c4T, [.tmp 10], 69) := by kernel_rfl
theorem c1b : Pr.funcs[a8L]? = some Tryz.f17 := Tryz.func17
def b2k : List AIns := [opI 4 (.mv (.c (.nil))),
 opI 5 (.mv (.c (.int .i64 0)))]
def b2j : List AIns := [mvI 9 0,
 mvI 10 1,
 ⟨some 11, none, .call a1g [(.t 9), (.t 10)]⟩,
 mvI 8 11,
 opI 12 (.ext (.t 8) 0),
 opI 13 (.ext (.t 8) 1),
 mvI 6 12,
 mvI 7 13]
def b2i : List AIns := [mvI 14 7,
 opI 15 (.bin .neq (.t 14) (.c (.int .i64 0)))]
def b2h : List AIns := [mvI 16 7,
 opI 4 (.mv (.c (.nil))),
 mvI 5 16]
def c1c : List AIns := [mvI 17 6,
 ⟨some 18, none, .call b4k [(.t 17)]⟩,
 mvI 4 18,
 opI 5 (.mv (.c (.int .i64 0)))]
def c4U : ACode := .seq (rgI b2k) (.seq (rgI b2j) (.seq (.seq (rgI b2i) (.cond (.t 15) (.seq (rgI b2h) (.ret)) (.skip))) (.seq (rgI c1c) (.ret))))
theorem c1d : fchk Pr (fun _ _ => false) Tryz.f20 = some (c4U, [.tmp 4, .tmp 5], 19) := by kernel_rfl
theorem c1e : Pr.funcs[a8M]? = some Tryz.f20 := Tryz.func20
def b0A : List AIns := [opI 4 (.mv (.c (.int .i64 0)))]
def b0z : List AIns := [mvI 8 0,
 mvI 9 1,
 ⟨some 10, none, .call a1g [(.t 8), (.t 9)]⟩,
 mvI 7 10,
 opI 11 (.ext (.t 7) 0),
 opI 12 (.ext (.t 7) 1),
 mvI 5 11,
 mvI 6 12]
def b0y : List AIns := [mvI 13 6,
 opI 14 (.bin .neq (.t 13) (.c (.int .i64 0)))]
def b0x : List AIns := [mvI 15 6,
 mvI 4 15]
def b8O : List AIns := [mvI 16 0,
 opI 17 (.fldp (.t 16) 0),
 opI 18 (.fldp (.t 17) 0),
 opI 19 (.load none (.t 18)),
 mvI 20 1,
 ⟨none, none, .e (.smut 2 (.t 19) (.t 20) (.c (.nil)))⟩]
def b8N : List AIns := [opI 4 (.mv (.c (.int .i64 0)))]
def c1f : ACode := .seq (rgI b0A) (.seq (.seq (rgI b0z) (.seq (rgI b0y) (.cond (.t 14) (.seq (rgI b0x) (.ret)) (.skip)))) (.seq (rgI b8O) (.seq (rgI b8N) (.ret))))
theorem b8P : fchk Pr (fun _ _ => false) Tryz.f21 = some (c1f, [.tmp 4], 21) := by kernel_rfl
theorem b8Q : Pr.funcs[a6X]? = some Tryz.f21 := Tryz.func21
def a8A : List AIns := [opI 6 (.mv (.c (.int .i64 0)))]
def a8z : List AIns := [mvI 12 0,
 mvI 13 1,
 ⟨some 14, none, .call a1g [(.t 12), (.t 13)]⟩,
 mvI 11 14,
 opI 15 (.ext (.t 11) 0),
 opI 16 (.ext (.t 11) 1),
 mvI 7 15,
 mvI 8 16]
def a8y : List AIns := [mvI 17 8,
 opI 18 (.bin .neq (.t 17) (.c (.int .i64 0)))]
def a8x : List AIns := [mvI 19 8,
 mvI 6 19]
def b5O : List AIns := [mvI 20 2,
 ⟨some 21, none, .call a9R [(.t 20)]⟩,
 opI 22 (.un .not (.t 21))]
def b5N : List AIns := [opI 6 (.mv (.c (.int .i64 270)))]
def b5M : List AIns := [mvI 24 0,
 opI 25 (.fldp (.t 24) 0),
 opI 26 (.fldp (.t 25) 0),
 opI 27 (.load none (.t 26)),
 mvI 28 2,
 opI 29 (.smap 0 (.t 27) (.t 28)),
 mvI 23 29,
 opI 30 (.ext (.t 23) 0),
 opI 31 (.ext (.t 23) 1),
 mvI 9 30,
 mvI 10 31]
def b5L : List AIns := [mvI 32 10]
def b5K : List AIns := [opI 6 (.mv (.c (.int .i64 271)))]
def b5J : List AIns := [mvI 33 0,
 opI 34 (.fldp (.t 33) 0),
 opI 35 (.fldp (.t 34) 0),
 opI 36 (.load none (.t 35)),
 mvI 37 1,
 ⟨none, none, .e (.smut 2 (.t 36) (.t 37) (.c (.nil)))⟩]
def b4u : List AIns := [mvI 38 0,
 opI 39 (.fldp (.t 38) 0),
 opI 40 (.fldp (.t 39) 0),
 opI 41 (.load none (.t 40)),
 mvI 42 2,
 mvI 43 7,
 ⟨none, none, .e (.smut 1 (.t 41) (.t 42) (.t 43))⟩]
def b4t : List AIns := [opI 6 (.mv (.c (.int .i64 0)))]
def b7u : ACode := .seq (rgI a8A) (.seq (rgI a8z) (.seq (.seq (rgI a8y) (.cond (.t 18) (.seq (rgI a8x) (.ret)) (.skip))) (.seq (.seq (rgI b5O) (.cond (.t 22) (.seq (rgI b5N) (.ret)) (.skip))) (.seq (.seq (rgI b5M) (.seq (rgI b5L) (.cond (.t 32) (.seq (rgI b5K) (.ret)) (.skip)))) (.seq (rgI b5J) (.seq (rgI b4u) (.seq (rgI b4t) (.ret))))))))
theorem b5P : fchk Pr (fun _ _ => false) Tryz.f22 = some (b7u, [.tmp 6], 44) := by kernel_rfl
theorem b5Q : Pr.funcs[a4C]? = some Tryz.f22 := Tryz.func22
def b2c : List AIns := [opI 8 (.mv (.c (.int .i64 0)))]
def b2b : List AIns := [mvI 12 0,
 mvI 13 1,
 ⟨some 14, none, .call a1g [(.t 12), (.t 13)]⟩,
 mvI 11 14,
 opI 15 (.ext (.t 11) 0),
 opI 16 (.ext (.t 11) 1),
 mvI 9 15,
 mvI 10 16]
def b2a : List AIns := [mvI 17 10,
 opI 18 (.bin .neq (.t 17) (.c (.int .i64 0)))]
def b1Z : List AIns := [mvI 19 10,
 mvI 8 19]
def c0S : List AIns := [mvI 20 2,
 opI 21 (.bin .lss (.t 20) (.c (.int .i64 0))),
 mvI 22 21,
 ⟨some 23, some (22, false), .p (.mv (.t 2))⟩,
 ⟨some 24, some (22, false), .p (.mv (.t 9))⟩,
 ⟨some 25, some (22, false), .p (.len (.t 24))⟩,
 ⟨some 26, some (22, false), .p (.bin .gtr (.t 23) (.t 25))⟩,
 opI 27 (.pick (.t 22) (.c (.bool true)) (.t 26))]
def c0R : List AIns := [opI 8 (.mv (.c (.int .i64 1)))]
def c0Q : List AIns := [mvI 28 0,
 mvI 29 1,
 mvI 30 9,
 ⟨some 31, none, .call a4B [(.t 30)]⟩,
 mvI 32 2,
 mvI 33 3,
 ⟨some 34, none, .e (.bsl 1 [(.t 33)])⟩,
 ⟨some 35, none, .call b5U [(.t 31), (.t 32), (.t 34)]⟩,
 ⟨some 36, none, .call a1o [(.t 28), (.t 29), (.t 35)]⟩,
 mvI 8 36]
def c4S : ACode := .seq (rgI b2c) (.seq (rgI b2b) (.seq (.seq (rgI b2a) (.cond (.t 18) (.seq (rgI b1Z) (.ret)) (.skip))) (.seq (.seq (rgI c0S) (.cond (.t 27) (.seq (rgI c0R) (.ret)) (.skip))) (.seq (rgI c0Q) (.ret)))))
theorem c0T : fchk Pr (fun _ _ => false) Tryz.f23 = some (c4S, [.tmp 8], 37) := by kernel_rfl
theorem c0U : Pr.funcs[a8K]? = some Tryz.f23 := Tryz.func23
def b2o : List AIns := [opI 6 (.mv (.c (.int .i64 0)))]
def b2n : List AIns := [mvI 10 0,
 mvI 11 1,
 ⟨some 12, none, .call a1g [(.t 10), (.t 11)]⟩,
 mvI 9 12,
 opI 13 (.ext (.t 9) 0),
 opI 14 (.ext (.t 9) 1),
 mvI 7 13,
 mvI 8 14]
def b2m : List AIns := [mvI 15 8,
 opI 16 (.bin .neq (.t 15) (.c (.int .i64 0)))]
def b2l : List AIns := [mvI 17 8,
 mvI 6 17]
def c1i : List AIns := [mvI 18 2,
 opI 19 (.bin .lss (.t 18) (.c (.int .i64 0))),
 mvI 20 19,
 ⟨some 21, some (20, false), .p (.mv (.t 2))⟩,
 ⟨some 22, some (20, false), .p (.mv (.t 7))⟩,
 ⟨some 23, some (20, false), .p (.len (.t 22))⟩,
 ⟨some 24, some (20, false), .p (.bin .geq (.t 21) (.t 23))⟩,
 opI 25 (.pick (.t 20) (.c (.bool true)) (.t 24))]
def c1h : List AIns := [opI 6 (.mv (.c (.int .i64 1)))]
def c1g : List AIns := [mvI 26 0,
 mvI 27 1,
 mvI 28 7,
 ⟨some 29, none, .call a4B [(.t 28)]⟩,
 mvI 30 2,
 mvI 31 2,
 opI 32 (.bin .add (.t 31) (.c (.int .i64 1))),
 ⟨some 33, none, .call b5V [(.t 29), (.t 30), (.t 32)]⟩,
 ⟨some 34, none, .call a1o [(.t 26), (.t 27), (.t 33)]⟩,
 mvI 6 34]
def c4V : ACode := .seq (rgI b2o) (.seq (rgI b2n) (.seq (.seq (rgI b2m) (.cond (.t 16) (.seq (rgI b2l) (.ret)) (.skip))) (.seq (.seq (rgI c1i) (.cond (.t 25) (.seq (rgI c1h) (.ret)) (.skip))) (.seq (rgI c1g) (.ret)))))
theorem c1j : fchk Pr (fun _ _ => false) Tryz.f24 = some (c4V, [.tmp 6], 35) := by kernel_rfl
theorem c1k : Pr.funcs[a8N]? = some Tryz.f24 := Tryz.func24
def a5i : List AIns := [opI 4 (.mv (.c (.int .i64 0)))]
def a5h : List AIns := [mvI 9 1,
 ⟨some 10, none, .call a2s [(.t 9), (.c (.str ⟨#[108, 97, 116, 116, 105, 99, 101, 32]⟩))]⟩,
 mvI 8 10,
 opI 11 (.ext (.t 8) 0),
 opI 12 (.ext (.t 8) 1),
 mvI 5 11,
 mvI 6 12]
def a2B : List AIns := [mvI 13 6,
 opI 14 (.un .not (.t 13))]
def a5g : List AIns := [opI 4 (.mv (.c (.int .i64 4)))]
def a5f : List AIns := [mvI 15 0,
 opI 16 (.fldp (.t 15) 0),
 opI 17 (.fldp (.t 16) 0),
 opI 18 (.load none (.t 17)),
 mvI 19 5,
 ⟨some 20, none, .call a3J [(.t 18), (.t 19)]⟩,
 mvI 7 20]
def a2A : List AIns := [mvI 21 7,
 opI 22 (.bin .neq (.t 21) (.c (.int .i64 0)))]
def a5e : List AIns := [mvI 23 7,
 mvI 4 23]
def a5d : List AIns := [mvI 24 0,
 mvI 25 0,
 mvI 26 5,
 opI 27 (.fldp (.t 24) 0),
 opI 28 (.fldp (.t 27) 2),
 ⟨none, none, .e (.store 1 (.t 28) (.t 26))⟩,
 opI 29 (.fldp (.t 25) 0),
 opI 30 (.fldp (.t 29) 3),
 ⟨none, none, .e (.store 1 (.t 30) (.c (.nil)))⟩]
def a5c : List AIns := [mvI 31 0,
 mvI 32 0,
 opI 33 (.mkbf a1f [(.t 32)]),
 opI 34 (.fldp (.t 31) 0),
 opI 35 (.fldp (.t 34) 1),
 ⟨none, none, .e (.store 1 (.t 35) (.t 33))⟩]
def a5b : List AIns := [opI 4 (.mv (.c (.int .i64 0)))]
def b3P : ACode := .seq (rgI a5i) (.seq (rgI a5h) (.seq (.seq (rgI a2B) (.cond (.t 14) (.seq (rgI a5g) (.ret)) (.skip))) (.seq (.seq (rgI a5f) (.seq (rgI a2A) (.cond (.t 22) (.seq (rgI a5e) (.ret)) (.skip)))) (.seq (rgI a5d) (.seq (rgI a5c) (.seq (rgI a5b) (.ret)))))))
theorem b2v : fchk Pr (fun _ _ => false) Tryz.f25 = some (b3P, [.tmp 4], 36) := by kernel_rfl
theorem b2w : Pr.funcs[a0R]? = some Tryz.f25 := Tryz.func25
def b4A : List AIns := [⟨some 4, none, .p (.mv (.c (.str ⟨#[]⟩)))⟩,
 ⟨some 5, none, .p (.mv (.c (.str ⟨#[]⟩)))⟩,
 opI 6 (.mv (.c (.bool false)))]
def b4z : List AIns := [mvI 7 0,
 mvI 8 1,
 ⟨some 9, none, .call a1M [(.t 7), (.t 8)]⟩,
 opI 10 (.ext (.t 9) 0),
 opI 11 (.ext (.t 9) 1),
 opI 12 (.ext (.t 9) 2),
 mvI 4 10,
 mvI 5 11,
 mvI 6 12]
def c7x : ACode := .seq (rgI b4A) (.seq (rgI b4z) (.ret))
theorem c5k : fchk Pr (fun _ _ => false) Tryz.f26 = some (c7x, [.tmp 4, .tmp 5, .tmp 6], 13) := by kernel_rfl
theorem c5l : Pr.funcs[b1D]? = some Tryz.f26 := Tryz.func26
def a3m : List AIns := [opI 2 (.mv (.c (.bool false)))]
def a3l : List AIns := [mvI 3 0,
 opI 4 (.isn true false (.t 3)),
 mvI 5 4,
 ⟨some 6, some (5, false), .p (.mv (.t 0))⟩,
 ⟨some 7, some (5, false), .p (.fldp (.t 6) 0)⟩,
 ⟨some 8, some (5, false), .p (.fldp (.t 7) 0)⟩,
 ⟨some 9, some (5, false), .p (.load none (.t 8))⟩,
 ⟨some 10, some (5, false), .p (.isn false false (.t 9))⟩,
 opI 11 (.pick (.t 5) (.c (.bool true)) (.t 10)),
 mvI 2 11]
def c0O : ACode := .seq (rgI a3m) (.seq (rgI a3l) (.ret))
theorem a5N : fchk Pr (fun _ _ => false) Tryz.f29 = some (c0O, [.tmp 2], 12) := by kernel_rfl
theorem a5O : Pr.funcs[a1N]? = some Tryz.f29 := Tryz.func29
def a2I : List AIns := [mvI 3 0,
 opI 4 (.len (.t 3)),
 mvI 2 4]
def a2H : List AIns := [mvI 5 0,
 mvI 6 2,
 mvI 7 2,
 opI 8 (.conv .u64 (.t 7)),
 ⟨some 9, none, .call a8J [(.t 8)]⟩,
 ⟨some 10, none, .call a0x [(.t 5), (.c (.int .i64 0)), (.t 6), (.t 9)]⟩]
def a8j : ACode := .seq (rgI a2I) (rgI a2H)
theorem a7v : fchk Pr (fun _ _ => false) Tryz.f30 = some (a8j, [], 11) := by kernel_rfl
theorem a7w : Pr.funcs[a1d]? = some Tryz.f30 := Tryz.func30
def b0j : List AIns := [⟨some 2, none, .p (.mv (.c (.str ⟨#[]⟩)))⟩]
def b0i : List AIns := [mvI 3 0,
 ⟨some 4, none, .call a3O [(.t 3), (.c (.fn b1C []))]⟩,
 ⟨some 5, none, .call a5X [(.t 4), (.c (.str ⟨#[32]⟩))]⟩,
 mvI 2 5]
def c0G : ACode := .seq (rgI b0j) (.seq (rgI b0i) (.ret))
theorem b8o : fchk Pr (fun _ _ => false) Tryz.f32 = some (c0G, [.tmp 2], 6) := by kernel_rfl
theorem b8p : Pr.funcs[a6W]? = some Tryz.f32 := Tryz.func32
def b0t : List AIns := [opI 4 (.mv (.c (.int .i64 0)))]
def b0s : List AIns := [mvI 7 1,
 ⟨some 8, none, .call a9R [(.t 7)]⟩,
 opI 9 (.un .not (.t 8))]
def b0r : List AIns := [opI 4 (.mv (.c (.int .i64 270)))]
def b0q : List AIns := [mvI 11 0,
 opI 12 (.fldp (.t 11) 0),
 opI 13 (.fldp (.t 12) 0),
 opI 14 (.load none (.t 13)),
 mvI 15 1,
 opI 16 (.smap 0 (.t 14) (.t 15)),
 mvI 10 16,
 opI 17 (.ext (.t 10) 0),
 opI 18 (.ext (.t 10) 1),
 mvI 5 17,
 mvI 6 18]
def a5M : List AIns := [mvI 19 6]
def b0p : List AIns := [opI 4 (.mv (.c (.int .i64 271)))]
def a5L : List AIns := [mvI 20 0,
 opI 21 (.fldp (.t 20) 0),
 opI 22 (.fldp (.t 21) 0),
 opI 23 (.load none (.t 22)),
 opI 24 (.smap 2 (.t 23) (.c (.nil))),
 opI 25 (.bin .geq (.t 24) (.c (.int .i64 64)))]
def b0o : List AIns := [opI 4 (.mv (.c (.int .i64 2)))]
def b0n : List AIns := [opI 4 (.mv (.c (.int .i64 0)))]
def c0L : ACode := .seq (rgI b0t) (.seq (.seq (rgI b0s) (.cond (.t 9) (.seq (rgI b0r) (.ret)) (.skip))) (.seq (.seq (rgI b0q) (.seq (rgI a5M) (.cond (.t 19) (.seq (rgI b0p) (.ret)) (.skip)))) (.seq (.seq (rgI a5L) (.cond (.t 25) (.seq (rgI b0o) (.ret)) (.skip))) (.seq (rgI b0n) (.ret)))))
theorem b8D : fchk Pr (fun _ _ => false) Tryz.f35 = some (c0L, [.tmp 4], 26) := by kernel_rfl
theorem b8E : Pr.funcs[a3J]? = some Tryz.f35 := Tryz.func35
def b1Y : List AIns := [opI 6 (.mv (.c (.int .i64 0)))]
def b1X : List AIns := [mvI 8 2,
 ⟨some 9, none, .call b5X [(.t 8)]⟩,
 mvI 7 9]
def a6T : List AIns := [mvI 10 7,
 opI 11 (.bin .neq (.t 10) (.c (.int .i64 0)))]
def b1W : List AIns := [mvI 12 7,
 mvI 6 12]
def b1V : List AIns := [mvI 13 0,
 opI 14 (.fldp (.t 13) 0),
 opI 15 (.fldp (.t 14) 0),
 opI 16 (.load none (.t 15)),
 mvI 17 1,
 mvI 18 2,
 ⟨some 19, none, .call b4k [(.t 18)]⟩,
 ⟨none, none, .e (.smut 1 (.t 16) (.t 17) (.t 19))⟩]
def b1U : List AIns := [opI 6 (.mv (.c (.int .i64 0)))]
def c4R : ACode := .seq (rgI b1Y) (.seq (.seq (rgI b1X) (.seq (rgI a6T) (.cond (.t 11) (.seq (rgI b1W) (.ret)) (.skip)))) (.seq (.region b1V true) (.seq (rgI b1U) (.ret))))
theorem c0M : fchk Pr (fun _ _ => false) Tryz.f36 = some (c4R, [.tmp 6], 20) := by kernel_rfl
theorem c0N : Pr.funcs[a1o]? = some Tryz.f36 := Tryz.func36
def b0w : List AIns := [opI 4 (.mv (.c (.nil))),
 opI 5 (.mv (.c (.int .i64 0)))]
def b0v : List AIns := [mvI 8 0,
 ⟨some 9, none, .call a1N [(.t 8)]⟩]
def b0u : List AIns := [opI 4 (.mv (.c (.nil))),
 opI 5 (.mv (.c (.int .i64 7)))]
def b8I : List AIns := [mvI 11 0,
 opI 12 (.fldp (.t 11) 0),
 opI 13 (.fldp (.t 12) 0),
 opI 14 (.load none (.t 13)),
 mvI 15 1,
 opI 16 (.smap 0 (.t 14) (.t 15)),
 mvI 10 16,
 opI 17 (.ext (.t 10) 0),
 opI 18 (.ext (.t 10) 1),
 mvI 6 17,
 mvI 7 18]
def b8H : List AIns := [mvI 19 7,
 opI 20 (.un .not (.t 19))]
def b8G : List AIns := [opI 4 (.mv (.c (.nil))),
 opI 5 (.mv (.c (.int .i64 6)))]
def b8F : List AIns := [mvI 21 6,
 mvI 4 21,
 opI 5 (.mv (.c (.int .i64 0)))]
def c0P : ACode := .seq (rgI b0w) (.seq (.seq (rgI b0v) (.cond (.t 9) (.seq (rgI b0u) (.ret)) (.skip))) (.seq (rgI b8I) (.seq (.seq (rgI b8H) (.cond (.t 20) (.seq (rgI b8G) (.ret)) (.skip))) (.seq (rgI b8F) (.ret)))))
theorem b8J : fchk Pr (fun _ _ => false) Tryz.f37 = some (c0P, [.tmp 4, .tmp 5], 22) := by kernel_rfl
theorem b8K : Pr.funcs[a1g]? = some Tryz.f37 := Tryz.func37
def c3X : List AIns := [opI 2 (.mv (.c (.nil)))]
def c3W : List AIns := [mvI 3 0,
 ⟨some 4, none, .call a9Z [(.t 3), (.c (.fn a9P []))]⟩,
 mvI 2 4]
def d5g : ACode := .seq (rgI c3X) (.seq (rgI c3W) (.ret))
theorem d1w : fchk Pr (fun _ _ => false) Tryz.f44 = some (d5g, [.tmp 2], 5) := by kernel_rfl
theorem d1x : Pr.funcs[b4k]? = some Tryz.f44 := Tryz.func44
def a3j : List AIns := [opI 2 (.mv (.c (.bool false)))]
def a3i : List AIns := [mvI 5 0,
 opI 6 (.lens (.t 5)),
 opI 7 (.bin .lss (.t 6) (.c (.int .i64 1))),
 mvI 8 7,
 ⟨some 9, some (8, false), .p (.mv (.t 0))⟩,
 ⟨some 10, some (8, false), .p (.lens (.t 9))⟩,
 ⟨some 11, some (8, false), .p (.bin .gtr (.t 10) (.c (.int .i64 32)))⟩,
 opI 12 (.pick (.t 8) (.c (.bool true)) (.t 11)),
 mvI 13 12,
 ⟨some 14, some (13, false), .p (.mv (.t 0))⟩,
 ⟨some 15, some (13, false), .p (.idxs (.t 14) (.c (.int .i64 0)))⟩,
 ⟨some 16, some (13, false), .p (.bin .lss (.t 15) (.c (.int .u8 97)))⟩,
 opI 17 (.pick (.t 13) (.c (.bool true)) (.t 16)),
 mvI 18 17,
 ⟨some 19, some (18, false), .p (.mv (.t 0))⟩,
 ⟨some 20, some (18, false), .p (.idxs (.t 19) (.c (.int .i64 0)))⟩,
 ⟨some 21, some (18, false), .p (.bin .gtr (.t 20) (.c (.int .u8 122)))⟩,
 opI 22 (.pick (.t 18) (.c (.bool true)) (.t 21))]
def a4n : List AIns := [opI 2 (.mv (.c (.bool false)))]
def b7s : List AIns := [mvI 23 0,
 opI 24 (.lens (.t 23)),
 opI 25 (.mv (.c (.int .i64 0)))]
def b1z : List AIns := [opI 26 (.bin .lss (.t 25) (.t 24))]
def b7r : List AIns := [mvI 27 25,
 mvI 3 27]
def b7q : List AIns := [mvI 28 0,
 mvI 29 3,
 opI 30 (.idxs (.t 28) (.t 29)),
 mvI 4 30]
def a1W : List AIns := [mvI 31 4,
 opI 32 (.bin .leq (.c (.int .u8 97)) (.t 31)),
 mvI 33 32,
 ⟨some 34, some (33, true), .p (.mv (.t 4))⟩,
 ⟨some 35, some (33, true), .p (.bin .leq (.t 34) (.c (.int .u8 122)))⟩,
 opI 36 (.pick (.t 33) (.t 35) (.c (.bool false))),
 mvI 37 36,
 ⟨some 38, some (37, false), .p (.mv (.t 4))⟩,
 ⟨some 39, some (37, false), .p (.bin .leq (.c (.int .u8 48)) (.t 38))⟩,
 ⟨some 40, some (37, false), .p (.mv (.t 39))⟩,
 ⟨some 41, some (40, true), .p (.mv (.t 4))⟩,
 ⟨some 42, some (40, true), .p (.bin .leq (.t 41) (.c (.int .u8 57)))⟩,
 ⟨some 43, some (37, false), .p (.pick (.t 40) (.t 42) (.c (.bool false)))⟩,
 opI 44 (.pick (.t 37) (.c (.bool true)) (.t 43)),
 mvI 45 44,
 ⟨some 46, some (45, false), .p (.mv (.t 4))⟩,
 ⟨some 47, some (45, false), .p (.bin .eql (.t 46) (.c (.int .u8 95)))⟩,
 opI 48 (.pick (.t 45) (.c (.bool true)) (.t 47)),
 mvI 49 48,
 ⟨some 50, some (49, false), .p (.mv (.t 4))⟩,
 ⟨some 51, some (49, false), .p (.bin .eql (.t 50) (.c (.int .u8 45)))⟩,
 opI 52 (.pick (.t 49) (.c (.bool true)) (.t 51)),
 opI 53 (.un .not (.t 52))]
def a7K : List AIns := [opI 2 (.mv (.c (.bool false)))]
def a4m : List AIns := [opI 54 (.bin .add (.t 25) (.c (.int .i64 1))),
 mvI 25 54]
def c8t : ACode := .seq (rgI b1z) (.seq (.cond (.t 26) (.skip) (.exit 0)) (.seq (.block 1 (.seq (rgI b7r) (.seq (rgI b7q) (.seq (rgI a1W) (.cond (.t 53) (.seq (rgI a7K) (.ret)) (.skip)))))) (rgI a4m)))
def b4M : List AIns := [opI 2 (.mv (.c (.bool true)))]
def d0q : ACode := .seq (rgI a3j) (.seq (.seq (rgI a3i) (.cond (.t 22) (.seq (rgI a4n) (.ret)) (.skip))) (.seq (.seq (rgI b7s) (.block 0 (.loop c8t))) (.seq (rgI b4M) (.ret))))
theorem a4o : fchk Pr (fun _ _ => false) Tryz.f45 = some (d0q, [.tmp 2], 55) := by kernel_rfl
theorem a4p : Pr.funcs[a9R]? = some Tryz.f45 := Tryz.func45
def a7h : List AIns := [⟨some 4, none, .p (.mv (.c (.str ⟨#[]⟩)))⟩,
 opI 5 (.mv (.c (.bool false)))]
def a7g : List AIns := [mvI 6 0,
 mvI 7 1,
 ⟨some 8, none, .call a1j [(.t 6), (.t 7)]⟩,
 opI 9 (.ext (.t 8) 0),
 opI 10 (.ext (.t 8) 1),
 mvI 4 9,
 mvI 5 10]
def b4W : ACode := .seq (rgI a7h) (.seq (rgI a7g) (.ret))
theorem b4m : fchk Pr (fun _ _ => false) Tryz.f48 = some (b4W, [.tmp 4, .tmp 5], 11) := by kernel_rfl
theorem b4n : Pr.funcs[a2s]? = some Tryz.f48 := Tryz.func48
def a2Z : List AIns := [mvI 20 0,
 opI 21 (.fldp (.t 20) 0),
 opI 22 (.fldp (.t 21) 0),
 opI 23 (.load none (.t 22)),
 mvI 24 0,
 opI 25 (.fldp (.t 24) 0),
 opI 26 (.fldp (.t 25) 2),
 opI 27 (.load none (.t 26)),
 mvI 28 0,
 opI 29 (.fldp (.t 28) 0),
 opI 30 (.fldp (.t 29) 3),
 opI 31 (.load none (.t 30)),
 ⟨some 32, none, .call a1o [(.t 23), (.t 27), (.t 31)]⟩,
 mvI 4 32]
def a1F : List AIns := [⟨some 4, none, .p (.mv (.c (.str ⟨#[]⟩)))⟩,
 ⟨some 5, none, .p (.mv (.c (.str ⟨#[]⟩)))⟩,
 opI 6 (.mv (.c (.bool false)))]
def a1E : List AIns := [mvI 8 0,
 mvI 9 1,
 ⟨some 10, none, .call a0F [(.t 8), (.t 9)]⟩,
 mvI 7 10]
def a1D : List AIns := [mvI 11 7,
 opI 12 (.bin .geq (.t 11) (.c (.int .i64 0)))]
def a2V : List AIns := [mvI 13 0,
 mvI 14 7,
 opI 15 (.slcs (.t 13) none (some (.t 14))),
 mvI 16 0,
 mvI 17 7,
 mvI 18 1,
 opI 19 (.lens (.t 18)),
 opI 20 (.bin .add (.t 17) (.t 19)),
 opI 21 (.slcs (.t 16) (some (.t 20)) none),
 mvI 4 15,
 mvI 5 21,
 opI 6 (.mv (.c (.bool true)))]
def a2U : List AIns := [mvI 22 0,
 mvI 4 22,
 ⟨some 5, none, .p (.mv (.c (.str ⟨#[]⟩)))⟩,
 opI 6 (.mv (.c (.bool false)))]
def a8S : ACode := .seq (rgI a1F) (.seq (.seq (rgI a1E) (.seq (rgI a1D) (.cond (.t 12) (.seq (.region a2V true) (.ret)) (.skip)))) (.seq (rgI a2U) (.ret)))
theorem a2W : fchk Pr (fun _ _ => false) Tryz.f50 = some (a8S, [.tmp 4, .tmp 5, .tmp 6], 23) := by kernel_rfl
theorem a2X : Pr.funcs[a1M]? = some Tryz.f50 := Tryz.func50
end Go.Abs
set_option maxRecDepth 100000
noncomputable section
namespace Go.Abs
open Go.Proofs
def a2e : List AIns := [opI 8 (.mv (.c (.bool true)))]
def a2d : List AIns := [opI 9 (.mv (.c (.bool true)))]
def a2c : List AIns := [mvI 19 2,
 mvI 20 1,
 opI 21 (.bin .sub (.t 19) (.t 20)),
 mvI 10 21]
def a2b : List AIns := [mvI 22 10,
 opI 23 (.bin .leq (.t 22) (.c (.int .i64 12)))]
def a2a : List AIns := [mvI 24 0,
 mvI 25 1,
 mvI 26 2,
 ⟨some 27, none, .call a0O [(.t 24), (.t 25), (.t 26)]⟩]
def a5w : List AIns := [mvI 28 3,
 opI 29 (.bin .eql (.t 28) (.c (.int .i64 0)))]
def a5v : List AIns := [mvI 30 0,
 mvI 31 1,
 mvI 32 2,
 ⟨some 33, none, .call a5Q [(.t 30), (.t 31), (.t 32)]⟩]
def a5u : List AIns := [mvI 34 8,
 opI 35 (.un .not (.t 34))]
def a5t : List AIns := [mvI 36 0,
 mvI 37 1,
 mvI 38 2,
 ⟨some 39, none, .call a3G [(.t 36), (.t 37), (.t 38)]⟩]
def a5s : List AIns := [mvI 40 3,
 opI 41 (.bin .sub (.t 40) (.c (.int .i64 1))),
 mvI 3 41]
def a4X : List AIns := [mvI 43 0,
 mvI 44 1,
 mvI 45 2,
 ⟨some 46, none, .call a3X [(.t 43), (.t 44), (.t 45)]⟩,
 mvI 42 46,
 opI 47 (.ext (.t 42) 0),
 opI 48 (.ext (.t 42) 1),
 mvI 11 47,
 mvI 12 48]
def a4W : List AIns := [mvI 49 12,
 opI 50 (.bin .eql (.t 49) (.c (.int .i64 2)))]
def a4V : List AIns := [mvI 51 0,
 mvI 52 1,
 mvI 53 2,
 ⟨some 54, none, .call a3N [(.t 51), (.t 52), (.t 53)]⟩]
def a4U : List AIns := [mvI 55 2,
 opI 56 (.bin .sub (.t 55) (.c (.int .i64 1))),
 mvI 57 11,
 mvI 58 1,
 opI 59 (.bin .sub (.t 57) (.t 58)),
 opI 60 (.bin .sub (.t 56) (.t 59)),
 mvI 11 60]
def a4T : List AIns := [opI 12 (.mv (.c (.int .i64 1)))]
def a4S : List AIns := [mvI 61 8,
 mvI 62 61,
 ⟨some 63, some (62, true), .p (.mv (.t 9))⟩,
 opI 64 (.pick (.t 62) (.t 63) (.c (.bool false))),
 mvI 65 64,
 ⟨some 66, some (65, true), .p (.mv (.t 12))⟩,
 ⟨some 67, some (65, true), .p (.bin .eql (.t 66) (.c (.int .i64 1)))⟩,
 opI 68 (.pick (.t 65) (.t 67) (.c (.bool false)))]
def a4R : List AIns := [mvI 69 0,
 mvI 70 1,
 mvI 71 2,
 ⟨some 72, none, .call a2t [(.t 69), (.t 70), (.t 71)]⟩]
def a4Q : List AIns := [mvI 73 1,
 opI 74 (.bin .gtr (.t 73) (.c (.int .i64 0))),
 mvI 75 74,
 ⟨some 76, some (75, true), .p (.mv (.t 0))⟩,
 ⟨some 77, some (75, true), .p (.mv (.t 1))⟩,
 ⟨some 78, some (75, true), .p (.bin .sub (.t 77) (.c (.int .i64 1)))⟩,
 ⟨some 79, some (75, true), .p (.idxp 1 (.t 76) (.t 78))⟩,
 ⟨some 80, some (75, true), .p (.load none (.t 79))⟩,
 ⟨some 81, some (75, true), .p (.mv (.t 0))⟩,
 ⟨some 82, some (75, true), .p (.mv (.t 11))⟩,
 ⟨some 83, some (75, true), .p (.idxp 1 (.t 81) (.t 82))⟩,
 ⟨some 84, some (75, true), .p (.load none (.t 83))⟩,
 ⟨some 85, some (75, true), .call b0G [(.t 80), (.t 84)]⟩,
 ⟨some 86, some (75, true), .p (.un .not (.t 85))⟩,
 opI 87 (.pick (.t 75) (.t 86) (.c (.bool false)))]
def a4P : List AIns := [mvI 88 0,
 mvI 89 1,
 mvI 90 2,
 mvI 91 11,
 ⟨some 92, none, .call a3A [(.t 88), (.t 89), (.t 90), (.t 91)]⟩,
 mvI 13 92]
def a4O : List AIns := [mvI 93 13,
 mvI 1 93]
def a4N : List AIns := [mvI 95 0,
 mvI 96 1,
 mvI 97 2,
 mvI 98 11,
 ⟨some 99, none, .call a5a [(.t 95), (.t 96), (.t 97), (.t 98)]⟩,
 mvI 94 99,
 opI 100 (.ext (.t 94) 0),
 opI 101 (.ext (.t 94) 1),
 mvI 14 100,
 mvI 15 101]
def a4M : List AIns := [mvI 102 15,
 mvI 9 102]
def a4L : List AIns := [mvI 103 14,
 mvI 104 1,
 opI 105 (.bin .sub (.t 103) (.t 104)),
 mvI 106 2,
 mvI 107 14,
 opI 108 (.bin .sub (.t 106) (.t 107)),
 mvI 16 105,
 mvI 17 108]
def a4K : List AIns := [mvI 109 10,
 opI 110 (.bin .quo (.t 109) (.c (.int .i64 8))),
 mvI 18 110]
def a4J : List AIns := [mvI 111 16,
 mvI 112 17,
 opI 113 (.bin .lss (.t 111) (.t 112))]
def a4I : List AIns := [mvI 114 16,
 mvI 115 18,
 opI 116 (.bin .geq (.t 114) (.t 115)),
 mvI 8 116]
def a4H : List AIns := [mvI 117 0,
 mvI 118 1,
 mvI 119 14,
 mvI 120 3,
 ⟨some 121, none, .call a0x [(.t 117), (.t 118), (.t 119), (.t 120)]⟩]
def a4G : List AIns := [mvI 122 14,
 opI 123 (.bin .add (.t 122) (.c (.int .i64 1))),
 mvI 1 123]
def a4F : List AIns := [mvI 124 17,
 mvI 125 18,
 opI 126 (.bin .geq (.t 124) (.t 125)),
 mvI 8 126]
def a4E : List AIns := [mvI 127 0,
 mvI 128 14,
 opI 129 (.bin .add (.t 128) (.c (.int .i64 1))),
 mvI 130 2,
 mvI 131 3,
 ⟨some 132, none, .call a0x [(.t 127), (.t 129), (.t 130), (.t 131)]⟩]
def a4D : List AIns := [mvI 133 14,
 mvI 2 133]
def a5y : ACode := .block 1 (.seq (rgI a2c) (.seq (.seq (rgI a2b) (.cond (.t 23) (.seq (rgI a2a) (.ret)) (.skip))) (.seq (.seq (rgI a5w) (.cond (.t 29) (.seq (rgI a5v) (.ret)) (.skip))) (.seq (.seq (rgI a5u) (.cond (.t 35) (.seq (rgI a5t) (rgI a5s)) (.skip))) (.seq (rgI a4X) (.seq (.seq (rgI a4W) (.cond (.t 50) (.seq (rgI a4V) (.seq (rgI a4U) (rgI a4T))) (.skip))) (.seq (.seq (rgI a4S) (.cond (.t 68) (.seq (rgI a4R) (.cond (.t 72) (.ret) (.skip))) (.skip))) (.seq (.seq (.region a4Q true) (.cond (.t 87) (.seq (rgI a4P) (.seq (rgI a4O) (.exit 1))) (.skip))) (.seq (rgI a4N) (.seq (rgI a4M) (.seq (rgI a4L) (.seq (rgI a4K) (.seq (rgI a4J) (.cond (.t 113) (.seq (rgI a4I) (.seq (rgI a4H) (rgI a4G))) (.seq (rgI a4F) (.seq (rgI a4E) (rgI a4D)))))))))))))))))
def a6b : ACode := .seq (rgI a2e) (.seq (rgI a2d) (.block 0 (.loop a5y)))
theorem a5x : fchk Pr (fun _ _ => false) Tryz.f54 = some (a6b, [], 134) := by kernel_rfl
theorem a5z : Pr.funcs[a0x]? = some Tryz.f54 := Tryz.func54
def b1O : List AIns := [opI 2 (.mv (.c (.int .i64 0)))]
def c0D : List AIns := [mvI 3 0,
 opI 4 (.conv .u32 (.t 3)),
 ⟨some 5, none, .call a1m [(.t 4)]⟩,
 mvI 2 5]
def b1N : List AIns := [mvI 6 0,
 ⟨some 7, none, .call a5R [(.t 6)]⟩,
 mvI 2 7]
def c3P : ACode := .seq (rgI b1O) (.seq (.cond (.c (.bool false)) (.seq (rgI c0D) (.ret)) (.skip)) (.seq (rgI b1N) (.ret)))
theorem c0E : fchk Pr (fun _ _ => false) Tryz.f55 = some (c3P, [.tmp 2], 8) := by kernel_rfl
theorem c0F : Pr.funcs[a8J]? = some Tryz.f55 := Tryz.func55
def a7p : List AIns := [opI 4 (.mv (.c (.nil)))]
def a7o : List AIns := [mvI 8 0,
 opI 9 (.len (.t 8)),
 ⟨some 10, none, .e (.mksl 1 16 (.str ⟨#[]⟩) (.c (.int .i64 0)) (.t 9))⟩,
 mvI 5 10]
def a7n : List AIns := [mvI 11 0,
 opI 12 (.len (.t 11)),
 opI 13 (.mv (.c (.int .i64 0)))]
def a3z : List AIns := [opI 14 (.bin .lss (.t 13) (.t 12))]
def a7m : List AIns := [opI 15 (.idxp 2 (.t 11) (.t 13)),
 opI 16 (.load (some 2) (.t 15)),
 ⟨some 7, none, .e (.box 2 (.c (.agg [.bool false, .nil])))⟩,
 ⟨none, none, .e (.store 2 (.t 7) (.t 16))⟩]
def a7l : List AIns := [mvI 17 5,
 mvI 18 1,
 opI 19 (.load (some 2) (.t 7)),
 ⟨some 20, none, .callv (.t 18) [(.t 19)]⟩,
 ⟨some 21, none, .e (.bsl 1 [(.t 20)])⟩,
 ⟨some 22, none, .e (.app 1 16 false (.t 17) (.t 21))⟩,
 mvI 5 22]
def a7k : List AIns := [opI 23 (.bin .add (.t 13) (.c (.int .i64 1))),
 mvI 13 23]
def b4q : ACode := .seq (rgI a3z) (.seq (.cond (.t 14) (.skip) (.exit 0)) (.seq (.block 1 (.seq (rgI a7m) (rgI a7l))) (rgI a7k)))
def a7j : List AIns := [mvI 24 5,
 mvI 4 24]
def b5y : ACode := .seq (rgI a7p) (.seq (rgI a7o) (.seq (.seq (rgI a7n) (.block 0 (.loop b4q))) (.seq (rgI a7j) (.ret))))
theorem b4p : fchk Pr (fun _ _ => false) Tryz.f58 = some (b5y, [.tmp 4], 25) := by kernel_rfl
theorem b4r : Pr.funcs[a3O]? = some Tryz.f58 := Tryz.func58
def b2B : List AIns := [⟨some 1, none, .e (.box 2 (.t 0))⟩,
 ⟨some 2, none, .p (.mv (.c (.str ⟨#[]⟩)))⟩]
def b2A : List AIns := [opI 3 (.load (some 2) (.t 1)),
 ⟨some 4, none, .call a3M [(.t 3)]⟩,
 opI 5 (.bin .lss (.t 4) (.c (.int .i64 0)))]
def b9e : List AIns := [opI 6 (.fldp (.t 1) 1),
 opI 7 (.load none (.t 6)),
 ⟨some 8, none, .call a7W [(.t 7)]⟩,
 ⟨some 9, none, .p (.bin .add (.c (.str ⟨#[45]⟩)) (.t 8))⟩,
 mvI 2 9]
def b9d : List AIns := [opI 10 (.fldp (.t 1) 1),
 opI 11 (.load none (.t 10)),
 ⟨some 12, none, .call a7W [(.t 11)]⟩,
 mvI 2 12]
def d0G : ACode := .seq (rgI b2B) (.seq (.seq (rgI b2A) (.cond (.t 5) (.seq (rgI b9e) (.ret)) (.skip))) (.seq (rgI b9d) (.ret)))
theorem b9f : fchk Pr (fun _ _ => false) Tryz.f59 = some (d0G, [.tmp 2], 13) := by kernel_rfl
theorem b9g : Pr.funcs[b1C]? = some Tryz.f59 := Tryz.func59
def c0l : List AIns := [opI 2 (.mv (.c (.int .i64 0)))]
def c0k : List AIns := [mvI 6 0,
 ⟨some 7, none, .call c8C [(.t 6), (.c (.bool true))]⟩,
 mvI 5 7,
 opI 8 (.ext (.t 5) 0),
 opI 9 (.ext (.t 5) 1),
 ⟨some 3, none, .e (.box 2 (.c (.agg [.nil, .nil])))⟩,
 ⟨none, none, .e (.store 2 (.t 3) (.t 8))⟩,
 mvI 4 9]
def b3H : List AIns := [mvI 10 4,
 mvI 2 10]
def d1N : ACode := .seq (rgI c0l) (.seq (rgI c0k) (.seq (rgI b3H) (.ret)))
theorem c9U : fchk Pr (fun _ _ => false) Tryz.f62 = some (d1N, [.tmp 2], 11) := by kernel_rfl
theorem c9V : Pr.funcs[b5X]? = some Tryz.f62 := Tryz.func62
def c2n : List AIns := [⟨some 2, none, .e (.box 2 (.t 0))⟩,
 ⟨some 3, none, .e (.box 2 (.t 1))⟩,
 ⟨some 4, none, .e (.box 2 (.c (.agg [.bool false, .nil])))⟩]
def c2m : List AIns := [opI 7 (.fldp (.t 2) 0),
 opI 8 (.load none (.t 7)),
 opI 9 (.fldp (.t 3) 0),
 opI 10 (.load none (.t 9)),
 opI 11 (.beq false (.t 8) (.t 10))]
def c2l : List AIns := [opI 12 (.fldp (.t 2) 0),
 opI 13 (.load none (.t 12)),
 opI 14 (.fldp (.t 2) 1),
 opI 15 (.load none (.t 14)),
 opI 16 (.fldp (.t 3) 1),
 opI 17 (.load none (.t 16)),
 ⟨some 18, none, .call a8I [(.t 15), (.t 17)]⟩,
 ⟨some 19, none, .call a1l [(.t 13), (.t 18)]⟩,
 ⟨none, none, .e (.store 2 (.t 4) (.t 19))⟩]
def c2k : List AIns := [opI 20 (.fldp (.t 2) 1),
 opI 21 (.load none (.t 20)),
 opI 22 (.fldp (.t 3) 1),
 opI 23 (.load none (.t 22)),
 ⟨some 24, none, .call b0F [(.t 21), (.t 23)]⟩,
 opI 25 (.bin .lss (.t 24) (.c (.int .i64 0)))]
def c2j : List AIns := [opI 26 (.load (some 2) (.t 3)),
 opI 27 (.load (some 2) (.t 2)),
 ⟨none, none, .e (.store 2 (.t 2) (.t 26))⟩,
 ⟨none, none, .e (.store 2 (.t 3) (.t 27))⟩]
def b4O : List AIns := [opI 29 (.fldp (.t 2) 1),
 opI 30 (.load none (.t 29)),
 opI 31 (.fldp (.t 3) 1),
 opI 32 (.load none (.t 31)),
 ⟨some 33, none, .call c5f [(.t 30), (.t 32)]⟩,
 mvI 28 33,
 opI 34 (.ext (.t 28) 0),
 opI 35 (.ext (.t 28) 1),
 mvI 5 34,
 mvI 6 35]
def b4N : List AIns := [opI 36 (.fldp (.t 2) 0),
 opI 37 (.load none (.t 36)),
 mvI 38 5,
 ⟨some 39, none, .call a1l [(.t 37), (.t 38)]⟩,
 ⟨none, none, .e (.store 2 (.t 4) (.t 39))⟩]
def d3L : ACode := .seq (rgI c2n) (.seq (.seq (rgI c2m) (.cond (.t 11) (.seq (.region c2l true) (.ret)) (.skip))) (.seq (.seq (rgI c2k) (.cond (.t 25) (rgI c2j) (.skip))) (.seq (rgI b4O) (.seq (rgI b4N) (.ret)))))
theorem d0Q : fchk Pr (fun _ _ => false) Tryz.f64 = some (d3L, [.cell 4 (some 2)], 40) := by kernel_rfl
theorem d0R : Pr.funcs[a7V]? = some Tryz.f64 := Tryz.func64
def b3w : List AIns := [opI 4 (.mv (.c (.nil)))]
def b3v : List AIns := [mvI 8 0,
 opI 9 (.len (.t 8)),
 ⟨some 10, none, .e (.mksl 2 32 (.agg [.bool false, .nil]) (.c (.int .i64 0)) (.t 9))⟩,
 mvI 5 10]
def b3u : List AIns := [mvI 11 0,
 opI 12 (.len (.t 11)),
 opI 13 (.mv (.c (.int .i64 0)))]
def a8t : List AIns := [opI 14 (.bin .lss (.t 13) (.t 12))]
def b3t : List AIns := [opI 15 (.idxp 2 (.t 11) (.t 13)),
 opI 16 (.load (some 2) (.t 15)),
 ⟨some 7, none, .e (.box 2 (.c (.agg [.bool false, .nil])))⟩,
 ⟨none, none, .e (.store 2 (.t 7) (.t 16))⟩]
def b3s : List AIns := [mvI 17 5,
 mvI 18 1,
 opI 19 (.load (some 2) (.t 7)),
 ⟨some 20, none, .callv (.t 18) [(.t 19)]⟩,
 ⟨some 21, none, .e (.bsl 2 [(.t 20)])⟩,
 ⟨some 22, none, .e (.app 2 32 false (.t 17) (.t 21))⟩,
 mvI 5 22]
def b3r : List AIns := [opI 23 (.bin .add (.t 13) (.c (.int .i64 1))),
 mvI 13 23]
def c3U : ACode := .seq (rgI a8t) (.seq (.cond (.t 14) (.skip) (.exit 0)) (.seq (.block 1 (.seq (rgI b3t) (rgI b3s))) (rgI b3r)))
def b3q : List AIns := [mvI 24 5,
 mvI 4 24]
def c5o : ACode := .seq (rgI b3w) (.seq (rgI b3v) (.seq (.seq (rgI b3u) (.block 0 (.loop c3U))) (.seq (rgI b3q) (.ret))))
theorem c3T : fchk Pr (fun _ _ => false) Tryz.f65 = some (c5o, [.tmp 4], 25) := by kernel_rfl
theorem c3V : Pr.funcs[a5Y]? = some Tryz.f65 := Tryz.func65
def c2i : List AIns := [⟨some 2, none, .e (.box 2 (.t 0))⟩,
 ⟨some 3, none, .e (.box 2 (.t 1))⟩,
 ⟨some 4, none, .e (.box 2 (.c (.agg [.bool false, .nil])))⟩]
def c2h : List AIns := [opI 5 (.fldp (.t 2) 0),
 opI 6 (.load none (.t 5)),
 opI 7 (.fldp (.t 3) 0),
 opI 8 (.load none (.t 7)),
 opI 9 (.beq true (.t 6) (.t 8)),
 opI 10 (.fldp (.t 2) 1),
 opI 11 (.load none (.t 10)),
 opI 12 (.fldp (.t 3) 1),
 opI 13 (.load none (.t 12)),
 ⟨some 14, none, .call a8H [(.t 11), (.t 13)]⟩,
 ⟨some 15, none, .call a1l [(.t 9), (.t 14)]⟩,
 ⟨none, none, .e (.store 2 (.t 4) (.t 15))⟩]
def d3K : ACode := .seq (rgI c2i) (.seq (.region c2h true) (.ret))
theorem d0M : fchk Pr (fun _ _ => false) Tryz.f67 = some (d3K, [.cell 4 (some 2)], 16) := by kernel_rfl
theorem d0N : Pr.funcs[a5P]? = some Tryz.f67 := Tryz.func67
def b3p : List AIns := [opI 4 (.mv (.c (.nil)))]
def b3o : List AIns := [mvI 8 0,
 opI 9 (.len (.t 8)),
 ⟨some 10, none, .e (.mksl 1 24 (.nil) (.c (.int .i64 0)) (.t 9))⟩,
 mvI 5 10]
def b3n : List AIns := [mvI 11 0,
 opI 12 (.len (.t 11)),
 opI 13 (.mv (.c (.int .i64 0)))]
def a8s : List AIns := [opI 14 (.bin .lss (.t 13) (.t 12))]
def b3m : List AIns := [opI 15 (.idxp 1 (.t 11) (.t 13)),
 opI 16 (.load none (.t 15)),
 mvI 7 16]
def b3l : List AIns := [mvI 17 5,
 mvI 18 1,
 mvI 19 7,
 ⟨some 20, none, .callv (.t 18) [(.t 19)]⟩,
 ⟨some 21, none, .e (.bsl 1 [(.t 20)])⟩,
 ⟨some 22, none, .e (.app 1 24 false (.t 17) (.t 21))⟩,
 mvI 5 22]
def b3k : List AIns := [opI 23 (.bin .add (.t 13) (.c (.int .i64 1))),
 mvI 13 23]
def c3R : ACode := .seq (rgI a8s) (.seq (.cond (.t 14) (.skip) (.exit 0)) (.seq (.block 1 (.seq (rgI b3m) (rgI b3l))) (rgI b3k)))
def b3j : List AIns := [mvI 24 5,
 mvI 4 24]
def c5n : ACode := .seq (rgI b3p) (.seq (rgI b3o) (.seq (.seq (rgI b3n) (.block 0 (.loop c3R))) (.seq (rgI b3j) (.ret))))
theorem c3Q : fchk Pr (fun _ _ => false) Tryz.f79 = some (c5n, [.tmp 4], 25) := by kernel_rfl
theorem c3S : Pr.funcs[a9Z]? = some Tryz.f79 := Tryz.func79
def b6W : List AIns := [opI 2 (.mv (.c (.nil)))]
def b6V : List AIns := [mvI 3 0,
 ⟨some 4, none, .call a5Y [(.t 3), (.c (.fn a8D []))]⟩,
 mvI 2 4]
def c9x : ACode := .seq (rgI b6W) (.seq (rgI b6V) (.ret))
theorem c7O : fchk Pr (fun _ _ => false) Tryz.f80 = some (c9x, [.tmp 2], 5) := by kernel_rfl
theorem c7P : Pr.funcs[a9P]? = some Tryz.f80 := Tryz.func80
def b9t : List AIns := [⟨some 1, none, .e (.box 2 (.t 0))⟩,
 ⟨some 2, none, .e (.box 2 (.c (.agg [.bool false, .nil])))⟩]
def b9s : List AIns := [opI 3 (.fldp (.t 1) 0),
 opI 4 (.load none (.t 3)),
 opI 5 (.fldp (.t 1) 1),
 opI 6 (.load none (.t 5)),
 ⟨some 7, none, .call a1l [(.t 4), (.t 6)]⟩,
 ⟨none, none, .e (.store 2 (.t 2) (.t 7))⟩]
def d0O : ACode := .seq (rgI b9t) (.seq (rgI b9s) (.ret))
theorem c8L : fchk Pr (fun _ _ => false) Tryz.f81 = some (d0O, [.cell 2 (some 2)], 8) := by kernel_rfl
theorem c8M : Pr.funcs[a8D]? = some Tryz.f81 := Tryz.func81
def a0Z : List AIns := [⟨some 4, none, .p (.mv (.c (.str ⟨#[]⟩)))⟩,
 opI 5 (.mv (.c (.bool false)))]
def a0Y : List AIns := [mvI 6 0,
 mvI 7 1,
 ⟨some 8, none, .call a1i [(.t 6), (.t 7)]⟩,
 opI 9 (.un .not (.t 8))]
def a1T : List AIns := [mvI 10 0,
 mvI 4 10,
 opI 5 (.mv (.c (.bool false)))]
def a1S : List AIns := [mvI 11 0,
 mvI 12 1,
 opI 13 (.lens (.t 12)),
 opI 14 (.slcs (.t 11) (some (.t 13)) none),
 mvI 4 14,
 opI 5 (.mv (.c (.bool true)))]
def a4Z : ACode := .seq (rgI a0Z) (.seq (.seq (rgI a0Y) (.cond (.t 9) (.seq (rgI a1T) (.ret)) (.skip))) (.seq (rgI a1S) (.ret)))
theorem a1U : fchk Pr (fun _ _ => false) Tryz.f84 = some (a4Z, [.tmp 4, .tmp 5], 15) := by kernel_rfl
theorem a1V : Pr.funcs[a1j]? = some Tryz.f84 := Tryz.func84
def b1J : List AIns := [opI 4 (.mv (.c (.nil)))]
def b1I : List AIns := [mvI 5 0,
 mvI 6 1,
 ⟨some 7, none, .call a4A [(.t 5), (.t 6), (.c (.int .i64 0)), (.c (.int .i64 (-1)))]⟩,
 mvI 4 7]
def c2w : ACode := .seq (rgI b1J) (.seq (rgI b1I) (.ret))
theorem c0x : fchk Pr (fun _ _ => false) Tryz.f85 = some (c2w, [.tmp 4], 8) := by kernel_rfl
theorem c0y : Pr.funcs[a8E]? = some Tryz.f85 := Tryz.func85
def b2E : List AIns := [⟨some 2, none, .e (.box 2 (.c (.agg [.bool false, .nil])))⟩,
 opI 3 (.mv (.c (.int .i64 0))),
 opI 4 (.mv (.c (.int .i64 0)))]
def b2D : List AIns := [mvI 11 0,
 opI 12 (.lens (.t 11)),
 opI 13 (.bin .gtr (.t 12) (.c (.int .i64 65536)))]
def b9q : List AIns := [opI 14 (.bld [.bool false, .nil] []),
 ⟨none, none, .e (.store 2 (.t 2) (.t 14))⟩,
 opI 3 (.mv (.c (.int .i64 0))),
 opI 4 (.mv (.c (.int .i64 2)))]
def b9p : List AIns := [opI 5 (.mv (.c (.int .i64 0)))]
def a9b : List AIns := [mvI 15 0,
 opI 16 (.lens (.t 15)),
 opI 17 (.bin .gtr (.t 16) (.c (.int .i64 0))),
 mvI 18 17,
 ⟨some 19, some (18, true), .p (.mv (.t 0))⟩,
 ⟨some 20, some (18, true), .p (.idxs (.t 19) (.c (.int .i64 0)))⟩,
 ⟨some 21, some (18, true), .p (.bin .eql (.t 20) (.c (.int .u8 45)))⟩,
 opI 22 (.pick (.t 18) (.t 21) (.c (.bool false)))]
def b9o : List AIns := [opI 5 (.mv (.c (.int .i64 1)))]
def a3P : List AIns := [mvI 23 5,
 opI 24 (.bin .eql (.t 23) (.c (.int .i64 1))),
 mvI 25 24,
 ⟨some 26, some (25, true), .p (.mv (.t 0))⟩,
 ⟨some 27, some (25, true), .p (.lens (.t 26))⟩,
 ⟨some 28, some (25, true), .p (.bin .gtr (.t 27) (.c (.int .i64 1)))⟩,
 opI 29 (.pick (.t 25) (.t 28) (.c (.bool false))),
 mvI 30 29,
 ⟨some 31, some (30, true), .p (.mv (.t 0))⟩,
 ⟨some 32, some (30, true), .p (.idxs (.t 31) (.c (.int .i64 1)))⟩,
 ⟨some 33, some (30, true), .p (.bin .eql (.t 32) (.c (.int .u8 48)))⟩,
 opI 34 (.pick (.t 30) (.t 33) (.c (.bool false)))]
def b9n : List AIns := [opI 35 (.bld [.bool false, .nil] []),
 ⟨none, none, .e (.store 2 (.t 2) (.t 35))⟩,
 opI 3 (.mv (.c (.int .i64 1))),
 opI 4 (.mv (.c (.int .i64 4)))]
def a9a : List AIns := [mvI 36 5,
 mvI 6 36]
def b2C : List AIns := [mvI 37 6,
 mvI 38 0,
 opI 39 (.lens (.t 38)),
 opI 40 (.bin .lss (.t 37) (.t 39))]
def a3b : List AIns := [mvI 43 0,
 mvI 44 6,
 opI 45 (.idxs (.t 43) (.t 44)),
 opI 46 (.bin .lss (.t 45) (.c (.int .u8 48))),
 mvI 47 46,
 ⟨some 48, some (47, false), .p (.mv (.t 0))⟩,
 ⟨some 49, some (47, false), .p (.mv (.t 6))⟩,
 ⟨some 50, some (47, false), .p (.idxs (.t 48) (.t 49))⟩,
 ⟨some 51, some (47, false), .p (.bin .gtr (.t 50) (.c (.int .u8 57)))⟩,
 opI 52 (.pick (.t 47) (.c (.bool true)) (.t 51)),
 mvI 53 52,
 ⟨some 54, some (53, false), .p (.mv (.t 6))⟩,
 ⟨some 55, some (53, false), .p (.mv (.t 5))⟩,
 ⟨some 56, some (53, false), .p (.bin .add (.t 55) (.c (.int .i64 1)))⟩,
 ⟨some 57, some (53, false), .p (.bin .eql (.t 54) (.t 56))⟩,
 ⟨some 58, some (53, false), .p (.mv (.t 57))⟩,
 ⟨some 59, some (58, true), .p (.mv (.t 0))⟩,
 ⟨some 60, some (58, true), .p (.mv (.t 5))⟩,
 ⟨some 61, some (58, true), .p (.idxs (.t 59) (.t 60))⟩,
 ⟨some 62, some (58, true), .p (.bin .eql (.t 61) (.c (.int .u8 48)))⟩,
 ⟨some 63, some (53, false), .p (.pick (.t 58) (.t 62) (.c (.bool false)))⟩,
 opI 64 (.pick (.t 53) (.c (.bool true)) (.t 63))]
def a7t : List AIns := [opI 65 (.bld [.bool false, .nil] []),
 mvI 66 6,
 ⟨none, none, .e (.store 2 (.t 2) (.t 65))⟩,
 mvI 3 66,
 opI 4 (.mv (.c (.int .i64 4)))]
def b0M : List AIns := [mvI 41 6,
 opI 42 (.bin .add (.t 41) (.c (.int .i64 1))),
 mvI 6 42]
def b2G : ACode := .seq (.seq (rgI b2C) (.cond (.t 40) (.skip) (.exit 0))) (.seq (.block 1 (.seq (rgI a3b) (.cond (.t 64) (.seq (rgI a7t) (.ret)) (.skip)))) (rgI b0M))
def a7s : List AIns := [mvI 67 5,
 mvI 68 0,
 opI 69 (.lens (.t 68)),
 opI 70 (.bin .eql (.t 67) (.t 69))]
def b0L : List AIns := [opI 71 (.bld [.bool false, .nil] []),
 mvI 72 5,
 ⟨none, none, .e (.store 2 (.t 2) (.t 71))⟩,
 mvI 3 72,
 opI 4 (.mv (.c (.int .i64 4)))]
def b0K : List AIns := [opI 7 (.mv (.c (.nil)))]
def b0J : List AIns := [mvI 73 5,
 mvI 8 73]
def b0I : List AIns := [mvI 74 8,
 mvI 75 0,
 opI 76 (.lens (.t 75)),
 opI 77 (.bin .lss (.t 74) (.t 76))]
def b6e : List AIns := [mvI 78 0,
 opI 79 (.lens (.t 78)),
 mvI 80 8,
 opI 81 (.bin .sub (.t 79) (.t 80)),
 opI 82 (.mnx false (.c (.int .i64 9)) (.t 81)),
 mvI 9 82]
def b6d : List AIns := [opI 10 (.mv (.c (.int .u32 0)))]
def b6c : List AIns := [mvI 83 9,
 opI 84 (.mv (.c (.int .i64 0)))]
def b0H : List AIns := [opI 85 (.bin .lss (.t 84) (.t 83))]
def b6b : List AIns := [mvI 86 10,
 opI 87 (.bin .mul (.c (.int .u32 10)) (.t 86)),
 mvI 88 0,
 mvI 89 8,
 opI 90 (.idxs (.t 88) (.t 89)),
 opI 91 (.bin .sub (.t 90) (.c (.int .u8 48))),
 opI 92 (.conv .u32 (.t 91)),
 opI 93 (.bin .add (.t 87) (.t 92)),
 mvI 10 93]
def b6a : List AIns := [mvI 94 8,
 opI 95 (.bin .add (.t 94) (.c (.int .i64 1))),
 mvI 8 95]
def b5Z : List AIns := [opI 96 (.bin .add (.t 84) (.c (.int .i64 1))),
 mvI 84 96]
def c8K : ACode := .seq (rgI b0H) (.seq (.cond (.t 85) (.skip) (.exit 4)) (.seq (.block 5 (.seq (rgI b6b) (rgI b6a))) (rgI b5Z)))
def b5Y : List AIns := [mvI 97 7,
 mvI 98 9,
 ⟨some 99, none, .call b3U [(.t 98)]⟩,
 ⟨some 100, none, .e (.bsl 1 [(.t 99)])⟩,
 ⟨some 101, none, .call a8H [(.t 97), (.t 100)]⟩,
 mvI 102 10,
 ⟨some 103, none, .e (.bsl 1 [(.t 102)])⟩,
 ⟨some 104, none, .call a8I [(.t 101), (.t 103)]⟩,
 mvI 7 104]
def b9r : ACode := .seq (.seq (rgI b0I) (.cond (.t 77) (.skip) (.exit 2))) (.block 3 (.seq (rgI b6e) (.seq (rgI b6d) (.seq (.seq (rgI b6c) (.block 4 (.loop c8K))) (rgI b5Y)))))
def a7r : List AIns := [mvI 105 5,
 opI 106 (.bin .eql (.t 105) (.c (.int .i64 1))),
 mvI 107 7,
 ⟨some 108, none, .call a1l [(.t 106), (.t 107)]⟩,
 ⟨none, none, .e (.store 2 (.t 2) (.t 108))⟩,
 opI 3 (.mv (.c (.int .i64 0))),
 opI 4 (.mv (.c (.int .i64 0)))]
def c2e : ACode := .seq (rgI b2E) (.seq (.seq (rgI b2D) (.cond (.t 13) (.seq (rgI b9q) (.ret)) (.skip))) (.seq (rgI b9p) (.seq (.seq (rgI a9b) (.cond (.t 22) (rgI b9o) (.skip))) (.seq (.seq (rgI a3P) (.cond (.t 34) (.seq (rgI b9n) (.ret)) (.skip))) (.seq (.seq (rgI a9a) (.block 0 (.loop b2G))) (.seq (.seq (rgI a7s) (.cond (.t 70) (.seq (rgI b0L) (.ret)) (.skip))) (.seq (rgI b0K) (.seq (.seq (rgI b0J) (.block 2 (.loop b9r))) (.seq (rgI a7r) (.ret))))))))))
theorem b2F : fchk Pr (fun _ _ => false) Tryz.f86 = some (c2e, [.cell 2 (some 2), .tmp 3, .tmp 4], 109) := by kernel_rfl
theorem b2H : Pr.funcs[a3a]? = some Tryz.f86 := Tryz.func86
def a0C : List AIns := [opI 4 (.mv (.c (.int .i64 0)))]
def a0B : List AIns := [mvI 14 1,
 opI 15 (.lens (.t 14)),
 mvI 5 15]
def a0A : List AIns := [mvI 17 5,
 opI 18 (.bin .eql (.t 17) (.c (.int .i64 0))),
 mvI 19 18,
 ⟨some 20, some (19, false), .p (.mv (.t 1))⟩,
 ⟨some 21, some (19, false), .p (.mv (.t 0))⟩,
 ⟨some 22, some (19, false), .p (.bin .eql (.t 20) (.t 21))⟩,
 opI 23 (.pick (.t 19) (.c (.bool true)) (.t 22)),
 mvI 16 23]
def a1v : List AIns := [opI 4 (.mv (.c (.int .i64 0)))]
def a1u : List AIns := [mvI 25 5,
 opI 26 (.bin .eql (.t 25) (.c (.int .i64 1))),
 mvI 24 26]
def a1t : List AIns := [mvI 27 0,
 mvI 28 1,
 opI 29 (.idxs (.t 28) (.c (.int .i64 0))),
 ⟨some 30, none, .call a0H [(.t 27), (.t 29)]⟩,
 mvI 4 30]
def a6Q : List AIns := [mvI 32 5,
 mvI 33 0,
 opI 34 (.lens (.t 33)),
 opI 35 (.bin .geq (.t 32) (.t 34)),
 mvI 31 35]
def a6P : List AIns := [opI 4 (.mv (.c (.int .i64 (-1))))]
def a6O : List AIns := [mvI 45 0,
 mvI 46 1,
 ⟨some 47, none, .call a2k [(.t 45), (.t 46)]⟩,
 mvI 4 47]
def a6N : List AIns := [mvI 48 1,
 opI 49 (.idxs (.t 48) (.c (.int .i64 0))),
 mvI 6 49]
def a6D : List AIns := [mvI 50 1,
 opI 51 (.idxs (.t 50) (.c (.int .i64 1))),
 mvI 7 51]
def a6C : List AIns := [opI 8 (.mv (.c (.int .i64 0)))]
def a6B : List AIns := [mvI 52 0,
 opI 53 (.lens (.t 52)),
 mvI 54 5,
 opI 55 (.bin .sub (.t 53) (.t 54)),
 opI 56 (.bin .add (.t 55) (.c (.int .i64 1))),
 mvI 9 56]
def a6A : List AIns := [opI 10 (.mv (.c (.int .i64 0)))]
def a6z : List AIns := [mvI 57 8,
 mvI 58 9,
 opI 59 (.bin .lss (.t 57) (.t 58))]
def a6y : List AIns := [mvI 60 0,
 mvI 61 8,
 opI 62 (.idxs (.t 60) (.t 61)),
 mvI 63 6,
 opI 64 (.bin .neq (.t 62) (.t 63))]
def a6x : List AIns := [mvI 65 0,
 mvI 66 8,
 opI 67 (.bin .add (.t 66) (.c (.int .i64 1))),
 mvI 68 9,
 opI 69 (.slcs (.t 65) (some (.t 67)) (some (.t 68))),
 mvI 70 6,
 ⟨some 71, none, .call a0H [(.t 69), (.t 70)]⟩,
 mvI 11 71]
def a6w : List AIns := [mvI 72 11,
 opI 73 (.bin .lss (.t 72) (.c (.int .i64 0)))]
def a6v : List AIns := [opI 4 (.mv (.c (.int .i64 (-1))))]
def a6u : List AIns := [mvI 74 8,
 mvI 75 11,
 opI 76 (.bin .add (.t 75) (.c (.int .i64 1))),
 opI 77 (.bin .add (.t 74) (.t 76)),
 mvI 8 77]
def a6t : List AIns := [mvI 78 0,
 mvI 79 8,
 opI 80 (.bin .add (.t 79) (.c (.int .i64 1))),
 opI 81 (.idxs (.t 78) (.t 80)),
 mvI 82 7,
 opI 83 (.bin .eql (.t 81) (.t 82)),
 mvI 84 83,
 ⟨some 85, some (84, true), .p (.mv (.t 0))⟩,
 ⟨some 86, some (84, true), .p (.mv (.t 8))⟩,
 ⟨some 87, some (84, true), .p (.mv (.t 8))⟩,
 ⟨some 88, some (84, true), .p (.mv (.t 5))⟩,
 ⟨some 89, some (84, true), .p (.bin .add (.t 87) (.t 88))⟩,
 ⟨some 90, some (84, true), .p (.slcs (.t 85) (some (.t 86)) (some (.t 89)))⟩,
 ⟨some 91, some (84, true), .p (.mv (.t 1))⟩,
 ⟨some 92, some (84, true), .p (.bin .eql (.t 90) (.t 91))⟩,
 opI 93 (.pick (.t 84) (.t 92) (.c (.bool false)))]
def a6s : List AIns := [mvI 94 8,
 mvI 4 94]
def a6r : List AIns := [mvI 95 8,
 opI 96 (.bin .add (.t 95) (.c (.int .i64 1))),
 mvI 8 96]
def a6q : List AIns := [mvI 97 10,
 opI 98 (.bin .add (.t 97) (.c (.int .i64 1))),
 mvI 10 98]
def a6p : List AIns := [mvI 108 0,
 mvI 109 8,
 opI 110 (.slcs (.t 108) (some (.t 109)) none),
 mvI 111 1,
 ⟨some 112, none, .call a2k [(.t 110), (.t 111)]⟩,
 mvI 12 112]
def a6o : List AIns := [mvI 113 12,
 opI 114 (.bin .geq (.t 113) (.c (.int .i64 0)))]
def a6n : List AIns := [mvI 115 12,
 mvI 116 8,
 opI 117 (.bin .add (.t 115) (.t 116)),
 mvI 4 117]
def a6m : List AIns := [opI 4 (.mv (.c (.int .i64 (-1))))]
def a6l : List AIns := [mvI 133 0,
 mvI 134 8,
 opI 135 (.slcs (.t 133) (some (.t 134)) none),
 mvI 136 1,
 ⟨some 137, none, .call a2N [(.t 135), (.t 136)]⟩,
 mvI 13 137]
def a6k : List AIns := [mvI 138 13,
 opI 139 (.bin .lss (.t 138) (.c (.int .i64 0)))]
def a6j : List AIns := [opI 4 (.mv (.c (.int .i64 (-1))))]
def a6i : List AIns := [mvI 140 8,
 mvI 141 13,
 opI 142 (.bin .add (.t 140) (.t 141)),
 mvI 4 142]
noncomputable def a6R : ACode := .seq (.seq (rgI a6z) (.cond (.t 59) (.skip) (.exit 1))) (.block 2 (.seq (.seq (rgI a6y) (.cond (.t 64) (.seq (rgI a6x) (.seq (.seq (rgI a6w) (.cond (.t 73) (.seq (rgI a6v) (.ret)) (.skip))) (rgI a6u))) (.skip))) (.seq (.seq (rgI a6t) (.cond (.t 93) (.seq (rgI a6s) (.ret)) (.skip))) (.seq (rgI a6r) (.seq (rgI a6q) (.seq (.raw 25 (b1M Tryz.f87 25) false) (.cond (.t 107) (.seq (rgI a6p) (.seq (.seq (rgI a6o) (.cond (.t 114) (.seq (rgI a6n) (.ret)) (.skip))) (.seq (rgI a6m) (.ret)))) (.seq (.raw 30 (b1M Tryz.f87 30) false) (.cond (.t 132) (.seq (rgI a6l) (.seq (.seq (rgI a6k) (.cond (.t 139) (.seq (rgI a6j) (.ret)) (.skip))) (.seq (rgI a6i) (.ret)))) (.skip))))))))))
def a6h : List AIns := [opI 4 (.mv (.c (.int .i64 (-1))))]
noncomputable def a7D : ACode := .seq (rgI a0C) (.seq (rgI a0B) (.seq (.block 0 (.seq (rgI a0A) (.cond (.t 16) (.seq (rgI a1v) (.ret)) (.seq (rgI a1u) (.cond (.t 24) (.seq (rgI a1t) (.ret)) (.seq (rgI a6Q) (.cond (.t 31) (.seq (rgI a6P) (.ret)) (.seq (.raw 8 (b1M Tryz.f87 8) false) (.cond (.t 36) (.seq (rgI a6O) (.ret)) (.skip)))))))))) (.seq (rgI a6N) (.seq (rgI a6D) (.seq (rgI a6C) (.seq (rgI a6B) (.seq (rgI a6A) (.seq (.block 1 (.loop a6R)) (.seq (rgI a6h) (.ret))))))))))
theorem a0P : fchk Pr (fun _ _ => false) Tryz.f87 = some (a7D, [.tmp 4], 143) := by kernel_rfl
theorem a0Q : Pr.funcs[a0F]? = some Tryz.f87 := Tryz.func87
def a1x : List AIns := [mvI 8 1,
 opI 9 (.bin .add (.t 8) (.c (.int .i64 1))),
 mvI 6 9]
def a1w : List AIns := [mvI 10 6,
 mvI 11 2,
 opI 12 (.bin .lss (.t 10) (.t 11))]
def a3s : List AIns := [mvI 15 6,
 mvI 7 15]
def a3r : List AIns := [mvI 16 7,
 mvI 17 1,
 opI 18 (.bin .gtr (.t 16) (.t 17)),
 mvI 19 18,
 ⟨some 20, some (19, true), .p (.mv (.t 0))⟩,
 ⟨some 21, some (19, true), .p (.mv (.t 7))⟩,
 ⟨some 22, some (19, true), .p (.idxp 1 (.t 20) (.t 21))⟩,
 ⟨some 23, some (19, true), .p (.load none (.t 22))⟩,
 ⟨some 24, some (19, true), .p (.mv (.t 0))⟩,
 ⟨some 25, some (19, true), .p (.mv (.t 7))⟩,
 ⟨some 26, some (19, true), .p (.bin .sub (.t 25) (.c (.int .i64 1)))⟩,
 ⟨some 27, some (19, true), .p (.idxp 1 (.t 24) (.t 26))⟩,
 ⟨some 28, some (19, true), .p (.load none (.t 27))⟩,
 ⟨some 29, some (19, true), .call b0G [(.t 23), (.t 28)]⟩,
 opI 30 (.pick (.t 19) (.t 29) (.c (.bool false)))]
def a3q : List AIns := [mvI 33 0,
 mvI 34 7,
 mvI 35 0,
 mvI 36 7,
 opI 37 (.bin .sub (.t 36) (.c (.int .i64 1))),
 mvI 38 0,
 mvI 39 7,
 opI 40 (.bin .sub (.t 39) (.c (.int .i64 1))),
 opI 41 (.idxp 1 (.t 38) (.t 40)),
 opI 42 (.load none (.t 41)),
 mvI 43 0,
 mvI 44 7,
 opI 45 (.idxp 1 (.t 43) (.t 44)),
 opI 46 (.load none (.t 45)),
 opI 47 (.idxp 1 (.t 33) (.t 34)),
 ⟨none, none, .e (.store 1 (.t 47) (.t 42))⟩,
 opI 48 (.idxp 1 (.t 35) (.t 37)),
 ⟨none, none, .e (.store 1 (.t 48) (.t 46))⟩]
def a3p : List AIns := [mvI 31 7,
 opI 32 (.bin .sub (.t 31) (.c (.int .i64 1))),
 mvI 7 32]
def a3u : ACode := .seq (.seq (.region a3r true) (.cond (.t 30) (.skip) (.exit 2))) (.seq (.block 3 (.region a3q true)) (rgI a3p))
def a3o : List AIns := [mvI 13 6,
 opI 14 (.bin .add (.t 13) (.c (.int .i64 1))),
 mvI 6 14]
def a3v : ACode := .seq (.seq (rgI a1w) (.cond (.t 12) (.skip) (.exit 0))) (.seq (.block 1 (.seq (rgI a3s) (.block 2 (.loop a3u)))) (rgI a3o))
def a3B : ACode := .seq (rgI a1x) (.block 0 (.loop a3v))
theorem a3t : fchk Pr (fun _ _ => false) Tryz.f92 = some (a3B, [], 49) := by kernel_rfl
theorem a3w : Pr.funcs[a0O]? = some Tryz.f92 := Tryz.func92
end Go.Abs
set_option maxRecDepth 100000
noncomputable section
namespace Go.Abs
open Go.Proofs
def a9r : List AIns := [opI 2 (.mv (.c (.int .i64 0)))]
def a9q : List AIns := [mvI 3 0,
 opI 4 (.bin .geq (.t 3) (.c (.int .u32 65536)))]
def a9p : List AIns := [mvI 5 0,
 opI 6 (.bin .shr (.t 5) (.c (.int .u64 16))),
 mvI 0 6]
def a9o : List AIns := [opI 2 (.mv (.c (.int .i64 16)))]
def a4c : List AIns := [mvI 7 0,
 opI 8 (.bin .geq (.t 7) (.c (.int .u32 256)))]
def a4b : List AIns := [mvI 9 0,
 opI 10 (.bin .shr (.t 9) (.c (.int .u64 8))),
 mvI 0 10]
def a4a : List AIns := [mvI 11 2,
 opI 12 (.bin .add (.t 11) (.c (.int .i64 8))),
 mvI 2 12]
def a2K : List AIns := [mvI 13 2,
 mvI 14 0,
 opI 15 (.conv .u8 (.t 14)),
 opI 16 (.idxs (.c (.str c9d)) (.t 15)),
 opI 17 (.conv .i64 (.t 16)),
 opI 18 (.bin .add (.t 13) (.t 17)),
 mvI 2 18]
def b8m : ACode := .seq (rgI a9r) (.seq (.seq (rgI a9q) (.cond (.t 4) (.seq (rgI a9p) (rgI a9o)) (.skip))) (.seq (.seq (rgI a4c) (.cond (.t 8) (.seq (rgI a4b) (rgI a4a)) (.skip))) (.seq (rgI a2K) (.ret))))
theorem b6T : fchk Pr (fun _ _ => false) Tryz.f101 = some (b8m, [.tmp 2], 19) := by kernel_rfl
theorem b6U : Pr.funcs[a1m]? = some Tryz.f101 := Tryz.func101
def a9n : List AIns := [opI 2 (.mv (.c (.int .i64 0)))]
def a9m : List AIns := [mvI 3 0,
 opI 4 (.bin .geq (.t 3) (.c (.int .u64 4294967296)))]
def b6Q : List AIns := [mvI 5 0,
 opI 6 (.bin .shr (.t 5) (.c (.int .u64 32))),
 mvI 0 6]
def b6P : List AIns := [opI 2 (.mv (.c (.int .i64 32)))]
def a9l : List AIns := [mvI 7 0,
 opI 8 (.bin .geq (.t 7) (.c (.int .u64 65536)))]
def b6O : List AIns := [mvI 9 0,
 opI 10 (.bin .shr (.t 9) (.c (.int .u64 16))),
 mvI 0 10]
def b6N : List AIns := [mvI 11 2,
 opI 12 (.bin .add (.t 11) (.c (.int .i64 16))),
 mvI 2 12]
def a9k : List AIns := [mvI 13 0,
 opI 14 (.bin .geq (.t 13) (.c (.int .u64 256)))]
def b6M : List AIns := [mvI 15 0,
 opI 16 (.bin .shr (.t 15) (.c (.int .u64 8))),
 mvI 0 16]
def b6L : List AIns := [mvI 17 2,
 opI 18 (.bin .add (.t 17) (.c (.int .i64 8))),
 mvI 2 18]
def a8p : List AIns := [mvI 19 2,
 mvI 20 0,
 opI 21 (.conv .u8 (.t 20)),
 opI 22 (.idxs (.c (.str c9d)) (.t 21)),
 opI 23 (.conv .i64 (.t 22)),
 opI 24 (.bin .add (.t 19) (.t 23)),
 mvI 2 24]
def b8l : ACode := .seq (rgI a9n) (.seq (.seq (rgI a9m) (.cond (.t 4) (.seq (rgI b6Q) (rgI b6P)) (.skip))) (.seq (.seq (rgI a9l) (.cond (.t 8) (.seq (rgI b6O) (rgI b6N)) (.skip))) (.seq (.seq (rgI a9k) (.cond (.t 14) (.seq (rgI b6M) (rgI b6L)) (.skip))) (.seq (rgI a8p) (.ret)))))
theorem b6R : fchk Pr (fun _ _ => false) Tryz.f102 = some (b8l, [.tmp 2], 25) := by kernel_rfl
theorem b6S : Pr.funcs[a5R]? = some Tryz.f102 := Tryz.func102
def b9m : List AIns := [⟨some 1, none, .e (.box 2 (.t 0))⟩,
 opI 2 (.mv (.c (.int .i64 0)))]
def b9l : List AIns := [opI 4 (.fldp (.t 1) 1),
 opI 5 (.load none (.t 4)),
 ⟨some 6, none, .call b4j [(.t 5)]⟩,
 opI 7 (.bin .eql (.t 6) (.c (.int .i64 0))),
 mvI 3 7]
def b9k : List AIns := [opI 2 (.mv (.c (.int .i64 0)))]
def b9j : List AIns := [opI 9 (.fldp (.t 1) 0),
 opI 10 (.load none (.t 9)),
 mvI 8 10]
def b9i : List AIns := [opI 2 (.mv (.c (.int .i64 (-1))))]
def b9h : List AIns := [opI 2 (.mv (.c (.int .i64 1)))]
def d0J : ACode := .seq (rgI b9m) (.seq (.block 0 (.seq (rgI b9l) (.cond (.t 3) (.seq (rgI b9k) (.ret)) (.seq (rgI b9j) (.cond (.t 8) (.seq (rgI b9i) (.ret)) (.skip)))))) (.seq (rgI b9h) (.ret)))
theorem c8I : fchk Pr (fun _ _ => false) Tryz.f105 = some (d0J, [.tmp 2], 11) := by kernel_rfl
theorem c8J : Pr.funcs[a3M]? = some Tryz.f105 := Tryz.func105
def c3l : List AIns := [⟨some 2, none, .p (.mv (.c (.str ⟨#[]⟩)))⟩]
def c3k : List AIns := [mvI 9 0,
 ⟨some 10, none, .call b4i [(.t 9)]⟩,
 mvI 0 10]
def c3j : List AIns := [mvI 11 0,
 opI 12 (.len (.t 11)),
 opI 13 (.bin .eql (.t 12) (.c (.int .i64 0)))]
def c3i : List AIns := [⟨some 2, none, .p (.mv (.c (.str ⟨#[48]⟩)))⟩]
def c3h : List AIns := [opI 3 (.mv (.c (.nil)))]
def b5p : List AIns := [mvI 14 0,
 opI 15 (.len (.t 14)),
 opI 16 (.bin .gtr (.t 15) (.c (.int .i64 0)))]
def c3g : List AIns := [mvI 18 0,
 ⟨some 19, none, .call a8G [(.t 18), (.c (.int .u32 1000000000))]⟩,
 mvI 17 19,
 opI 20 (.ext (.t 17) 0),
 opI 21 (.ext (.t 17) 1),
 mvI 4 20,
 mvI 5 21]
def c3f : List AIns := [opI 6 (.mv (.c (.int .i64 0)))]
def a8m : List AIns := [mvI 22 6,
 opI 23 (.bin .lss (.t 22) (.c (.int .i64 9))),
 mvI 24 23,
 ⟨some 25, some (24, true), .p (.mv (.t 4))⟩,
 ⟨some 26, some (24, true), .p (.len (.t 25))⟩,
 ⟨some 27, some (24, true), .p (.bin .gtr (.t 26) (.c (.int .i64 0)))⟩,
 ⟨some 28, some (24, true), .p (.mv (.t 27))⟩,
 ⟨some 29, some (28, false), .p (.mv (.t 5))⟩,
 ⟨some 30, some (28, false), .p (.bin .gtr (.t 29) (.c (.int .u32 0)))⟩,
 ⟨some 31, some (24, true), .p (.pick (.t 28) (.c (.bool true)) (.t 30))⟩,
 opI 32 (.pick (.t 24) (.t 31) (.c (.bool false)))]
def b5o : List AIns := [mvI 35 3,
 mvI 36 5,
 opI 37 (.bin .rem (.t 36) (.c (.int .u32 10))),
 opI 38 (.bin .add (.c (.int .u32 48)) (.t 37)),
 opI 39 (.conv .u8 (.t 38)),
 ⟨some 40, none, .e (.bsl 1 [(.t 39)])⟩,
 ⟨some 41, none, .e (.app 1 1 false (.t 35) (.t 40))⟩,
 mvI 3 41]
def b3i : List AIns := [mvI 42 5,
 opI 43 (.bin .quo (.t 42) (.c (.int .u32 10))),
 mvI 5 43]
def b3h : List AIns := [mvI 33 6,
 opI 34 (.bin .add (.t 33) (.c (.int .i64 1))),
 mvI 6 34]
def c3m : ACode := .seq (.seq (rgI a8m) (.cond (.t 32) (.skip) (.exit 2))) (.seq (.block 3 (.seq (rgI b5o) (rgI b3i))) (rgI b3h))
def a9i : List AIns := [mvI 44 4,
 mvI 0 44]
def b5r : ACode := .seq (.seq (rgI b5p) (.cond (.t 16) (.skip) (.exit 0))) (.block 1 (.seq (rgI c3g) (.seq (.seq (rgI c3f) (.block 2 (.loop c3m))) (rgI a9i))))
def a9h : List AIns := [mvI 45 3,
 opI 46 (.len (.t 45)),
 opI 47 (.bin .sub (.t 46) (.c (.int .i64 1))),
 opI 7 (.mv (.c (.int .i64 0))),
 mvI 8 47]
def b3g : List AIns := [mvI 48 7,
 mvI 49 8,
 opI 50 (.bin .lss (.t 48) (.t 49))]
def b9Q : List AIns := [mvI 55 3,
 mvI 56 7,
 mvI 57 3,
 mvI 58 8,
 mvI 59 3,
 mvI 60 8,
 opI 61 (.idxp 1 (.t 59) (.t 60)),
 opI 62 (.load none (.t 61)),
 mvI 63 3,
 mvI 64 7,
 opI 65 (.idxp 1 (.t 63) (.t 64)),
 opI 66 (.load none (.t 65)),
 opI 67 (.idxp 1 (.t 55) (.t 56)),
 ⟨none, none, .e (.store 1 (.t 67) (.t 62))⟩,
 opI 68 (.idxp 1 (.t 57) (.t 58)),
 ⟨none, none, .e (.store 1 (.t 68) (.t 66))⟩]
def b9P : List AIns := [mvI 51 7,
 opI 52 (.bin .add (.t 51) (.c (.int .i64 1))),
 mvI 53 8,
 opI 54 (.bin .sub (.t 53) (.c (.int .i64 1))),
 mvI 7 52,
 mvI 8 54]
def b5q : ACode := .seq (.seq (rgI b3g) (.cond (.t 50) (.skip) (.exit 4))) (.seq (.block 5 (.region b9Q true)) (rgI b9P))
def a9g : List AIns := [mvI 69 3,
 opI 70 (.b2s (.t 69)),
 mvI 2 70]
def d4H : ACode := .seq (rgI c3l) (.seq (rgI c3k) (.seq (.seq (rgI c3j) (.cond (.t 13) (.seq (rgI c3i) (.ret)) (.skip))) (.seq (rgI c3h) (.seq (.block 0 (.loop b5r)) (.seq (.seq (rgI a9h) (.block 4 (.loop b5q))) (.seq (rgI a9g) (.ret)))))))
theorem d1n : fchk Pr (fun _ _ => false) Tryz.f106 = some (d4H, [.tmp 2], 71) := by kernel_rfl
theorem d1o : Pr.funcs[a7W]? = some Tryz.f106 := Tryz.func106
def c9Q : List AIns := [⟨some 4, none, .e (.box 2 (.c (.agg [.nil, .nil])))⟩,
 opI 5 (.mv (.c (.int .i64 0)))]
def c9P : List AIns := [mvI 9 0,
 mvI 10 1,
 ⟨some 11, none, .call a9Q [(.t 9), (.t 10)]⟩,
 mvI 6 11]
def c4x : List AIns := [mvI 12 6,
 opI 13 (.bin .neq (.t 12) (.c (.int .i64 0)))]
def c9O : List AIns := [opI 14 (.bld [.nil, .nil] []),
 mvI 15 6,
 ⟨none, none, .e (.store 2 (.t 4) (.t 14))⟩,
 mvI 5 15]
def c9N : List AIns := [mvI 17 0,
 ⟨some 18, none, .call b5W [(.t 17)]⟩,
 mvI 16 18,
 opI 19 (.ext (.t 16) 0),
 opI 20 (.ext (.t 16) 1),
 ⟨some 7, none, .e (.box 2 (.c (.agg [.nil, .nil])))⟩,
 ⟨none, none, .e (.store 2 (.t 7) (.t 19))⟩,
 mvI 8 20]
def c4w : List AIns := [mvI 21 8,
 opI 22 (.un .not (.t 21))]
def c9M : List AIns := [opI 23 (.bld [.nil, .nil] []),
 ⟨none, none, .e (.store 2 (.t 4) (.t 23))⟩,
 opI 5 (.mv (.c (.int .i64 50)))]
def c9L : List AIns := [opI 24 (.load (some 2) (.t 7)),
 ⟨none, none, .e (.store 2 (.t 4) (.t 24))⟩,
 opI 5 (.mv (.c (.int .i64 0)))]
def e0I : ACode := .seq (rgI c9Q) (.seq (.seq (rgI c9P) (.seq (rgI c4x) (.cond (.t 13) (.seq (rgI c9O) (.ret)) (.skip)))) (.seq (rgI c9N) (.seq (.seq (rgI c4w) (.cond (.t 22) (.seq (rgI c9M) (.ret)) (.skip))) (.seq (rgI c9L) (.ret)))))
theorem d7Q : fchk Pr (fun _ _ => false) Tryz.f108 = some (e0I, [.cell 4 (some 2), .tmp 5], 25) := by kernel_rfl
theorem d7R : Pr.funcs[c8C]? = some Tryz.f108 := Tryz.func108
def b9b : List AIns := [⟨some 4, none, .e (.box 2 (.c (.agg [.bool false, .nil])))⟩]
def b9a : List AIns := [mvI 7 1,
 opI 8 (.len (.t 7)),
 mvI 5 8]
def b2z : List AIns := [mvI 9 5,
 opI 10 (.bin .gtr (.t 9) (.c (.int .i64 0))),
 mvI 11 10,
 ⟨some 12, some (11, true), .p (.mv (.t 1))⟩,
 ⟨some 13, some (11, true), .p (.mv (.t 5))⟩,
 ⟨some 14, some (11, true), .p (.bin .sub (.t 13) (.c (.int .i64 1)))⟩,
 ⟨some 15, some (11, true), .p (.idxp 1 (.t 12) (.t 14))⟩,
 ⟨some 16, some (11, true), .p (.load none (.t 15))⟩,
 ⟨some 17, some (11, true), .p (.bin .eql (.t 16) (.c (.int .u32 0)))⟩,
 opI 18 (.pick (.t 11) (.t 17) (.c (.bool false)))]
def b8Z : List AIns := [mvI 19 5,
 opI 20 (.bin .sub (.t 19) (.c (.int .i64 1))),
 mvI 5 20]
def b9c : ACode := .seq (.seq (rgI b2z) (.cond (.t 18) (.skip) (.exit 0))) (.block 1 (rgI b8Z))
def a8Z : List AIns := [mvI 21 5,
 opI 22 (.bin .eql (.t 21) (.c (.int .i64 0)))]
def a8Y : List AIns := [opI 23 (.bld [.bool false, .nil] []),
 ⟨none, none, .e (.store 2 (.t 4) (.t 23))⟩]
def a8X : List AIns := [mvI 24 5,
 ⟨some 25, none, .e (.mksl 1 4 (.int .u32 0) (.t 24) (.t 24))⟩,
 mvI 6 25]
def a8W : List AIns := [mvI 26 6,
 mvI 27 1,
 ⟨some 28, none, .e (.cpy 1 (.t 26) (.t 27))⟩]
def a8V : List AIns := [mvI 29 0,
 mvI 30 6,
 opI 31 (.bld [.bool false, .nil] [(0, 1, (.t 29)), (1, 1, (.t 30))]),
 ⟨none, none, .e (.store 2 (.t 4) (.t 31))⟩]
def d0F : ACode := .seq (rgI b9b) (.seq (rgI b9a) (.seq (.block 0 (.loop b9c)) (.seq (.seq (rgI a8Z) (.cond (.t 22) (.seq (rgI a8Y) (.ret)) (.skip))) (.seq (rgI a8X) (.seq (rgI a8W) (.seq (rgI a8V) (.ret)))))))
theorem c8G : fchk Pr (fun _ _ => false) Tryz.f109 = some (d0F, [.cell 4 (some 2)], 32) := by kernel_rfl
theorem c8H : Pr.funcs[a1l]? = some Tryz.f109 := Tryz.func109
def c6M : List AIns := [opI 4 (.mv (.c (.nil)))]
def c6L : List AIns := [mvI 8 0,
 opI 9 (.len (.t 8)),
 mvI 10 1,
 opI 11 (.len (.t 10)),
 opI 12 (.bin .lss (.t 9) (.t 11))]
def c6K : List AIns := [mvI 13 1,
 mvI 14 0,
 mvI 0 13,
 mvI 1 14]
def b8h : List AIns := [mvI 15 0,
 opI 16 (.len (.t 15)),
 opI 17 (.bin .add (.t 16) (.c (.int .i64 1))),
 ⟨some 18, none, .e (.mksl 1 4 (.int .u32 0) (.t 17) (.t 17))⟩,
 mvI 5 18]
def b8g : List AIns := [opI 6 (.mv (.c (.int .u64 0)))]
def b8f : List AIns := [mvI 19 0,
 opI 20 (.len (.t 19)),
 opI 21 (.mv (.c (.int .i64 0)))]
def b8e : List AIns := [opI 22 (.bin .lss (.t 21) (.t 20))]
def c6J : List AIns := [mvI 23 21,
 mvI 7 23]
def c6I : List AIns := [mvI 24 6,
 mvI 25 0,
 mvI 26 7,
 opI 27 (.idxp 1 (.t 25) (.t 26)),
 opI 28 (.load none (.t 27)),
 opI 29 (.conv .u64 (.t 28)),
 opI 30 (.bin .add (.t 24) (.t 29)),
 mvI 6 30]
def c6H : List AIns := [mvI 31 7,
 mvI 32 1,
 opI 33 (.len (.t 32)),
 opI 34 (.bin .lss (.t 31) (.t 33))]
def c3K : List AIns := [mvI 35 6,
 mvI 36 1,
 mvI 37 7,
 opI 38 (.idxp 1 (.t 36) (.t 37)),
 opI 39 (.load none (.t 38)),
 opI 40 (.conv .u64 (.t 39)),
 opI 41 (.bin .add (.t 35) (.t 40)),
 mvI 6 41]
def b5x : List AIns := [mvI 42 5,
 mvI 43 7,
 mvI 44 6,
 opI 45 (.conv .u32 (.t 44)),
 opI 46 (.idxp 1 (.t 42) (.t 43)),
 ⟨none, none, .e (.store 1 (.t 46) (.t 45))⟩]
def b5w : List AIns := [mvI 47 6,
 opI 48 (.bin .shr (.t 47) (.c (.int .u64 32))),
 mvI 6 48]
def b5v : List AIns := [opI 49 (.bin .add (.t 21) (.c (.int .i64 1))),
 mvI 21 49]
def b3Y : ACode := .seq (rgI b8e) (.seq (.cond (.t 22) (.skip) (.exit 0)) (.seq (.block 1 (.seq (rgI c6J) (.seq (rgI c6I) (.seq (.seq (rgI c6H) (.cond (.t 34) (rgI c3K) (.skip))) (.seq (rgI b5x) (rgI b5w)))))) (rgI b5v)))
def a8o : List AIns := [mvI 50 5,
 mvI 51 0,
 opI 52 (.len (.t 51)),
 mvI 53 6,
 opI 54 (.conv .u32 (.t 53)),
 opI 55 (.idxp 1 (.t 50) (.t 52)),
 ⟨none, none, .e (.store 1 (.t 55) (.t 54))⟩]
def a8n : List AIns := [mvI 56 5,
 ⟨some 57, none, .call a0t [(.t 56)]⟩,
 mvI 4 57]
def d7d : ACode := .seq (rgI c6M) (.seq (.seq (rgI c6L) (.cond (.t 12) (rgI c6K) (.skip))) (.seq (rgI b8h) (.seq (rgI b8g) (.seq (.seq (rgI b8f) (.block 0 (.loop b3Y))) (.seq (rgI a8o) (.seq (rgI a8n) (.ret)))))))
theorem d4V : fchk Pr (fun _ _ => false) Tryz.f110 = some (d7d, [.tmp 4], 58) := by kernel_rfl
theorem d4W : Pr.funcs[a8I]? = some Tryz.f110 := Tryz.func110
def c6F : List AIns := [opI 4 (.mv (.c (.int .i64 0)))]
def c6E : List AIns := [mvI 6 0,
 ⟨some 7, none, .call a0t [(.t 6)]⟩,
 mvI 8 1,
 ⟨some 9, none, .call a0t [(.t 8)]⟩,
 mvI 0 7,
 mvI 1 9]
def c6D : List AIns := [mvI 10 0,
 opI 11 (.len (.t 10)),
 mvI 12 1,
 opI 13 (.len (.t 12)),
 opI 14 (.bin .neq (.t 11) (.t 13))]
def c6C : List AIns := [mvI 15 0,
 opI 16 (.len (.t 15)),
 mvI 17 1,
 opI 18 (.len (.t 17)),
 opI 19 (.bin .lss (.t 16) (.t 18))]
def c6B : List AIns := [opI 4 (.mv (.c (.int .i64 (-1))))]
def c6A : List AIns := [opI 4 (.mv (.c (.int .i64 1)))]
def c6z : List AIns := [mvI 20 0,
 opI 21 (.len (.t 20)),
 opI 22 (.bin .sub (.t 21) (.c (.int .i64 1))),
 mvI 5 22]
def b8d : List AIns := [mvI 23 5,
 opI 24 (.bin .geq (.t 23) (.c (.int .i64 0)))]
def c6y : List AIns := [mvI 27 0,
 mvI 28 5,
 opI 29 (.idxp 1 (.t 27) (.t 28)),
 opI 30 (.load none (.t 29)),
 mvI 31 1,
 mvI 32 5,
 opI 33 (.idxp 1 (.t 31) (.t 32)),
 opI 34 (.load none (.t 33)),
 opI 35 (.bin .neq (.t 30) (.t 34))]
def c6x : List AIns := [mvI 36 0,
 mvI 37 5,
 opI 38 (.idxp 1 (.t 36) (.t 37)),
 opI 39 (.load none (.t 38)),
 mvI 40 1,
 mvI 41 5,
 opI 42 (.idxp 1 (.t 40) (.t 41)),
 opI 43 (.load none (.t 42)),
 opI 44 (.bin .lss (.t 39) (.t 43))]
def c3E : List AIns := [opI 4 (.mv (.c (.int .i64 (-1))))]
def c3D : List AIns := [opI 4 (.mv (.c (.int .i64 1)))]
def c3C : List AIns := [mvI 25 5,
 opI 26 (.bin .sub (.t 25) (.c (.int .i64 1))),
 mvI 5 26]
def c6G : ACode := .seq (.seq (rgI b8d) (.cond (.t 24) (.skip) (.exit 0))) (.seq (.block 1 (.seq (.region c6y true) (.cond (.t 35) (.seq (.seq (.region c6x true) (.cond (.t 44) (.seq (rgI c3E) (.ret)) (.skip))) (.seq (rgI c3D) (.ret))) (.skip)))) (rgI c3C))
def b5u : List AIns := [opI 4 (.mv (.c (.int .i64 0)))]
def d7c : ACode := .seq (rgI c6F) (.seq (rgI c6E) (.seq (.seq (rgI c6D) (.cond (.t 14) (.seq (.seq (rgI c6C) (.cond (.t 19) (.seq (rgI c6B) (.ret)) (.skip))) (.seq (rgI c6A) (.ret))) (.skip))) (.seq (.seq (rgI c6z) (.block 0 (.loop c6G))) (.seq (rgI b5u) (.ret)))))
theorem d4S : fchk Pr (fun _ _ => false) Tryz.f111 = some (d7c, [.tmp 4], 45) := by kernel_rfl
theorem d4T : Pr.funcs[b0F]? = some Tryz.f111 := Tryz.func111
def c6e : List AIns := [opI 4 (.mv (.c (.nil))),
 opI 5 (.mv (.c (.int .i64 0)))]
def c6d : List AIns := [mvI 6 0,
 mvI 7 1,
 ⟨some 8, none, .call b0F [(.t 6), (.t 7)]⟩,
 opI 9 (.bin .lss (.t 8) (.c (.int .i64 0)))]
def d4I : List AIns := [opI 4 (.mv (.c (.nil))),
 opI 5 (.mv (.c (.int .i64 10)))]
def c6c : List AIns := [mvI 10 0,
 ⟨some 11, none, .call a0t [(.t 10)]⟩,
 mvI 12 1,
 ⟨some 13, none, .call a0t [(.t 12)]⟩,
 ⟨some 14, none, .call b0E [(.t 11), (.t 13)]⟩,
 mvI 4 14,
 opI 5 (.mv (.c (.int .i64 0)))]
def d6Z : ACode := .seq (rgI c6e) (.seq (.seq (rgI c6d) (.cond (.t 9) (.seq (rgI d4I) (.ret)) (.skip))) (.seq (rgI c6c) (.ret)))
theorem d4J : fchk Pr (fun _ _ => false) Tryz.f112 = some (d6Z, [.tmp 4, .tmp 5], 15) := by kernel_rfl
theorem d4K : Pr.funcs[c5f]? = some Tryz.f112 := Tryz.func112
def c6m : List AIns := [opI 4 (.mv (.c (.nil)))]
def c6l : List AIns := [mvI 9 0,
 ⟨some 10, none, .call a0t [(.t 9)]⟩,
 mvI 11 1,
 ⟨some 12, none, .call a0t [(.t 11)]⟩,
 mvI 0 10,
 mvI 1 12]
def c6k : List AIns := [mvI 13 0,
 opI 14 (.len (.t 13)),
 mvI 15 1,
 opI 16 (.len (.t 15)),
 opI 17 (.bin .add (.t 14) (.t 16)),
 ⟨some 18, none, .e (.mksl 1 4 (.int .u32 0) (.t 17) (.t 17))⟩,
 mvI 5 18]
def c6j : List AIns := [mvI 19 0,
 opI 20 (.len (.t 19)),
 opI 21 (.mv (.c (.int .i64 0)))]
def b8b : List AIns := [opI 22 (.bin .lss (.t 21) (.t 20))]
def c6i : List AIns := [mvI 23 21,
 mvI 6 23]
def c6h : List AIns := [opI 7 (.mv (.c (.int .u64 0)))]
def c6g : List AIns := [mvI 24 1,
 opI 25 (.len (.t 24)),
 opI 26 (.mv (.c (.int .i64 0)))]
def b8a : List AIns := [opI 27 (.bin .lss (.t 26) (.t 25))]
def c6f : List AIns := [mvI 28 26,
 mvI 8 28]
def c3u : List AIns := [mvI 29 7,
 mvI 30 0,
 mvI 31 6,
 opI 32 (.idxp 1 (.t 30) (.t 31)),
 opI 33 (.load none (.t 32)),
 opI 34 (.conv .u64 (.t 33)),
 mvI 35 1,
 mvI 36 8,
 opI 37 (.idxp 1 (.t 35) (.t 36)),
 opI 38 (.load none (.t 37)),
 opI 39 (.conv .u64 (.t 38)),
 opI 40 (.bin .mul (.t 34) (.t 39)),
 mvI 41 5,
 mvI 42 6,
 mvI 43 8,
 opI 44 (.bin .add (.t 42) (.t 43)),
 opI 45 (.idxp 1 (.t 41) (.t 44)),
 opI 46 (.load none (.t 45)),
 opI 47 (.conv .u64 (.t 46)),
 opI 48 (.bin .add (.t 40) (.t 47)),
 opI 49 (.bin .add (.t 29) (.t 48)),
 mvI 7 49]
def c3t : List AIns := [mvI 50 5,
 mvI 51 6,
 mvI 52 8,
 opI 53 (.bin .add (.t 51) (.t 52)),
 mvI 54 7,
 opI 55 (.conv .u32 (.t 54)),
 opI 56 (.idxp 1 (.t 50) (.t 53)),
 ⟨none, none, .e (.store 1 (.t 56) (.t 55))⟩]
def c3s : List AIns := [mvI 57 7,
 opI 58 (.bin .shr (.t 57) (.c (.int .u64 32))),
 mvI 7 58]
def c3r : List AIns := [opI 59 (.bin .add (.t 26) (.c (.int .i64 1))),
 mvI 26 59]
def c6n : ACode := .seq (rgI b8a) (.seq (.cond (.t 27) (.skip) (.exit 2)) (.seq (.block 3 (.seq (rgI c6f) (.seq (.region c3u true) (.seq (rgI c3t) (rgI c3s))))) (rgI c3r)))
def c3q : List AIns := [mvI 60 5,
 mvI 61 6,
 mvI 62 1,
 opI 63 (.len (.t 62)),
 opI 64 (.bin .add (.t 61) (.t 63)),
 mvI 65 7,
 opI 66 (.conv .u32 (.t 65)),
 opI 67 (.idxp 1 (.t 60) (.t 64)),
 ⟨none, none, .e (.store 1 (.t 67) (.t 66))⟩]
def c3p : List AIns := [opI 68 (.bin .add (.t 21) (.c (.int .i64 1))),
 mvI 21 68]
def c6o : ACode := .seq (rgI b8b) (.seq (.cond (.t 22) (.skip) (.exit 0)) (.seq (.block 1 (.seq (rgI c6i) (.seq (rgI c6h) (.seq (.seq (rgI c6g) (.block 2 (.loop c6n))) (rgI c3q))))) (rgI c3p)))
def b5s : List AIns := [mvI 69 5,
 ⟨some 70, none, .call a0t [(.t 69)]⟩,
 mvI 4 70]
def d7a : ACode := .seq (rgI c6m) (.seq (rgI c6l) (.seq (rgI c6k) (.seq (.seq (rgI c6j) (.block 0 (.loop c6o))) (.seq (rgI b5s) (.ret)))))
theorem d4M : fchk Pr (fun _ _ => false) Tryz.f113 = some (d7a, [.tmp 4], 71) := by kernel_rfl
theorem d4N : Pr.funcs[a8H]? = some Tryz.f113 := Tryz.func113
def a0X : List AIns := [opI 4 (.mv (.c (.bool false)))]
def a0W : List AIns := [mvI 5 0,
 opI 6 (.lens (.t 5)),
 mvI 7 1,
 opI 8 (.lens (.t 7)),
 opI 9 (.bin .geq (.t 6) (.t 8)),
 mvI 10 9,
 ⟨some 11, some (10, true), .p (.mv (.t 0))⟩,
 ⟨some 12, some (10, true), .p (.mv (.t 1))⟩,
 ⟨some 13, some (10, true), .p (.lens (.t 12))⟩,
 ⟨some 14, some (10, true), .p (.slcs (.t 11) none (some (.t 13)))⟩,
 ⟨some 15, some (10, true), .p (.mv (.t 1))⟩,
 ⟨some 16, some (10, true), .p (.bin .eql (.t 14) (.t 15))⟩,
 opI 17 (.pick (.t 10) (.t 16) (.c (.bool false))),
 mvI 4 17]
def a4Y : ACode := .seq (rgI a0X) (.seq (rgI a0W) (.ret))
theorem a1Q : fchk Pr (fun _ _ => false) Tryz.f121 = some (a4Y, [.tmp 4], 18) := by kernel_rfl
theorem a1R : Pr.funcs[a1i]? = some Tryz.f121 := Tryz.func121
def a8f : List AIns := [opI 8 (.mv (.c (.nil)))]
def a8e : List AIns := [mvI 12 3,
 opI 13 (.bin .eql (.t 12) (.c (.int .i64 0)))]
def b4S : List AIns := [opI 8 (.mv (.c (.nil)))]
def a8d : List AIns := [mvI 14 1,
 ⟨some 15, none, .p (.bin .eql (.t 14) (.c (.str ⟨#[]⟩)))⟩]
def b4R : List AIns := [mvI 16 0,
 mvI 17 3,
 ⟨some 18, none, .call b8V [(.t 16), (.t 17)]⟩,
 mvI 8 18]
def a8c : List AIns := [mvI 19 3,
 opI 20 (.bin .lss (.t 19) (.c (.int .i64 0)))]
def a8b : List AIns := [mvI 21 0,
 mvI 22 1,
 ⟨some 23, none, .call b3W [(.t 21), (.t 22)]⟩,
 opI 24 (.bin .add (.t 23) (.c (.int .i64 1))),
 mvI 3 24]
def a8a : List AIns := [mvI 25 3,
 mvI 26 0,
 opI 27 (.lens (.t 26)),
 opI 28 (.bin .add (.t 27) (.c (.int .i64 1))),
 opI 29 (.mnx false (.t 25) (.t 28)),
 mvI 3 29]
def a7Z : List AIns := [mvI 30 3,
 ⟨some 31, none, .e (.mksl 1 16 (.str ⟨#[]⟩) (.t 30) (.t 30))⟩,
 mvI 9 31]
def a7Y : List AIns := [mvI 32 3,
 opI 33 (.bin .sub (.t 32) (.c (.int .i64 1))),
 mvI 3 33]
def a7f : List AIns := [opI 10 (.mv (.c (.int .i64 0)))]
def a3n : List AIns := [mvI 34 10,
 mvI 35 3,
 opI 36 (.bin .lss (.t 34) (.t 35))]
def a7e : List AIns := [mvI 37 0,
 mvI 38 1,
 ⟨some 39, none, .call a8F [(.t 37), (.t 38)]⟩,
 mvI 11 39]
def a7d : List AIns := [mvI 40 11,
 opI 41 (.bin .lss (.t 40) (.c (.int .i64 0)))]
def a7c : List AIns := [mvI 42 9,
 mvI 43 10,
 mvI 44 0,
 mvI 45 11,
 mvI 46 2,
 opI 47 (.bin .add (.t 45) (.t 46)),
 opI 48 (.slcs (.t 44) none (some (.t 47))),
 opI 49 (.idxp 1 (.t 42) (.t 43)),
 ⟨none, none, .e (.store 1 (.t 49) (.t 48))⟩]
def a7b : List AIns := [mvI 50 0,
 mvI 51 11,
 mvI 52 1,
 opI 53 (.lens (.t 52)),
 opI 54 (.bin .add (.t 51) (.t 53)),
 opI 55 (.slcs (.t 50) (some (.t 54)) none),
 mvI 0 55]
def a7a : List AIns := [mvI 56 10,
 opI 57 (.bin .add (.t 56) (.c (.int .i64 1))),
 mvI 10 57]
def b4U : ACode := .seq (.seq (rgI a3n) (.cond (.t 36) (.skip) (.exit 0))) (.block 1 (.seq (rgI a7e) (.seq (.seq (rgI a7d) (.cond (.t 41) (.exit 0) (.skip))) (.seq (rgI a7c) (.seq (rgI a7b) (rgI a7a))))))
def a6Z : List AIns := [mvI 58 9,
 mvI 59 10,
 mvI 60 0,
 opI 61 (.idxp 1 (.t 58) (.t 59)),
 ⟨none, none, .e (.store 1 (.t 61) (.t 60))⟩]
def a6Y : List AIns := [mvI 62 9,
 mvI 63 10,
 opI 64 (.bin .add (.t 63) (.c (.int .i64 1))),
 opI 65 (.slc 1 (.t 62) none (some (.t 64)) none),
 mvI 8 65]
def b6t : ACode := .seq (rgI a8f) (.seq (.seq (rgI a8e) (.cond (.t 13) (.seq (rgI b4S) (.ret)) (.skip))) (.seq (.seq (rgI a8d) (.cond (.t 15) (.seq (rgI b4R) (.ret)) (.skip))) (.seq (.seq (rgI a8c) (.cond (.t 20) (rgI a8b) (.skip))) (.seq (rgI a8a) (.seq (rgI a7Z) (.seq (rgI a7Y) (.seq (rgI a7f) (.seq (.block 0 (.loop b4U)) (.seq (rgI a6Z) (.seq (rgI a6Y) (.ret)))))))))))
theorem b4T : fchk Pr (fun _ _ => false) Tryz.f122 = some (b6t, [.tmp 8], 66) := by kernel_rfl
theorem b4V : Pr.funcs[a4A]? = some Tryz.f122 := Tryz.func122
def c3J : List AIns := [opI 2 (.mv (.c (.int .i64 0)))]
def c3I : List AIns := [mvI 3 0,
 ⟨some 4, none, .call a0t [(.t 3)]⟩,
 mvI 0 4]
def c3H : List AIns := [mvI 5 0,
 opI 6 (.len (.t 5)),
 opI 7 (.bin .eql (.t 6) (.c (.int .i64 0)))]
def c3G : List AIns := [opI 2 (.mv (.c (.int .i64 0)))]
def c3F : List AIns := [mvI 8 0,
 opI 9 (.len (.t 8)),
 opI 10 (.bin .sub (.t 9) (.c (.int .i64 1))),
 opI 11 (.bin .mul (.c (.int .i64 32)) (.t 10)),
 mvI 12 0,
 mvI 13 0,
 opI 14 (.len (.t 13)),
 opI 15 (.bin .sub (.t 14) (.c (.int .i64 1))),
 opI 16 (.idxp 1 (.t 12) (.t 15)),
 opI 17 (.load none (.t 16)),
 ⟨some 18, none, .call a1m [(.t 17)]⟩,
 opI 19 (.bin .add (.t 11) (.t 18)),
 mvI 2 19]
def d4U : ACode := .seq (rgI c3J) (.seq (rgI c3I) (.seq (.seq (rgI c3H) (.cond (.t 7) (.seq (rgI c3G) (.ret)) (.skip))) (.seq (rgI c3F) (.ret))))
theorem d1r : fchk Pr (fun _ _ => false) Tryz.f137 = some (d4U, [.tmp 2], 20) := by kernel_rfl
theorem d1s : Pr.funcs[b4j]? = some Tryz.f137 := Tryz.func137
def c3o : List AIns := [opI 2 (.mv (.c (.nil)))]
def c3n : List AIns := [mvI 3 0,
 ⟨some 4, none, .call a0t [(.t 3)]⟩,
 ⟨some 5, none, .e (.app 1 4 false (.c (.nil)) (.t 4))⟩,
 mvI 2 5]
def d4L : ACode := .seq (rgI c3o) (.seq (rgI c3n) (.ret))
theorem d1p : fchk Pr (fun _ _ => false) Tryz.f138 = some (d4L, [.tmp 2], 6) := by kernel_rfl
theorem d1q : Pr.funcs[b4i]? = some Tryz.f138 := Tryz.func138
def b3b : List AIns := [opI 4 (.mv (.c (.nil))),
 opI 5 (.mv (.c (.int .u32 0)))]
def b3a : List AIns := [mvI 9 0,
 opI 10 (.len (.t 9)),
 ⟨some 11, none, .e (.mksl 1 4 (.int .u32 0) (.t 10) (.t 10))⟩,
 mvI 6 11]
def b2Z : List AIns := [opI 7 (.mv (.c (.int .u64 0)))]
def b2Y : List AIns := [mvI 12 0,
 opI 13 (.len (.t 12)),
 opI 14 (.bin .sub (.t 13) (.c (.int .i64 1))),
 mvI 8 14]
def a6e : List AIns := [mvI 15 8,
 opI 16 (.bin .geq (.t 15) (.c (.int .i64 0)))]
def b2X : List AIns := [mvI 19 7,
 opI 20 (.bin .shl (.t 19) (.c (.int .u64 32))),
 mvI 21 0,
 mvI 22 8,
 opI 23 (.idxp 1 (.t 21) (.t 22)),
 opI 24 (.load none (.t 23)),
 opI 25 (.conv .u64 (.t 24)),
 opI 26 (.bin .or (.t 20) (.t 25)),
 mvI 7 26]
def b2W : List AIns := [mvI 27 6,
 mvI 28 8,
 mvI 29 7,
 mvI 30 1,
 opI 31 (.conv .u64 (.t 30)),
 opI 32 (.bin .quo (.t 29) (.t 31)),
 opI 33 (.conv .u32 (.t 32)),
 opI 34 (.idxp 1 (.t 27) (.t 28)),
 ⟨none, none, .e (.store 1 (.t 34) (.t 33))⟩]
def b2V : List AIns := [mvI 35 7,
 mvI 36 1,
 opI 37 (.conv .u64 (.t 36)),
 opI 38 (.bin .rem (.t 35) (.t 37)),
 mvI 7 38]
def b2U : List AIns := [mvI 17 8,
 opI 18 (.bin .sub (.t 17) (.c (.int .i64 1))),
 mvI 8 18]
def c9t : ACode := .seq (.seq (rgI a6e) (.cond (.t 16) (.skip) (.exit 0))) (.seq (.block 1 (.seq (rgI b2X) (.seq (rgI b2W) (rgI b2V)))) (rgI b2U))
def b2T : List AIns := [mvI 39 6,
 ⟨some 40, none, .call a0t [(.t 39)]⟩,
 mvI 41 7,
 opI 42 (.conv .u32 (.t 41)),
 mvI 4 40,
 mvI 5 42]
def d1j : ACode := .seq (rgI b3b) (.seq (rgI b3a) (.seq (rgI b2Z) (.seq (.seq (rgI b2Y) (.block 0 (.loop c9t))) (.seq (rgI b2T) (.ret)))))
theorem b9E : fchk Pr (fun _ _ => false) Tryz.f139 = some (d1j, [.tmp 4, .tmp 5], 43) := by kernel_rfl
theorem b9F : Pr.funcs[a8G]? = some Tryz.f139 := Tryz.func139
def b7c : List AIns := [opI 4 (.mv (.c (.int .i64 0)))]
def a7I : List AIns := [mvI 11 0,
 opI 12 (.len (.t 11)),
 opI 13 (.bin .gtr (.t 12) (.c (.int .i64 12))),
 mvI 14 13,
 ⟨some 15, some (14, false), .p (.mv (.t 1))⟩,
 ⟨some 16, some (14, false), .p (.mv (.t 15))⟩,
 ⟨some 17, some (16, true), .p (.mv (.t 0))⟩,
 ⟨some 18, some (16, true), .call b8W [(.t 17)]⟩,
 ⟨some 19, some (16, true), .p (.bin .gtr (.t 18) (.c (.int .i64 256)))⟩,
 ⟨some 20, some (14, false), .p (.pick (.t 16) (.t 19) (.c (.bool false)))⟩,
 opI 21 (.pick (.t 14) (.c (.bool true)) (.t 20)),
 mvI 5 21]
def b1m : List AIns := [mvI 22 0,
 opI 23 (.len (.t 22)),
 opI 24 (.mv (.c (.int .i64 0)))]
def b1l : List AIns := [opI 25 (.bin .lss (.t 24) (.t 23))]
def b7b : List AIns := [opI 26 (.idxp 1 (.t 22) (.t 24)),
 opI 27 (.load none (.t 26)),
 mvI 7 27]
def a7H : List AIns := [mvI 28 5,
 mvI 29 28,
 ⟨some 30, some (29, false), .p (.mv (.t 7))⟩,
 ⟨some 31, some (29, false), .p (.len (.t 30))⟩,
 ⟨some 32, some (29, false), .p (.bin .gtr (.t 31) (.c (.int .i64 12)))⟩,
 opI 33 (.pick (.t 29) (.c (.bool true)) (.t 32)),
 mvI 5 33]
def a7G : List AIns := [opI 34 (.bin .add (.t 24) (.c (.int .i64 1))),
 mvI 24 34]
def b7d : ACode := .seq (rgI b1l) (.seq (.cond (.t 25) (.skip) (.exit 0)) (.seq (.block 1 (.seq (rgI b7b) (rgI a7H))) (rgI a7G)))
def a7F : List AIns := [mvI 35 5]
def b1k : List AIns := [opI 4 (.mv (.c (.int .i64 40)))]
def a7E : List AIns := [mvI 36 0,
 opI 37 (.len (.t 36)),
 opI 38 (.bin .eql (.t 37) (.c (.int .i64 0)))]
def a9V : List AIns := [opI 4 (.mv (.c (.int .i64 41)))]
def a5V : List AIns := [mvI 40 0,
 ⟨some 41, none, .call b1F [(.t 40)]⟩,
 mvI 39 41,
 opI 42 (.ext (.t 39) 0),
 opI 43 (.ext (.t 39) 1),
 opI 44 (.ext (.t 39) 2),
 mvI 8 42,
 mvI 9 43,
 mvI 10 44]
def a5U : List AIns := [mvI 45 10,
 mvI 4 45]
def c9K : ACode := .seq (rgI b7c) (.seq (rgI a7I) (.seq (.seq (rgI b1m) (.block 0 (.loop b7d))) (.seq (.seq (rgI a7F) (.cond (.t 35) (.seq (rgI b1k) (.ret)) (.skip))) (.seq (.seq (rgI a7E) (.cond (.t 38) (.seq (rgI a9V) (.ret)) (.skip))) (.seq (rgI a5V) (.seq (rgI a5U) (.ret)))))))
theorem c8g : fchk Pr (fun _ _ => false) Tryz.f140 = some (c9K, [.tmp 4], 46) := by kernel_rfl
theorem c8h : Pr.funcs[a9Q]? = some Tryz.f140 := Tryz.func140
def c0h : List AIns := [⟨some 2, none, .e (.box 2 (.c (.agg [.nil, .nil])))⟩,
 opI 3 (.mv (.c (.bool false)))]
def c0g : List AIns := [⟨some 12, none, .call b3V [(.c (.int .i64 1))]⟩,
 ⟨some 13, none, .e (.bslm 2 [(.t 12)])⟩,
 opI 14 (.bld [.nil, .nil] [(0, 1, (.t 13))]),
 ⟨some 4, none, .e (.box 2 (.c (.agg [.nil, .nil])))⟩,
 ⟨none, none, .e (.store 2 (.t 4) (.t 14))⟩]
def c0f : List AIns := [mvI 15 0,
 opI 16 (.len (.t 15)),
 opI 17 (.mv (.c (.int .i64 0)))]
def b3G : List AIns := [opI 18 (.bin .lss (.t 17) (.t 16))]
def c0e : List AIns := [mvI 19 17,
 mvI 5 19]
def c0d : List AIns := [mvI 20 5,
 opI 21 (.bin .add (.t 20) (.c (.int .i64 1))),
 ⟨some 22, none, .e (.mksl 2 32 (.agg [.bool false, .nil]) (.c (.int .i64 0)) (.t 21))⟩,
 mvI 6 22]
def c0c : List AIns := [opI 7 (.mv (.c (.int .i64 0)))]
def b3F : List AIns := [mvI 23 7,
 mvI 24 5,
 opI 25 (.bin .leq (.t 23) (.t 24))]
def c0b : List AIns := [mvI 29 0,
 mvI 30 5,
 opI 31 (.idxp 1 (.t 29) (.t 30)),
 opI 32 (.load none (.t 31)),
 mvI 33 0,
 mvI 34 7,
 opI 35 (.idxp 1 (.t 33) (.t 34)),
 opI 36 (.load none (.t 35)),
 ⟨some 37, none, .call c5i [(.t 32), (.t 36)]⟩,
 mvI 28 37,
 opI 38 (.ext (.t 28) 0),
 opI 39 (.ext (.t 28) 1),
 ⟨some 8, none, .e (.box 2 (.c (.agg [.bool false, .nil])))⟩,
 ⟨none, none, .e (.store 2 (.t 8) (.t 38))⟩,
 mvI 9 39]
def c0a : List AIns := [opI 10 (.mv (.c (.int .i64 0)))]
def b1u : List AIns := [mvI 40 10,
 mvI 41 7,
 opI 42 (.bin .lss (.t 40) (.t 41))]
def b7k : List AIns := [mvI 45 6,
 mvI 11 45]
def b1t : List AIns := [mvI 46 7,
 mvI 47 5,
 opI 48 (.bin .lss (.t 46) (.t 47))]
def b7j : List AIns := [opI 49 (.fldp (.t 4) 1),
 opI 50 (.load none (.t 49)),
 mvI 51 7,
 opI 52 (.idxp 1 (.t 50) (.t 51)),
 opI 53 (.load none (.t 52)),
 mvI 11 53]
def b1s : List AIns := [opI 54 (.fldp (.t 4) 0),
 opI 55 (.load none (.t 54)),
 mvI 56 10,
 opI 57 (.bin .add (.t 56) (.c (.int .i64 1))),
 opI 58 (.idxp 2 (.t 55) (.t 57)),
 opI 59 (.load (some 2) (.t 58)),
 opI 60 (.load (some 2) (.t 8)),
 ⟨some 61, none, .call a5P [(.t 59), (.t 60)]⟩,
 mvI 62 6,
 mvI 63 10,
 opI 64 (.idxp 2 (.t 62) (.t 63)),
 opI 65 (.load (some 2) (.t 64)),
 mvI 66 11,
 mvI 67 10,
 opI 68 (.idxp 2 (.t 66) (.t 67)),
 opI 69 (.load (some 2) (.t 68)),
 ⟨some 70, none, .call a5P [(.t 65), (.t 69)]⟩,
 ⟨some 71, none, .call b0D [(.t 61), (.t 70)]⟩,
 ⟨none, none, .e (.store 2 (.t 8) (.t 71))⟩]
def b1r : List AIns := [opI 73 (.load (some 2) (.t 8)),
 opI 74 (.fldp (.t 4) 0),
 opI 75 (.load none (.t 74)),
 mvI 76 10,
 opI 77 (.idxp 2 (.t 75) (.t 76)),
 opI 78 (.load (some 2) (.t 77)),
 ⟨some 79, none, .call a9O [(.t 73), (.t 78)]⟩,
 mvI 72 79,
 opI 80 (.ext (.t 72) 0),
 opI 81 (.ext (.t 72) 1),
 opI 82 (.ext (.t 72) 2),
 ⟨none, none, .e (.store 2 (.t 8) (.t 80))⟩]
def b1q : List AIns := [mvI 43 10,
 opI 44 (.bin .add (.t 43) (.c (.int .i64 1))),
 mvI 10 44]
def c0i : ACode := .seq (.seq (rgI b1u) (.cond (.t 42) (.skip) (.exit 4))) (.seq (.block 5 (.seq (rgI b7k) (.seq (.seq (rgI b1t) (.cond (.t 48) (rgI b7j) (.skip))) (.seq (.region b1s true) (.region b1r true))))) (rgI b1q))
def b7i : List AIns := [mvI 83 6,
 opI 84 (.load (some 2) (.t 8)),
 ⟨some 85, none, .e (.bsl 2 [(.t 84)])⟩,
 ⟨some 86, none, .e (.app 2 32 false (.t 83) (.t 85))⟩,
 mvI 6 86]
def b7h : List AIns := [mvI 26 7,
 opI 27 (.bin .add (.t 26) (.c (.int .i64 1))),
 mvI 7 27]
def c0j : ACode := .seq (.seq (rgI b3F) (.cond (.t 25) (.skip) (.exit 2))) (.seq (.block 3 (.seq (.region c0b true) (.seq (.seq (rgI c0a) (.block 4 (.loop c0i))) (rgI b7i)))) (rgI b7h))
def b7g : List AIns := [mvI 87 6,
 mvI 88 5,
 opI 89 (.idxp 2 (.t 87) (.t 88)),
 opI 90 (.load (some 2) (.t 89)),
 ⟨some 91, none, .call a3M [(.t 90)]⟩,
 opI 92 (.bin .leq (.t 91) (.c (.int .i64 0)))]
def b7f : List AIns := [opI 93 (.bld [.nil, .nil] []),
 ⟨none, none, .e (.store 2 (.t 2) (.t 93))⟩,
 opI 3 (.mv (.c (.bool false)))]
def b1p : List AIns := [opI 94 (.fldp (.t 4) 0),
 opI 95 (.load none (.t 94)),
 mvI 96 6,
 mvI 97 5,
 opI 98 (.idxp 2 (.t 96) (.t 97)),
 opI 99 (.load (some 2) (.t 98)),
 ⟨some 100, none, .e (.bsl 2 [(.t 99)])⟩,
 ⟨some 101, none, .e (.app 2 32 false (.t 95) (.t 100))⟩,
 opI 102 (.fldp (.t 4) 0),
 ⟨none, none, .e (.store 1 (.t 102) (.t 101))⟩]
def b1o : List AIns := [opI 103 (.fldp (.t 4) 1),
 opI 104 (.load none (.t 103)),
 mvI 105 6,
 mvI 106 5,
 mvI 107 5,
 opI 108 (.slc 2 (.t 105) none (some (.t 106)) (some (.t 107))),
 ⟨some 109, none, .e (.bsl 1 [(.t 108)])⟩,
 ⟨some 110, none, .e (.app 1 24 false (.t 104) (.t 109))⟩,
 opI 111 (.fldp (.t 4) 1),
 ⟨none, none, .e (.store 1 (.t 111) (.t 110))⟩]
def b1n : List AIns := [opI 112 (.bin .add (.t 17) (.c (.int .i64 1))),
 mvI 17 112]
def c9S : ACode := .seq (rgI b3G) (.seq (.cond (.t 18) (.skip) (.exit 0)) (.seq (.block 1 (.seq (rgI c0e) (.seq (rgI c0d) (.seq (.seq (rgI c0c) (.block 2 (.loop c0j))) (.seq (.seq (rgI b7g) (.cond (.t 92) (.seq (rgI b7f) (.ret)) (.skip))) (.seq (.region b1p true) (.region b1o true))))))) (rgI b1n)))
def b7e : List AIns := [opI 113 (.load (some 2) (.t 4)),
 ⟨none, none, .e (.store 2 (.t 2) (.t 113))⟩,
 opI 3 (.mv (.c (.bool true)))]
def d1M : ACode := .seq (rgI c0h) (.seq (rgI c0g) (.seq (.seq (rgI c0f) (.block 0 (.loop c9S))) (.seq (rgI b7e) (.ret))))
theorem c9R : fchk Pr (fun r k => (r == 1 && k == 1)) Tryz.f141 = some (d1M, [.cell 2 (some 2), .tmp 3], 114) := by kernel_rfl
theorem c9T : Pr.funcs[b5W]? = some Tryz.f141 := Tryz.func141
def b5g : List AIns := [opI 2 (.mv (.c (.nil)))]
def a8l : List AIns := [mvI 3 0,
 opI 4 (.len (.t 3)),
 opI 5 (.bin .gtr (.t 4) (.c (.int .i64 0))),
 mvI 6 5,
 ⟨some 7, some (6, true), .p (.mv (.t 0))⟩,
 ⟨some 8, some (6, true), .p (.mv (.t 0))⟩,
 ⟨some 9, some (6, true), .p (.len (.t 8))⟩,
 ⟨some 10, some (6, true), .p (.bin .sub (.t 9) (.c (.int .i64 1)))⟩,
 ⟨some 11, some (6, true), .p (.idxp 1 (.t 7) (.t 10))⟩,
 ⟨some 12, some (6, true), .p (.load none (.t 11))⟩,
 ⟨some 13, some (6, true), .p (.bin .eql (.t 12) (.c (.int .u32 0)))⟩,
 opI 14 (.pick (.t 6) (.t 13) (.c (.bool false)))]
def b5f : List AIns := [mvI 15 0,
 mvI 16 0,
 opI 17 (.len (.t 16)),
 opI 18 (.bin .sub (.t 17) (.c (.int .i64 1))),
 opI 19 (.slc 1 (.t 15) none (some (.t 18)) none),
 mvI 0 19]
def c2Q : ACode := .seq (.seq (rgI a8l) (.cond (.t 14) (.skip) (.exit 0))) (.block 1 (rgI b5f))
def a5D : List AIns := [mvI 20 0,
 mvI 2 20]
def d4z : ACode := .seq (rgI b5g) (.seq (.block 0 (.loop c2Q)) (.seq (rgI a5D) (.ret)))
theorem c2P : fchk Pr (fun _ _ => false) Tryz.f142 = some (d4z, [.tmp 2], 21) := by kernel_rfl
theorem c2R : Pr.funcs[a0t]? = some Tryz.f142 := Tryz.func142
def c3e : List AIns := [opI 4 (.mv (.c (.nil)))]
def c3d : List AIns := [mvI 9 0,
 opI 10 (.len (.t 9)),
 ⟨some 11, none, .e (.mksl 1 4 (.int .u32 0) (.t 10) (.t 10))⟩,
 mvI 5 11]
def c3c : List AIns := [opI 6 (.mv (.c (.int .u64 0)))]
def c3b : List AIns := [mvI 12 0,
 opI 13 (.len (.t 12)),
 opI 14 (.mv (.c (.int .i64 0)))]
def b5m : List AIns := [opI 15 (.bin .lss (.t 14) (.t 13))]
def c3a : List AIns := [mvI 16 14,
 mvI 7 16]
def c2Z : List AIns := [mvI 17 0,
 mvI 18 7,
 opI 19 (.idxp 1 (.t 17) (.t 18)),
 opI 20 (.load none (.t 19)),
 opI 21 (.conv .u64 (.t 20)),
 mvI 22 6,
 opI 23 (.bin .sub (.t 21) (.t 22)),
 mvI 8 23]
def c2Y : List AIns := [mvI 24 7,
 mvI 25 1,
 opI 26 (.len (.t 25)),
 opI 27 (.bin .lss (.t 24) (.t 26))]
def c2X : List AIns := [mvI 28 8,
 mvI 29 1,
 mvI 30 7,
 opI 31 (.idxp 1 (.t 29) (.t 30)),
 opI 32 (.load none (.t 31)),
 opI 33 (.conv .u64 (.t 32)),
 opI 34 (.bin .sub (.t 28) (.t 33)),
 mvI 8 34]
def b5l : List AIns := [mvI 35 5,
 mvI 36 7,
 mvI 37 8,
 opI 38 (.conv .u32 (.t 37)),
 opI 39 (.idxp 1 (.t 35) (.t 36)),
 ⟨none, none, .e (.store 1 (.t 39) (.t 38))⟩]
def b3d : List AIns := [mvI 40 8,
 opI 41 (.bin .shr (.t 40) (.c (.int .u64 63))),
 mvI 6 41]
def b3c : List AIns := [opI 42 (.bin .add (.t 14) (.c (.int .i64 1))),
 mvI 14 42]
def b5n : ACode := .seq (rgI b5m) (.seq (.cond (.t 15) (.skip) (.exit 0)) (.seq (.block 1 (.seq (rgI c3a) (.seq (rgI c2Z) (.seq (.seq (rgI c2Y) (.cond (.t 27) (rgI c2X) (.skip))) (.seq (rgI b5l) (rgI b3d)))))) (rgI b3c)))
def a9d : List AIns := [mvI 43 5,
 ⟨some 44, none, .call a0t [(.t 43)]⟩,
 mvI 4 44]
def d4G : ACode := .seq (rgI c3e) (.seq (rgI c3d) (.seq (rgI c3c) (.seq (.seq (rgI c3b) (.block 0 (.loop b5n))) (.seq (rgI a9d) (.ret)))))
theorem d1k : fchk Pr (fun _ _ => false) Tryz.f143 = some (d4G, [.tmp 4], 45) := by kernel_rfl
theorem d1l : Pr.funcs[b0E]? = some Tryz.f143 := Tryz.func143
end Go.Abs
set_option maxRecDepth 100000
noncomputable section
namespace Go.Abs
open Go.Proofs
def b1L : List AIns := [opI 4 (.mv (.c (.int .i64 0)))]
def b1K : List AIns := [mvI 5 0,
 mvI 6 1,
 ⟨some 7, none, .call a0F [(.t 5), (.t 6)]⟩,
 mvI 4 7]
def c2x : ACode := .seq (rgI b1L) (.seq (rgI b1K) (.ret))
theorem c0z : fchk Pr (fun _ _ => false) Tryz.f153 = some (c2x, [.tmp 4], 8) := by kernel_rfl
theorem c0A : Pr.funcs[a8F]? = some Tryz.f153 := Tryz.func153
def c4f : List AIns := [opI 2 (.mv (.c (.int .i64 0)))]
def c4e : List AIns := [opI 3 (.mv (.c (.int .i64 0)))]
def c4d : List AIns := [mvI 8 0,
 opI 9 (.len (.t 8)),
 opI 10 (.mv (.c (.int .i64 0)))]
def b5A : List AIns := [opI 11 (.bin .lss (.t 10) (.t 9))]
def c4c : List AIns := [opI 12 (.idxp 1 (.t 8) (.t 10)),
 opI 13 (.load none (.t 12)),
 mvI 5 13]
def c4b : List AIns := [mvI 14 5,
 opI 15 (.len (.t 14)),
 opI 16 (.mv (.c (.int .i64 0)))]
def b5z : List AIns := [opI 17 (.bin .lss (.t 16) (.t 15))]
def c4a : List AIns := [opI 18 (.idxp 2 (.t 14) (.t 16)),
 opI 19 (.load (some 2) (.t 18)),
 ⟨some 7, none, .e (.box 2 (.c (.agg [.bool false, .nil])))⟩,
 ⟨none, none, .e (.store 2 (.t 7) (.t 19))⟩]
def c3Z : List AIns := [mvI 20 3,
 opI 21 (.load (some 2) (.t 7)),
 ⟨some 22, none, .call b5T [(.t 21)]⟩,
 opI 23 (.mnx true (.t 20) (.t 22)),
 mvI 3 23]
def c3Y : List AIns := [opI 24 (.bin .add (.t 16) (.c (.int .i64 1))),
 mvI 16 24]
def d1z : ACode := .seq (rgI b5z) (.seq (.cond (.t 17) (.skip) (.exit 2)) (.seq (.block 3 (.seq (rgI c4a) (rgI c3Z))) (rgI c3Y)))
def b9X : List AIns := [opI 25 (.bin .add (.t 10) (.c (.int .i64 1))),
 mvI 10 25]
def d1A : ACode := .seq (rgI b5A) (.seq (.cond (.t 11) (.skip) (.exit 0)) (.seq (.block 1 (.seq (rgI c4c) (.seq (rgI c4b) (.block 2 (.loop d1z))))) (rgI b9X)))
def b9W : List AIns := [mvI 26 3,
 mvI 2 26]
def d5k : ACode := .seq (rgI c4f) (.seq (rgI c4e) (.seq (.seq (rgI c4d) (.block 0 (.loop d1A))) (.seq (rgI b9W) (.ret))))
theorem d1y : fchk Pr (fun _ _ => false) Tryz.f160 = some (d5k, [.tmp 2], 27) := by kernel_rfl
theorem d1B : Pr.funcs[b8W]? = some Tryz.f160 := Tryz.func160
def b3A : List AIns := [opI 2 (.mv (.c (.int .i64 0))),
 opI 3 (.mv (.c (.int .i64 0))),
 opI 4 (.mv (.c (.int .i64 0)))]
def b3z : List AIns := [mvI 7 0,
 opI 8 (.len (.t 7)),
 opI 9 (.bin .eql (.t 8) (.c (.int .i64 0)))]
def b9T : List AIns := [opI 2 (.mv (.c (.int .i64 0))),
 opI 3 (.mv (.c (.int .i64 0))),
 opI 4 (.mv (.c (.int .i64 0)))]
def b3y : List AIns := [mvI 10 0,
 opI 11 (.len (.t 10)),
 opI 12 (.mv (.c (.int .i64 0)))]
def a6g : List AIns := [opI 13 (.bin .lss (.t 12) (.t 11))]
def a9t : List AIns := [opI 14 (.idxp 1 (.t 10) (.t 12)),
 opI 15 (.load none (.t 14)),
 mvI 6 15]
def a9s : List AIns := [mvI 16 6,
 opI 17 (.len (.t 16)),
 mvI 18 0,
 opI 19 (.idxp 1 (.t 18) (.c (.int .i64 0))),
 opI 20 (.load none (.t 19)),
 opI 21 (.len (.t 20)),
 opI 22 (.bin .neq (.t 17) (.t 21))]
def b9S : List AIns := [opI 2 (.mv (.c (.int .i64 0))),
 opI 3 (.mv (.c (.int .i64 0))),
 opI 4 (.mv (.c (.int .i64 8)))]
def b3x : List AIns := [opI 23 (.bin .add (.t 12) (.c (.int .i64 1))),
 mvI 12 23]
def c9w : ACode := .seq (rgI a6g) (.seq (.cond (.t 13) (.skip) (.exit 0)) (.seq (.block 1 (.seq (rgI a9t) (.seq (rgI a9s) (.cond (.t 22) (.seq (rgI b9S) (.ret)) (.skip))))) (rgI b3x)))
def b9R : List AIns := [mvI 24 0,
 opI 25 (.len (.t 24)),
 mvI 26 0,
 opI 27 (.idxp 1 (.t 26) (.c (.int .i64 0))),
 opI 28 (.load none (.t 27)),
 opI 29 (.len (.t 28)),
 mvI 2 25,
 mvI 3 29,
 opI 4 (.mv (.c (.int .i64 0)))]
def d1v : ACode := .seq (rgI b3A) (.seq (.seq (rgI b3z) (.cond (.t 9) (.seq (rgI b9T) (.ret)) (.skip))) (.seq (.seq (rgI b3y) (.block 0 (.loop c9w))) (.seq (.region b9R true) (.ret))))
theorem b9U : fchk Pr (fun _ _ => false) Tryz.f161 = some (d1v, [.tmp 2, .tmp 3, .tmp 4], 30) := by kernel_rfl
theorem b9V : Pr.funcs[b1F]? = some Tryz.f161 := Tryz.func161
def c5y : List AIns := [⟨some 2, none, .e (.box 2 (.c (.agg [.bool false, .nil])))⟩]
def c5x : List AIns := [mvI 4 0,
 opI 5 (.conv .u64 (.t 4)),
 mvI 3 5]
def c5w : List AIns := [mvI 6 0,
 opI 7 (.bin .lss (.t 6) (.c (.int .i64 0)))]
def c5v : List AIns := [mvI 8 3,
 opI 9 (.un .neg (.t 8)),
 mvI 3 9]
def b7B : List AIns := [mvI 10 0,
 opI 11 (.bin .lss (.t 10) (.c (.int .i64 0))),
 mvI 12 3,
 opI 13 (.conv .u32 (.t 12)),
 mvI 14 3,
 opI 15 (.bin .shr (.t 14) (.c (.int .u64 32))),
 opI 16 (.conv .u32 (.t 15)),
 ⟨some 17, none, .e (.bsl 1 [(.t 13), (.t 16)])⟩,
 ⟨some 18, none, .call a1l [(.t 11), (.t 17)]⟩,
 ⟨none, none, .e (.store 2 (.t 2) (.t 18))⟩]
def d5M : ACode := .seq (rgI c5y) (.seq (rgI c5x) (.seq (.seq (rgI c5w) (.cond (.t 7) (rgI c5v) (.skip))) (.seq (rgI b7B) (.ret))))
theorem d3H : fchk Pr (fun _ _ => false) Tryz.f162 = some (d5M, [.cell 2 (some 2)], 19) := by kernel_rfl
theorem d3I : Pr.funcs[b3V]? = some Tryz.f162 := Tryz.func162
def c6W : List AIns := [⟨some 4, none, .e (.box 2 (.c (.agg [.bool false, .nil])))⟩,
 opI 5 (.mv (.c (.int .i64 0)))]
def c6V : List AIns := [mvI 6 0,
 opI 7 (.len (.t 6)),
 mvI 8 1,
 opI 9 (.len (.t 8)),
 opI 10 (.bin .neq (.t 7) (.t 9))]
def d5h : List AIns := [opI 11 (.bld [.bool false, .nil] []),
 ⟨none, none, .e (.store 2 (.t 4) (.t 11))⟩,
 opI 5 (.mv (.c (.int .i64 8)))]
def c6U : List AIns := [mvI 12 0,
 mvI 13 1,
 ⟨some 14, none, .call c5h [(.t 12), (.t 13)]⟩,
 ⟨none, none, .e (.store 2 (.t 4) (.t 14))⟩,
 opI 5 (.mv (.c (.int .i64 0)))]
def d7m : ACode := .seq (rgI c6W) (.seq (.seq (rgI c6V) (.cond (.t 10) (.seq (rgI d5h) (.ret)) (.skip))) (.seq (rgI c6U) (.ret)))
theorem d5i : fchk Pr (fun _ _ => false) Tryz.f163 = some (d7m, [.cell 4 (some 2), .tmp 5], 15) := by kernel_rfl
theorem d5j : Pr.funcs[c5i]? = some Tryz.f163 := Tryz.func163
def c2d : List AIns := [⟨some 2, none, .e (.box 2 (.t 0))⟩,
 ⟨some 3, none, .e (.box 2 (.t 1))⟩,
 ⟨some 4, none, .e (.box 2 (.c (.agg [.bool false, .nil])))⟩]
def c2c : List AIns := [opI 5 (.load (some 2) (.t 2)),
 opI 6 (.load (some 2) (.t 3)),
 ⟨some 7, none, .call b8U [(.t 6)]⟩,
 ⟨some 8, none, .call a7V [(.t 5), (.t 7)]⟩,
 ⟨none, none, .e (.store 2 (.t 4) (.t 8))⟩]
def d3G : ACode := .seq (rgI c2d) (.seq (.region c2c true) (.ret))
theorem d0H : fchk Pr (fun _ _ => false) Tryz.f164 = some (d3G, [.cell 4 (some 2)], 9) := by kernel_rfl
theorem d0I : Pr.funcs[b0D]? = some Tryz.f164 := Tryz.func164
def b6k : List AIns := [⟨some 2, none, .e (.box 2 (.t 0))⟩,
 ⟨some 3, none, .e (.box 2 (.t 1))⟩,
 ⟨some 4, none, .e (.box 2 (.c (.agg [.bool false, .nil])))⟩,
 ⟨some 5, none, .e (.box 2 (.c (.agg [.bool false, .nil])))⟩,
 opI 6 (.mv (.c (.int .i64 0)))]
def b6j : List AIns := [opI 13 (.fldp (.t 2) 1),
 opI 14 (.load none (.t 13)),
 opI 15 (.fldp (.t 3) 1),
 opI 16 (.load none (.t 15)),
 ⟨some 17, none, .call c5g [(.t 14), (.t 16)]⟩,
 mvI 12 17,
 opI 18 (.ext (.t 12) 0),
 opI 19 (.ext (.t 12) 1),
 opI 20 (.ext (.t 12) 2),
 mvI 7 18,
 mvI 8 19,
 mvI 9 20]
def b6i : List AIns := [mvI 21 9,
 opI 22 (.bin .neq (.t 21) (.c (.int .i64 0)))]
def c7o : List AIns := [opI 23 (.bld [.bool false, .nil] []),
 opI 24 (.bld [.bool false, .nil] []),
 ⟨none, none, .e (.store 2 (.t 4) (.t 23))⟩,
 ⟨none, none, .e (.store 2 (.t 5) (.t 24))⟩,
 opI 6 (.mv (.c (.int .i64 11)))]
def b6h : List AIns := [opI 25 (.fldp (.t 2) 0),
 opI 26 (.load none (.t 25)),
 opI 27 (.fldp (.t 3) 0),
 opI 28 (.load none (.t 27)),
 opI 29 (.beq true (.t 26) (.t 28)),
 mvI 30 7,
 ⟨some 31, none, .call a1l [(.t 29), (.t 30)]⟩,
 opI 32 (.fldp (.t 2) 0),
 opI 33 (.load none (.t 32)),
 mvI 34 8,
 ⟨some 35, none, .call a1l [(.t 33), (.t 34)]⟩]
def b4y : List AIns := [⟨some 10, none, .e (.box 2 (.c (.agg [.bool false, .nil])))⟩,
 ⟨some 11, none, .e (.box 2 (.c (.agg [.bool false, .nil])))⟩,
 ⟨none, none, .e (.store 2 (.t 10) (.t 31))⟩,
 ⟨none, none, .e (.store 2 (.t 11) (.t 35))⟩]
def b4x : List AIns := [⟨some 11, none, .e (.box 2 (.c (.agg [.bool false, .nil])))⟩,
 ⟨some 10, none, .e (.box 2 (.c (.agg [.bool false, .nil])))⟩,
 ⟨none, none, .e (.store 2 (.t 10) (.t 31))⟩,
 ⟨none, none, .e (.store 2 (.t 11) (.t 35))⟩]
def b6g : List AIns := [opI 36 (.load (some 2) (.t 11)),
 ⟨some 37, none, .call a3M [(.t 36)]⟩,
 opI 38 (.bin .neq (.t 37) (.c (.int .i64 0))),
 mvI 39 38,
 ⟨some 40, some (39, true), .p (.load (some 2) (.t 11))⟩,
 ⟨some 41, some (39, true), .call a3M [(.t 40)]⟩,
 ⟨some 42, some (39, true), .p (.load (some 2) (.t 3))⟩,
 ⟨some 43, some (39, true), .call a3M [(.t 42)]⟩,
 ⟨some 44, some (39, true), .p (.bin .neq (.t 41) (.t 43))⟩,
 opI 45 (.pick (.t 39) (.t 44) (.c (.bool false)))]
def c7n : List AIns := [opI 46 (.load (some 2) (.t 10)),
 ⟨some 47, none, .call b3V [(.c (.int .i64 1))]⟩,
 ⟨some 48, none, .call b0D [(.t 46), (.t 47)]⟩,
 opI 49 (.load (some 2) (.t 11)),
 opI 50 (.load (some 2) (.t 3)),
 ⟨some 51, none, .call a7V [(.t 49), (.t 50)]⟩,
 ⟨none, none, .e (.store 2 (.t 10) (.t 48))⟩,
 ⟨none, none, .e (.store 2 (.t 11) (.t 51))⟩]
def b6f : List AIns := [opI 52 (.load (some 2) (.t 10)),
 opI 53 (.load (some 2) (.t 11)),
 ⟨none, none, .e (.store 2 (.t 4) (.t 52))⟩,
 ⟨none, none, .e (.store 2 (.t 5) (.t 53))⟩,
 opI 6 (.mv (.c (.int .i64 0)))]
def b4w : List AIns := []
def b4v : List AIns := []
def c8N : ACode := .seq (rgI b6k) (.seq (rgI b6j) (.seq (.seq (rgI b6i) (.cond (.t 22) (.seq (rgI c7o) (.ret)) (.skip))) (.seq (.regionX b6h b4y b4x []) (.seq (.seq (.region b6g true) (.cond (.t 45) (.region c7n true) (.skip))) (.seq (.regionX b6f b4w b4v [(11, 4)]) (.ret))))))
theorem c7p : fchk Pr (fun _ _ => false) Tryz.f165 = some (c8N, [.cell 4 (some 2), .cell 5 (some 2), .tmp 6], 54) := by kernel_rfl
theorem c7q : Pr.funcs[a9O]? = some Tryz.f165 := Tryz.func165
def b9v : List AIns := [⟨some 1, none, .e (.box 2 (.t 0))⟩,
 opI 2 (.mv (.c (.int .i64 0)))]
def b9u : List AIns := [opI 3 (.fldp (.t 1) 1),
 opI 4 (.load none (.t 3)),
 ⟨some 5, none, .call b4j [(.t 4)]⟩,
 mvI 2 5]
def d0P : ACode := .seq (rgI b9v) (.seq (rgI b9u) (.ret))
theorem c8O : fchk Pr (fun _ _ => false) Tryz.f179 = some (d0P, [.tmp 2], 6) := by kernel_rfl
theorem c8P : Pr.funcs[b5T]? = some Tryz.f179 := Tryz.func179
def c6T : List AIns := [⟨some 4, none, .e (.box 2 (.c (.agg [.bool false, .nil])))⟩]
def c6S : List AIns := [⟨some 5, none, .e (.box 2 (.c (.agg [.bool false, .nil])))⟩]
def c6R : List AIns := [mvI 7 0,
 opI 8 (.len (.t 7)),
 opI 9 (.mv (.c (.int .i64 0)))]
def b8n : List AIns := [opI 10 (.bin .lss (.t 9) (.t 8))]
def c6Q : List AIns := [mvI 11 9,
 mvI 6 11]
def c6P : List AIns := [opI 12 (.load (some 2) (.t 5)),
 mvI 13 0,
 mvI 14 6,
 opI 15 (.idxp 2 (.t 13) (.t 14)),
 opI 16 (.load (some 2) (.t 15)),
 mvI 17 1,
 mvI 18 6,
 opI 19 (.idxp 2 (.t 17) (.t 18)),
 opI 20 (.load (some 2) (.t 19)),
 ⟨some 21, none, .call a5P [(.t 16), (.t 20)]⟩,
 ⟨some 22, none, .call a7V [(.t 12), (.t 21)]⟩,
 ⟨none, none, .e (.store 2 (.t 5) (.t 22))⟩]
def c6O : List AIns := [opI 23 (.bin .add (.t 9) (.c (.int .i64 1))),
 mvI 9 23]
def d5e : ACode := .seq (rgI b8n) (.seq (.cond (.t 10) (.skip) (.exit 0)) (.seq (.block 1 (.seq (rgI c6Q) (.region c6P true))) (rgI c6O)))
def c6N : List AIns := [opI 24 (.load (some 2) (.t 5)),
 ⟨none, none, .e (.store 2 (.t 4) (.t 24))⟩]
def d7l : ACode := .seq (rgI c6T) (.seq (rgI c6S) (.seq (.seq (rgI c6R) (.block 0 (.loop d5e))) (.seq (rgI c6N) (.ret))))
theorem d5d : fchk Pr (fun _ _ => false) Tryz.f180 = some (d7l, [.cell 4 (some 2)], 25) := by kernel_rfl
theorem d5f : Pr.funcs[c5h]? = some Tryz.f180 := Tryz.func180
def c2g : List AIns := [⟨some 1, none, .e (.box 2 (.t 0))⟩,
 ⟨some 2, none, .e (.box 2 (.c (.agg [.bool false, .nil])))⟩]
def c2f : List AIns := [opI 3 (.fldp (.t 1) 0),
 opI 4 (.load none (.t 3)),
 opI 5 (.un .not (.t 4)),
 opI 6 (.fldp (.t 1) 1),
 opI 7 (.load none (.t 6)),
 ⟨some 8, none, .call a1l [(.t 5), (.t 7)]⟩,
 ⟨none, none, .e (.store 2 (.t 2) (.t 8))⟩]
def d3J : ACode := .seq (rgI c2g) (.seq (rgI c2f) (.ret))
theorem d0K : fchk Pr (fun _ _ => false) Tryz.f181 = some (d3J, [.cell 2 (some 2)], 9) := by kernel_rfl
theorem d0L : Pr.funcs[b8U]? = some Tryz.f181 := Tryz.func181
def c6w : List AIns := [opI 4 (.mv (.c (.nil))),
 opI 5 (.mv (.c (.nil))),
 opI 6 (.mv (.c (.int .i64 0)))]
def c6v : List AIns := [mvI 14 0,
 ⟨some 15, none, .call a0t [(.t 14)]⟩,
 mvI 16 1,
 ⟨some 17, none, .call a0t [(.t 16)]⟩,
 mvI 0 15,
 mvI 1 17]
def c6u : List AIns := [mvI 19 1,
 opI 20 (.len (.t 19)),
 opI 21 (.bin .eql (.t 20) (.c (.int .i64 0))),
 mvI 18 21]
def d4O : List AIns := [opI 4 (.mv (.c (.nil))),
 opI 5 (.mv (.c (.nil))),
 opI 6 (.mv (.c (.int .i64 11)))]
def c6t : List AIns := [mvI 23 0,
 mvI 24 1,
 ⟨some 25, none, .call b0F [(.t 23), (.t 24)]⟩,
 opI 26 (.bin .lss (.t 25) (.c (.int .i64 0))),
 mvI 22 26]
def c6s : List AIns := [mvI 27 0,
 ⟨some 28, none, .call b4i [(.t 27)]⟩,
 opI 4 (.mv (.c (.nil))),
 mvI 5 28,
 opI 6 (.mv (.c (.int .i64 0)))]
def b8c : List AIns := [mvI 30 1,
 opI 31 (.len (.t 30)),
 opI 32 (.bin .eql (.t 31) (.c (.int .i64 1))),
 mvI 29 32]
def c6r : List AIns := [mvI 34 0,
 mvI 35 1,
 opI 36 (.idxp 1 (.t 35) (.c (.int .i64 0))),
 opI 37 (.load none (.t 36)),
 ⟨some 38, none, .call a8G [(.t 34), (.t 37)]⟩,
 mvI 33 38,
 opI 39 (.ext (.t 33) 0),
 opI 40 (.ext (.t 33) 1),
 mvI 7 39,
 mvI 8 40]
def c6q : List AIns := [mvI 41 7,
 mvI 42 8,
 ⟨some 43, none, .e (.bsl 1 [(.t 42)])⟩,
 ⟨some 44, none, .call a0t [(.t 43)]⟩,
 mvI 4 41,
 mvI 5 44,
 opI 6 (.mv (.c (.int .i64 0)))]
def c6p : List AIns := [mvI 45 1,
 mvI 46 1,
 opI 47 (.len (.t 46)),
 opI 48 (.bin .sub (.t 47) (.c (.int .i64 1))),
 opI 49 (.idxp 1 (.t 45) (.t 48)),
 opI 50 (.load none (.t 49)),
 ⟨some 51, none, .call a1L [(.t 50)]⟩,
 mvI 9 51]
def c3B : List AIns := [mvI 52 1,
 mvI 53 9,
 ⟨some 54, none, .call b7z [(.t 52), (.t 53)]⟩,
 mvI 10 54]
def c3A : List AIns := [mvI 55 0,
 mvI 56 9,
 ⟨some 57, none, .call b7z [(.t 55), (.t 56)]⟩,
 ⟨some 58, none, .e (.bsl 1 [(.c (.int .u32 0)), (.c (.int .u32 0))])⟩,
 ⟨some 59, none, .e (.app 1 4 false (.t 57) (.t 58))⟩,
 mvI 60 0,
 opI 61 (.len (.t 60)),
 opI 62 (.bin .add (.t 61) (.c (.int .i64 1))),
 opI 63 (.slc 1 (.t 59) none (some (.t 62)) none),
 mvI 11 63]
def c3z : List AIns := [mvI 64 0,
 opI 65 (.len (.t 64)),
 mvI 66 1,
 opI 67 (.len (.t 66)),
 opI 68 (.bin .sub (.t 65) (.t 67)),
 opI 69 (.bin .add (.t 68) (.c (.int .i64 1))),
 ⟨some 70, none, .e (.mksl 1 4 (.int .u32 0) (.t 69) (.t 69))⟩,
 mvI 12 70]
def c3y : List AIns := [mvI 71 0,
 opI 72 (.len (.t 71)),
 mvI 73 1,
 opI 74 (.len (.t 73)),
 opI 75 (.bin .sub (.t 72) (.t 74)),
 mvI 13 75]
def b5t : List AIns := [mvI 76 13,
 opI 77 (.bin .geq (.t 76) (.c (.int .i64 0)))]
def c3x : List AIns := [mvI 80 12,
 mvI 81 13,
 mvI 82 11,
 mvI 83 13,
 mvI 84 13,
 mvI 85 10,
 opI 86 (.len (.t 85)),
 opI 87 (.bin .add (.t 84) (.t 86)),
 opI 88 (.bin .add (.t 87) (.c (.int .i64 1))),
 opI 89 (.slc 1 (.t 82) (some (.t 83)) (some (.t 88)) none),
 mvI 90 10,
 ⟨some 91, none, .call b1E [(.t 89), (.t 90)]⟩,
 opI 92 (.idxp 1 (.t 80) (.t 81)),
 ⟨none, none, .e (.store 1 (.t 92) (.t 91))⟩]
def c3w : List AIns := [mvI 78 13,
 opI 79 (.bin .sub (.t 78) (.c (.int .i64 1))),
 mvI 13 79]
def d4Q : ACode := .seq (.seq (rgI b5t) (.cond (.t 77) (.skip) (.exit 1))) (.seq (.block 2 (rgI c3x)) (rgI c3w))
def c3v : List AIns := [mvI 93 12,
 ⟨some 94, none, .call a0t [(.t 93)]⟩,
 mvI 95 11,
 ⟨some 96, none, .call a0t [(.t 95)]⟩,
 mvI 97 9,
 ⟨some 98, none, .call b7y [(.t 96), (.t 97)]⟩,
 mvI 4 94,
 mvI 5 98,
 opI 6 (.mv (.c (.int .i64 0)))]
def d7b : ACode := .seq (rgI c6w) (.seq (rgI c6v) (.seq (.block 0 (.seq (rgI c6u) (.cond (.t 18) (.seq (rgI d4O) (.ret)) (.seq (rgI c6t) (.cond (.t 22) (.seq (rgI c6s) (.ret)) (.seq (rgI b8c) (.cond (.t 29) (.seq (rgI c6r) (.seq (rgI c6q) (.ret))) (.skip)))))))) (.seq (rgI c6p) (.seq (rgI c3B) (.seq (rgI c3A) (.seq (rgI c3z) (.seq (.seq (rgI c3y) (.block 1 (.loop d4Q))) (.seq (rgI c3v) (.ret)))))))))
theorem d4P : fchk Pr (fun _ _ => false) Tryz.f182 = some (d7b, [.tmp 4, .tmp 5, .tmp 6], 99) := by kernel_rfl
theorem d4R : Pr.funcs[c5g]? = some Tryz.f182 := Tryz.func182
def a2T : List AIns := [opI 2 (.mv (.c (.int .i64 0)))]
def a2S : List AIns := [mvI 3 0,
 ⟨some 4, none, .call a1m [(.t 3)]⟩,
 opI 5 (.bin .sub (.c (.int .i64 32)) (.t 4)),
 mvI 2 5]
def a8Q : ACode := .seq (rgI a2T) (.seq (rgI a2S) (.ret))
theorem a8q : fchk Pr (fun _ _ => false) Tryz.f188 = some (a8Q, [.tmp 2], 6) := by kernel_rfl
theorem a8r : Pr.funcs[a1L]? = some Tryz.f188 := Tryz.func188
def c6b : List AIns := [opI 4 (.mv (.c (.nil)))]
def c6a : List AIns := [mvI 10 0,
 ⟨some 11, none, .call a0t [(.t 10)]⟩,
 mvI 0 11]
def c5Z : List AIns := [mvI 12 0,
 opI 13 (.len (.t 12)),
 opI 14 (.bin .eql (.t 13) (.c (.int .i64 0)))]
def d4C : List AIns := [opI 4 (.mv (.c (.nil)))]
def c5Y : List AIns := [mvI 15 1,
 opI 16 (.bin .quo (.t 15) (.c (.int .i64 32))),
 mvI 17 1,
 opI 18 (.bin .rem (.t 17) (.c (.int .i64 32))),
 opI 19 (.conv .u64 (.t 18)),
 mvI 5 16,
 mvI 6 19]
def c5X : List AIns := [mvI 20 0,
 opI 21 (.len (.t 20)),
 mvI 22 5,
 opI 23 (.bin .add (.t 21) (.t 22)),
 opI 24 (.bin .add (.t 23) (.c (.int .i64 1))),
 ⟨some 25, none, .e (.mksl 1 4 (.int .u32 0) (.t 24) (.t 24))⟩,
 mvI 7 25]
def c5W : List AIns := [mvI 26 0,
 opI 27 (.len (.t 26)),
 opI 28 (.mv (.c (.int .i64 0)))]
def b7Z : List AIns := [opI 29 (.bin .lss (.t 28) (.t 27))]
def c5V : List AIns := [mvI 30 28,
 mvI 8 30]
def c5U : List AIns := [mvI 31 0,
 mvI 32 8,
 opI 33 (.idxp 1 (.t 31) (.t 32)),
 opI 34 (.load none (.t 33)),
 opI 35 (.conv .u64 (.t 34)),
 mvI 36 6,
 opI 37 (.bin .shl (.t 35) (.t 36)),
 mvI 9 37]
def c2W : List AIns := [mvI 38 7,
 mvI 39 8,
 mvI 40 5,
 opI 41 (.bin .add (.t 39) (.t 40)),
 opI 42 (.idxp 1 (.t 38) (.t 41)),
 opI 43 (.load none (.t 42)),
 mvI 44 9,
 opI 45 (.conv .u32 (.t 44)),
 opI 46 (.bin .or (.t 43) (.t 45)),
 opI 47 (.idxp 1 (.t 38) (.t 41)),
 ⟨none, none, .e (.store 1 (.t 47) (.t 46))⟩]
def c2V : List AIns := [mvI 48 7,
 mvI 49 8,
 mvI 50 5,
 opI 51 (.bin .add (.t 49) (.t 50)),
 opI 52 (.bin .add (.t 51) (.c (.int .i64 1))),
 mvI 53 9,
 opI 54 (.bin .shr (.t 53) (.c (.int .u64 32))),
 opI 55 (.conv .u32 (.t 54)),
 opI 56 (.idxp 1 (.t 48) (.t 52)),
 ⟨none, none, .e (.store 1 (.t 56) (.t 55))⟩]
def c2U : List AIns := [opI 57 (.bin .add (.t 28) (.c (.int .i64 1))),
 mvI 28 57]
def d4E : ACode := .seq (rgI b7Z) (.seq (.cond (.t 29) (.skip) (.exit 0)) (.seq (.block 1 (.seq (rgI c5V) (.seq (rgI c5U) (.seq (rgI c2W) (rgI c2V))))) (rgI c2U)))
def c2T : List AIns := [mvI 58 7,
 ⟨some 59, none, .call a0t [(.t 58)]⟩,
 mvI 4 59]
def d6Y : ACode := .seq (rgI c6b) (.seq (rgI c6a) (.seq (.seq (rgI c5Z) (.cond (.t 14) (.seq (rgI d4C) (.ret)) (.skip))) (.seq (rgI c5Y) (.seq (rgI c5X) (.seq (.seq (rgI c5W) (.block 0 (.loop d4E))) (.seq (rgI c2T) (.ret)))))))
theorem d4D : fchk Pr (fun _ _ => false) Tryz.f189 = some (d6Y, [.tmp 4], 60) := by kernel_rfl
theorem d4F : Pr.funcs[b7z]? = some Tryz.f189 := Tryz.func189
def b9N : List AIns := [opI 4 (.mv (.c (.int .u32 0)))]
def b9M : List AIns := [mvI 15 1,
 opI 16 (.len (.t 15)),
 mvI 5 16]
def b9L : List AIns := [mvI 17 0,
 mvI 18 5,
 opI 19 (.idxp 1 (.t 17) (.t 18)),
 opI 20 (.load none (.t 19)),
 opI 21 (.conv .u64 (.t 20)),
 opI 22 (.bin .shl (.t 21) (.c (.int .u64 32))),
 mvI 23 0,
 mvI 24 5,
 opI 25 (.bin .sub (.t 24) (.c (.int .i64 1))),
 opI 26 (.idxp 1 (.t 23) (.t 25)),
 opI 27 (.load none (.t 26)),
 opI 28 (.conv .u64 (.t 27)),
 opI 29 (.bin .or (.t 22) (.t 28)),
 mvI 6 29]
def b9K : List AIns := [mvI 30 6,
 mvI 31 1,
 mvI 32 5,
 opI 33 (.bin .sub (.t 32) (.c (.int .i64 1))),
 opI 34 (.idxp 1 (.t 31) (.t 33)),
 opI 35 (.load none (.t 34)),
 opI 36 (.conv .u64 (.t 35)),
 opI 37 (.bin .quo (.t 30) (.t 36)),
 opI 38 (.mnx false (.t 37) (.c (.int .u64 4294967295))),
 mvI 7 38]
def b9J : List AIns := [opI 8 (.mv (.c (.int .u64 0))),
 opI 9 (.mv (.c (.int .u64 0)))]
def b9I : List AIns := [mvI 39 5,
 opI 40 (.bin .add (.t 39) (.c (.int .i64 1))),
 opI 41 (.mv (.c (.int .i64 0)))]
def b3f : List AIns := [opI 42 (.bin .lss (.t 41) (.t 40))]
def b9H : List AIns := [mvI 43 41,
 mvI 10 43]
def b9G : List AIns := [mvI 44 8,
 mvI 11 44]
def b3e : List AIns := [mvI 45 10,
 mvI 46 5,
 opI 47 (.bin .lss (.t 45) (.t 46))]
def b6J : List AIns := [mvI 48 11,
 mvI 49 7,
 mvI 50 1,
 mvI 51 10,
 opI 52 (.idxp 1 (.t 50) (.t 51)),
 opI 53 (.load none (.t 52)),
 opI 54 (.conv .u64 (.t 53)),
 opI 55 (.bin .mul (.t 49) (.t 54)),
 opI 56 (.bin .add (.t 48) (.t 55)),
 mvI 11 56]
def b1g : List AIns := [mvI 57 11,
 opI 58 (.bin .shr (.t 57) (.c (.int .u64 32))),
 mvI 8 58]
def b1f : List AIns := [mvI 59 0,
 mvI 60 10,
 opI 61 (.idxp 1 (.t 59) (.t 60)),
 opI 62 (.load none (.t 61)),
 opI 63 (.conv .u64 (.t 62)),
 mvI 64 11,
 opI 65 (.conv .u32 (.t 64)),
 opI 66 (.conv .u64 (.t 65)),
 opI 67 (.bin .sub (.t 63) (.t 66)),
 mvI 68 9,
 opI 69 (.bin .sub (.t 67) (.t 68)),
 mvI 12 69]
def b1e : List AIns := [mvI 70 0,
 mvI 71 10,
 mvI 72 12,
 opI 73 (.conv .u32 (.t 72)),
 opI 74 (.idxp 1 (.t 70) (.t 71)),
 ⟨none, none, .e (.store 1 (.t 74) (.t 73))⟩]
def b1d : List AIns := [mvI 75 12,
 opI 76 (.bin .shr (.t 75) (.c (.int .u64 63))),
 mvI 9 76]
def b1c : List AIns := [opI 77 (.bin .add (.t 41) (.c (.int .i64 1))),
 mvI 41 77]
def a9f : ACode := .seq (rgI b3f) (.seq (.cond (.t 42) (.skip) (.exit 0)) (.seq (.block 1 (.seq (rgI b9H) (.seq (rgI b9G) (.seq (.seq (rgI b3e) (.cond (.t 47) (rgI b6J) (.skip))) (.seq (rgI b1g) (.seq (rgI b1f) (.seq (rgI b1e) (rgI b1d)))))))) (rgI b1c)))
def a7B : List AIns := [mvI 78 9,
 opI 79 (.bin .gtr (.t 78) (.c (.int .u64 0)))]
def b6I : List AIns := [mvI 80 7,
 opI 81 (.bin .sub (.t 80) (.c (.int .u64 1))),
 mvI 7 81]
def b6H : List AIns := [opI 13 (.mv (.c (.int .u64 0)))]
def b6G : List AIns := [mvI 82 5,
 opI 83 (.bin .add (.t 82) (.c (.int .i64 1))),
 opI 84 (.mv (.c (.int .i64 0)))]
def b1b : List AIns := [opI 85 (.bin .lss (.t 84) (.t 83))]
def b6F : List AIns := [mvI 86 84,
 mvI 14 86]
def b6E : List AIns := [mvI 87 13,
 mvI 88 0,
 mvI 89 14,
 opI 90 (.idxp 1 (.t 88) (.t 89)),
 opI 91 (.load none (.t 90)),
 opI 92 (.conv .u64 (.t 91)),
 opI 93 (.bin .add (.t 87) (.t 92)),
 mvI 13 93]
def b1a : List AIns := [mvI 94 14,
 mvI 95 5,
 opI 96 (.bin .lss (.t 94) (.t 95))]
def b6D : List AIns := [mvI 97 13,
 mvI 98 1,
 mvI 99 14,
 opI 100 (.idxp 1 (.t 98) (.t 99)),
 opI 101 (.load none (.t 100)),
 opI 102 (.conv .u64 (.t 101)),
 opI 103 (.bin .add (.t 97) (.t 102)),
 mvI 13 103]
def b0Z : List AIns := [mvI 104 0,
 mvI 105 14,
 mvI 106 13,
 opI 107 (.conv .u32 (.t 106)),
 opI 108 (.idxp 1 (.t 104) (.t 105)),
 ⟨none, none, .e (.store 1 (.t 108) (.t 107))⟩]
def b0Y : List AIns := [mvI 109 13,
 opI 110 (.bin .shr (.t 109) (.c (.int .u64 32))),
 mvI 13 110]
def b0X : List AIns := [opI 111 (.bin .add (.t 84) (.c (.int .i64 1))),
 mvI 84 111]
def a9e : ACode := .seq (rgI b1b) (.seq (.cond (.t 85) (.skip) (.exit 4)) (.seq (.block 5 (.seq (rgI b6F) (.seq (rgI b6E) (.seq (.seq (rgI b1a) (.cond (.t 96) (rgI b6D) (.skip))) (.seq (rgI b0Z) (rgI b0Y)))))) (rgI b0X)))
def b6C : List AIns := [mvI 112 9,
 mvI 113 13,
 opI 114 (.bin .sub (.t 112) (.t 113)),
 mvI 9 114]
def b9O : ACode := .seq (.seq (rgI a7B) (.cond (.t 79) (.skip) (.exit 2))) (.block 3 (.seq (rgI b6I) (.seq (rgI b6H) (.seq (.seq (rgI b6G) (.block 4 (.loop a9e))) (rgI b6C)))))
def a7A : List AIns := [mvI 115 7,
 opI 116 (.conv .u32 (.t 115)),
 mvI 4 116]
def d1m : ACode := .seq (rgI b9N) (.seq (rgI b9M) (.seq (.region b9L true) (.seq (rgI b9K) (.seq (rgI b9J) (.seq (.seq (rgI b9I) (.block 0 (.loop a9f))) (.seq (.block 2 (.loop b9O)) (.seq (rgI a7A) (.ret))))))))
theorem c9u : fchk Pr (fun _ _ => false) Tryz.f190 = some (d1m, [.tmp 4], 117) := by kernel_rfl
theorem c9v : Pr.funcs[b1E]? = some Tryz.f190 := Tryz.func190
def c5S : List AIns := [opI 4 (.mv (.c (.nil)))]
def c5R : List AIns := [mvI 10 0,
 ⟨some 11, none, .call a0t [(.t 10)]⟩,
 mvI 0 11]
def c5Q : List AIns := [mvI 12 1,
 opI 13 (.bin .quo (.t 12) (.c (.int .i64 32))),
 mvI 14 1,
 opI 15 (.bin .rem (.t 14) (.c (.int .i64 32))),
 opI 16 (.conv .u64 (.t 15)),
 mvI 5 13,
 mvI 6 16]
def b7Y : List AIns := [mvI 17 5,
 mvI 18 0,
 opI 19 (.len (.t 18)),
 opI 20 (.bin .geq (.t 17) (.t 19))]
def c5P : List AIns := [opI 4 (.mv (.c (.nil)))]
def c5O : List AIns := [mvI 21 0,
 opI 22 (.len (.t 21)),
 mvI 23 5,
 opI 24 (.bin .sub (.t 22) (.t 23)),
 ⟨some 25, none, .e (.mksl 1 4 (.int .u32 0) (.t 24) (.t 24))⟩,
 mvI 7 25]
def c5N : List AIns := [mvI 26 7,
 opI 27 (.len (.t 26)),
 opI 28 (.mv (.c (.int .i64 0)))]
def b7X : List AIns := [opI 29 (.bin .lss (.t 28) (.t 27))]
def c5M : List AIns := [mvI 30 28,
 mvI 8 30]
def c5L : List AIns := [mvI 31 0,
 mvI 32 8,
 mvI 33 5,
 opI 34 (.bin .add (.t 32) (.t 33)),
 opI 35 (.idxp 1 (.t 31) (.t 34)),
 opI 36 (.load none (.t 35)),
 opI 37 (.conv .u64 (.t 36)),
 mvI 9 37]
def b5k : List AIns := [mvI 38 8,
 mvI 39 5,
 opI 40 (.bin .add (.t 38) (.t 39)),
 opI 41 (.bin .add (.t 40) (.c (.int .i64 1))),
 mvI 42 0,
 opI 43 (.len (.t 42)),
 opI 44 (.bin .lss (.t 41) (.t 43))]
def c2S : List AIns := [mvI 45 9,
 mvI 46 0,
 mvI 47 8,
 mvI 48 5,
 opI 49 (.bin .add (.t 47) (.t 48)),
 opI 50 (.bin .add (.t 49) (.c (.int .i64 1))),
 opI 51 (.idxp 1 (.t 46) (.t 50)),
 opI 52 (.load none (.t 51)),
 opI 53 (.conv .u64 (.t 52)),
 opI 54 (.bin .shl (.t 53) (.c (.int .u64 32))),
 opI 55 (.bin .or (.t 45) (.t 54)),
 mvI 9 55]
def b5j : List AIns := [mvI 56 7,
 mvI 57 8,
 mvI 58 9,
 mvI 59 6,
 opI 60 (.bin .shr (.t 58) (.t 59)),
 opI 61 (.conv .u32 (.t 60)),
 opI 62 (.idxp 1 (.t 56) (.t 57)),
 ⟨none, none, .e (.store 1 (.t 62) (.t 61))⟩]
def b5i : List AIns := [opI 63 (.bin .add (.t 28) (.c (.int .i64 1))),
 mvI 28 63]
def c5T : ACode := .seq (rgI b7X) (.seq (.cond (.t 29) (.skip) (.exit 0)) (.seq (.block 1 (.seq (rgI c5M) (.seq (rgI c5L) (.seq (.seq (rgI b5k) (.cond (.t 44) (rgI c2S) (.skip))) (rgI b5j))))) (rgI b5i)))
def b5h : List AIns := [mvI 64 7,
 ⟨some 65, none, .call a0t [(.t 64)]⟩,
 mvI 4 65]
def d6X : ACode := .seq (rgI c5S) (.seq (rgI c5R) (.seq (rgI c5Q) (.seq (.seq (rgI b7Y) (.cond (.t 20) (.seq (rgI c5P) (.ret)) (.skip))) (.seq (rgI c5O) (.seq (.seq (rgI c5N) (.block 0 (.loop c5T))) (.seq (rgI b5h) (.ret)))))))
theorem d4A : fchk Pr (fun _ _ => false) Tryz.f191 = some (d6X, [.tmp 4], 66) := by kernel_rfl
theorem d4B : Pr.funcs[b7y]? = some Tryz.f191 := Tryz.func191
def a4u : List AIns := [⟨some 2, none, .p (.mv (.c (.str ⟨#[]⟩)))⟩]
def a4t : List AIns := [mvI 8 0,
 ⟨some 9, none, .call a2h [(.t 8)]⟩,
 opI 10 (.len (.t 9)),
 opI 11 (.mv (.c (.int .i64 0)))]
def a2L : List AIns := [opI 12 (.bin .lss (.t 11) (.t 10))]
def a9B : List AIns := [opI 13 (.idxp 1 (.t 9) (.t 11)),
 opI 14 (.load none (.t 13)),
 mvI 5 14]
def a4s : List AIns := [mvI 15 5,
 ⟨some 16, none, .p (.bin .add (.c (.str ⟨#[108, 97, 116, 116, 105, 99, 101, 32]⟩)) (.t 15))⟩,
 ⟨some 17, none, .p (.bin .add (.t 16) (.c (.str ⟨#[10]⟩)))⟩,
 ⟨some 18, none, .call a0r [(.t 3), (.t 17)]⟩]
def a9A : List AIns := [mvI 19 0,
 opI 20 (.fldp (.t 19) 0),
 opI 21 (.fldp (.t 20) 0),
 opI 22 (.load none (.t 21)),
 mvI 23 5,
 opI 24 (.smap 1 (.t 22) (.t 23)),
 opI 25 (.len (.t 24)),
 opI 26 (.mv (.c (.int .i64 0)))]
def a4r : List AIns := [opI 27 (.bin .lss (.t 26) (.t 25))]
def a9z : List AIns := [opI 28 (.idxp 1 (.t 24) (.t 26)),
 opI 29 (.load none (.t 28)),
 mvI 7 29]
def a4q : List AIns := [mvI 30 7,
 ⟨some 31, none, .call a6W [(.t 30)]⟩,
 ⟨some 32, none, .p (.bin .add (.c (.str ⟨#[32]⟩)) (.t 31))⟩,
 ⟨some 33, none, .p (.bin .add (.t 32) (.c (.str ⟨#[10]⟩)))⟩,
 ⟨some 34, none, .call a0r [(.t 3), (.t 33)]⟩]
def a9y : List AIns := [opI 35 (.bin .add (.t 26) (.c (.int .i64 1))),
 mvI 26 35]
def a9D : ACode := .seq (rgI a4r) (.seq (.cond (.t 27) (.skip) (.exit 2)) (.seq (.block 3 (.seq (rgI a9z) (rgI a4q))) (rgI a9y)))
def a8w : List AIns := [⟨some 36, none, .call a0r [(.t 3), (.c (.str ⟨#[101, 110, 100, 10]⟩))]⟩]
def a3L : List AIns := [opI 37 (.bin .add (.t 11) (.c (.int .i64 1))),
 mvI 11 37]
def a4v : ACode := .seq (rgI a2L) (.seq (.cond (.t 12) (.skip) (.exit 0)) (.seq (.block 1 (.seq (rgI a9B) (.seq (rgI a4s) (.seq (.seq (rgI a9A) (.block 2 (.loop a9D))) (rgI a8w))))) (rgI a3L)))
def b5I : List AIns := [⟨some 38, none, .call a0G [(.t 3)]⟩,
 mvI 2 38]
noncomputable def b8L : ACode := .seq (rgI a4u) (.seq (.raw 1 (b1M Tryz.f13 1) false) (.seq (.seq (rgI a4t) (.block 0 (.loop a4v))) (.seq (rgI b5I) (.ret))))
theorem a9C : fchk Pr (fun r k => (r == 1 && k == 1000000)) Tryz.f13 = some (b8L, [.tmp 2], 39) := by kernel_rfl
theorem a9E : Pr.funcs[a1O]? = some Tryz.f13 := Tryz.func13
def a5n : List AIns := [opI 4 (.mv (.c (.int .i64 0)))]
def a2G : List AIns := [mvI 13 1,
 ⟨some 14, none, .p (.bin .eql (.t 13) (.c (.str ⟨#[101, 110, 100]⟩)))⟩]
def a5m : List AIns := [mvI 15 0,
 mvI 16 0,
 opI 17 (.mkbf a0R [(.t 16)]),
 opI 18 (.fldp (.t 15) 0),
 opI 19 (.fldp (.t 18) 1),
 ⟨none, none, .e (.store 1 (.t 19) (.t 17))⟩]
def a5l : List AIns := [mvI 34 1,
 ⟨some 35, none, .call a2s [(.t 34), (.c (.str ⟨#[32]⟩))]⟩,
 mvI 33 35,
 opI 36 (.ext (.t 33) 0),
 opI 37 (.ext (.t 33) 1),
 mvI 5 36,
 mvI 6 37]
def a2F : List AIns := [mvI 38 6,
 opI 39 (.un .not (.t 38))]
def a5k : List AIns := [opI 4 (.mv (.c (.int .i64 4)))]
def a2E : List AIns := [⟨some 40, none, .e (.bslm 2 [])⟩,
 mvI 7 40]
def a2D : List AIns := [mvI 41 5,
 ⟨some 42, none, .call a8E [(.t 41), (.c (.str ⟨#[32]⟩))]⟩,
 opI 43 (.len (.t 42)),
 opI 44 (.mv (.c (.int .i64 0)))]
def a2C : List AIns := [opI 45 (.bin .lss (.t 44) (.t 43))]
def a5j : List AIns := [opI 46 (.idxp 1 (.t 42) (.t 44)),
 opI 47 (.load none (.t 46)),
 mvI 9 47]
def a2p : List AIns := [mvI 49 9,
 ⟨some 50, none, .call a3a [(.t 49)]⟩,
 mvI 48 50,
 opI 51 (.ext (.t 48) 0),
 opI 52 (.ext (.t 48) 1),
 opI 53 (.ext (.t 48) 2),
 ⟨some 10, none, .e (.box 2 (.c (.agg [.bool false, .nil])))⟩,
 ⟨none, none, .e (.store 2 (.t 10) (.t 51))⟩,
 mvI 11 52,
 mvI 12 53]
def a2o : List AIns := [mvI 54 12,
 opI 55 (.bin .neq (.t 54) (.c (.int .i64 0)))]
def a4l : List AIns := [opI 4 (.mv (.c (.int .i64 4)))]
def a4k : List AIns := [mvI 56 7,
 opI 57 (.load (some 2) (.t 10)),
 ⟨some 58, none, .e (.bsl 2 [(.t 57)])⟩,
 ⟨some 59, none, .e (.app 2 32 false (.t 56) (.t 58))⟩,
 mvI 7 59]
def a4j : List AIns := [opI 60 (.bin .add (.t 44) (.c (.int .i64 1))),
 mvI 44 60]
def a5o : ACode := .seq (rgI a2C) (.seq (.cond (.t 45) (.skip) (.exit 0)) (.seq (.block 1 (.seq (rgI a5j) (.seq (rgI a2p) (.seq (.seq (rgI a2o) (.cond (.t 55) (.seq (rgI a4l) (.ret)) (.skip))) (rgI a4k))))) (rgI a4j)))
def a1c : List AIns := [mvI 61 0,
 mvI 62 0,
 opI 63 (.fldp (.t 62) 0),
 opI 64 (.fldp (.t 63) 3),
 opI 65 (.load none (.t 64)),
 mvI 66 7,
 ⟨some 67, none, .e (.bsl 1 [(.t 66)])⟩,
 ⟨some 68, none, .e (.app 1 24 false (.t 65) (.t 67))⟩,
 opI 69 (.fldp (.t 61) 0),
 opI 70 (.fldp (.t 69) 3),
 ⟨none, none, .e (.store 1 (.t 70) (.t 68))⟩]
def a1b : List AIns := [opI 4 (.mv (.c (.int .i64 0)))]
noncomputable def b3Q : ACode := .seq (rgI a5n) (.seq (.seq (rgI a2G) (.cond (.t 14) (.seq (rgI a5m) (.seq (.raw 3 (b1M Tryz.f49 3) true) (.ret))) (.skip))) (.seq (rgI a5l) (.seq (.seq (rgI a2F) (.cond (.t 39) (.seq (rgI a5k) (.ret)) (.skip))) (.seq (rgI a2E) (.seq (.seq (rgI a2D) (.block 0 (.loop a5o))) (.seq (rgI a1c) (.seq (rgI a1b) (.ret))))))))
theorem b2x : fchk Pr (fun r k => (r == 3 && k == 1000000) || (k == 0)) Tryz.f49 = some (b3Q, [.tmp 4], 71) := by kernel_rfl
theorem b2y : Pr.funcs[a1f]? = some Tryz.f49 := Tryz.func49
end Go.Abs

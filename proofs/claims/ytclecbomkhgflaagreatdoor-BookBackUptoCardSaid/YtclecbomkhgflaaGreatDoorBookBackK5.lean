/- Part 5 of the proof of BookBack: Code0, Code1, Code2, Code3. -/
import Derived.Test.YtclecbomkhgflaaGreatDoorBookBackK4
set_option maxRecDepth 100000
noncomputable section
namespace Go.Abs
abbrev mvI (d s : Nat) : AIns := ⟨some d, none, .p (.mv (.t s))⟩
abbrev opI (d : Nat) (o : POp) : AIns := ⟨some d, none, .p o⟩
abbrev rgI (l : List AIns) : ACode := .region l false
open Go.Proofs
def b0s : List AIns := [⟨some 7, none, .e (.box 2 (.t 3))⟩,
 opI 8 (.mv (.c (.bool false)))]
def b0r : List AIns := [⟨some 14, none, .call b1Q []⟩,
 opI 15 (.un .not (.t 14))]
def b8P : List AIns := [opI 8 (.mv (.c (.bool false)))]
def b0q : List AIns := [⟨some 16, none, .call b4n []⟩,
 mvI 9 16]
def b0p : List AIns := [mvI 17 9,
 opI 18 (.isn true false (.t 17))]
def b8O : List AIns := [opI 8 (.mv (.c (.bool false)))]
def b0o : List AIns := [mvI 19 9,
 mvI 20 0,
 ⟨some 21, none, .call a8Q [(.t 19), (.c (.str ⟨#[97]⟩)), (.t 20)]⟩,
 mvI 10 21]
def a5Q : List AIns := [mvI 22 10,
 opI 23 (.bin .neq (.t 22) (.c (.int .i64 0)))]
def b0n : List AIns := [mvI 24 9,
 ⟨some 25, none, .call a1k [(.t 24)]⟩,
 ⟨some 26, none, .p (.bin .eql (.t 25) (.c (.str ⟨#[]⟩)))⟩,
 mvI 27 26,
 ⟨some 28, some (27, true), .p (.mv (.t 9))⟩,
 ⟨some 29, some (27, true), .call a3l [(.t 28)]⟩,
 ⟨some 30, some (27, true), .p (.len (.t 29))⟩,
 ⟨some 31, some (27, true), .p (.bin .eql (.t 30) (.c (.int .i64 0)))⟩,
 opI 32 (.pick (.t 27) (.t 31) (.c (.bool false))),
 mvI 8 32]
def b0m : List AIns := [mvI 33 9,
 ⟨some 34, none, .call a1k [(.t 33)]⟩,
 mvI 11 34]
def a9w : List AIns := [mvI 35 9,
 mvI 36 1,
 mvI 37 2,
 opI 38 (.load (some 2) (.t 7)),
 ⟨some 39, none, .call a3c [(.t 35), (.c (.str ⟨#[97]⟩)), (.t 36), (.t 37), (.t 38)]⟩,
 mvI 12 39]
def a2M : List AIns := [mvI 40 12,
 opI 41 (.bin .neq (.t 40) (.c (.int .i64 0)))]
def a4j : List AIns := [mvI 42 9,
 ⟨some 43, none, .call a1k [(.t 42)]⟩,
 mvI 44 11,
 opI 45 (.bin .eql (.t 43) (.t 44)),
 mvI 8 45]
def a4i : List AIns := [mvI 46 9,
 mvI 47 1,
 mvI 48 2,
 opI 49 (.load (some 2) (.t 7)),
 ⟨some 50, none, .call b5V [(.t 49)]⟩,
 ⟨some 51, none, .call a3c [(.t 46), (.c (.str ⟨#[97]⟩)), (.t 47), (.t 48), (.t 50)]⟩,
 mvI 13 51]
def a4h : List AIns := [mvI 52 13,
 opI 53 (.bin .eql (.t 52) (.c (.int .i64 0))),
 mvI 54 53,
 ⟨some 55, some (54, true), .p (.mv (.t 9))⟩,
 ⟨some 56, some (54, true), .call a1k [(.t 55)]⟩,
 ⟨some 57, some (54, true), .p (.mv (.t 11))⟩,
 ⟨some 58, some (54, true), .p (.bin .eql (.t 56) (.t 57))⟩,
 opI 59 (.pick (.t 54) (.t 58) (.c (.bool false))),
 mvI 8 59]
def c1l : ACode := .seq (rgI b0s) (.seq (.seq (rgI b0r) (.cond (.t 15) (.seq (rgI b8P) (.ret)) (.skip))) (.seq (rgI b0q) (.seq (.seq (rgI b0p) (.cond (.t 18) (.seq (rgI b8O) (.ret)) (.skip))) (.seq (rgI b0o) (.seq (.seq (rgI a5Q) (.cond (.t 23) (.seq (rgI b0n) (.ret)) (.skip))) (.seq (rgI b0m) (.seq (rgI a9w) (.seq (.seq (rgI a2M) (.cond (.t 41) (.seq (rgI a4j) (.ret)) (.skip))) (.seq (rgI a4i) (.seq (rgI a4h) (.ret)))))))))))
theorem b8Q : fchk Pr (fun _ _ => false) Tryz.f5 = some (c1l, [.tmp 8], 60) := by kernel_rfl
theorem b8R : Pr.funcs[a7d]? = some Tryz.f5 := Tryz.func5
def c0Z : List AIns := [opI 2 (.mv (.c (.lit (.pointer none)))),
 opI 3 (.mv (.c (.int .i64 0))),
 opI 4 (.mv (.c (.int .i64 0)))]
def b3S : List AIns := [mvI 14 0,
 opI 15 (.lens (.t 14)),
 opI 16 (.bin .gtr (.t 15) (.c (.int .i64 262144)))]
def c0Y : List AIns := [opI 2 (.mv (.c (.lit (.pointer none)))),
 opI 3 (.mv (.c (.int .i64 0))),
 opI 4 (.mv (.c (.int .i64 2)))]
def c0X : List AIns := [⟨some 17, none, .call b4n []⟩,
 ⟨some 18, none, .p (.bld [.lit (.pointer none), .lit .nilFunc, .str ⟨#[]⟩, .nil] [(0, 1, (.t 17))])⟩,
 ⟨some 19, none, .e (.box 4 (.t 18))⟩,
 mvI 5 19]
def c0W : List AIns := [mvI 20 5,
 mvI 21 5,
 opI 22 (.mkbf a0X [(.t 21)]),
 opI 23 (.fldp (.t 20) 0),
 opI 24 (.fldp (.t 23) 1),
 ⟨none, none, .e (.store 1 (.t 24) (.t 22))⟩]
def c0V : List AIns := [opI 6 (.mv (.c (.int .i64 0)))]
def c0U : List AIns := [mvI 25 0,
 mvI 7 25]
def b3R : List AIns := [mvI 26 7,
 ⟨some 27, none, .p (.bin .neq (.t 26) (.c (.str ⟨#[]⟩)))⟩]
def c0T : List AIns := [mvI 29 7,
 ⟨some 30, none, .call b1N [(.t 29), (.c (.str ⟨#[10]⟩))]⟩,
 mvI 28 30,
 opI 31 (.ext (.t 28) 0),
 opI 32 (.ext (.t 28) 1),
 opI 33 (.ext (.t 28) 2),
 mvI 8 31,
 mvI 9 32,
 mvI 10 33]
def c0S : List AIns := [mvI 34 9,
 mvI 7 34]
def b7F : List AIns := [mvI 35 6,
 opI 36 (.bin .add (.t 35) (.c (.int .i64 1))),
 mvI 6 36]
def a8b : List AIns := [mvI 37 8,
 ⟨some 38, none, .p (.bin .eql (.t 37) (.c (.str ⟨#[]⟩)))⟩,
 mvI 39 38,
 ⟨some 40, some (39, false), .p (.mv (.t 8))⟩,
 ⟨some 41, some (39, false), .p (.idxs (.t 40) (.c (.int .i64 0)))⟩,
 ⟨some 42, some (39, false), .p (.bin .eql (.t 41) (.c (.int .u8 35)))⟩,
 opI 43 (.pick (.t 39) (.c (.bool true)) (.t 42))]
def c8J : List AIns := [mvI 44 5,
 opI 45 (.fldp (.t 44) 0),
 opI 46 (.fldp (.t 45) 1),
 opI 47 (.load none (.t 46)),
 mvI 48 8,
 ⟨some 49, none, .callv (.t 47) [(.t 48)]⟩,
 mvI 11 49]
def a8a : List AIns := [mvI 50 11,
 opI 51 (.bin .neq (.t 50) (.c (.int .i64 0)))]
def b1L : List AIns := [mvI 52 6,
 mvI 53 11,
 opI 2 (.mv (.c (.lit (.pointer none)))),
 mvI 3 52,
 mvI 4 53]
def a6M : ACode := .seq (.seq (rgI b3R) (.cond (.t 27) (.skip) (.exit 0))) (.block 1 (.seq (rgI c0T) (.seq (rgI c0S) (.seq (rgI b7F) (.seq (.seq (rgI a8b) (.cond (.t 43) (.exit 1) (.skip))) (.seq (rgI c8J) (.seq (rgI a8a) (.cond (.t 51) (.seq (rgI b1L) (.ret)) (.skip)))))))))
def a3k : List AIns := [mvI 54 5,
 opI 55 (.fldp (.t 54) 0),
 opI 56 (.fldp (.t 55) 2),
 opI 57 (.load none (.t 56)),
 ⟨some 58, none, .p (.bin .neq (.t 57) (.c (.str ⟨#[]⟩)))⟩]
def a7Z : List AIns := [mvI 60 5,
 opI 61 (.fldp (.t 60) 0),
 opI 62 (.fldp (.t 61) 0),
 opI 63 (.load none (.t 62)),
 opI 64 (.fldp (.t 63) 0),
 opI 65 (.fldp (.t 64) 0),
 opI 66 (.load none (.t 65)),
 mvI 67 5,
 opI 68 (.fldp (.t 67) 0),
 opI 69 (.fldp (.t 68) 2),
 opI 70 (.load none (.t 69)),
 opI 71 (.smap 0 (.t 66) (.t 70)),
 mvI 59 71,
 opI 72 (.ext (.t 59) 0),
 opI 73 (.ext (.t 59) 1),
 mvI 12 72,
 mvI 13 73]
def a7Y : List AIns := [mvI 74 13,
 opI 75 (.un .not (.t 74))]
def b1K : List AIns := [mvI 76 6,
 opI 77 (.bin .add (.t 76) (.c (.int .i64 1))),
 opI 2 (.mv (.c (.lit (.pointer none)))),
 mvI 3 77,
 opI 4 (.mv (.c (.int .i64 4)))]
def a7X : List AIns := [mvI 78 5,
 opI 79 (.fldp (.t 78) 0),
 opI 80 (.fldp (.t 79) 0),
 opI 81 (.load none (.t 80)),
 mvI 2 81,
 opI 3 (.mv (.c (.int .i64 0))),
 opI 4 (.mv (.c (.int .i64 0)))]
def d2Z : ACode := .seq (rgI c0Z) (.seq (.seq (rgI b3S) (.cond (.t 16) (.seq (rgI c0Y) (.ret)) (.skip))) (.seq (rgI c0X) (.seq (rgI c0W) (.seq (rgI c0V) (.seq (.seq (rgI c0U) (.block 0 (.loop a6M))) (.seq (.seq (rgI a3k) (.cond (.t 58) (.seq (.region a7Z true) (.seq (rgI a7Y) (.cond (.t 75) (.seq (rgI b1K) (.ret)) (.skip)))) (.skip))) (.seq (rgI a7X) (.ret))))))))
theorem d0Q : fchk Pr (fun _ _ => false) Tryz.f8 = some (d2Z, [.tmp 2, .tmp 3, .tmp 4], 82) := by kernel_rfl
theorem d0R : Pr.funcs[b1R]? = some Tryz.f8 := Tryz.func8
def b4M : List AIns := [opI 0 (.mv (.c (.bool false)))]
def b4L : List AIns := [⟨some 5, none, .call b1R [(.c (.str ⟨#[108, 97, 116, 116, 105, 99, 101, 32, 122, 10, 32, 49, 32, 48, 10, 32, 48, 32, 49, 10, 101, 110, 100, 10]⟩))]⟩,
 mvI 4 5,
 opI 6 (.ext (.t 4) 0),
 opI 7 (.ext (.t 4) 1),
 opI 8 (.ext (.t 4) 2),
 mvI 1 6,
 mvI 2 7,
 mvI 3 8]
def b4K : List AIns := [mvI 9 1,
 opI 10 (.isn true true (.t 9)),
 mvI 11 10,
 ⟨some 12, some (11, true), .p (.mv (.t 2))⟩,
 ⟨some 13, some (11, true), .p (.bin .eql (.t 12) (.c (.int .i64 0)))⟩,
 opI 14 (.pick (.t 11) (.t 13) (.c (.bool false))),
 mvI 15 14,
 ⟨some 16, some (15, true), .p (.mv (.t 3))⟩,
 ⟨some 17, some (15, true), .p (.bin .eql (.t 16) (.c (.int .i64 0)))⟩,
 opI 18 (.pick (.t 15) (.t 17) (.c (.bool false))),
 mvI 19 18,
 ⟨some 20, some (19, true), .p (.mv (.t 1))⟩,
 ⟨some 21, some (19, true), .call a1k [(.t 20)]⟩,
 ⟨some 22, some (19, true), .p (.bin .eql (.t 21) (.c (.str ⟨#[108, 97, 116, 116, 105, 99, 101, 32, 122, 10, 32, 49, 32, 48, 10, 32, 48, 32, 49, 10, 101, 110, 100, 10]⟩)))⟩,
 opI 23 (.pick (.t 19) (.t 22) (.c (.bool false))),
 mvI 0 23]
def c8i : ACode := .seq (rgI b4M) (.seq (rgI b4L) (.seq (rgI b4K) (.ret)))
theorem c5w : fchk Pr (fun _ _ => false) Tryz.f10 = some (c8i, [.tmp 0], 24) := by kernel_rfl
theorem c5x : Pr.funcs[b1Q]? = some Tryz.f10 := Tryz.func10
def a9O : List AIns := [opI 2 (.mv (.c (.nil)))]
def a9N : List AIns := [mvI 5 0,
 ⟨some 6, none, .call a2x [(.t 5)]⟩]
def b7I : List AIns := [opI 2 (.mv (.c (.nil)))]
def a9M : List AIns := [opI 3 (.mv (.c (.nil)))]
def a9L : List AIns := [mvI 7 0,
 opI 8 (.fldp (.t 7) 0),
 opI 9 (.fldp (.t 8) 0),
 opI 10 (.load none (.t 9)),
 ⟨some 11, none, .e (.smut 3 (.t 10) (.c (.nil)) (.c (.nil)))⟩]
def a9K : List AIns := [⟨some 12, none, .nxt (.t 11)⟩,
 opI 13 (.ext (.t 12) 0)]
def a9J : List AIns := [opI 14 (.ment (.t 11)),
 opI 15 (.ext (.t 14) 0),
 mvI 4 15]
def a9I : List AIns := [mvI 16 3,
 mvI 17 4,
 ⟨some 18, none, .e (.bsl 1 [(.t 17)])⟩,
 ⟨some 19, none, .e (.app 1 16 false (.t 16) (.t 18))⟩,
 mvI 3 19]
def b7K : ACode := .seq (rgI a9K) (.seq (.cond (.t 13) (.skip) (.exit 0)) (.block 1 (.seq (rgI a9J) (rgI a9I))))
def a4D : List AIns := [mvI 20 3,
 ⟨some 21, none, .call a1i [(.t 20)]⟩]
def a4C : List AIns := [mvI 22 3,
 mvI 2 22]
def b9i : ACode := .seq (rgI a9O) (.seq (.seq (rgI a9N) (.cond (.t 6) (.seq (rgI b7I) (.ret)) (.skip))) (.seq (rgI a9M) (.seq (.seq (rgI a9L) (.block 0 (.loop b7K))) (.seq (rgI a4D) (.seq (rgI a4C) (.ret))))))
theorem b7J : fchk Pr (fun _ _ => false) Tryz.f12 = some (b9i, [.tmp 2], 23) := by kernel_rfl
theorem b7L : Pr.funcs[a3l]? = some Tryz.f12 := Tryz.func12
def c4Y : List AIns := [opI 0 (.mv (.c (.lit (.pointer none))))]
def c4X : List AIns := [⟨some 1, none, .e (.smut 0 (.c (.nil)) (.c (.nil)) (.c (.nil)))⟩,
 opI 2 (.bld [.lit (.map none)] [(0, 1, (.t 1))]),
 ⟨some 3, none, .e (.box 1 (.t 2))⟩,
 mvI 0 3]
def d6C : ACode := .seq (rgI c4Y) (.seq (rgI c4X) (.ret))
theorem d3a : fchk Pr (fun _ _ => false) Tryz.f15 = some (d6C, [.tmp 0], 4) := by kernel_rfl
theorem d3b : Pr.funcs[b4n]? = some Tryz.f15 := Tryz.func15
def b2m : List AIns := [opI 6 (.mv (.c (.int .i64 0)))]
def b2l : List AIns := [mvI 8 0,
 ⟨some 9, none, .call a2x [(.t 8)]⟩]
def c1t : List AIns := [opI 6 (.mv (.c (.int .i64 7)))]
def b2k : List AIns := [mvI 10 0,
 mvI 11 1,
 ⟨some 12, none, .call a3I [(.t 10), (.t 11)]⟩,
 mvI 7 12]
def a7a : List AIns := [mvI 13 7,
 opI 14 (.bin .neq (.t 13) (.c (.int .i64 0)))]
def b2j : List AIns := [mvI 15 7,
 mvI 6 15]
def b2i : List AIns := [mvI 16 0,
 mvI 17 1,
 mvI 18 2,
 ⟨some 19, none, .call a2k [(.t 16), (.t 17), (.t 18)]⟩,
 mvI 6 19]
def c5b : ACode := .seq (rgI b2m) (.seq (.seq (rgI b2l) (.cond (.t 9) (.seq (rgI c1t) (.ret)) (.skip))) (.seq (.seq (rgI b2k) (.seq (rgI a7a) (.cond (.t 14) (.seq (rgI b2j) (.ret)) (.skip)))) (.seq (rgI b2i) (.ret))))
theorem c1u : fchk Pr (fun _ _ => false) Tryz.f16 = some (c5b, [.tmp 6], 20) := by kernel_rfl
theorem c1v : Pr.funcs[a8Q]? = some Tryz.f16 := Tryz.func16
def a6Z : List AIns := [⟨some 9, none, .e (.box 2 (.t 4))⟩,
 opI 10 (.mv (.c (.int .i64 0)))]
def a6Y : List AIns := [mvI 15 0,
 mvI 16 1,
 ⟨some 17, none, .call a7e [(.t 15), (.t 16)]⟩,
 mvI 14 17,
 opI 18 (.ext (.t 14) 0),
 opI 19 (.ext (.t 14) 1),
 mvI 11 18,
 mvI 12 19]
def a6X : List AIns := [mvI 20 12,
 opI 21 (.bin .neq (.t 20) (.c (.int .i64 0)))]
def c1s : List AIns := [mvI 22 12,
 mvI 10 22]
def a1y : List AIns := [mvI 23 2,
 opI 24 (.bin .lss (.t 23) (.c (.int .i64 0))),
 mvI 25 24,
 ⟨some 26, some (25, false), .p (.mv (.t 2))⟩,
 ⟨some 27, some (25, false), .p (.mv (.t 11))⟩,
 ⟨some 28, some (25, false), .p (.len (.t 27))⟩,
 ⟨some 29, some (25, false), .p (.bin .geq (.t 26) (.t 28))⟩,
 opI 30 (.pick (.t 25) (.c (.bool true)) (.t 29)),
 mvI 31 30,
 ⟨some 32, some (31, false), .p (.mv (.t 3))⟩,
 ⟨some 33, some (31, false), .p (.bin .lss (.t 32) (.c (.int .i64 0)))⟩,
 opI 34 (.pick (.t 31) (.c (.bool true)) (.t 33)),
 mvI 35 34,
 ⟨some 36, some (35, false), .p (.mv (.t 3))⟩,
 ⟨some 37, some (35, false), .p (.mv (.t 11))⟩,
 ⟨some 38, some (35, false), .p (.len (.t 37))⟩,
 ⟨some 39, some (35, false), .p (.bin .geq (.t 36) (.t 38))⟩,
 opI 40 (.pick (.t 35) (.c (.bool true)) (.t 39)),
 mvI 41 40,
 ⟨some 42, some (41, false), .p (.mv (.t 2))⟩,
 ⟨some 43, some (41, false), .p (.mv (.t 3))⟩,
 ⟨some 44, some (41, false), .p (.bin .eql (.t 42) (.t 43))⟩,
 opI 45 (.pick (.t 41) (.c (.bool true)) (.t 44))]
def a1P : List AIns := [opI 10 (.mv (.c (.int .i64 1)))]
def b2f : List AIns := [mvI 46 11,
 ⟨some 47, none, .call a4G [(.t 46)]⟩,
 mvI 13 47]
def b2e : List AIns := [mvI 49 13,
 mvI 50 2,
 mvI 51 13,
 mvI 52 2,
 opI 53 (.idxp 1 (.t 51) (.t 52)),
 opI 54 (.load none (.t 53)),
 opI 55 (.load (some 2) (.t 9)),
 mvI 56 13,
 mvI 57 3,
 opI 58 (.idxp 1 (.t 56) (.t 57)),
 opI 59 (.load none (.t 58)),
 ⟨some 60, none, .call b5X [(.t 55), (.t 59)]⟩,
 ⟨some 61, none, .call b9n [(.t 54), (.t 60)]⟩,
 mvI 48 61,
 opI 62 (.ext (.t 48) 0),
 opI 63 (.ext (.t 48) 1),
 opI 64 (.idxp 1 (.t 49) (.t 50)),
 ⟨none, none, .e (.store 1 (.t 64) (.t 62))⟩]
def b2d : List AIns := [mvI 65 0,
 mvI 66 1,
 mvI 67 13,
 ⟨some 68, none, .call a2k [(.t 65), (.t 66), (.t 67)]⟩,
 mvI 10 68]
def c5a : ACode := .seq (rgI a6Z) (.seq (rgI a6Y) (.seq (.seq (rgI a6X) (.cond (.t 21) (.seq (rgI c1s) (.ret)) (.skip))) (.seq (.seq (rgI a1y) (.cond (.t 45) (.seq (rgI a1P) (.ret)) (.skip))) (.seq (rgI b2f) (.seq (.region b2e true) (.seq (rgI b2d) (.ret)))))))
theorem b2g : fchk Pr (fun _ _ => false) Tryz.f17 = some (c5a, [.tmp 10], 69) := by kernel_rfl
theorem b2h : Pr.funcs[a3c]? = some Tryz.f17 := Tryz.func17
def b9V : List AIns := [⟨some 1, none, .e (.box 2 (.t 0))⟩,
 ⟨some 2, none, .e (.box 2 (.c (.agg [.bool false, .nil])))⟩]
def b9U : List AIns := [opI 3 (.fldp (.t 1) 0),
 opI 4 (.load none (.t 3)),
 opI 5 (.un .not (.t 4)),
 opI 6 (.fldp (.t 1) 1),
 opI 7 (.load none (.t 6)),
 ⟨some 8, none, .call b3Y [(.t 5), (.t 7)]⟩,
 ⟨none, none, .e (.store 2 (.t 2) (.t 8))⟩]
def d1G : ACode := .seq (rgI b9V) (.seq (rgI b9U) (.ret))
theorem c9E : fchk Pr (fun _ _ => false) Tryz.f18 = some (d1G, [.cell 2 (some 2)], 9) := by kernel_rfl
theorem c9F : Pr.funcs[b5V]? = some Tryz.f18 := Tryz.func18
def a5p : List AIns := [opI 4 (.mv (.c (.int .i64 0)))]
def a5o : List AIns := [mvI 9 1,
 ⟨some 10, none, .call a2u [(.t 9), (.c (.str ⟨#[108, 97, 116, 116, 105, 99, 101, 32]⟩))]⟩,
 mvI 8 10,
 opI 11 (.ext (.t 8) 0),
 opI 12 (.ext (.t 8) 1),
 mvI 5 11,
 mvI 6 12]
def a2C : List AIns := [mvI 13 6,
 opI 14 (.un .not (.t 13))]
def a5n : List AIns := [opI 4 (.mv (.c (.int .i64 4)))]
def a5m : List AIns := [mvI 15 0,
 opI 16 (.fldp (.t 15) 0),
 opI 17 (.fldp (.t 16) 0),
 opI 18 (.load none (.t 17)),
 mvI 19 5,
 ⟨some 20, none, .call a3I [(.t 18), (.t 19)]⟩,
 mvI 7 20]
def a2B : List AIns := [mvI 21 7,
 opI 22 (.bin .neq (.t 21) (.c (.int .i64 0)))]
def a5l : List AIns := [mvI 23 7,
 mvI 4 23]
def a5k : List AIns := [mvI 24 0,
 mvI 25 0,
 mvI 26 5,
 opI 27 (.fldp (.t 24) 0),
 opI 28 (.fldp (.t 27) 2),
 ⟨none, none, .e (.store 1 (.t 28) (.t 26))⟩,
 opI 29 (.fldp (.t 25) 0),
 opI 30 (.fldp (.t 29) 3),
 ⟨none, none, .e (.store 1 (.t 30) (.c (.nil)))⟩]
def a5j : List AIns := [mvI 31 0,
 mvI 32 0,
 opI 33 (.mkbf a1j [(.t 32)]),
 opI 34 (.fldp (.t 31) 0),
 opI 35 (.fldp (.t 34) 1),
 ⟨none, none, .e (.store 1 (.t 35) (.t 33))⟩]
def a5i : List AIns := [opI 4 (.mv (.c (.int .i64 0)))]
def b3P : ACode := .seq (rgI a5p) (.seq (rgI a5o) (.seq (.seq (rgI a2C) (.cond (.t 14) (.seq (rgI a5n) (.ret)) (.skip))) (.seq (.seq (rgI a5m) (.seq (rgI a2B) (.cond (.t 22) (.seq (rgI a5l) (.ret)) (.skip)))) (.seq (rgI a5k) (.seq (rgI a5j) (.seq (rgI a5i) (.ret)))))))
theorem b2p : fchk Pr (fun _ _ => false) Tryz.f25 = some (b3P, [.tmp 4], 36) := by kernel_rfl
theorem b2q : Pr.funcs[a0X]? = some Tryz.f25 := Tryz.func25
def b4F : List AIns := [⟨some 4, none, .p (.mv (.c (.str ⟨#[]⟩)))⟩,
 ⟨some 5, none, .p (.mv (.c (.str ⟨#[]⟩)))⟩,
 opI 6 (.mv (.c (.bool false)))]
def b4E : List AIns := [mvI 7 0,
 mvI 8 1,
 ⟨some 9, none, .call a1O [(.t 7), (.t 8)]⟩,
 opI 10 (.ext (.t 9) 0),
 opI 11 (.ext (.t 9) 1),
 opI 12 (.ext (.t 9) 2),
 mvI 4 10,
 mvI 5 11,
 mvI 6 12]
def c7E : ACode := .seq (rgI b4F) (.seq (rgI b4E) (.ret))
theorem c5p : fchk Pr (fun _ _ => false) Tryz.f26 = some (c7E, [.tmp 4, .tmp 5, .tmp 6], 13) := by kernel_rfl
theorem c5q : Pr.funcs[b1N]? = some Tryz.f26 := Tryz.func26
def b0D : List AIns := [opI 2 (.mv (.c (.bool false)))]
def b0C : List AIns := [mvI 3 0,
 opI 4 (.isn true false (.t 3)),
 mvI 5 4,
 ⟨some 6, some (5, false), .p (.mv (.t 0))⟩,
 ⟨some 7, some (5, false), .p (.fldp (.t 6) 0)⟩,
 ⟨some 8, some (5, false), .p (.fldp (.t 7) 0)⟩,
 ⟨some 9, some (5, false), .p (.load none (.t 8))⟩,
 ⟨some 10, some (5, false), .p (.isn false false (.t 9))⟩,
 opI 11 (.pick (.t 5) (.c (.bool true)) (.t 10)),
 mvI 2 11]
def c1q : ACode := .seq (rgI b0D) (.seq (rgI b0C) (.ret))
theorem b9c : fchk Pr (fun _ _ => false) Tryz.f29 = some (c1q, [.tmp 2], 12) := by kernel_rfl
theorem b9d : Pr.funcs[a2x]? = some Tryz.f29 := Tryz.func29
def a2J : List AIns := [mvI 3 0,
 opI 4 (.len (.t 3)),
 mvI 2 4]
def a2I : List AIns := [mvI 5 0,
 mvI 6 2,
 mvI 7 2,
 opI 8 (.conv .u64 (.t 7)),
 ⟨some 9, none, .call a8P [(.t 8)]⟩,
 ⟨some 10, none, .call a0A [(.t 5), (.c (.int .i64 0)), (.t 6), (.t 9)]⟩]
def a8t : ACode := .seq (rgI a2J) (rgI a2I)
theorem a7D : fchk Pr (fun _ _ => false) Tryz.f30 = some (a8t, [], 11) := by kernel_rfl
theorem a7E : Pr.funcs[a1i]? = some Tryz.f30 := Tryz.func30
def b0k : List AIns := [⟨some 2, none, .p (.mv (.c (.str ⟨#[]⟩)))⟩]
def b0j : List AIns := [mvI 3 0,
 ⟨some 4, none, .call a3M [(.t 3), (.c (.fn b1M []))]⟩,
 ⟨some 5, none, .call a6f [(.t 4), (.c (.str ⟨#[32]⟩))]⟩,
 mvI 2 5]
def c1k : ACode := .seq (rgI b0k) (.seq (rgI b0j) (.ret))
theorem b8H : fchk Pr (fun _ _ => false) Tryz.f32 = some (c1k, [.tmp 2], 6) := by kernel_rfl
theorem b8I : Pr.funcs[a7c]? = some Tryz.f32 := Tryz.func32
def b0B : List AIns := [opI 4 (.mv (.c (.int .i64 0)))]
def b0A : List AIns := [mvI 7 1,
 ⟨some 8, none, .call b3Z [(.t 7)]⟩,
 opI 9 (.un .not (.t 8))]
def b0z : List AIns := [opI 4 (.mv (.c (.int .i64 270)))]
def b0y : List AIns := [mvI 11 0,
 opI 12 (.fldp (.t 11) 0),
 opI 13 (.fldp (.t 12) 0),
 opI 14 (.load none (.t 13)),
 mvI 15 1,
 opI 16 (.smap 0 (.t 14) (.t 15)),
 mvI 10 16,
 opI 17 (.ext (.t 10) 0),
 opI 18 (.ext (.t 10) 1),
 mvI 5 17,
 mvI 6 18]
def a5V : List AIns := [mvI 19 6]
def b0x : List AIns := [opI 4 (.mv (.c (.int .i64 271)))]
def a5U : List AIns := [mvI 20 0,
 opI 21 (.fldp (.t 20) 0),
 opI 22 (.fldp (.t 21) 0),
 opI 23 (.load none (.t 22)),
 opI 24 (.smap 2 (.t 23) (.c (.nil))),
 opI 25 (.bin .geq (.t 24) (.c (.int .i64 64)))]
def b0w : List AIns := [opI 4 (.mv (.c (.int .i64 2)))]
def b0v : List AIns := [opI 4 (.mv (.c (.int .i64 0)))]
def c1n : ACode := .seq (rgI b0B) (.seq (.seq (rgI b0A) (.cond (.t 9) (.seq (rgI b0z) (.ret)) (.skip))) (.seq (.seq (rgI b0y) (.seq (rgI a5V) (.cond (.t 19) (.seq (rgI b0x) (.ret)) (.skip)))) (.seq (.seq (rgI a5U) (.cond (.t 25) (.seq (rgI b0w) (.ret)) (.skip))) (.seq (rgI b0v) (.ret)))))
theorem b9a : fchk Pr (fun _ _ => false) Tryz.f35 = some (c1n, [.tmp 4], 26) := by kernel_rfl
theorem b9b : Pr.funcs[a3I]? = some Tryz.f35 := Tryz.func35
def b2c : List AIns := [opI 6 (.mv (.c (.int .i64 0)))]
def b2b : List AIns := [mvI 8 2,
 ⟨some 9, none, .call b5Z [(.t 8)]⟩,
 mvI 7 9]
def a6W : List AIns := [mvI 10 7,
 opI 11 (.bin .neq (.t 10) (.c (.int .i64 0)))]
def b2a : List AIns := [mvI 12 7,
 mvI 6 12]
def b1Z : List AIns := [mvI 13 0,
 opI 14 (.fldp (.t 13) 0),
 opI 15 (.fldp (.t 14) 0),
 opI 16 (.load none (.t 15)),
 mvI 17 1,
 mvI 18 2,
 ⟨some 19, none, .call b9o [(.t 18)]⟩,
 ⟨none, none, .e (.smut 1 (.t 16) (.t 17) (.t 19))⟩]
def b1Y : List AIns := [opI 6 (.mv (.c (.int .i64 0)))]
def c4Z : ACode := .seq (rgI b2c) (.seq (.seq (rgI b2b) (.seq (rgI a6W) (.cond (.t 11) (.seq (rgI b2a) (.ret)) (.skip)))) (.seq (.region b1Z true) (.seq (rgI b1Y) (.ret))))
theorem c1o : fchk Pr (fun _ _ => false) Tryz.f36 = some (c4Z, [.tmp 6], 20) := by kernel_rfl
theorem c1p : Pr.funcs[a2k]? = some Tryz.f36 := Tryz.func36
def b0I : List AIns := [opI 4 (.mv (.c (.nil))),
 opI 5 (.mv (.c (.int .i64 0)))]
def b0H : List AIns := [mvI 8 0,
 ⟨some 9, none, .call a2x [(.t 8)]⟩]
def b9e : List AIns := [opI 4 (.mv (.c (.nil))),
 opI 5 (.mv (.c (.int .i64 7)))]
def b0G : List AIns := [mvI 11 0,
 opI 12 (.fldp (.t 11) 0),
 opI 13 (.fldp (.t 12) 0),
 opI 14 (.load none (.t 13)),
 mvI 15 1,
 opI 16 (.smap 0 (.t 14) (.t 15)),
 mvI 10 16,
 opI 17 (.ext (.t 10) 0),
 opI 18 (.ext (.t 10) 1),
 mvI 6 17,
 mvI 7 18]
def a5W : List AIns := [mvI 19 7,
 opI 20 (.un .not (.t 19))]
def b0F : List AIns := [opI 4 (.mv (.c (.nil))),
 opI 5 (.mv (.c (.int .i64 6)))]
def b0E : List AIns := [mvI 21 6,
 mvI 4 21,
 opI 5 (.mv (.c (.int .i64 0)))]
def c1r : ACode := .seq (rgI b0I) (.seq (.seq (rgI b0H) (.cond (.t 9) (.seq (rgI b9e) (.ret)) (.skip))) (.seq (rgI b0G) (.seq (.seq (rgI a5W) (.cond (.t 20) (.seq (rgI b0F) (.ret)) (.skip))) (.seq (rgI b0E) (.ret)))))
theorem b9f : fchk Pr (fun _ _ => false) Tryz.f37 = some (c1r, [.tmp 4, .tmp 5], 22) := by kernel_rfl
theorem b9g : Pr.funcs[a7e]? = some Tryz.f37 := Tryz.func37
def c4e : List AIns := [opI 4 (.mv (.c (.nil))),
 opI 5 (.mv (.c (.int .i64 0)))]
def c4d : List AIns := [mvI 6 0,
 mvI 7 1,
 ⟨some 8, none, .call b5W [(.t 6), (.t 7), (.c (.fn a3V []))]⟩,
 opI 9 (.ext (.t 8) 0),
 opI 10 (.ext (.t 8) 1),
 mvI 4 9,
 mvI 5 10]
def d6c : ACode := .seq (rgI c4e) (.seq (rgI c4d) (.ret))
theorem d2h : fchk Pr (fun _ _ => false) Tryz.f39 = some (d6c, [.tmp 4, .tmp 5], 11) := by kernel_rfl
theorem d2i : Pr.funcs[b9n]? = some Tryz.f39 := Tryz.func39
def c0u : List AIns := [⟨some 2, none, .e (.box 2 (.t 0))⟩,
 opI 4 (.mv (.c (.nil)))]
def c0t : List AIns := [mvI 5 1,
 opI 6 (.mkfn a8c [(.t 2)]),
 ⟨some 7, none, .call a3G [(.t 5), (.t 6)]⟩,
 mvI 4 7]
def d2f : ACode := .seq (rgI c0u) (.seq (rgI c0t) (.ret))
theorem c9T : fchk Pr (fun _ _ => false) Tryz.f40 = some (d2f, [.tmp 4], 8) := by kernel_rfl
theorem c9U : Pr.funcs[b5X]? = some Tryz.f40 := Tryz.func40
def b6F : List AIns := [⟨some 4, none, .e (.box 2 (.c (.agg [.bool false, .nil])))⟩]
def b6E : List AIns := [mvI 6 1,
 ⟨some 7, none, .call a3W [(.t 6)]⟩,
 mvI 5 7]
def b1d : List AIns := [mvI 8 0,
 mvI 9 8,
 ⟨some 10, some (9, true), .p (.mv (.t 5))⟩,
 ⟨some 11, some (9, true), .p (.len (.t 10))⟩,
 ⟨some 12, some (9, true), .p (.bin .gtr (.t 11) (.c (.int .i64 0)))⟩,
 opI 13 (.pick (.t 9) (.t 12) (.c (.bool false))),
 mvI 14 5,
 opI 15 (.bld [.bool false, .nil] [(0, 1, (.t 13)), (1, 1, (.t 14))]),
 ⟨none, none, .e (.store 2 (.t 4) (.t 15))⟩]
def c9D : ACode := .seq (rgI b6F) (.seq (rgI b6E) (.seq (rgI b1d) (.ret)))
theorem c7Q : fchk Pr (fun _ _ => false) Tryz.f41 = some (c9D, [.cell 4 (some 2)], 16) := by kernel_rfl
theorem c7R : Pr.funcs[b3Y]? = some Tryz.f41 := Tryz.func41
def c4g : List AIns := [opI 2 (.mv (.c (.nil)))]
def c4f : List AIns := [mvI 3 0,
 ⟨some 4, none, .call a9Z [(.t 3), (.c (.fn a9R []))]⟩,
 mvI 2 4]
def d6d : ACode := .seq (rgI c4g) (.seq (rgI c4f) (.ret))
theorem d2j : fchk Pr (fun _ _ => false) Tryz.f44 = some (d6d, [.tmp 2], 5) := by kernel_rfl
theorem d2k : Pr.funcs[b9o]? = some Tryz.f44 := Tryz.func44
def a3j : List AIns := [opI 2 (.mv (.c (.bool false)))]
def a3i : List AIns := [mvI 5 0,
 opI 6 (.lens (.t 5)),
 opI 7 (.bin .lss (.t 6) (.c (.int .i64 1))),
 mvI 8 7,
 ⟨some 9, some (8, false), .p (.mv (.t 0))⟩,
 ⟨some 10, some (8, false), .p (.lens (.t 9))⟩,
 ⟨some 11, some (8, false), .p (.bin .gtr (.t 10) (.c (.int .i64 32)))⟩,
 opI 12 (.pick (.t 8) (.c (.bool true)) (.t 11)),
 mvI 13 12,
 ⟨some 14, some (13, false), .p (.mv (.t 0))⟩,
 ⟨some 15, some (13, false), .p (.idxs (.t 14) (.c (.int .i64 0)))⟩,
 ⟨some 16, some (13, false), .p (.bin .lss (.t 15) (.c (.int .u8 97)))⟩,
 opI 17 (.pick (.t 13) (.c (.bool true)) (.t 16)),
 mvI 18 17,
 ⟨some 19, some (18, false), .p (.mv (.t 0))⟩,
 ⟨some 20, some (18, false), .p (.idxs (.t 19) (.c (.int .i64 0)))⟩,
 ⟨some 21, some (18, false), .p (.bin .gtr (.t 20) (.c (.int .u8 122)))⟩,
 opI 22 (.pick (.t 18) (.c (.bool true)) (.t 21))]
def a4u : List AIns := [opI 2 (.mv (.c (.bool false)))]
def b7E : List AIns := [mvI 23 0,
 opI 24 (.lens (.t 23)),
 opI 25 (.mv (.c (.int .i64 0)))]
def b1J : List AIns := [opI 26 (.bin .lss (.t 25) (.t 24))]
def b7D : List AIns := [mvI 27 25,
 mvI 3 27]
def b7C : List AIns := [mvI 28 0,
 mvI 29 3,
 opI 30 (.idxs (.t 28) (.t 29)),
 mvI 4 30]
def a1X : List AIns := [mvI 31 4,
 opI 32 (.bin .leq (.c (.int .u8 97)) (.t 31)),
 mvI 33 32,
 ⟨some 34, some (33, true), .p (.mv (.t 4))⟩,
 ⟨some 35, some (33, true), .p (.bin .leq (.t 34) (.c (.int .u8 122)))⟩,
 opI 36 (.pick (.t 33) (.t 35) (.c (.bool false))),
 mvI 37 36,
 ⟨some 38, some (37, false), .p (.mv (.t 4))⟩,
 ⟨some 39, some (37, false), .p (.bin .leq (.c (.int .u8 48)) (.t 38))⟩,
 ⟨some 40, some (37, false), .p (.mv (.t 39))⟩,
 ⟨some 41, some (40, true), .p (.mv (.t 4))⟩,
 ⟨some 42, some (40, true), .p (.bin .leq (.t 41) (.c (.int .u8 57)))⟩,
 ⟨some 43, some (37, false), .p (.pick (.t 40) (.t 42) (.c (.bool false)))⟩,
 opI 44 (.pick (.t 37) (.c (.bool true)) (.t 43)),
 mvI 45 44,
 ⟨some 46, some (45, false), .p (.mv (.t 4))⟩,
 ⟨some 47, some (45, false), .p (.bin .eql (.t 46) (.c (.int .u8 95)))⟩,
 opI 48 (.pick (.t 45) (.c (.bool true)) (.t 47)),
 mvI 49 48,
 ⟨some 50, some (49, false), .p (.mv (.t 4))⟩,
 ⟨some 51, some (49, false), .p (.bin .eql (.t 50) (.c (.int .u8 45)))⟩,
 opI 52 (.pick (.t 49) (.c (.bool true)) (.t 51)),
 opI 53 (.un .not (.t 52))]
def a7W : List AIns := [opI 2 (.mv (.c (.bool false)))]
def a4t : List AIns := [opI 54 (.bin .add (.t 25) (.c (.int .i64 1))),
 mvI 25 54]
def c8I : ACode := .seq (rgI b1J) (.seq (.cond (.t 26) (.skip) (.exit 0)) (.seq (.block 1 (.seq (rgI b7D) (.seq (rgI b7C) (.seq (rgI a1X) (.cond (.t 53) (.seq (rgI a7W) (.ret)) (.skip)))))) (rgI a4t)))
def b4T : List AIns := [opI 2 (.mv (.c (.bool true)))]
def d0P : ACode := .seq (rgI a3j) (.seq (.seq (rgI a3i) (.cond (.t 22) (.seq (rgI a4u) (.ret)) (.skip))) (.seq (.seq (rgI b7E) (.block 0 (.loop c8I))) (.seq (rgI b4T) (.ret))))
theorem a4v : fchk Pr (fun _ _ => false) Tryz.f45 = some (d0P, [.tmp 2], 55) := by kernel_rfl
theorem a4w : Pr.funcs[b3Z]? = some Tryz.f45 := Tryz.func45
def a7o : List AIns := [⟨some 4, none, .p (.mv (.c (.str ⟨#[]⟩)))⟩,
 opI 5 (.mv (.c (.bool false)))]
def a7n : List AIns := [mvI 6 0,
 mvI 7 1,
 ⟨some 8, none, .call a1n [(.t 6), (.t 7)]⟩,
 opI 9 (.ext (.t 8) 0),
 opI 10 (.ext (.t 8) 1),
 mvI 4 9,
 mvI 5 10]
def b5d : ACode := .seq (rgI a7o) (.seq (rgI a7n) (.ret))
theorem b4p : fchk Pr (fun _ _ => false) Tryz.f48 = some (b5d, [.tmp 4, .tmp 5], 11) := by kernel_rfl
theorem b4q : Pr.funcs[a2u]? = some Tryz.f48 := Tryz.func48
def a2Z : List AIns := [mvI 20 0,
 opI 21 (.fldp (.t 20) 0),
 opI 22 (.fldp (.t 21) 0),
 opI 23 (.load none (.t 22)),
 mvI 24 0,
 opI 25 (.fldp (.t 24) 0),
 opI 26 (.fldp (.t 25) 2),
 opI 27 (.load none (.t 26)),
 mvI 28 0,
 opI 29 (.fldp (.t 28) 0),
 opI 30 (.fldp (.t 29) 3),
 opI 31 (.load none (.t 30)),
 ⟨some 32, none, .call a2k [(.t 23), (.t 27), (.t 31)]⟩,
 mvI 4 32]
def a1G : List AIns := [⟨some 4, none, .p (.mv (.c (.str ⟨#[]⟩)))⟩,
 ⟨some 5, none, .p (.mv (.c (.str ⟨#[]⟩)))⟩,
 opI 6 (.mv (.c (.bool false)))]
def a1F : List AIns := [mvI 8 0,
 mvI 9 1,
 ⟨some 10, none, .call a0I [(.t 8), (.t 9)]⟩,
 mvI 7 10]
def a1E : List AIns := [mvI 11 7,
 opI 12 (.bin .geq (.t 11) (.c (.int .i64 0)))]
def a2V : List AIns := [mvI 13 0,
 mvI 14 7,
 opI 15 (.slcs (.t 13) none (some (.t 14))),
 mvI 16 0,
 mvI 17 7,
 mvI 18 1,
 opI 19 (.lens (.t 18)),
 opI 20 (.bin .add (.t 17) (.t 19)),
 opI 21 (.slcs (.t 16) (some (.t 20)) none),
 mvI 4 15,
 mvI 5 21,
 opI 6 (.mv (.c (.bool true)))]
def a2U : List AIns := [mvI 22 0,
 mvI 4 22,
 ⟨some 5, none, .p (.mv (.c (.str ⟨#[]⟩)))⟩,
 opI 6 (.mv (.c (.bool false)))]
def a8T : ACode := .seq (rgI a1G) (.seq (.seq (rgI a1F) (.seq (rgI a1E) (.cond (.t 12) (.seq (.region a2V true) (.ret)) (.skip)))) (.seq (rgI a2U) (.ret)))
theorem a2W : fchk Pr (fun _ _ => false) Tryz.f50 = some (a8T, [.tmp 4, .tmp 5, .tmp 6], 23) := by kernel_rfl
theorem a2X : Pr.funcs[a1O]? = some Tryz.f50 := Tryz.func50
end Go.Abs
set_option maxRecDepth 100000
noncomputable section
namespace Go.Abs
open Go.Proofs
def a2g : List AIns := [opI 8 (.mv (.c (.bool true)))]
def a2f : List AIns := [opI 9 (.mv (.c (.bool true)))]
def a2e : List AIns := [mvI 19 2,
 mvI 20 1,
 opI 21 (.bin .sub (.t 19) (.t 20)),
 mvI 10 21]
def a2d : List AIns := [mvI 22 10,
 opI 23 (.bin .leq (.t 22) (.c (.int .i64 12)))]
def a2c : List AIns := [mvI 24 0,
 mvI 25 1,
 mvI 26 2,
 ⟨some 27, none, .call a0S [(.t 24), (.t 25), (.t 26)]⟩]
def a5E : List AIns := [mvI 28 3,
 opI 29 (.bin .eql (.t 28) (.c (.int .i64 0)))]
def a5D : List AIns := [mvI 30 0,
 mvI 31 1,
 mvI 32 2,
 ⟨some 33, none, .call a5Y [(.t 30), (.t 31), (.t 32)]⟩]
def a5C : List AIns := [mvI 34 8,
 opI 35 (.un .not (.t 34))]
def a5B : List AIns := [mvI 36 0,
 mvI 37 1,
 mvI 38 2,
 ⟨some 39, none, .call a3F [(.t 36), (.t 37), (.t 38)]⟩]
def a5A : List AIns := [mvI 40 3,
 opI 41 (.bin .sub (.t 40) (.c (.int .i64 1))),
 mvI 3 41]
def a5b : List AIns := [mvI 43 0,
 mvI 44 1,
 mvI 45 2,
 ⟨some 46, none, .call a3Y [(.t 43), (.t 44), (.t 45)]⟩,
 mvI 42 46,
 opI 47 (.ext (.t 42) 0),
 opI 48 (.ext (.t 42) 1),
 mvI 11 47,
 mvI 12 48]
def a5a : List AIns := [mvI 49 12,
 opI 50 (.bin .eql (.t 49) (.c (.int .i64 2)))]
def a4Z : List AIns := [mvI 51 0,
 mvI 52 1,
 mvI 53 2,
 ⟨some 54, none, .call a3L [(.t 51), (.t 52), (.t 53)]⟩]
def a4Y : List AIns := [mvI 55 2,
 opI 56 (.bin .sub (.t 55) (.c (.int .i64 1))),
 mvI 57 11,
 mvI 58 1,
 opI 59 (.bin .sub (.t 57) (.t 58)),
 opI 60 (.bin .sub (.t 56) (.t 59)),
 mvI 11 60]
def a4X : List AIns := [opI 12 (.mv (.c (.int .i64 1)))]
def a4W : List AIns := [mvI 61 8,
 mvI 62 61,
 ⟨some 63, some (62, true), .p (.mv (.t 9))⟩,
 opI 64 (.pick (.t 62) (.t 63) (.c (.bool false))),
 mvI 65 64,
 ⟨some 66, some (65, true), .p (.mv (.t 12))⟩,
 ⟨some 67, some (65, true), .p (.bin .eql (.t 66) (.c (.int .i64 1)))⟩,
 opI 68 (.pick (.t 65) (.t 67) (.c (.bool false)))]
def a4V : List AIns := [mvI 69 0,
 mvI 70 1,
 mvI 71 2,
 ⟨some 72, none, .call a2v [(.t 69), (.t 70), (.t 71)]⟩]
def a4U : List AIns := [mvI 73 1,
 opI 74 (.bin .gtr (.t 73) (.c (.int .i64 0))),
 mvI 75 74,
 ⟨some 76, some (75, true), .p (.mv (.t 0))⟩,
 ⟨some 77, some (75, true), .p (.mv (.t 1))⟩,
 ⟨some 78, some (75, true), .p (.bin .sub (.t 77) (.c (.int .i64 1)))⟩,
 ⟨some 79, some (75, true), .p (.idxp 1 (.t 76) (.t 78))⟩,
 ⟨some 80, some (75, true), .p (.load none (.t 79))⟩,
 ⟨some 81, some (75, true), .p (.mv (.t 0))⟩,
 ⟨some 82, some (75, true), .p (.mv (.t 11))⟩,
 ⟨some 83, some (75, true), .p (.idxp 1 (.t 81) (.t 82))⟩,
 ⟨some 84, some (75, true), .p (.load none (.t 83))⟩,
 ⟨some 85, some (75, true), .call b0O [(.t 80), (.t 84)]⟩,
 ⟨some 86, some (75, true), .p (.un .not (.t 85))⟩,
 opI 87 (.pick (.t 75) (.t 86) (.c (.bool false)))]
def a4T : List AIns := [mvI 88 0,
 mvI 89 1,
 mvI 90 2,
 mvI 91 11,
 ⟨some 92, none, .call a3y [(.t 88), (.t 89), (.t 90), (.t 91)]⟩,
 mvI 13 92]
def a4S : List AIns := [mvI 93 13,
 mvI 1 93]
def a4R : List AIns := [mvI 95 0,
 mvI 96 1,
 mvI 97 2,
 mvI 98 11,
 ⟨some 99, none, .call a5e [(.t 95), (.t 96), (.t 97), (.t 98)]⟩,
 mvI 94 99,
 opI 100 (.ext (.t 94) 0),
 opI 101 (.ext (.t 94) 1),
 mvI 14 100,
 mvI 15 101]
def a4Q : List AIns := [mvI 102 15,
 mvI 9 102]
def a4P : List AIns := [mvI 103 14,
 mvI 104 1,
 opI 105 (.bin .sub (.t 103) (.t 104)),
 mvI 106 2,
 mvI 107 14,
 opI 108 (.bin .sub (.t 106) (.t 107)),
 mvI 16 105,
 mvI 17 108]
def a4O : List AIns := [mvI 109 10,
 opI 110 (.bin .quo (.t 109) (.c (.int .i64 8))),
 mvI 18 110]
def a4N : List AIns := [mvI 111 16,
 mvI 112 17,
 opI 113 (.bin .lss (.t 111) (.t 112))]
def a4M : List AIns := [mvI 114 16,
 mvI 115 18,
 opI 116 (.bin .geq (.t 114) (.t 115)),
 mvI 8 116]
def a4L : List AIns := [mvI 117 0,
 mvI 118 1,
 mvI 119 14,
 mvI 120 3,
 ⟨some 121, none, .call a0A [(.t 117), (.t 118), (.t 119), (.t 120)]⟩]
def a4K : List AIns := [mvI 122 14,
 opI 123 (.bin .add (.t 122) (.c (.int .i64 1))),
 mvI 1 123]
def a4J : List AIns := [mvI 124 17,
 mvI 125 18,
 opI 126 (.bin .geq (.t 124) (.t 125)),
 mvI 8 126]
def a4I : List AIns := [mvI 127 0,
 mvI 128 14,
 opI 129 (.bin .add (.t 128) (.c (.int .i64 1))),
 mvI 130 2,
 mvI 131 3,
 ⟨some 132, none, .call a0A [(.t 127), (.t 129), (.t 130), (.t 131)]⟩]
def a4H : List AIns := [mvI 133 14,
 mvI 2 133]
def a5G : ACode := .block 1 (.seq (rgI a2e) (.seq (.seq (rgI a2d) (.cond (.t 23) (.seq (rgI a2c) (.ret)) (.skip))) (.seq (.seq (rgI a5E) (.cond (.t 29) (.seq (rgI a5D) (.ret)) (.skip))) (.seq (.seq (rgI a5C) (.cond (.t 35) (.seq (rgI a5B) (rgI a5A)) (.skip))) (.seq (rgI a5b) (.seq (.seq (rgI a5a) (.cond (.t 50) (.seq (rgI a4Z) (.seq (rgI a4Y) (rgI a4X))) (.skip))) (.seq (.seq (rgI a4W) (.cond (.t 68) (.seq (rgI a4V) (.cond (.t 72) (.ret) (.skip))) (.skip))) (.seq (.seq (.region a4U true) (.cond (.t 87) (.seq (rgI a4T) (.seq (rgI a4S) (.exit 1))) (.skip))) (.seq (rgI a4R) (.seq (rgI a4Q) (.seq (rgI a4P) (.seq (rgI a4O) (.seq (rgI a4N) (.cond (.t 113) (.seq (rgI a4M) (.seq (rgI a4L) (rgI a4K))) (.seq (rgI a4J) (.seq (rgI a4I) (rgI a4H)))))))))))))))))
def a6g : ACode := .seq (rgI a2g) (.seq (rgI a2f) (.block 0 (.loop a5G)))
theorem a5F : fchk Pr (fun _ _ => false) Tryz.f54 = some (a6g, [], 134) := by kernel_rfl
theorem a5H : Pr.funcs[a0A]? = some Tryz.f54 := Tryz.func54
def b1X : List AIns := [opI 2 (.mv (.c (.int .i64 0)))]
def c1h : List AIns := [mvI 3 0,
 opI 4 (.conv .u32 (.t 3)),
 ⟨some 5, none, .call a1p [(.t 4)]⟩,
 mvI 2 5]
def b1W : List AIns := [mvI 6 0,
 ⟨some 7, none, .call a5Z [(.t 6)]⟩,
 mvI 2 7]
def c3W : ACode := .seq (rgI b1X) (.seq (.cond (.c (.bool false)) (.seq (rgI c1h) (.ret)) (.skip)) (.seq (rgI b1W) (.ret)))
theorem c1i : fchk Pr (fun _ _ => false) Tryz.f55 = some (c3W, [.tmp 2], 8) := by kernel_rfl
theorem c1j : Pr.funcs[a8P]? = some Tryz.f55 := Tryz.func55
def a7y : List AIns := [opI 4 (.mv (.c (.nil)))]
def a7x : List AIns := [mvI 8 0,
 opI 9 (.len (.t 8)),
 ⟨some 10, none, .e (.mksl 1 16 (.str ⟨#[]⟩) (.c (.int .i64 0)) (.t 9))⟩,
 mvI 5 10]
def a7w : List AIns := [mvI 11 0,
 opI 12 (.len (.t 11)),
 opI 13 (.mv (.c (.int .i64 0)))]
def a3x : List AIns := [opI 14 (.bin .lss (.t 13) (.t 12))]
def a7v : List AIns := [opI 15 (.idxp 2 (.t 11) (.t 13)),
 opI 16 (.load (some 2) (.t 15)),
 ⟨some 7, none, .e (.box 2 (.c (.agg [.bool false, .nil])))⟩,
 ⟨none, none, .e (.store 2 (.t 7) (.t 16))⟩]
def a7u : List AIns := [mvI 17 5,
 mvI 18 1,
 opI 19 (.load (some 2) (.t 7)),
 ⟨some 20, none, .callv (.t 18) [(.t 19)]⟩,
 ⟨some 21, none, .e (.bsl 1 [(.t 20)])⟩,
 ⟨some 22, none, .e (.app 1 16 false (.t 17) (.t 21))⟩,
 mvI 5 22]
def a7t : List AIns := [opI 23 (.bin .add (.t 13) (.c (.int .i64 1))),
 mvI 13 23]
def b4w : ACode := .seq (rgI a3x) (.seq (.cond (.t 14) (.skip) (.exit 0)) (.seq (.block 1 (.seq (rgI a7v) (rgI a7u))) (rgI a7t)))
def a7s : List AIns := [mvI 24 5,
 mvI 4 24]
def b5H : ACode := .seq (rgI a7y) (.seq (rgI a7x) (.seq (.seq (rgI a7w) (.block 0 (.loop b4w))) (.seq (rgI a7s) (.ret))))
theorem b4v : fchk Pr (fun _ _ => false) Tryz.f58 = some (b5H, [.tmp 4], 25) := by kernel_rfl
theorem b4x : Pr.funcs[a3M]? = some Tryz.f58 := Tryz.func58
def b2w : List AIns := [⟨some 1, none, .e (.box 2 (.t 0))⟩,
 ⟨some 2, none, .p (.mv (.c (.str ⟨#[]⟩)))⟩]
def b2v : List AIns := [opI 3 (.load (some 2) (.t 1)),
 ⟨some 4, none, .call a3K [(.t 3)]⟩,
 opI 5 (.bin .lss (.t 4) (.c (.int .i64 0)))]
def b9w : List AIns := [opI 6 (.fldp (.t 1) 1),
 opI 7 (.load none (.t 6)),
 ⟨some 8, none, .call a8h [(.t 7)]⟩,
 ⟨some 9, none, .p (.bin .add (.c (.str ⟨#[45]⟩)) (.t 8))⟩,
 mvI 2 9]
def b9v : List AIns := [opI 10 (.fldp (.t 1) 1),
 opI 11 (.load none (.t 10)),
 ⟨some 12, none, .call a8h [(.t 11)]⟩,
 mvI 2 12]
def d1g : ACode := .seq (rgI b2w) (.seq (.seq (rgI b2v) (.cond (.t 5) (.seq (rgI b9w) (.ret)) (.skip))) (.seq (rgI b9v) (.ret)))
theorem b9x : fchk Pr (fun _ _ => false) Tryz.f59 = some (d1g, [.tmp 2], 13) := by kernel_rfl
theorem b9y : Pr.funcs[b1M]? = some Tryz.f59 := Tryz.func59
def c0P : List AIns := [opI 2 (.mv (.c (.int .i64 0)))]
def c0O : List AIns := [mvI 6 0,
 ⟨some 7, none, .call c8Q [(.t 6), (.c (.bool true))]⟩,
 mvI 5 7,
 opI 8 (.ext (.t 5) 0),
 opI 9 (.ext (.t 5) 1),
 ⟨some 3, none, .e (.box 2 (.c (.agg [.nil, .nil])))⟩,
 ⟨none, none, .e (.store 2 (.t 3) (.t 8))⟩,
 mvI 4 9]
def b3H : List AIns := [mvI 10 4,
 mvI 2 10]
def d2z : ACode := .seq (rgI c0P) (.seq (rgI c0O) (.seq (rgI b3H) (.ret)))
theorem d0t : fchk Pr (fun _ _ => false) Tryz.f62 = some (d2z, [.tmp 2], 11) := by kernel_rfl
theorem d0u : Pr.funcs[b5Z]? = some Tryz.f62 := Tryz.func62
def c0s : List AIns := [opI 6 (.mv (.c (.nil))),
 opI 7 (.mv (.c (.int .i64 0)))]
def c0r : List AIns := [mvI 10 0,
 opI 11 (.len (.t 10)),
 mvI 12 1,
 opI 13 (.len (.t 12)),
 opI 14 (.bin .neq (.t 11) (.t 13))]
def c9P : List AIns := [opI 6 (.mv (.c (.nil))),
 opI 7 (.mv (.c (.int .i64 8)))]
def c0q : List AIns := [opI 8 (.mv (.c (.nil)))]
def c0p : List AIns := [mvI 15 0,
 opI 16 (.len (.t 15)),
 opI 17 (.mv (.c (.int .i64 0)))]
def b3i : List AIns := [opI 18 (.bin .lss (.t 17) (.t 16))]
def c0o : List AIns := [mvI 19 17,
 mvI 9 19]
def c0n : List AIns := [mvI 20 8,
 mvI 21 2,
 mvI 22 0,
 mvI 23 9,
 opI 24 (.idxp 2 (.t 22) (.t 23)),
 opI 25 (.load (some 2) (.t 24)),
 mvI 26 1,
 mvI 27 9,
 opI 28 (.idxp 2 (.t 26) (.t 27)),
 opI 29 (.load (some 2) (.t 28)),
 ⟨some 30, none, .callv (.t 21) [(.t 25), (.t 29)]⟩,
 ⟨some 31, none, .e (.bsl 2 [(.t 30)])⟩,
 ⟨some 32, none, .e (.app 2 32 false (.t 20) (.t 31))⟩,
 mvI 8 32]
def c0m : List AIns := [opI 33 (.bin .add (.t 17) (.c (.int .i64 1))),
 mvI 17 33]
def c9R : ACode := .seq (rgI b3i) (.seq (.cond (.t 18) (.skip) (.exit 0)) (.seq (.block 1 (.seq (rgI c0o) (.region c0n true))) (rgI c0m)))
def c0l : List AIns := [mvI 34 8,
 mvI 6 34,
 opI 7 (.mv (.c (.int .i64 0)))]
def d2e : ACode := .seq (rgI c0s) (.seq (.seq (rgI c0r) (.cond (.t 14) (.seq (rgI c9P) (.ret)) (.skip))) (.seq (rgI c0q) (.seq (.seq (rgI c0p) (.block 0 (.loop c9R))) (.seq (rgI c0l) (.ret)))))
theorem c9Q : fchk Pr (fun _ _ => false) Tryz.f63 = some (d2e, [.tmp 6, .tmp 7], 35) := by kernel_rfl
theorem c9S : Pr.funcs[b5W]? = some Tryz.f63 := Tryz.func63
def c2t : List AIns := [⟨some 2, none, .e (.box 2 (.t 0))⟩,
 ⟨some 3, none, .e (.box 2 (.t 1))⟩,
 ⟨some 4, none, .e (.box 2 (.c (.agg [.bool false, .nil])))⟩]
def c2s : List AIns := [opI 7 (.fldp (.t 2) 0),
 opI 8 (.load none (.t 7)),
 opI 9 (.fldp (.t 3) 0),
 opI 10 (.load none (.t 9)),
 opI 11 (.beq false (.t 8) (.t 10))]
def c2r : List AIns := [opI 12 (.fldp (.t 2) 0),
 opI 13 (.load none (.t 12)),
 opI 14 (.fldp (.t 2) 1),
 opI 15 (.load none (.t 14)),
 opI 16 (.fldp (.t 3) 1),
 opI 17 (.load none (.t 16)),
 ⟨some 18, none, .call a8O [(.t 15), (.t 17)]⟩,
 ⟨some 19, none, .call a1o [(.t 13), (.t 18)]⟩,
 ⟨none, none, .e (.store 2 (.t 4) (.t 19))⟩]
def c2q : List AIns := [opI 20 (.fldp (.t 2) 1),
 opI 21 (.load none (.t 20)),
 opI 22 (.fldp (.t 3) 1),
 opI 23 (.load none (.t 22)),
 ⟨some 24, none, .call b0N [(.t 21), (.t 23)]⟩,
 opI 25 (.bin .lss (.t 24) (.c (.int .i64 0)))]
def c2p : List AIns := [opI 26 (.load (some 2) (.t 3)),
 opI 27 (.load (some 2) (.t 2)),
 ⟨none, none, .e (.store 2 (.t 2) (.t 26))⟩,
 ⟨none, none, .e (.store 2 (.t 3) (.t 27))⟩]
def b4V : List AIns := [opI 29 (.fldp (.t 2) 1),
 opI 30 (.load none (.t 29)),
 opI 31 (.fldp (.t 3) 1),
 opI 32 (.load none (.t 31)),
 ⟨some 33, none, .call c5j [(.t 30), (.t 32)]⟩,
 mvI 28 33,
 opI 34 (.ext (.t 28) 0),
 opI 35 (.ext (.t 28) 1),
 mvI 5 34,
 mvI 6 35]
def b4U : List AIns := [opI 36 (.fldp (.t 2) 0),
 opI 37 (.load none (.t 36)),
 mvI 38 5,
 ⟨some 39, none, .call a1o [(.t 37), (.t 38)]⟩,
 ⟨none, none, .e (.store 2 (.t 4) (.t 39))⟩]
def d4H : ACode := .seq (rgI c2t) (.seq (.seq (rgI c2s) (.cond (.t 11) (.seq (.region c2r true) (.ret)) (.skip))) (.seq (.seq (rgI c2q) (.cond (.t 25) (rgI c2p) (.skip))) (.seq (rgI b4V) (.seq (rgI b4U) (.ret)))))
theorem d1q : fchk Pr (fun _ _ => false) Tryz.f64 = some (d4H, [.cell 4 (some 2)], 40) := by kernel_rfl
theorem d1r : Pr.funcs[a3V]? = some Tryz.f64 := Tryz.func64
def b3w : List AIns := [opI 4 (.mv (.c (.nil)))]
def b3v : List AIns := [mvI 8 0,
 opI 9 (.len (.t 8)),
 ⟨some 10, none, .e (.mksl 2 32 (.agg [.bool false, .nil]) (.c (.int .i64 0)) (.t 9))⟩,
 mvI 5 10]
def b3u : List AIns := [mvI 11 0,
 opI 12 (.len (.t 11)),
 opI 13 (.mv (.c (.int .i64 0)))]
def a8E : List AIns := [opI 14 (.bin .lss (.t 13) (.t 12))]
def b3t : List AIns := [opI 15 (.idxp 2 (.t 11) (.t 13)),
 opI 16 (.load (some 2) (.t 15)),
 ⟨some 7, none, .e (.box 2 (.c (.agg [.bool false, .nil])))⟩,
 ⟨none, none, .e (.store 2 (.t 7) (.t 16))⟩]
def b3s : List AIns := [mvI 17 5,
 mvI 18 1,
 opI 19 (.load (some 2) (.t 7)),
 ⟨some 20, none, .callv (.t 18) [(.t 19)]⟩,
 ⟨some 21, none, .e (.bsl 2 [(.t 20)])⟩,
 ⟨some 22, none, .e (.app 2 32 false (.t 17) (.t 21))⟩,
 mvI 5 22]
def b3r : List AIns := [opI 23 (.bin .add (.t 13) (.c (.int .i64 1))),
 mvI 13 23]
def c4b : ACode := .seq (rgI a8E) (.seq (.cond (.t 14) (.skip) (.exit 0)) (.seq (.block 1 (.seq (rgI b3t) (rgI b3s))) (rgI b3r)))
def b3q : List AIns := [mvI 24 5,
 mvI 4 24]
def c5t : ACode := .seq (rgI b3w) (.seq (rgI b3v) (.seq (.seq (rgI b3u) (.block 0 (.loop c4b))) (.seq (rgI b3q) (.ret))))
theorem c4a : fchk Pr (fun _ _ => false) Tryz.f65 = some (c5t, [.tmp 4], 25) := by kernel_rfl
theorem c4c : Pr.funcs[a3G]? = some Tryz.f65 := Tryz.func65
def b4J : List AIns := [⟨some 2, none, .e (.box 2 (.t 0))⟩,
 ⟨some 3, none, .e (.box 2 (.c (.agg [.bool false, .nil])))⟩]
def b4I : List AIns := [opI 4 (.load (some 2) (.t 1)),
 opI 5 (.load (some 2) (.t 2)),
 ⟨some 6, none, .call a3U [(.t 4), (.t 5)]⟩,
 ⟨none, none, .e (.store 2 (.t 3) (.t 6))⟩]
def c8a : ACode := .seq (rgI b4J) (.seq (rgI b4I) (.ret))
theorem c5u : fchk Pr (fun _ _ => false) Tryz.f66 = some (c8a, [.cell 3 (some 2)], 7) := by kernel_rfl
theorem c5v : Pr.funcs[a8c]? = some Tryz.f66 := Tryz.func66
def c2o : List AIns := [⟨some 2, none, .e (.box 2 (.t 0))⟩,
 ⟨some 3, none, .e (.box 2 (.t 1))⟩,
 ⟨some 4, none, .e (.box 2 (.c (.agg [.bool false, .nil])))⟩]
def c2n : List AIns := [opI 5 (.fldp (.t 2) 0),
 opI 6 (.load none (.t 5)),
 opI 7 (.fldp (.t 3) 0),
 opI 8 (.load none (.t 7)),
 opI 9 (.beq true (.t 6) (.t 8)),
 opI 10 (.fldp (.t 2) 1),
 opI 11 (.load none (.t 10)),
 opI 12 (.fldp (.t 3) 1),
 opI 13 (.load none (.t 12)),
 ⟨some 14, none, .call a8N [(.t 11), (.t 13)]⟩,
 ⟨some 15, none, .call a1o [(.t 9), (.t 14)]⟩,
 ⟨none, none, .e (.store 2 (.t 4) (.t 15))⟩]
def d4G : ACode := .seq (rgI c2o) (.seq (.region c2n true) (.ret))
theorem d1m : fchk Pr (fun _ _ => false) Tryz.f67 = some (d4G, [.cell 4 (some 2)], 16) := by kernel_rfl
theorem d1n : Pr.funcs[a3U]? = some Tryz.f67 := Tryz.func67
def b6K : List AIns := [opI 2 (.mv (.c (.nil)))]
def b6J : List AIns := [mvI 6 0,
 opI 7 (.len (.t 6)),
 mvI 3 7]
def b1f : List AIns := [mvI 8 3,
 opI 9 (.bin .gtr (.t 8) (.c (.int .i64 0))),
 mvI 10 9,
 ⟨some 11, some (10, true), .p (.mv (.t 0))⟩,
 ⟨some 12, some (10, true), .p (.mv (.t 3))⟩,
 ⟨some 13, some (10, true), .p (.bin .sub (.t 12) (.c (.int .i64 1)))⟩,
 ⟨some 14, some (10, true), .p (.idxp 1 (.t 11) (.t 13))⟩,
 ⟨some 15, some (10, true), .p (.load none (.t 14))⟩,
 ⟨some 16, some (10, true), .p (.bin .eql (.t 15) (.c (.int .u32 0)))⟩,
 opI 17 (.pick (.t 10) (.t 16) (.c (.bool false)))]
def b6I : List AIns := [mvI 18 3,
 opI 19 (.bin .sub (.t 18) (.c (.int .i64 1))),
 mvI 3 19]
def b6L : ACode := .seq (.seq (rgI b1f) (.cond (.t 17) (.skip) (.exit 0))) (.block 1 (rgI b6I))
def a7G : List AIns := [opI 4 (.mv (.c (.nil)))]
def a7F : List AIns := [opI 5 (.mv (.c (.int .i64 0)))]
def b1e : List AIns := [mvI 20 5,
 mvI 21 3,
 opI 22 (.bin .lss (.t 20) (.t 21))]
def b6H : List AIns := [mvI 25 4,
 mvI 26 0,
 mvI 27 5,
 opI 28 (.idxp 1 (.t 26) (.t 27)),
 opI 29 (.load none (.t 28)),
 ⟨some 30, none, .e (.bsl 1 [(.t 29)])⟩,
 ⟨some 31, none, .e (.app 1 4 false (.t 25) (.t 30))⟩,
 mvI 4 31]
def b6G : List AIns := [mvI 23 5,
 opI 24 (.bin .add (.t 23) (.c (.int .i64 1))),
 mvI 5 24]
def a7H : ACode := .seq (.seq (rgI b1e) (.cond (.t 22) (.skip) (.exit 2))) (.seq (.block 3 (rgI b6H)) (rgI b6G))
def a4b : List AIns := [mvI 32 4,
 mvI 2 32]
def c9G : ACode := .seq (rgI b6K) (.seq (rgI b6J) (.seq (.block 0 (.loop b6L)) (.seq (rgI a7G) (.seq (.seq (rgI a7F) (.block 2 (.loop a7H))) (.seq (rgI a4b) (.ret))))))
theorem c7S : fchk Pr (fun _ _ => false) Tryz.f68 = some (c9G, [.tmp 2], 33) := by kernel_rfl
theorem c7T : Pr.funcs[a3W]? = some Tryz.f68 := Tryz.func68
def b3p : List AIns := [opI 4 (.mv (.c (.nil)))]
def b3o : List AIns := [mvI 8 0,
 opI 9 (.len (.t 8)),
 ⟨some 10, none, .e (.mksl 1 24 (.nil) (.c (.int .i64 0)) (.t 9))⟩,
 mvI 5 10]
def b3n : List AIns := [mvI 11 0,
 opI 12 (.len (.t 11)),
 opI 13 (.mv (.c (.int .i64 0)))]
def a8D : List AIns := [opI 14 (.bin .lss (.t 13) (.t 12))]
def b3m : List AIns := [opI 15 (.idxp 1 (.t 11) (.t 13)),
 opI 16 (.load none (.t 15)),
 mvI 7 16]
def b3l : List AIns := [mvI 17 5,
 mvI 18 1,
 mvI 19 7,
 ⟨some 20, none, .callv (.t 18) [(.t 19)]⟩,
 ⟨some 21, none, .e (.bsl 1 [(.t 20)])⟩,
 ⟨some 22, none, .e (.app 1 24 false (.t 17) (.t 21))⟩,
 mvI 5 22]
def b3k : List AIns := [opI 23 (.bin .add (.t 13) (.c (.int .i64 1))),
 mvI 13 23]
def c3Y : ACode := .seq (rgI a8D) (.seq (.cond (.t 14) (.skip) (.exit 0)) (.seq (.block 1 (.seq (rgI b3m) (rgI b3l))) (rgI b3k)))
def b3j : List AIns := [mvI 24 5,
 mvI 4 24]
def c5s : ACode := .seq (rgI b3p) (.seq (rgI b3o) (.seq (.seq (rgI b3n) (.block 0 (.loop c3Y))) (.seq (rgI b3j) (.ret))))
theorem c3X : fchk Pr (fun _ _ => false) Tryz.f79 = some (c5s, [.tmp 4], 25) := by kernel_rfl
theorem c3Z : Pr.funcs[a9Z]? = some Tryz.f79 := Tryz.func79
def b7j : List AIns := [opI 2 (.mv (.c (.nil)))]
def b7i : List AIns := [mvI 3 0,
 ⟨some 4, none, .call a3G [(.t 3), (.c (.fn a8J []))]⟩,
 mvI 2 4]
def c9W : ACode := .seq (rgI b7j) (.seq (rgI b7i) (.ret))
theorem c8b : fchk Pr (fun _ _ => false) Tryz.f80 = some (c9W, [.tmp 2], 5) := by kernel_rfl
theorem c8c : Pr.funcs[a9R]? = some Tryz.f80 := Tryz.func80
def b9L : List AIns := [⟨some 1, none, .e (.box 2 (.t 0))⟩,
 ⟨some 2, none, .e (.box 2 (.c (.agg [.bool false, .nil])))⟩]
def b9K : List AIns := [opI 3 (.fldp (.t 1) 0),
 opI 4 (.load none (.t 3)),
 opI 5 (.fldp (.t 1) 1),
 opI 6 (.load none (.t 5)),
 ⟨some 7, none, .call a1o [(.t 4), (.t 6)]⟩,
 ⟨none, none, .e (.store 2 (.t 2) (.t 7))⟩]
def d1o : ACode := .seq (rgI b9L) (.seq (rgI b9K) (.ret))
theorem c8Y : fchk Pr (fun _ _ => false) Tryz.f81 = some (d1o, [.cell 2 (some 2)], 8) := by kernel_rfl
theorem c8Z : Pr.funcs[a8J]? = some Tryz.f81 := Tryz.func81
def a1d : List AIns := [⟨some 4, none, .p (.mv (.c (.str ⟨#[]⟩)))⟩,
 opI 5 (.mv (.c (.bool false)))]
def a1c : List AIns := [mvI 6 0,
 mvI 7 1,
 ⟨some 8, none, .call a1m [(.t 6), (.t 7)]⟩,
 opI 9 (.un .not (.t 8))]
def a1U : List AIns := [mvI 10 0,
 mvI 4 10,
 opI 5 (.mv (.c (.bool false)))]
def a1T : List AIns := [mvI 11 0,
 mvI 12 1,
 opI 13 (.lens (.t 12)),
 opI 14 (.slcs (.t 11) (some (.t 13)) none),
 mvI 4 14,
 opI 5 (.mv (.c (.bool true)))]
def a5d : ACode := .seq (rgI a1d) (.seq (.seq (rgI a1c) (.cond (.t 9) (.seq (rgI a1U) (.ret)) (.skip))) (.seq (rgI a1T) (.ret)))
theorem a1V : fchk Pr (fun _ _ => false) Tryz.f84 = some (a5d, [.tmp 4, .tmp 5], 15) := by kernel_rfl
theorem a1W : Pr.funcs[a1n]? = some Tryz.f84 := Tryz.func84
def b1T : List AIns := [opI 4 (.mv (.c (.nil)))]
def b1S : List AIns := [mvI 5 0,
 mvI 6 1,
 ⟨some 7, none, .call a4F [(.t 5), (.t 6), (.c (.int .i64 0)), (.c (.int .i64 (-1)))]⟩,
 mvI 4 7]
def c2E : ACode := .seq (rgI b1T) (.seq (rgI b1S) (.ret))
theorem c1b : fchk Pr (fun _ _ => false) Tryz.f85 = some (c2E, [.tmp 4], 8) := by kernel_rfl
theorem c1c : Pr.funcs[a8K]? = some Tryz.f85 := Tryz.func85
def b2z : List AIns := [⟨some 2, none, .e (.box 2 (.c (.agg [.bool false, .nil])))⟩,
 opI 3 (.mv (.c (.int .i64 0))),
 opI 4 (.mv (.c (.int .i64 0)))]
def b2y : List AIns := [mvI 11 0,
 opI 12 (.lens (.t 11)),
 opI 13 (.bin .gtr (.t 12) (.c (.int .i64 65536)))]
def b9I : List AIns := [opI 14 (.bld [.bool false, .nil] []),
 ⟨none, none, .e (.store 2 (.t 2) (.t 14))⟩,
 opI 3 (.mv (.c (.int .i64 0))),
 opI 4 (.mv (.c (.int .i64 2)))]
def b9H : List AIns := [opI 5 (.mv (.c (.int .i64 0)))]
def a9c : List AIns := [mvI 15 0,
 opI 16 (.lens (.t 15)),
 opI 17 (.bin .gtr (.t 16) (.c (.int .i64 0))),
 mvI 18 17,
 ⟨some 19, some (18, true), .p (.mv (.t 0))⟩,
 ⟨some 20, some (18, true), .p (.idxs (.t 19) (.c (.int .i64 0)))⟩,
 ⟨some 21, some (18, true), .p (.bin .eql (.t 20) (.c (.int .u8 45)))⟩,
 opI 22 (.pick (.t 18) (.t 21) (.c (.bool false)))]
def b9G : List AIns := [opI 5 (.mv (.c (.int .i64 1)))]
def a3N : List AIns := [mvI 23 5,
 opI 24 (.bin .eql (.t 23) (.c (.int .i64 1))),
 mvI 25 24,
 ⟨some 26, some (25, true), .p (.mv (.t 0))⟩,
 ⟨some 27, some (25, true), .p (.lens (.t 26))⟩,
 ⟨some 28, some (25, true), .p (.bin .gtr (.t 27) (.c (.int .i64 1)))⟩,
 opI 29 (.pick (.t 25) (.t 28) (.c (.bool false))),
 mvI 30 29,
 ⟨some 31, some (30, true), .p (.mv (.t 0))⟩,
 ⟨some 32, some (30, true), .p (.idxs (.t 31) (.c (.int .i64 1)))⟩,
 ⟨some 33, some (30, true), .p (.bin .eql (.t 32) (.c (.int .u8 48)))⟩,
 opI 34 (.pick (.t 30) (.t 33) (.c (.bool false)))]
def b9F : List AIns := [opI 35 (.bld [.bool false, .nil] []),
 ⟨none, none, .e (.store 2 (.t 2) (.t 35))⟩,
 opI 3 (.mv (.c (.int .i64 1))),
 opI 4 (.mv (.c (.int .i64 4)))]
def a9b : List AIns := [mvI 36 5,
 mvI 6 36]
def b2x : List AIns := [mvI 37 6,
 mvI 38 0,
 opI 39 (.lens (.t 38)),
 opI 40 (.bin .lss (.t 37) (.t 39))]
def a3d : List AIns := [mvI 43 0,
 mvI 44 6,
 opI 45 (.idxs (.t 43) (.t 44)),
 opI 46 (.bin .lss (.t 45) (.c (.int .u8 48))),
 mvI 47 46,
 ⟨some 48, some (47, false), .p (.mv (.t 0))⟩,
 ⟨some 49, some (47, false), .p (.mv (.t 6))⟩,
 ⟨some 50, some (47, false), .p (.idxs (.t 48) (.t 49))⟩,
 ⟨some 51, some (47, false), .p (.bin .gtr (.t 50) (.c (.int .u8 57)))⟩,
 opI 52 (.pick (.t 47) (.c (.bool true)) (.t 51)),
 mvI 53 52,
 ⟨some 54, some (53, false), .p (.mv (.t 6))⟩,
 ⟨some 55, some (53, false), .p (.mv (.t 5))⟩,
 ⟨some 56, some (53, false), .p (.bin .add (.t 55) (.c (.int .i64 1)))⟩,
 ⟨some 57, some (53, false), .p (.bin .eql (.t 54) (.t 56))⟩,
 ⟨some 58, some (53, false), .p (.mv (.t 57))⟩,
 ⟨some 59, some (58, true), .p (.mv (.t 0))⟩,
 ⟨some 60, some (58, true), .p (.mv (.t 5))⟩,
 ⟨some 61, some (58, true), .p (.idxs (.t 59) (.t 60))⟩,
 ⟨some 62, some (58, true), .p (.bin .eql (.t 61) (.c (.int .u8 48)))⟩,
 ⟨some 63, some (53, false), .p (.pick (.t 58) (.t 62) (.c (.bool false)))⟩,
 opI 64 (.pick (.t 53) (.c (.bool true)) (.t 63))]
def a7B : List AIns := [opI 65 (.bld [.bool false, .nil] []),
 mvI 66 6,
 ⟨none, none, .e (.store 2 (.t 2) (.t 65))⟩,
 mvI 3 66,
 opI 4 (.mv (.c (.int .i64 4)))]
def b0U : List AIns := [mvI 41 6,
 opI 42 (.bin .add (.t 41) (.c (.int .i64 1))),
 mvI 6 42]
def b2B : ACode := .seq (.seq (rgI b2x) (.cond (.t 40) (.skip) (.exit 0))) (.seq (.block 1 (.seq (rgI a3d) (.cond (.t 64) (.seq (rgI a7B) (.ret)) (.skip)))) (rgI b0U))
def a7A : List AIns := [mvI 67 5,
 mvI 68 0,
 opI 69 (.lens (.t 68)),
 opI 70 (.bin .eql (.t 67) (.t 69))]
def b0T : List AIns := [opI 71 (.bld [.bool false, .nil] []),
 mvI 72 5,
 ⟨none, none, .e (.store 2 (.t 2) (.t 71))⟩,
 mvI 3 72,
 opI 4 (.mv (.c (.int .i64 4)))]
def b0S : List AIns := [opI 7 (.mv (.c (.nil)))]
def b0R : List AIns := [mvI 73 5,
 mvI 8 73]
def b0Q : List AIns := [mvI 74 8,
 mvI 75 0,
 opI 76 (.lens (.t 75)),
 opI 77 (.bin .lss (.t 74) (.t 76))]
def b6g : List AIns := [mvI 78 0,
 opI 79 (.lens (.t 78)),
 mvI 80 8,
 opI 81 (.bin .sub (.t 79) (.t 80)),
 opI 82 (.mnx false (.c (.int .i64 9)) (.t 81)),
 mvI 9 82]
def b6f : List AIns := [opI 10 (.mv (.c (.int .u32 0)))]
def b6e : List AIns := [mvI 83 9,
 opI 84 (.mv (.c (.int .i64 0)))]
def b0P : List AIns := [opI 85 (.bin .lss (.t 84) (.t 83))]
def b6d : List AIns := [mvI 86 10,
 opI 87 (.bin .mul (.c (.int .u32 10)) (.t 86)),
 mvI 88 0,
 mvI 89 8,
 opI 90 (.idxs (.t 88) (.t 89)),
 opI 91 (.bin .sub (.t 90) (.c (.int .u8 48))),
 opI 92 (.conv .u32 (.t 91)),
 opI 93 (.bin .add (.t 87) (.t 92)),
 mvI 10 93]
def b6c : List AIns := [mvI 94 8,
 opI 95 (.bin .add (.t 94) (.c (.int .i64 1))),
 mvI 8 95]
def b6b : List AIns := [opI 96 (.bin .add (.t 84) (.c (.int .i64 1))),
 mvI 84 96]
def c8X : ACode := .seq (rgI b0P) (.seq (.cond (.t 85) (.skip) (.exit 4)) (.seq (.block 5 (.seq (rgI b6d) (rgI b6c))) (rgI b6b)))
def b6a : List AIns := [mvI 97 7,
 mvI 98 9,
 ⟨some 99, none, .call b3V [(.t 98)]⟩,
 ⟨some 100, none, .e (.bsl 1 [(.t 99)])⟩,
 ⟨some 101, none, .call a8N [(.t 97), (.t 100)]⟩,
 mvI 102 10,
 ⟨some 103, none, .e (.bsl 1 [(.t 102)])⟩,
 ⟨some 104, none, .call a8O [(.t 101), (.t 103)]⟩,
 mvI 7 104]
def b9J : ACode := .seq (.seq (rgI b0Q) (.cond (.t 77) (.skip) (.exit 2))) (.block 3 (.seq (rgI b6g) (.seq (rgI b6f) (.seq (.seq (rgI b6e) (.block 4 (.loop c8X))) (rgI b6a)))))
def a7z : List AIns := [mvI 105 5,
 opI 106 (.bin .eql (.t 105) (.c (.int .i64 1))),
 mvI 107 7,
 ⟨some 108, none, .call a1o [(.t 106), (.t 107)]⟩,
 ⟨none, none, .e (.store 2 (.t 2) (.t 108))⟩,
 opI 3 (.mv (.c (.int .i64 0))),
 opI 4 (.mv (.c (.int .i64 0)))]
def c2k : ACode := .seq (rgI b2z) (.seq (.seq (rgI b2y) (.cond (.t 13) (.seq (rgI b9I) (.ret)) (.skip))) (.seq (rgI b9H) (.seq (.seq (rgI a9c) (.cond (.t 22) (rgI b9G) (.skip))) (.seq (.seq (rgI a3N) (.cond (.t 34) (.seq (rgI b9F) (.ret)) (.skip))) (.seq (.seq (rgI a9b) (.block 0 (.loop b2B))) (.seq (.seq (rgI a7A) (.cond (.t 70) (.seq (rgI b0T) (.ret)) (.skip))) (.seq (rgI b0S) (.seq (.seq (rgI b0R) (.block 2 (.loop b9J))) (.seq (rgI a7z) (.ret))))))))))
theorem b2A : fchk Pr (fun _ _ => false) Tryz.f86 = some (c2k, [.cell 2 (some 2), .tmp 3, .tmp 4], 109) := by kernel_rfl
theorem b2C : Pr.funcs[a3b]? = some Tryz.f86 := Tryz.func86
def a0E : List AIns := [opI 4 (.mv (.c (.int .i64 0)))]
def a0D : List AIns := [mvI 14 1,
 opI 15 (.lens (.t 14)),
 mvI 5 15]
def a0C : List AIns := [mvI 17 5,
 opI 18 (.bin .eql (.t 17) (.c (.int .i64 0))),
 mvI 19 18,
 ⟨some 20, some (19, false), .p (.mv (.t 1))⟩,
 ⟨some 21, some (19, false), .p (.mv (.t 0))⟩,
 ⟨some 22, some (19, false), .p (.bin .eql (.t 20) (.t 21))⟩,
 opI 23 (.pick (.t 19) (.c (.bool true)) (.t 22)),
 mvI 16 23]
def a1x : List AIns := [opI 4 (.mv (.c (.int .i64 0)))]
def a1w : List AIns := [mvI 25 5,
 opI 26 (.bin .eql (.t 25) (.c (.int .i64 1))),
 mvI 24 26]
def a1v : List AIns := [mvI 27 0,
 mvI 28 1,
 opI 29 (.idxs (.t 28) (.c (.int .i64 0))),
 ⟨some 30, none, .call a0L [(.t 27), (.t 29)]⟩,
 mvI 4 30]
def a6T : List AIns := [mvI 32 5,
 mvI 33 0,
 opI 34 (.lens (.t 33)),
 opI 35 (.bin .geq (.t 32) (.t 34)),
 mvI 31 35]
def a6S : List AIns := [opI 4 (.mv (.c (.int .i64 (-1))))]
def a6R : List AIns := [mvI 45 0,
 mvI 46 1,
 ⟨some 47, none, .call a2n [(.t 45), (.t 46)]⟩,
 mvI 4 47]
def a6Q : List AIns := [mvI 48 1,
 opI 49 (.idxs (.t 48) (.c (.int .i64 0))),
 mvI 6 49]
def a6I : List AIns := [mvI 50 1,
 opI 51 (.idxs (.t 50) (.c (.int .i64 1))),
 mvI 7 51]
def a6H : List AIns := [opI 8 (.mv (.c (.int .i64 0)))]
def a6G : List AIns := [mvI 52 0,
 opI 53 (.lens (.t 52)),
 mvI 54 5,
 opI 55 (.bin .sub (.t 53) (.t 54)),
 opI 56 (.bin .add (.t 55) (.c (.int .i64 1))),
 mvI 9 56]
def a6F : List AIns := [opI 10 (.mv (.c (.int .i64 0)))]
def a6E : List AIns := [mvI 57 8,
 mvI 58 9,
 opI 59 (.bin .lss (.t 57) (.t 58))]
def a6D : List AIns := [mvI 60 0,
 mvI 61 8,
 opI 62 (.idxs (.t 60) (.t 61)),
 mvI 63 6,
 opI 64 (.bin .neq (.t 62) (.t 63))]
def a6C : List AIns := [mvI 65 0,
 mvI 66 8,
 opI 67 (.bin .add (.t 66) (.c (.int .i64 1))),
 mvI 68 9,
 opI 69 (.slcs (.t 65) (some (.t 67)) (some (.t 68))),
 mvI 70 6,
 ⟨some 71, none, .call a0L [(.t 69), (.t 70)]⟩,
 mvI 11 71]
def a6B : List AIns := [mvI 72 11,
 opI 73 (.bin .lss (.t 72) (.c (.int .i64 0)))]
def a6A : List AIns := [opI 4 (.mv (.c (.int .i64 (-1))))]
def a6z : List AIns := [mvI 74 8,
 mvI 75 11,
 opI 76 (.bin .add (.t 75) (.c (.int .i64 1))),
 opI 77 (.bin .add (.t 74) (.t 76)),
 mvI 8 77]
def a6y : List AIns := [mvI 78 0,
 mvI 79 8,
 opI 80 (.bin .add (.t 79) (.c (.int .i64 1))),
 opI 81 (.idxs (.t 78) (.t 80)),
 mvI 82 7,
 opI 83 (.bin .eql (.t 81) (.t 82)),
 mvI 84 83,
 ⟨some 85, some (84, true), .p (.mv (.t 0))⟩,
 ⟨some 86, some (84, true), .p (.mv (.t 8))⟩,
 ⟨some 87, some (84, true), .p (.mv (.t 8))⟩,
 ⟨some 88, some (84, true), .p (.mv (.t 5))⟩,
 ⟨some 89, some (84, true), .p (.bin .add (.t 87) (.t 88))⟩,
 ⟨some 90, some (84, true), .p (.slcs (.t 85) (some (.t 86)) (some (.t 89)))⟩,
 ⟨some 91, some (84, true), .p (.mv (.t 1))⟩,
 ⟨some 92, some (84, true), .p (.bin .eql (.t 90) (.t 91))⟩,
 opI 93 (.pick (.t 84) (.t 92) (.c (.bool false)))]
def a6x : List AIns := [mvI 94 8,
 mvI 4 94]
def a6w : List AIns := [mvI 95 8,
 opI 96 (.bin .add (.t 95) (.c (.int .i64 1))),
 mvI 8 96]
def a6v : List AIns := [mvI 97 10,
 opI 98 (.bin .add (.t 97) (.c (.int .i64 1))),
 mvI 10 98]
def a6u : List AIns := [mvI 108 0,
 mvI 109 8,
 opI 110 (.slcs (.t 108) (some (.t 109)) none),
 mvI 111 1,
 ⟨some 112, none, .call a2n [(.t 110), (.t 111)]⟩,
 mvI 12 112]
def a6t : List AIns := [mvI 113 12,
 opI 114 (.bin .geq (.t 113) (.c (.int .i64 0)))]
def a6s : List AIns := [mvI 115 12,
 mvI 116 8,
 opI 117 (.bin .add (.t 115) (.t 116)),
 mvI 4 117]
def a6r : List AIns := [opI 4 (.mv (.c (.int .i64 (-1))))]
def a6q : List AIns := [mvI 133 0,
 mvI 134 8,
 opI 135 (.slcs (.t 133) (some (.t 134)) none),
 mvI 136 1,
 ⟨some 137, none, .call a2N [(.t 135), (.t 136)]⟩,
 mvI 13 137]
def a6p : List AIns := [mvI 138 13,
 opI 139 (.bin .lss (.t 138) (.c (.int .i64 0)))]
def a6o : List AIns := [opI 4 (.mv (.c (.int .i64 (-1))))]
def a6n : List AIns := [mvI 140 8,
 mvI 141 13,
 opI 142 (.bin .add (.t 140) (.t 141)),
 mvI 4 142]
noncomputable def a6U : ACode := .seq (.seq (rgI a6E) (.cond (.t 59) (.skip) (.exit 1))) (.block 2 (.seq (.seq (rgI a6D) (.cond (.t 64) (.seq (rgI a6C) (.seq (.seq (rgI a6B) (.cond (.t 73) (.seq (rgI a6A) (.ret)) (.skip))) (rgI a6z))) (.skip))) (.seq (.seq (rgI a6y) (.cond (.t 93) (.seq (rgI a6x) (.ret)) (.skip))) (.seq (rgI a6w) (.seq (rgI a6v) (.seq (.raw 25 (a9e Tryz.f87 25) false) (.cond (.t 107) (.seq (rgI a6u) (.seq (.seq (rgI a6t) (.cond (.t 114) (.seq (rgI a6s) (.ret)) (.skip))) (.seq (rgI a6r) (.ret)))) (.seq (.raw 30 (a9e Tryz.f87 30) false) (.cond (.t 132) (.seq (rgI a6q) (.seq (.seq (rgI a6p) (.cond (.t 139) (.seq (rgI a6o) (.ret)) (.skip))) (.seq (rgI a6n) (.ret)))) (.skip))))))))))
def a6m : List AIns := [opI 4 (.mv (.c (.int .i64 (-1))))]
noncomputable def a7N : ACode := .seq (rgI a0E) (.seq (rgI a0D) (.seq (.block 0 (.seq (rgI a0C) (.cond (.t 16) (.seq (rgI a1x) (.ret)) (.seq (rgI a1w) (.cond (.t 24) (.seq (rgI a1v) (.ret)) (.seq (rgI a6T) (.cond (.t 31) (.seq (rgI a6S) (.ret)) (.seq (.raw 8 (a9e Tryz.f87 8) false) (.cond (.t 36) (.seq (rgI a6R) (.ret)) (.skip)))))))))) (.seq (rgI a6Q) (.seq (rgI a6I) (.seq (rgI a6H) (.seq (rgI a6G) (.seq (rgI a6F) (.seq (.block 1 (.loop a6U)) (.seq (rgI a6m) (.ret))))))))))
theorem a0U : fchk Pr (fun _ _ => false) Tryz.f87 = some (a7N, [.tmp 4], 143) := by kernel_rfl
theorem a0V : Pr.funcs[a0I]? = some Tryz.f87 := Tryz.func87
def a1A : List AIns := [mvI 8 1,
 opI 9 (.bin .add (.t 8) (.c (.int .i64 1))),
 mvI 6 9]
def a1z : List AIns := [mvI 10 6,
 mvI 11 2,
 opI 12 (.bin .lss (.t 10) (.t 11))]
def a3s : List AIns := [mvI 15 6,
 mvI 7 15]
def a3r : List AIns := [mvI 16 7,
 mvI 17 1,
 opI 18 (.bin .gtr (.t 16) (.t 17)),
 mvI 19 18,
 ⟨some 20, some (19, true), .p (.mv (.t 0))⟩,
 ⟨some 21, some (19, true), .p (.mv (.t 7))⟩,
 ⟨some 22, some (19, true), .p (.idxp 1 (.t 20) (.t 21))⟩,
 ⟨some 23, some (19, true), .p (.load none (.t 22))⟩,
 ⟨some 24, some (19, true), .p (.mv (.t 0))⟩,
 ⟨some 25, some (19, true), .p (.mv (.t 7))⟩,
 ⟨some 26, some (19, true), .p (.bin .sub (.t 25) (.c (.int .i64 1)))⟩,
 ⟨some 27, some (19, true), .p (.idxp 1 (.t 24) (.t 26))⟩,
 ⟨some 28, some (19, true), .p (.load none (.t 27))⟩,
 ⟨some 29, some (19, true), .call b0O [(.t 23), (.t 28)]⟩,
 opI 30 (.pick (.t 19) (.t 29) (.c (.bool false)))]
def a3q : List AIns := [mvI 33 0,
 mvI 34 7,
 mvI 35 0,
 mvI 36 7,
 opI 37 (.bin .sub (.t 36) (.c (.int .i64 1))),
 mvI 38 0,
 mvI 39 7,
 opI 40 (.bin .sub (.t 39) (.c (.int .i64 1))),
 opI 41 (.idxp 1 (.t 38) (.t 40)),
 opI 42 (.load none (.t 41)),
 mvI 43 0,
 mvI 44 7,
 opI 45 (.idxp 1 (.t 43) (.t 44)),
 opI 46 (.load none (.t 45)),
 opI 47 (.idxp 1 (.t 33) (.t 34)),
 ⟨none, none, .e (.store 1 (.t 47) (.t 42))⟩,
 opI 48 (.idxp 1 (.t 35) (.t 37)),
 ⟨none, none, .e (.store 1 (.t 48) (.t 46))⟩]
def a3p : List AIns := [mvI 31 7,
 opI 32 (.bin .sub (.t 31) (.c (.int .i64 1))),
 mvI 7 32]
def a3u : ACode := .seq (.seq (.region a3r true) (.cond (.t 30) (.skip) (.exit 2))) (.seq (.block 3 (.region a3q true)) (rgI a3p))
def a3o : List AIns := [mvI 13 6,
 opI 14 (.bin .add (.t 13) (.c (.int .i64 1))),
 mvI 6 14]
def a3v : ACode := .seq (.seq (rgI a1z) (.cond (.t 12) (.skip) (.exit 0))) (.seq (.block 1 (.seq (rgI a3s) (.block 2 (.loop a3u)))) (rgI a3o))
def a3A : ACode := .seq (rgI a1A) (.block 0 (.loop a3v))
theorem a3t : fchk Pr (fun _ _ => false) Tryz.f92 = some (a3A, [], 49) := by kernel_rfl
theorem a3w : Pr.funcs[a0S]? = some Tryz.f92 := Tryz.func92
end Go.Abs
set_option maxRecDepth 100000
noncomputable section
namespace Go.Abs
open Go.Proofs
def a9t : List AIns := [opI 2 (.mv (.c (.int .i64 0)))]
def a9s : List AIns := [mvI 3 0,
 opI 4 (.bin .geq (.t 3) (.c (.int .u32 65536)))]
def a9r : List AIns := [mvI 5 0,
 opI 6 (.bin .shr (.t 5) (.c (.int .u64 16))),
 mvI 0 6]
def a9q : List AIns := [opI 2 (.mv (.c (.int .i64 16)))]
def a4f : List AIns := [mvI 7 0,
 opI 8 (.bin .geq (.t 7) (.c (.int .u32 256)))]
def a4e : List AIns := [mvI 9 0,
 opI 10 (.bin .shr (.t 9) (.c (.int .u64 8))),
 mvI 0 10]
def a4d : List AIns := [mvI 11 2,
 opI 12 (.bin .add (.t 11) (.c (.int .i64 8))),
 mvI 2 12]
def a2L : List AIns := [mvI 13 2,
 mvI 14 0,
 opI 15 (.conv .u8 (.t 14)),
 opI 16 (.idxs (.c (.str c9n)) (.t 15)),
 opI 17 (.conv .i64 (.t 16)),
 opI 18 (.bin .add (.t 13) (.t 17)),
 mvI 2 18]
def b8F : ACode := .seq (rgI a9t) (.seq (.seq (rgI a9s) (.cond (.t 4) (.seq (rgI a9r) (rgI a9q)) (.skip))) (.seq (.seq (rgI a4f) (.cond (.t 8) (.seq (rgI a4e) (rgI a4d)) (.skip))) (.seq (rgI a2L) (.ret))))
theorem b7g : fchk Pr (fun _ _ => false) Tryz.f101 = some (b8F, [.tmp 2], 19) := by kernel_rfl
theorem b7h : Pr.funcs[a1p]? = some Tryz.f101 := Tryz.func101
def a9p : List AIns := [opI 2 (.mv (.c (.int .i64 0)))]
def a9o : List AIns := [mvI 3 0,
 opI 4 (.bin .geq (.t 3) (.c (.int .u64 4294967296)))]
def b7d : List AIns := [mvI 5 0,
 opI 6 (.bin .shr (.t 5) (.c (.int .u64 32))),
 mvI 0 6]
def b7c : List AIns := [opI 2 (.mv (.c (.int .i64 32)))]
def a9n : List AIns := [mvI 7 0,
 opI 8 (.bin .geq (.t 7) (.c (.int .u64 65536)))]
def b7b : List AIns := [mvI 9 0,
 opI 10 (.bin .shr (.t 9) (.c (.int .u64 16))),
 mvI 0 10]
def b7a : List AIns := [mvI 11 2,
 opI 12 (.bin .add (.t 11) (.c (.int .i64 16))),
 mvI 2 12]
def a9m : List AIns := [mvI 13 0,
 opI 14 (.bin .geq (.t 13) (.c (.int .u64 256)))]
def b6Z : List AIns := [mvI 15 0,
 opI 16 (.bin .shr (.t 15) (.c (.int .u64 8))),
 mvI 0 16]
def b6Y : List AIns := [mvI 17 2,
 opI 18 (.bin .add (.t 17) (.c (.int .i64 8))),
 mvI 2 18]
def a8A : List AIns := [mvI 19 2,
 mvI 20 0,
 opI 21 (.conv .u8 (.t 20)),
 opI 22 (.idxs (.c (.str c9n)) (.t 21)),
 opI 23 (.conv .i64 (.t 22)),
 opI 24 (.bin .add (.t 19) (.t 23)),
 mvI 2 24]
def b8E : ACode := .seq (rgI a9p) (.seq (.seq (rgI a9o) (.cond (.t 4) (.seq (rgI b7d) (rgI b7c)) (.skip))) (.seq (.seq (rgI a9n) (.cond (.t 8) (.seq (rgI b7b) (rgI b7a)) (.skip))) (.seq (.seq (rgI a9m) (.cond (.t 14) (.seq (rgI b6Z) (rgI b6Y)) (.skip))) (.seq (rgI a8A) (.ret)))))
theorem b7e : fchk Pr (fun _ _ => false) Tryz.f102 = some (b8E, [.tmp 2], 25) := by kernel_rfl
theorem b7f : Pr.funcs[a5Z]? = some Tryz.f102 := Tryz.func102
def b9E : List AIns := [⟨some 1, none, .e (.box 2 (.t 0))⟩,
 opI 2 (.mv (.c (.int .i64 0)))]
def b9D : List AIns := [opI 4 (.fldp (.t 1) 1),
 opI 5 (.load none (.t 4)),
 ⟨some 6, none, .call b4m [(.t 5)]⟩,
 opI 7 (.bin .eql (.t 6) (.c (.int .i64 0))),
 mvI 3 7]
def b9C : List AIns := [opI 2 (.mv (.c (.int .i64 0)))]
def b9B : List AIns := [opI 9 (.fldp (.t 1) 0),
 opI 10 (.load none (.t 9)),
 mvI 8 10]
def b9A : List AIns := [opI 2 (.mv (.c (.int .i64 (-1))))]
def b9z : List AIns := [opI 2 (.mv (.c (.int .i64 1)))]
def d1j : ACode := .seq (rgI b9E) (.seq (.block 0 (.seq (rgI b9D) (.cond (.t 3) (.seq (rgI b9C) (.ret)) (.seq (rgI b9B) (.cond (.t 8) (.seq (rgI b9A) (.ret)) (.skip)))))) (.seq (rgI b9z) (.ret)))
theorem c8V : fchk Pr (fun _ _ => false) Tryz.f105 = some (d1j, [.tmp 2], 11) := by kernel_rfl
theorem c8W : Pr.funcs[a3K]? = some Tryz.f105 := Tryz.func105
def c3t : List AIns := [⟨some 2, none, .p (.mv (.c (.str ⟨#[]⟩)))⟩]
def c3s : List AIns := [mvI 9 0,
 ⟨some 10, none, .call b4l [(.t 9)]⟩,
 mvI 0 10]
def c3r : List AIns := [mvI 11 0,
 opI 12 (.len (.t 11)),
 opI 13 (.bin .eql (.t 12) (.c (.int .i64 0)))]
def c3q : List AIns := [⟨some 2, none, .p (.mv (.c (.str ⟨#[48]⟩)))⟩]
def c3p : List AIns := [opI 3 (.mv (.c (.nil)))]
def b5x : List AIns := [mvI 14 0,
 opI 15 (.len (.t 14)),
 opI 16 (.bin .gtr (.t 15) (.c (.int .i64 0)))]
def c3o : List AIns := [mvI 18 0,
 ⟨some 19, none, .call a8M [(.t 18), (.c (.int .u32 1000000000))]⟩,
 mvI 17 19,
 opI 20 (.ext (.t 17) 0),
 opI 21 (.ext (.t 17) 1),
 mvI 4 20,
 mvI 5 21]
def c3n : List AIns := [opI 6 (.mv (.c (.int .i64 0)))]
def a8w : List AIns := [mvI 22 6,
 opI 23 (.bin .lss (.t 22) (.c (.int .i64 9))),
 mvI 24 23,
 ⟨some 25, some (24, true), .p (.mv (.t 4))⟩,
 ⟨some 26, some (24, true), .p (.len (.t 25))⟩,
 ⟨some 27, some (24, true), .p (.bin .gtr (.t 26) (.c (.int .i64 0)))⟩,
 ⟨some 28, some (24, true), .p (.mv (.t 27))⟩,
 ⟨some 29, some (28, false), .p (.mv (.t 5))⟩,
 ⟨some 30, some (28, false), .p (.bin .gtr (.t 29) (.c (.int .u32 0)))⟩,
 ⟨some 31, some (24, true), .p (.pick (.t 28) (.c (.bool true)) (.t 30))⟩,
 opI 32 (.pick (.t 24) (.t 31) (.c (.bool false)))]
def b5w : List AIns := [mvI 35 3,
 mvI 36 5,
 opI 37 (.bin .rem (.t 36) (.c (.int .u32 10))),
 opI 38 (.bin .add (.c (.int .u32 48)) (.t 37)),
 opI 39 (.conv .u8 (.t 38)),
 ⟨some 40, none, .e (.bsl 1 [(.t 39)])⟩,
 ⟨some 41, none, .e (.app 1 1 false (.t 35) (.t 40))⟩,
 mvI 3 41]
def b3g : List AIns := [mvI 42 5,
 opI 43 (.bin .quo (.t 42) (.c (.int .u32 10))),
 mvI 5 43]
def b3f : List AIns := [mvI 33 6,
 opI 34 (.bin .add (.t 33) (.c (.int .i64 1))),
 mvI 6 34]
def c3u : ACode := .seq (.seq (rgI a8w) (.cond (.t 32) (.skip) (.exit 2))) (.seq (.block 3 (.seq (rgI b5w) (rgI b3g))) (rgI b3f))
def a9k : List AIns := [mvI 44 4,
 mvI 0 44]
def b5z : ACode := .seq (.seq (rgI b5x) (.cond (.t 16) (.skip) (.exit 0))) (.block 1 (.seq (rgI c3o) (.seq (.seq (rgI c3n) (.block 2 (.loop c3u))) (rgI a9k))))
def a9j : List AIns := [mvI 45 3,
 opI 46 (.len (.t 45)),
 opI 47 (.bin .sub (.t 46) (.c (.int .i64 1))),
 opI 7 (.mv (.c (.int .i64 0))),
 mvI 8 47]
def b3e : List AIns := [mvI 48 7,
 mvI 49 8,
 opI 50 (.bin .lss (.t 48) (.t 49))]
def c0k : List AIns := [mvI 55 3,
 mvI 56 7,
 mvI 57 3,
 mvI 58 8,
 mvI 59 3,
 mvI 60 8,
 opI 61 (.idxp 1 (.t 59) (.t 60)),
 opI 62 (.load none (.t 61)),
 mvI 63 3,
 mvI 64 7,
 opI 65 (.idxp 1 (.t 63) (.t 64)),
 opI 66 (.load none (.t 65)),
 opI 67 (.idxp 1 (.t 55) (.t 56)),
 ⟨none, none, .e (.store 1 (.t 67) (.t 62))⟩,
 opI 68 (.idxp 1 (.t 57) (.t 58)),
 ⟨none, none, .e (.store 1 (.t 68) (.t 66))⟩]
def c0j : List AIns := [mvI 51 7,
 opI 52 (.bin .add (.t 51) (.c (.int .i64 1))),
 mvI 53 8,
 opI 54 (.bin .sub (.t 53) (.c (.int .i64 1))),
 mvI 7 52,
 mvI 8 54]
def b5y : ACode := .seq (.seq (rgI b3e) (.cond (.t 50) (.skip) (.exit 4))) (.seq (.block 5 (.region c0k true)) (rgI c0j))
def a9i : List AIns := [mvI 69 3,
 opI 70 (.b2s (.t 69)),
 mvI 2 70]
def d5E : ACode := .seq (rgI c3t) (.seq (rgI c3s) (.seq (.seq (rgI c3r) (.cond (.t 13) (.seq (rgI c3q) (.ret)) (.skip))) (.seq (rgI c3p) (.seq (.block 0 (.loop b5z)) (.seq (.seq (rgI a9j) (.block 4 (.loop b5y))) (.seq (rgI a9i) (.ret)))))))
theorem d1V : fchk Pr (fun _ _ => false) Tryz.f106 = some (d5E, [.tmp 2], 71) := by kernel_rfl
theorem d1W : Pr.funcs[a8h]? = some Tryz.f106 := Tryz.func106
def d0p : List AIns := [⟨some 4, none, .e (.box 2 (.c (.agg [.nil, .nil])))⟩,
 opI 5 (.mv (.c (.int .i64 0)))]
def d0o : List AIns := [mvI 9 0,
 mvI 10 1,
 ⟨some 11, none, .call a9S [(.t 9), (.t 10)]⟩,
 mvI 6 11]
def c4G : List AIns := [mvI 12 6,
 opI 13 (.bin .neq (.t 12) (.c (.int .i64 0)))]
def d0n : List AIns := [opI 14 (.bld [.nil, .nil] []),
 mvI 15 6,
 ⟨none, none, .e (.store 2 (.t 4) (.t 14))⟩,
 mvI 5 15]
def d0m : List AIns := [mvI 17 0,
 ⟨some 18, none, .call b5Y [(.t 17)]⟩,
 mvI 16 18,
 opI 19 (.ext (.t 16) 0),
 opI 20 (.ext (.t 16) 1),
 ⟨some 7, none, .e (.box 2 (.c (.agg [.nil, .nil])))⟩,
 ⟨none, none, .e (.store 2 (.t 7) (.t 19))⟩,
 mvI 8 20]
def c4F : List AIns := [mvI 21 8,
 opI 22 (.un .not (.t 21))]
def d0l : List AIns := [opI 23 (.bld [.nil, .nil] []),
 ⟨none, none, .e (.store 2 (.t 4) (.t 23))⟩,
 opI 5 (.mv (.c (.int .i64 50)))]
def d0k : List AIns := [opI 24 (.load (some 2) (.t 7)),
 ⟨none, none, .e (.store 2 (.t 4) (.t 24))⟩,
 opI 5 (.mv (.c (.int .i64 0)))]
def e2a : ACode := .seq (rgI d0p) (.seq (.seq (rgI d0o) (.seq (rgI c4G) (.cond (.t 13) (.seq (rgI d0n) (.ret)) (.skip)))) (.seq (rgI d0m) (.seq (.seq (rgI c4F) (.cond (.t 22) (.seq (rgI d0l) (.ret)) (.skip))) (.seq (rgI d0k) (.ret)))))
theorem d8T : fchk Pr (fun _ _ => false) Tryz.f108 = some (e2a, [.cell 4 (some 2), .tmp 5], 25) := by kernel_rfl
theorem d8U : Pr.funcs[c8Q]? = some Tryz.f108 := Tryz.func108
def b9t : List AIns := [⟨some 4, none, .e (.box 2 (.c (.agg [.bool false, .nil])))⟩]
def b9s : List AIns := [mvI 7 1,
 opI 8 (.len (.t 7)),
 mvI 5 8]
def b2u : List AIns := [mvI 9 5,
 opI 10 (.bin .gtr (.t 9) (.c (.int .i64 0))),
 mvI 11 10,
 ⟨some 12, some (11, true), .p (.mv (.t 1))⟩,
 ⟨some 13, some (11, true), .p (.mv (.t 5))⟩,
 ⟨some 14, some (11, true), .p (.bin .sub (.t 13) (.c (.int .i64 1)))⟩,
 ⟨some 15, some (11, true), .p (.idxp 1 (.t 12) (.t 14))⟩,
 ⟨some 16, some (11, true), .p (.load none (.t 15))⟩,
 ⟨some 17, some (11, true), .p (.bin .eql (.t 16) (.c (.int .u32 0)))⟩,
 opI 18 (.pick (.t 11) (.t 17) (.c (.bool false)))]
def b9r : List AIns := [mvI 19 5,
 opI 20 (.bin .sub (.t 19) (.c (.int .i64 1))),
 mvI 5 20]
def b9u : ACode := .seq (.seq (rgI b2u) (.cond (.t 18) (.skip) (.exit 0))) (.block 1 (rgI b9r))
def a9a : List AIns := [mvI 21 5,
 opI 22 (.bin .eql (.t 21) (.c (.int .i64 0)))]
def a8Z : List AIns := [opI 23 (.bld [.bool false, .nil] []),
 ⟨none, none, .e (.store 2 (.t 4) (.t 23))⟩]
def a8Y : List AIns := [mvI 24 5,
 ⟨some 25, none, .e (.mksl 1 4 (.int .u32 0) (.t 24) (.t 24))⟩,
 mvI 6 25]
def a8X : List AIns := [mvI 26 6,
 mvI 27 1,
 ⟨some 28, none, .e (.cpy 1 (.t 26) (.t 27))⟩]
def a8W : List AIns := [mvI 29 0,
 mvI 30 6,
 opI 31 (.bld [.bool false, .nil] [(0, 1, (.t 29)), (1, 1, (.t 30))]),
 ⟨none, none, .e (.store 2 (.t 4) (.t 31))⟩]
def d1f : ACode := .seq (rgI b9t) (.seq (rgI b9s) (.seq (.block 0 (.loop b9u)) (.seq (.seq (rgI a9a) (.cond (.t 22) (.seq (rgI a8Z) (.ret)) (.skip))) (.seq (rgI a8Y) (.seq (rgI a8X) (.seq (rgI a8W) (.ret)))))))
theorem c8T : fchk Pr (fun _ _ => false) Tryz.f109 = some (d1f, [.cell 4 (some 2)], 32) := by kernel_rfl
theorem c8U : Pr.funcs[a1o]? = some Tryz.f109 := Tryz.func109
def c6R : List AIns := [opI 4 (.mv (.c (.nil)))]
def c6Q : List AIns := [mvI 8 0,
 opI 9 (.len (.t 8)),
 mvI 10 1,
 opI 11 (.len (.t 10)),
 opI 12 (.bin .lss (.t 9) (.t 11))]
def c6P : List AIns := [mvI 13 1,
 mvI 14 0,
 mvI 0 13,
 mvI 1 14]
def b8A : List AIns := [mvI 15 0,
 opI 16 (.len (.t 15)),
 opI 17 (.bin .add (.t 16) (.c (.int .i64 1))),
 ⟨some 18, none, .e (.mksl 1 4 (.int .u32 0) (.t 17) (.t 17))⟩,
 mvI 5 18]
def b8z : List AIns := [opI 6 (.mv (.c (.int .u64 0)))]
def b8y : List AIns := [mvI 19 0,
 opI 20 (.len (.t 19)),
 opI 21 (.mv (.c (.int .i64 0)))]
def b8x : List AIns := [opI 22 (.bin .lss (.t 21) (.t 20))]
def c6O : List AIns := [mvI 23 21,
 mvI 7 23]
def c6N : List AIns := [mvI 24 6,
 mvI 25 0,
 mvI 26 7,
 opI 27 (.idxp 1 (.t 25) (.t 26)),
 opI 28 (.load none (.t 27)),
 opI 29 (.conv .u64 (.t 28)),
 opI 30 (.bin .add (.t 24) (.t 29)),
 mvI 6 30]
def c6M : List AIns := [mvI 31 7,
 mvI 32 1,
 opI 33 (.len (.t 32)),
 opI 34 (.bin .lss (.t 31) (.t 33))]
def c3S : List AIns := [mvI 35 6,
 mvI 36 1,
 mvI 37 7,
 opI 38 (.idxp 1 (.t 36) (.t 37)),
 opI 39 (.load none (.t 38)),
 opI 40 (.conv .u64 (.t 39)),
 opI 41 (.bin .add (.t 35) (.t 40)),
 mvI 6 41]
def b5F : List AIns := [mvI 42 5,
 mvI 43 7,
 mvI 44 6,
 opI 45 (.conv .u32 (.t 44)),
 opI 46 (.idxp 1 (.t 42) (.t 43)),
 ⟨none, none, .e (.store 1 (.t 46) (.t 45))⟩]
def b5E : List AIns := [mvI 47 6,
 opI 48 (.bin .shr (.t 47) (.c (.int .u64 32))),
 mvI 6 48]
def b5D : List AIns := [opI 49 (.bin .add (.t 21) (.c (.int .i64 1))),
 mvI 21 49]
def b4b : ACode := .seq (rgI b8x) (.seq (.cond (.t 22) (.skip) (.exit 0)) (.seq (.block 1 (.seq (rgI c6O) (.seq (rgI c6N) (.seq (.seq (rgI c6M) (.cond (.t 34) (rgI c3S) (.skip))) (.seq (rgI b5F) (rgI b5E)))))) (rgI b5D)))
def a8y : List AIns := [mvI 50 5,
 mvI 51 0,
 opI 52 (.len (.t 51)),
 mvI 53 6,
 opI 54 (.conv .u32 (.t 53)),
 opI 55 (.idxp 1 (.t 50) (.t 52)),
 ⟨none, none, .e (.store 1 (.t 55) (.t 54))⟩]
def a8x : List AIns := [mvI 56 5,
 ⟨some 57, none, .call a0t [(.t 56)]⟩,
 mvI 4 57]
def d8f : ACode := .seq (rgI c6R) (.seq (.seq (rgI c6Q) (.cond (.t 12) (rgI c6P) (.skip))) (.seq (rgI b8A) (.seq (rgI b8z) (.seq (.seq (rgI b8y) (.block 0 (.loop b4b))) (.seq (rgI a8y) (.seq (rgI a8x) (.ret)))))))
theorem d5S : fchk Pr (fun _ _ => false) Tryz.f110 = some (d8f, [.tmp 4], 58) := by kernel_rfl
theorem d5T : Pr.funcs[a8O]? = some Tryz.f110 := Tryz.func110
def c6K : List AIns := [opI 4 (.mv (.c (.int .i64 0)))]
def c6J : List AIns := [mvI 6 0,
 ⟨some 7, none, .call a0t [(.t 6)]⟩,
 mvI 8 1,
 ⟨some 9, none, .call a0t [(.t 8)]⟩,
 mvI 0 7,
 mvI 1 9]
def c6I : List AIns := [mvI 10 0,
 opI 11 (.len (.t 10)),
 mvI 12 1,
 opI 13 (.len (.t 12)),
 opI 14 (.bin .neq (.t 11) (.t 13))]
def c6H : List AIns := [mvI 15 0,
 opI 16 (.len (.t 15)),
 mvI 17 1,
 opI 18 (.len (.t 17)),
 opI 19 (.bin .lss (.t 16) (.t 18))]
def c6G : List AIns := [opI 4 (.mv (.c (.int .i64 (-1))))]
def c6F : List AIns := [opI 4 (.mv (.c (.int .i64 1)))]
def c6E : List AIns := [mvI 20 0,
 opI 21 (.len (.t 20)),
 opI 22 (.bin .sub (.t 21) (.c (.int .i64 1))),
 mvI 5 22]
def b8w : List AIns := [mvI 23 5,
 opI 24 (.bin .geq (.t 23) (.c (.int .i64 0)))]
def c6D : List AIns := [mvI 27 0,
 mvI 28 5,
 opI 29 (.idxp 1 (.t 27) (.t 28)),
 opI 30 (.load none (.t 29)),
 mvI 31 1,
 mvI 32 5,
 opI 33 (.idxp 1 (.t 31) (.t 32)),
 opI 34 (.load none (.t 33)),
 opI 35 (.bin .neq (.t 30) (.t 34))]
def c6C : List AIns := [mvI 36 0,
 mvI 37 5,
 opI 38 (.idxp 1 (.t 36) (.t 37)),
 opI 39 (.load none (.t 38)),
 mvI 40 1,
 mvI 41 5,
 opI 42 (.idxp 1 (.t 40) (.t 41)),
 opI 43 (.load none (.t 42)),
 opI 44 (.bin .lss (.t 39) (.t 43))]
def c3M : List AIns := [opI 4 (.mv (.c (.int .i64 (-1))))]
def c3L : List AIns := [opI 4 (.mv (.c (.int .i64 1)))]
def c3K : List AIns := [mvI 25 5,
 opI 26 (.bin .sub (.t 25) (.c (.int .i64 1))),
 mvI 5 26]
def c6L : ACode := .seq (.seq (rgI b8w) (.cond (.t 24) (.skip) (.exit 0))) (.seq (.block 1 (.seq (.region c6D true) (.cond (.t 35) (.seq (.seq (.region c6C true) (.cond (.t 44) (.seq (rgI c3M) (.ret)) (.skip))) (.seq (rgI c3L) (.ret))) (.skip)))) (rgI c3K))
def b5C : List AIns := [opI 4 (.mv (.c (.int .i64 0)))]
def d8e : ACode := .seq (rgI c6K) (.seq (rgI c6J) (.seq (.seq (rgI c6I) (.cond (.t 14) (.seq (.seq (rgI c6H) (.cond (.t 19) (.seq (rgI c6G) (.ret)) (.skip))) (.seq (rgI c6F) (.ret))) (.skip))) (.seq (.seq (rgI c6E) (.block 0 (.loop c6L))) (.seq (rgI b5C) (.ret)))))
theorem d5P : fchk Pr (fun _ _ => false) Tryz.f111 = some (d8e, [.tmp 4], 45) := by kernel_rfl
theorem d5Q : Pr.funcs[b0N]? = some Tryz.f111 := Tryz.func111
def c6j : List AIns := [opI 4 (.mv (.c (.nil))),
 opI 5 (.mv (.c (.int .i64 0)))]
def c6i : List AIns := [mvI 6 0,
 mvI 7 1,
 ⟨some 8, none, .call b0N [(.t 6), (.t 7)]⟩,
 opI 9 (.bin .lss (.t 8) (.c (.int .i64 0)))]
def d5F : List AIns := [opI 4 (.mv (.c (.nil))),
 opI 5 (.mv (.c (.int .i64 10)))]
def c6h : List AIns := [mvI 10 0,
 ⟨some 11, none, .call a0t [(.t 10)]⟩,
 mvI 12 1,
 ⟨some 13, none, .call a0t [(.t 12)]⟩,
 ⟨some 14, none, .call b0M [(.t 11), (.t 13)]⟩,
 mvI 4 14,
 opI 5 (.mv (.c (.int .i64 0)))]
def d8b : ACode := .seq (rgI c6j) (.seq (.seq (rgI c6i) (.cond (.t 9) (.seq (rgI d5F) (.ret)) (.skip))) (.seq (rgI c6h) (.ret)))
theorem d5G : fchk Pr (fun _ _ => false) Tryz.f112 = some (d8b, [.tmp 4, .tmp 5], 15) := by kernel_rfl
theorem d5H : Pr.funcs[c5j]? = some Tryz.f112 := Tryz.func112
def c6r : List AIns := [opI 4 (.mv (.c (.nil)))]
def c6q : List AIns := [mvI 9 0,
 ⟨some 10, none, .call a0t [(.t 9)]⟩,
 mvI 11 1,
 ⟨some 12, none, .call a0t [(.t 11)]⟩,
 mvI 0 10,
 mvI 1 12]
def c6p : List AIns := [mvI 13 0,
 opI 14 (.len (.t 13)),
 mvI 15 1,
 opI 16 (.len (.t 15)),
 opI 17 (.bin .add (.t 14) (.t 16)),
 ⟨some 18, none, .e (.mksl 1 4 (.int .u32 0) (.t 17) (.t 17))⟩,
 mvI 5 18]
def c6o : List AIns := [mvI 19 0,
 opI 20 (.len (.t 19)),
 opI 21 (.mv (.c (.int .i64 0)))]
def b8u : List AIns := [opI 22 (.bin .lss (.t 21) (.t 20))]
def c6n : List AIns := [mvI 23 21,
 mvI 6 23]
def c6m : List AIns := [opI 7 (.mv (.c (.int .u64 0)))]
def c6l : List AIns := [mvI 24 1,
 opI 25 (.len (.t 24)),
 opI 26 (.mv (.c (.int .i64 0)))]
def b8t : List AIns := [opI 27 (.bin .lss (.t 26) (.t 25))]
def c6k : List AIns := [mvI 28 26,
 mvI 8 28]
def c3C : List AIns := [mvI 29 7,
 mvI 30 0,
 mvI 31 6,
 opI 32 (.idxp 1 (.t 30) (.t 31)),
 opI 33 (.load none (.t 32)),
 opI 34 (.conv .u64 (.t 33)),
 mvI 35 1,
 mvI 36 8,
 opI 37 (.idxp 1 (.t 35) (.t 36)),
 opI 38 (.load none (.t 37)),
 opI 39 (.conv .u64 (.t 38)),
 opI 40 (.bin .mul (.t 34) (.t 39)),
 mvI 41 5,
 mvI 42 6,
 mvI 43 8,
 opI 44 (.bin .add (.t 42) (.t 43)),
 opI 45 (.idxp 1 (.t 41) (.t 44)),
 opI 46 (.load none (.t 45)),
 opI 47 (.conv .u64 (.t 46)),
 opI 48 (.bin .add (.t 40) (.t 47)),
 opI 49 (.bin .add (.t 29) (.t 48)),
 mvI 7 49]
def c3B : List AIns := [mvI 50 5,
 mvI 51 6,
 mvI 52 8,
 opI 53 (.bin .add (.t 51) (.t 52)),
 mvI 54 7,
 opI 55 (.conv .u32 (.t 54)),
 opI 56 (.idxp 1 (.t 50) (.t 53)),
 ⟨none, none, .e (.store 1 (.t 56) (.t 55))⟩]
def c3A : List AIns := [mvI 57 7,
 opI 58 (.bin .shr (.t 57) (.c (.int .u64 32))),
 mvI 7 58]
def c3z : List AIns := [opI 59 (.bin .add (.t 26) (.c (.int .i64 1))),
 mvI 26 59]
def c6s : ACode := .seq (rgI b8t) (.seq (.cond (.t 27) (.skip) (.exit 2)) (.seq (.block 3 (.seq (rgI c6k) (.seq (.region c3C true) (.seq (rgI c3B) (rgI c3A))))) (rgI c3z)))
def c3y : List AIns := [mvI 60 5,
 mvI 61 6,
 mvI 62 1,
 opI 63 (.len (.t 62)),
 opI 64 (.bin .add (.t 61) (.t 63)),
 mvI 65 7,
 opI 66 (.conv .u32 (.t 65)),
 opI 67 (.idxp 1 (.t 60) (.t 64)),
 ⟨none, none, .e (.store 1 (.t 67) (.t 66))⟩]
def c3x : List AIns := [opI 68 (.bin .add (.t 21) (.c (.int .i64 1))),
 mvI 21 68]
def c6t : ACode := .seq (rgI b8u) (.seq (.cond (.t 22) (.skip) (.exit 0)) (.seq (.block 1 (.seq (rgI c6n) (.seq (rgI c6m) (.seq (.seq (rgI c6l) (.block 2 (.loop c6s))) (rgI c3y))))) (rgI c3x)))
def b5A : List AIns := [mvI 69 5,
 ⟨some 70, none, .call a0t [(.t 69)]⟩,
 mvI 4 70]
def d8c : ACode := .seq (rgI c6r) (.seq (rgI c6q) (.seq (rgI c6p) (.seq (.seq (rgI c6o) (.block 0 (.loop c6t))) (.seq (rgI b5A) (.ret)))))
theorem d5J : fchk Pr (fun _ _ => false) Tryz.f113 = some (d8c, [.tmp 4], 71) := by kernel_rfl
theorem d5K : Pr.funcs[a8N]? = some Tryz.f113 := Tryz.func113
def a1b : List AIns := [opI 4 (.mv (.c (.bool false)))]
def a1a : List AIns := [mvI 5 0,
 opI 6 (.lens (.t 5)),
 mvI 7 1,
 opI 8 (.lens (.t 7)),
 opI 9 (.bin .geq (.t 6) (.t 8)),
 mvI 10 9,
 ⟨some 11, some (10, true), .p (.mv (.t 0))⟩,
 ⟨some 12, some (10, true), .p (.mv (.t 1))⟩,
 ⟨some 13, some (10, true), .p (.lens (.t 12))⟩,
 ⟨some 14, some (10, true), .p (.slcs (.t 11) none (some (.t 13)))⟩,
 ⟨some 15, some (10, true), .p (.mv (.t 1))⟩,
 ⟨some 16, some (10, true), .p (.bin .eql (.t 14) (.t 15))⟩,
 opI 17 (.pick (.t 10) (.t 16) (.c (.bool false))),
 mvI 4 17]
def a5c : ACode := .seq (rgI a1b) (.seq (rgI a1a) (.ret))
theorem a1R : fchk Pr (fun _ _ => false) Tryz.f121 = some (a5c, [.tmp 4], 18) := by kernel_rfl
theorem a1S : Pr.funcs[a1m]? = some Tryz.f121 := Tryz.func121
def a8q : List AIns := [opI 8 (.mv (.c (.nil)))]
def a8p : List AIns := [mvI 12 3,
 opI 13 (.bin .eql (.t 12) (.c (.int .i64 0)))]
def b4Z : List AIns := [opI 8 (.mv (.c (.nil)))]
def a8o : List AIns := [mvI 14 1,
 ⟨some 15, none, .p (.bin .eql (.t 14) (.c (.str ⟨#[]⟩)))⟩]
def b4Y : List AIns := [mvI 16 0,
 mvI 17 3,
 ⟨some 18, none, .call b9m [(.t 16), (.t 17)]⟩,
 mvI 8 18]
def a8n : List AIns := [mvI 19 3,
 opI 20 (.bin .lss (.t 19) (.c (.int .i64 0)))]
def a8m : List AIns := [mvI 21 0,
 mvI 22 1,
 ⟨some 23, none, .call b3X [(.t 21), (.t 22)]⟩,
 opI 24 (.bin .add (.t 23) (.c (.int .i64 1))),
 mvI 3 24]
def a8l : List AIns := [mvI 25 3,
 mvI 26 0,
 opI 27 (.lens (.t 26)),
 opI 28 (.bin .add (.t 27) (.c (.int .i64 1))),
 opI 29 (.mnx false (.t 25) (.t 28)),
 mvI 3 29]
def a8k : List AIns := [mvI 30 3,
 ⟨some 31, none, .e (.mksl 1 16 (.str ⟨#[]⟩) (.t 30) (.t 30))⟩,
 mvI 9 31]
def a8j : List AIns := [mvI 32 3,
 opI 33 (.bin .sub (.t 32) (.c (.int .i64 1))),
 mvI 3 33]
def a7m : List AIns := [opI 10 (.mv (.c (.int .i64 0)))]
def a3n : List AIns := [mvI 34 10,
 mvI 35 3,
 opI 36 (.bin .lss (.t 34) (.t 35))]
def a7l : List AIns := [mvI 37 0,
 mvI 38 1,
 ⟨some 39, none, .call a8L [(.t 37), (.t 38)]⟩,
 mvI 11 39]
def a7k : List AIns := [mvI 40 11,
 opI 41 (.bin .lss (.t 40) (.c (.int .i64 0)))]
def a7j : List AIns := [mvI 42 9,
 mvI 43 10,
 mvI 44 0,
 mvI 45 11,
 mvI 46 2,
 opI 47 (.bin .add (.t 45) (.t 46)),
 opI 48 (.slcs (.t 44) none (some (.t 47))),
 opI 49 (.idxp 1 (.t 42) (.t 43)),
 ⟨none, none, .e (.store 1 (.t 49) (.t 48))⟩]
def a7i : List AIns := [mvI 50 0,
 mvI 51 11,
 mvI 52 1,
 opI 53 (.lens (.t 52)),
 opI 54 (.bin .add (.t 51) (.t 53)),
 opI 55 (.slcs (.t 50) (some (.t 54)) none),
 mvI 0 55]
def a7h : List AIns := [mvI 56 10,
 opI 57 (.bin .add (.t 56) (.c (.int .i64 1))),
 mvI 10 57]
def b5b : ACode := .seq (.seq (rgI a3n) (.cond (.t 36) (.skip) (.exit 0))) (.block 1 (.seq (rgI a7l) (.seq (.seq (rgI a7k) (.cond (.t 41) (.exit 0) (.skip))) (.seq (rgI a7j) (.seq (rgI a7i) (rgI a7h))))))
def a7g : List AIns := [mvI 58 9,
 mvI 59 10,
 mvI 60 0,
 opI 61 (.idxp 1 (.t 58) (.t 59)),
 ⟨none, none, .e (.store 1 (.t 61) (.t 60))⟩]
def a7f : List AIns := [mvI 62 9,
 mvI 63 10,
 opI 64 (.bin .add (.t 63) (.c (.int .i64 1))),
 opI 65 (.slc 1 (.t 62) none (some (.t 64)) none),
 mvI 8 65]
def b6y : ACode := .seq (rgI a8q) (.seq (.seq (rgI a8p) (.cond (.t 13) (.seq (rgI b4Z) (.ret)) (.skip))) (.seq (.seq (rgI a8o) (.cond (.t 15) (.seq (rgI b4Y) (.ret)) (.skip))) (.seq (.seq (rgI a8n) (.cond (.t 20) (rgI a8m) (.skip))) (.seq (rgI a8l) (.seq (rgI a8k) (.seq (rgI a8j) (.seq (rgI a7m) (.seq (.block 0 (.loop b5b)) (.seq (rgI a7g) (.seq (rgI a7f) (.ret)))))))))))
theorem b5a : fchk Pr (fun _ _ => false) Tryz.f122 = some (b6y, [.tmp 8], 66) := by kernel_rfl
theorem b5c : Pr.funcs[a4F]? = some Tryz.f122 := Tryz.func122
def c3R : List AIns := [opI 2 (.mv (.c (.int .i64 0)))]
def c3Q : List AIns := [mvI 3 0,
 ⟨some 4, none, .call a0t [(.t 3)]⟩,
 mvI 0 4]
def c3P : List AIns := [mvI 5 0,
 opI 6 (.len (.t 5)),
 opI 7 (.bin .eql (.t 6) (.c (.int .i64 0)))]
def c3O : List AIns := [opI 2 (.mv (.c (.int .i64 0)))]
def c3N : List AIns := [mvI 8 0,
 opI 9 (.len (.t 8)),
 opI 10 (.bin .sub (.t 9) (.c (.int .i64 1))),
 opI 11 (.bin .mul (.c (.int .i64 32)) (.t 10)),
 mvI 12 0,
 mvI 13 0,
 opI 14 (.len (.t 13)),
 opI 15 (.bin .sub (.t 14) (.c (.int .i64 1))),
 opI 16 (.idxp 1 (.t 12) (.t 15)),
 opI 17 (.load none (.t 16)),
 ⟨some 18, none, .call a1p [(.t 17)]⟩,
 opI 19 (.bin .add (.t 11) (.t 18)),
 mvI 2 19]
def d5R : ACode := .seq (rgI c3R) (.seq (rgI c3Q) (.seq (.seq (rgI c3P) (.cond (.t 7) (.seq (rgI c3O) (.ret)) (.skip))) (.seq (rgI c3N) (.ret))))
theorem d1Z : fchk Pr (fun _ _ => false) Tryz.f137 = some (d5R, [.tmp 2], 20) := by kernel_rfl
theorem d2a : Pr.funcs[b4m]? = some Tryz.f137 := Tryz.func137
def c3w : List AIns := [opI 2 (.mv (.c (.nil)))]
def c3v : List AIns := [mvI 3 0,
 ⟨some 4, none, .call a0t [(.t 3)]⟩,
 ⟨some 5, none, .e (.app 1 4 false (.c (.nil)) (.t 4))⟩,
 mvI 2 5]
def d5I : ACode := .seq (rgI c3w) (.seq (rgI c3v) (.ret))
theorem d1X : fchk Pr (fun _ _ => false) Tryz.f138 = some (d5I, [.tmp 2], 6) := by kernel_rfl
theorem d1Y : Pr.funcs[b4l]? = some Tryz.f138 := Tryz.func138
def b2Z : List AIns := [opI 4 (.mv (.c (.nil))),
 opI 5 (.mv (.c (.int .u32 0)))]
def b2Y : List AIns := [mvI 9 0,
 opI 10 (.len (.t 9)),
 ⟨some 11, none, .e (.mksl 1 4 (.int .u32 0) (.t 10) (.t 10))⟩,
 mvI 6 11]
def b2X : List AIns := [opI 7 (.mv (.c (.int .u64 0)))]
def b2W : List AIns := [mvI 12 0,
 opI 13 (.len (.t 12)),
 opI 14 (.bin .sub (.t 13) (.c (.int .i64 1))),
 mvI 8 14]
def a6j : List AIns := [mvI 15 8,
 opI 16 (.bin .geq (.t 15) (.c (.int .i64 0)))]
def b2V : List AIns := [mvI 19 7,
 opI 20 (.bin .shl (.t 19) (.c (.int .u64 32))),
 mvI 21 0,
 mvI 22 8,
 opI 23 (.idxp 1 (.t 21) (.t 22)),
 opI 24 (.load none (.t 23)),
 opI 25 (.conv .u64 (.t 24)),
 opI 26 (.bin .or (.t 20) (.t 25)),
 mvI 7 26]
def b2U : List AIns := [mvI 27 6,
 mvI 28 8,
 mvI 29 7,
 mvI 30 1,
 opI 31 (.conv .u64 (.t 30)),
 opI 32 (.bin .quo (.t 29) (.t 31)),
 opI 33 (.conv .u32 (.t 32)),
 opI 34 (.idxp 1 (.t 27) (.t 28)),
 ⟨none, none, .e (.store 1 (.t 34) (.t 33))⟩]
def b2T : List AIns := [mvI 35 7,
 mvI 36 1,
 opI 37 (.conv .u64 (.t 36)),
 opI 38 (.bin .rem (.t 35) (.t 37)),
 mvI 7 38]
def b2S : List AIns := [mvI 17 8,
 opI 18 (.bin .sub (.t 17) (.c (.int .i64 1))),
 mvI 8 18]
def c9L : ACode := .seq (.seq (rgI a6j) (.cond (.t 16) (.skip) (.exit 0))) (.seq (.block 1 (.seq (rgI b2V) (.seq (rgI b2U) (rgI b2T)))) (rgI b2S))
def b2R : List AIns := [mvI 39 6,
 ⟨some 40, none, .call a0t [(.t 39)]⟩,
 mvI 41 7,
 opI 42 (.conv .u32 (.t 41)),
 mvI 4 40,
 mvI 5 42]
def d1R : ACode := .seq (rgI b2Z) (.seq (rgI b2Y) (.seq (rgI b2X) (.seq (.seq (rgI b2W) (.block 0 (.loop c9L))) (.seq (rgI b2R) (.ret)))))
theorem b9Y : fchk Pr (fun _ _ => false) Tryz.f139 = some (d1R, [.tmp 4, .tmp 5], 43) := by kernel_rfl
theorem b9Z : Pr.funcs[a8M]? = some Tryz.f139 := Tryz.func139
def b7o : List AIns := [opI 4 (.mv (.c (.int .i64 0)))]
def a7S : List AIns := [mvI 11 0,
 opI 12 (.len (.t 11)),
 opI 13 (.bin .gtr (.t 12) (.c (.int .i64 12))),
 mvI 14 13,
 ⟨some 15, some (14, false), .p (.mv (.t 1))⟩,
 ⟨some 16, some (14, false), .p (.mv (.t 15))⟩,
 ⟨some 17, some (16, true), .p (.mv (.t 0))⟩,
 ⟨some 18, some (16, true), .call b9p [(.t 17)]⟩,
 ⟨some 19, some (16, true), .p (.bin .gtr (.t 18) (.c (.int .i64 256)))⟩,
 ⟨some 20, some (14, false), .p (.pick (.t 16) (.t 19) (.c (.bool false)))⟩,
 opI 21 (.pick (.t 14) (.c (.bool true)) (.t 20)),
 mvI 5 21]
def b1x : List AIns := [mvI 22 0,
 opI 23 (.len (.t 22)),
 opI 24 (.mv (.c (.int .i64 0)))]
def b1w : List AIns := [opI 25 (.bin .lss (.t 24) (.t 23))]
def b7n : List AIns := [opI 26 (.idxp 1 (.t 22) (.t 24)),
 opI 27 (.load none (.t 26)),
 mvI 7 27]
def a7R : List AIns := [mvI 28 5,
 mvI 29 28,
 ⟨some 30, some (29, false), .p (.mv (.t 7))⟩,
 ⟨some 31, some (29, false), .p (.len (.t 30))⟩,
 ⟨some 32, some (29, false), .p (.bin .gtr (.t 31) (.c (.int .i64 12)))⟩,
 opI 33 (.pick (.t 29) (.c (.bool true)) (.t 32)),
 mvI 5 33]
def a7Q : List AIns := [opI 34 (.bin .add (.t 24) (.c (.int .i64 1))),
 mvI 24 34]
def b7p : ACode := .seq (rgI b1w) (.seq (.cond (.t 25) (.skip) (.exit 0)) (.seq (.block 1 (.seq (rgI b7n) (rgI a7R))) (rgI a7Q)))
def a7P : List AIns := [mvI 35 5]
def b1v : List AIns := [opI 4 (.mv (.c (.int .i64 40)))]
def a7O : List AIns := [mvI 36 0,
 opI 37 (.len (.t 36)),
 opI 38 (.bin .eql (.t 37) (.c (.int .i64 0)))]
def a9X : List AIns := [opI 4 (.mv (.c (.int .i64 41)))]
def a6d : List AIns := [mvI 40 0,
 ⟨some 41, none, .call b1P [(.t 40)]⟩,
 mvI 39 41,
 opI 42 (.ext (.t 39) 0),
 opI 43 (.ext (.t 39) 1),
 opI 44 (.ext (.t 39) 2),
 mvI 8 42,
 mvI 9 43,
 mvI 10 44]
def a6c : List AIns := [mvI 45 10,
 mvI 4 45]
def d0j : ACode := .seq (rgI b7o) (.seq (rgI a7S) (.seq (.seq (rgI b1x) (.block 0 (.loop b7p))) (.seq (.seq (rgI a7P) (.cond (.t 35) (.seq (rgI b1v) (.ret)) (.skip))) (.seq (.seq (rgI a7O) (.cond (.t 38) (.seq (rgI a9X) (.ret)) (.skip))) (.seq (rgI a6d) (.seq (rgI a6c) (.ret)))))))
theorem c8u : fchk Pr (fun _ _ => false) Tryz.f140 = some (d0j, [.tmp 4], 46) := by kernel_rfl
theorem c8v : Pr.funcs[a9S]? = some Tryz.f140 := Tryz.func140
def c0L : List AIns := [⟨some 2, none, .e (.box 2 (.c (.agg [.nil, .nil])))⟩,
 opI 3 (.mv (.c (.bool false)))]
def c0K : List AIns := [⟨some 12, none, .call b3W [(.c (.int .i64 1))]⟩,
 ⟨some 13, none, .e (.bslm 2 [(.t 12)])⟩,
 opI 14 (.bld [.nil, .nil] [(0, 1, (.t 13))]),
 ⟨some 4, none, .e (.box 2 (.c (.agg [.nil, .nil])))⟩,
 ⟨none, none, .e (.store 2 (.t 4) (.t 14))⟩]
def c0J : List AIns := [mvI 15 0,
 opI 16 (.len (.t 15)),
 opI 17 (.mv (.c (.int .i64 0)))]
def b3G : List AIns := [opI 18 (.bin .lss (.t 17) (.t 16))]
def c0I : List AIns := [mvI 19 17,
 mvI 5 19]
def c0H : List AIns := [mvI 20 5,
 opI 21 (.bin .add (.t 20) (.c (.int .i64 1))),
 ⟨some 22, none, .e (.mksl 2 32 (.agg [.bool false, .nil]) (.c (.int .i64 0)) (.t 21))⟩,
 mvI 6 22]
def c0G : List AIns := [opI 7 (.mv (.c (.int .i64 0)))]
def b3F : List AIns := [mvI 23 7,
 mvI 24 5,
 opI 25 (.bin .leq (.t 23) (.t 24))]
def c0F : List AIns := [mvI 29 0,
 mvI 30 5,
 opI 31 (.idxp 1 (.t 29) (.t 30)),
 opI 32 (.load none (.t 31)),
 mvI 33 0,
 mvI 34 7,
 opI 35 (.idxp 1 (.t 33) (.t 34)),
 opI 36 (.load none (.t 35)),
 ⟨some 37, none, .call c5m [(.t 32), (.t 36)]⟩,
 mvI 28 37,
 opI 38 (.ext (.t 28) 0),
 opI 39 (.ext (.t 28) 1),
 ⟨some 8, none, .e (.box 2 (.c (.agg [.bool false, .nil])))⟩,
 ⟨none, none, .e (.store 2 (.t 8) (.t 38))⟩,
 mvI 9 39]
def c0E : List AIns := [opI 10 (.mv (.c (.int .i64 0)))]
def b1F : List AIns := [mvI 40 10,
 mvI 41 7,
 opI 42 (.bin .lss (.t 40) (.t 41))]
def b7w : List AIns := [mvI 45 6,
 mvI 11 45]
def b1E : List AIns := [mvI 46 7,
 mvI 47 5,
 opI 48 (.bin .lss (.t 46) (.t 47))]
def b7v : List AIns := [opI 49 (.fldp (.t 4) 1),
 opI 50 (.load none (.t 49)),
 mvI 51 7,
 opI 52 (.idxp 1 (.t 50) (.t 51)),
 opI 53 (.load none (.t 52)),
 mvI 11 53]
def b1D : List AIns := [opI 54 (.fldp (.t 4) 0),
 opI 55 (.load none (.t 54)),
 mvI 56 10,
 opI 57 (.bin .add (.t 56) (.c (.int .i64 1))),
 opI 58 (.idxp 2 (.t 55) (.t 57)),
 opI 59 (.load (some 2) (.t 58)),
 opI 60 (.load (some 2) (.t 8)),
 ⟨some 61, none, .call a3U [(.t 59), (.t 60)]⟩,
 mvI 62 6,
 mvI 63 10,
 opI 64 (.idxp 2 (.t 62) (.t 63)),
 opI 65 (.load (some 2) (.t 64)),
 mvI 66 11,
 mvI 67 10,
 opI 68 (.idxp 2 (.t 66) (.t 67)),
 opI 69 (.load (some 2) (.t 68)),
 ⟨some 70, none, .call a3U [(.t 65), (.t 69)]⟩,
 ⟨some 71, none, .call b0L [(.t 61), (.t 70)]⟩,
 ⟨none, none, .e (.store 2 (.t 8) (.t 71))⟩]
def b1C : List AIns := [opI 73 (.load (some 2) (.t 8)),
 opI 74 (.fldp (.t 4) 0),
 opI 75 (.load none (.t 74)),
 mvI 76 10,
 opI 77 (.idxp 2 (.t 75) (.t 76)),
 opI 78 (.load (some 2) (.t 77)),
 ⟨some 79, none, .call a9Q [(.t 73), (.t 78)]⟩,
 mvI 72 79,
 opI 80 (.ext (.t 72) 0),
 opI 81 (.ext (.t 72) 1),
 opI 82 (.ext (.t 72) 2),
 ⟨none, none, .e (.store 2 (.t 8) (.t 80))⟩]
def b1B : List AIns := [mvI 43 10,
 opI 44 (.bin .add (.t 43) (.c (.int .i64 1))),
 mvI 10 44]
def c0M : ACode := .seq (.seq (rgI b1F) (.cond (.t 42) (.skip) (.exit 4))) (.seq (.block 5 (.seq (rgI b7w) (.seq (.seq (rgI b1E) (.cond (.t 48) (rgI b7v) (.skip))) (.seq (.region b1D true) (.region b1C true))))) (rgI b1B))
def b7u : List AIns := [mvI 83 6,
 opI 84 (.load (some 2) (.t 8)),
 ⟨some 85, none, .e (.bsl 2 [(.t 84)])⟩,
 ⟨some 86, none, .e (.app 2 32 false (.t 83) (.t 85))⟩,
 mvI 6 86]
def b7t : List AIns := [mvI 26 7,
 opI 27 (.bin .add (.t 26) (.c (.int .i64 1))),
 mvI 7 27]
def c0N : ACode := .seq (.seq (rgI b3F) (.cond (.t 25) (.skip) (.exit 2))) (.seq (.block 3 (.seq (.region c0F true) (.seq (.seq (rgI c0E) (.block 4 (.loop c0M))) (rgI b7u)))) (rgI b7t))
def b7s : List AIns := [mvI 87 6,
 mvI 88 5,
 opI 89 (.idxp 2 (.t 87) (.t 88)),
 opI 90 (.load (some 2) (.t 89)),
 ⟨some 91, none, .call a3K [(.t 90)]⟩,
 opI 92 (.bin .leq (.t 91) (.c (.int .i64 0)))]
def b7r : List AIns := [opI 93 (.bld [.nil, .nil] []),
 ⟨none, none, .e (.store 2 (.t 2) (.t 93))⟩,
 opI 3 (.mv (.c (.bool false)))]
def b1A : List AIns := [opI 94 (.fldp (.t 4) 0),
 opI 95 (.load none (.t 94)),
 mvI 96 6,
 mvI 97 5,
 opI 98 (.idxp 2 (.t 96) (.t 97)),
 opI 99 (.load (some 2) (.t 98)),
 ⟨some 100, none, .e (.bsl 2 [(.t 99)])⟩,
 ⟨some 101, none, .e (.app 2 32 false (.t 95) (.t 100))⟩,
 opI 102 (.fldp (.t 4) 0),
 ⟨none, none, .e (.store 1 (.t 102) (.t 101))⟩]
def b1z : List AIns := [opI 103 (.fldp (.t 4) 1),
 opI 104 (.load none (.t 103)),
 mvI 105 6,
 mvI 106 5,
 mvI 107 5,
 opI 108 (.slc 2 (.t 105) none (some (.t 106)) (some (.t 107))),
 ⟨some 109, none, .e (.bsl 1 [(.t 108)])⟩,
 ⟨some 110, none, .e (.app 1 24 false (.t 104) (.t 109))⟩,
 opI 111 (.fldp (.t 4) 1),
 ⟨none, none, .e (.store 1 (.t 111) (.t 110))⟩]
def b1y : List AIns := [opI 112 (.bin .add (.t 17) (.c (.int .i64 1))),
 mvI 17 112]
def d0r : ACode := .seq (rgI b3G) (.seq (.cond (.t 18) (.skip) (.exit 0)) (.seq (.block 1 (.seq (rgI c0I) (.seq (rgI c0H) (.seq (.seq (rgI c0G) (.block 2 (.loop c0N))) (.seq (.seq (rgI b7s) (.cond (.t 92) (.seq (rgI b7r) (.ret)) (.skip))) (.seq (.region b1A true) (.region b1z true))))))) (rgI b1y)))
def b7q : List AIns := [opI 113 (.load (some 2) (.t 4)),
 ⟨none, none, .e (.store 2 (.t 2) (.t 113))⟩,
 opI 3 (.mv (.c (.bool true)))]
def d2y : ACode := .seq (rgI c0L) (.seq (rgI c0K) (.seq (.seq (rgI c0J) (.block 0 (.loop d0r))) (.seq (rgI b7q) (.ret))))
theorem d0q : fchk Pr (fun r k => (r == 1 && k == 1)) Tryz.f141 = some (d2y, [.cell 2 (some 2), .tmp 3], 114) := by kernel_rfl
theorem d0s : Pr.funcs[b5Y]? = some Tryz.f141 := Tryz.func141
def b5o : List AIns := [opI 2 (.mv (.c (.nil)))]
def a8v : List AIns := [mvI 3 0,
 opI 4 (.len (.t 3)),
 opI 5 (.bin .gtr (.t 4) (.c (.int .i64 0))),
 mvI 6 5,
 ⟨some 7, some (6, true), .p (.mv (.t 0))⟩,
 ⟨some 8, some (6, true), .p (.mv (.t 0))⟩,
 ⟨some 9, some (6, true), .p (.len (.t 8))⟩,
 ⟨some 10, some (6, true), .p (.bin .sub (.t 9) (.c (.int .i64 1)))⟩,
 ⟨some 11, some (6, true), .p (.idxp 1 (.t 7) (.t 10))⟩,
 ⟨some 12, some (6, true), .p (.load none (.t 11))⟩,
 ⟨some 13, some (6, true), .p (.bin .eql (.t 12) (.c (.int .u32 0)))⟩,
 opI 14 (.pick (.t 6) (.t 13) (.c (.bool false)))]
def b5n : List AIns := [mvI 15 0,
 mvI 16 0,
 opI 17 (.len (.t 16)),
 opI 18 (.bin .sub (.t 17) (.c (.int .i64 1))),
 opI 19 (.slc 1 (.t 15) none (some (.t 18)) none),
 mvI 0 19]
def c2Y : ACode := .seq (.seq (rgI a8v) (.cond (.t 14) (.skip) (.exit 0))) (.block 1 (rgI b5n))
def a5M : List AIns := [mvI 20 0,
 mvI 2 20]
def d5w : ACode := .seq (rgI b5o) (.seq (.block 0 (.loop c2Y)) (.seq (rgI a5M) (.ret)))
theorem c2X : fchk Pr (fun _ _ => false) Tryz.f142 = some (d5w, [.tmp 2], 21) := by kernel_rfl
theorem c2Z : Pr.funcs[a0t]? = some Tryz.f142 := Tryz.func142
def c3m : List AIns := [opI 4 (.mv (.c (.nil)))]
def c3l : List AIns := [mvI 9 0,
 opI 10 (.len (.t 9)),
 ⟨some 11, none, .e (.mksl 1 4 (.int .u32 0) (.t 10) (.t 10))⟩,
 mvI 5 11]
def c3k : List AIns := [opI 6 (.mv (.c (.int .u64 0)))]
def c3j : List AIns := [mvI 12 0,
 opI 13 (.len (.t 12)),
 opI 14 (.mv (.c (.int .i64 0)))]
def b5u : List AIns := [opI 15 (.bin .lss (.t 14) (.t 13))]
def c3i : List AIns := [mvI 16 14,
 mvI 7 16]
def c3h : List AIns := [mvI 17 0,
 mvI 18 7,
 opI 19 (.idxp 1 (.t 17) (.t 18)),
 opI 20 (.load none (.t 19)),
 opI 21 (.conv .u64 (.t 20)),
 mvI 22 6,
 opI 23 (.bin .sub (.t 21) (.t 22)),
 mvI 8 23]
def c3g : List AIns := [mvI 24 7,
 mvI 25 1,
 opI 26 (.len (.t 25)),
 opI 27 (.bin .lss (.t 24) (.t 26))]
def c3f : List AIns := [mvI 28 8,
 mvI 29 1,
 mvI 30 7,
 opI 31 (.idxp 1 (.t 29) (.t 30)),
 opI 32 (.load none (.t 31)),
 opI 33 (.conv .u64 (.t 32)),
 opI 34 (.bin .sub (.t 28) (.t 33)),
 mvI 8 34]
def b5t : List AIns := [mvI 35 5,
 mvI 36 7,
 mvI 37 8,
 opI 38 (.conv .u32 (.t 37)),
 opI 39 (.idxp 1 (.t 35) (.t 36)),
 ⟨none, none, .e (.store 1 (.t 39) (.t 38))⟩]
def b3b : List AIns := [mvI 40 8,
 opI 41 (.bin .shr (.t 40) (.c (.int .u64 63))),
 mvI 6 41]
def b3a : List AIns := [opI 42 (.bin .add (.t 14) (.c (.int .i64 1))),
 mvI 14 42]
def b5v : ACode := .seq (rgI b5u) (.seq (.cond (.t 15) (.skip) (.exit 0)) (.seq (.block 1 (.seq (rgI c3i) (.seq (rgI c3h) (.seq (.seq (rgI c3g) (.cond (.t 27) (rgI c3f) (.skip))) (.seq (rgI b5t) (rgI b3b)))))) (rgI b3a)))
def a9f : List AIns := [mvI 43 5,
 ⟨some 44, none, .call a0t [(.t 43)]⟩,
 mvI 4 44]
def d5D : ACode := .seq (rgI c3m) (.seq (rgI c3l) (.seq (rgI c3k) (.seq (.seq (rgI c3j) (.block 0 (.loop b5v))) (.seq (rgI a9f) (.ret)))))
theorem d1S : fchk Pr (fun _ _ => false) Tryz.f143 = some (d5D, [.tmp 4], 45) := by kernel_rfl
theorem d1T : Pr.funcs[b0M]? = some Tryz.f143 := Tryz.func143
end Go.Abs
set_option maxRecDepth 100000
noncomputable section
namespace Go.Abs
open Go.Proofs
def b1V : List AIns := [opI 4 (.mv (.c (.int .i64 0)))]
def b1U : List AIns := [mvI 5 0,
 mvI 6 1,
 ⟨some 7, none, .call a0I [(.t 5), (.t 6)]⟩,
 mvI 4 7]
def c2F : ACode := .seq (rgI b1V) (.seq (rgI b1U) (.ret))
theorem c1d : fchk Pr (fun _ _ => false) Tryz.f153 = some (c2F, [.tmp 4], 8) := by kernel_rfl
theorem c1e : Pr.funcs[a8L]? = some Tryz.f153 := Tryz.func153
def c4o : List AIns := [opI 2 (.mv (.c (.int .i64 0)))]
def c4n : List AIns := [opI 3 (.mv (.c (.int .i64 0)))]
def c4m : List AIns := [mvI 8 0,
 opI 9 (.len (.t 8)),
 opI 10 (.mv (.c (.int .i64 0)))]
def b5J : List AIns := [opI 11 (.bin .lss (.t 10) (.t 9))]
def c4l : List AIns := [opI 12 (.idxp 1 (.t 8) (.t 10)),
 opI 13 (.load none (.t 12)),
 mvI 5 13]
def c4k : List AIns := [mvI 14 5,
 opI 15 (.len (.t 14)),
 opI 16 (.mv (.c (.int .i64 0)))]
def b5I : List AIns := [opI 17 (.bin .lss (.t 16) (.t 15))]
def c4j : List AIns := [opI 18 (.idxp 2 (.t 14) (.t 16)),
 opI 19 (.load (some 2) (.t 18)),
 ⟨some 7, none, .e (.box 2 (.c (.agg [.bool false, .nil])))⟩,
 ⟨none, none, .e (.store 2 (.t 7) (.t 19))⟩]
def c4i : List AIns := [mvI 20 3,
 opI 21 (.load (some 2) (.t 7)),
 ⟨some 22, none, .call b5U [(.t 21)]⟩,
 opI 23 (.mnx true (.t 20) (.t 22)),
 mvI 3 23]
def c4h : List AIns := [opI 24 (.bin .add (.t 16) (.c (.int .i64 1))),
 mvI 16 24]
def d2m : ACode := .seq (rgI b5I) (.seq (.cond (.t 17) (.skip) (.exit 2)) (.seq (.block 3 (.seq (rgI c4j) (rgI c4i))) (rgI c4h)))
def c0B : List AIns := [opI 25 (.bin .add (.t 10) (.c (.int .i64 1))),
 mvI 10 25]
def d2n : ACode := .seq (rgI b5J) (.seq (.cond (.t 11) (.skip) (.exit 0)) (.seq (.block 1 (.seq (rgI c4l) (.seq (rgI c4k) (.block 2 (.loop d2m))))) (rgI c0B)))
def c0A : List AIns := [mvI 26 3,
 mvI 2 26]
def d6h : ACode := .seq (rgI c4o) (.seq (rgI c4n) (.seq (.seq (rgI c4m) (.block 0 (.loop d2n))) (.seq (rgI c0A) (.ret))))
theorem d2l : fchk Pr (fun _ _ => false) Tryz.f160 = some (d6h, [.tmp 2], 27) := by kernel_rfl
theorem d2o : Pr.funcs[b9p]? = some Tryz.f160 := Tryz.func160
def b3A : List AIns := [opI 2 (.mv (.c (.int .i64 0))),
 opI 3 (.mv (.c (.int .i64 0))),
 opI 4 (.mv (.c (.int .i64 0)))]
def b3z : List AIns := [mvI 7 0,
 opI 8 (.len (.t 7)),
 opI 9 (.bin .eql (.t 8) (.c (.int .i64 0)))]
def c0x : List AIns := [opI 2 (.mv (.c (.int .i64 0))),
 opI 3 (.mv (.c (.int .i64 0))),
 opI 4 (.mv (.c (.int .i64 0)))]
def b3y : List AIns := [mvI 10 0,
 opI 11 (.len (.t 10)),
 opI 12 (.mv (.c (.int .i64 0)))]
def a6k : List AIns := [opI 13 (.bin .lss (.t 12) (.t 11))]
def a9v : List AIns := [opI 14 (.idxp 1 (.t 10) (.t 12)),
 opI 15 (.load none (.t 14)),
 mvI 6 15]
def a9u : List AIns := [mvI 16 6,
 opI 17 (.len (.t 16)),
 mvI 18 0,
 opI 19 (.idxp 1 (.t 18) (.c (.int .i64 0))),
 opI 20 (.load none (.t 19)),
 opI 21 (.len (.t 20)),
 opI 22 (.bin .neq (.t 17) (.t 21))]
def c0w : List AIns := [opI 2 (.mv (.c (.int .i64 0))),
 opI 3 (.mv (.c (.int .i64 0))),
 opI 4 (.mv (.c (.int .i64 8)))]
def b3x : List AIns := [opI 23 (.bin .add (.t 12) (.c (.int .i64 1))),
 mvI 12 23]
def c9V : ACode := .seq (rgI a6k) (.seq (.cond (.t 13) (.skip) (.exit 0)) (.seq (.block 1 (.seq (rgI a9v) (.seq (rgI a9u) (.cond (.t 22) (.seq (rgI c0w) (.ret)) (.skip))))) (rgI b3x)))
def c0v : List AIns := [mvI 24 0,
 opI 25 (.len (.t 24)),
 mvI 26 0,
 opI 27 (.idxp 1 (.t 26) (.c (.int .i64 0))),
 opI 28 (.load none (.t 27)),
 opI 29 (.len (.t 28)),
 mvI 2 25,
 mvI 3 29,
 opI 4 (.mv (.c (.int .i64 0)))]
def d2g : ACode := .seq (rgI b3A) (.seq (.seq (rgI b3z) (.cond (.t 9) (.seq (rgI c0x) (.ret)) (.skip))) (.seq (.seq (rgI b3y) (.block 0 (.loop c9V))) (.seq (.region c0v true) (.ret))))
theorem c0y : fchk Pr (fun _ _ => false) Tryz.f161 = some (d2g, [.tmp 2, .tmp 3, .tmp 4], 30) := by kernel_rfl
theorem c0z : Pr.funcs[b1P]? = some Tryz.f161 := Tryz.func161
def c5F : List AIns := [⟨some 2, none, .e (.box 2 (.c (.agg [.bool false, .nil])))⟩]
def c5E : List AIns := [mvI 4 0,
 opI 5 (.conv .u64 (.t 4)),
 mvI 3 5]
def c5D : List AIns := [mvI 6 0,
 opI 7 (.bin .lss (.t 6) (.c (.int .i64 0)))]
def c5C : List AIns := [mvI 8 3,
 opI 9 (.un .neg (.t 8)),
 mvI 3 9]
def b7T : List AIns := [mvI 10 0,
 opI 11 (.bin .lss (.t 10) (.c (.int .i64 0))),
 mvI 12 3,
 opI 13 (.conv .u32 (.t 12)),
 mvI 14 3,
 opI 15 (.bin .shr (.t 14) (.c (.int .u64 32))),
 opI 16 (.conv .u32 (.t 15)),
 ⟨some 17, none, .e (.bsl 1 [(.t 13), (.t 16)])⟩,
 ⟨some 18, none, .call a1o [(.t 11), (.t 17)]⟩,
 ⟨none, none, .e (.store 2 (.t 2) (.t 18))⟩]
def d6J : ACode := .seq (rgI c5F) (.seq (rgI c5E) (.seq (.seq (rgI c5D) (.cond (.t 7) (rgI c5C) (.skip))) (.seq (rgI b7T) (.ret))))
theorem d4D : fchk Pr (fun _ _ => false) Tryz.f162 = some (d6J, [.cell 2 (some 2)], 19) := by kernel_rfl
theorem d4E : Pr.funcs[b3W]? = some Tryz.f162 := Tryz.func162
def c7d : List AIns := [⟨some 4, none, .e (.box 2 (.c (.agg [.bool false, .nil])))⟩,
 opI 5 (.mv (.c (.int .i64 0)))]
def c7c : List AIns := [mvI 6 0,
 opI 7 (.len (.t 6)),
 mvI 8 1,
 opI 9 (.len (.t 8)),
 opI 10 (.bin .neq (.t 7) (.t 9))]
def d6e : List AIns := [opI 11 (.bld [.bool false, .nil] []),
 ⟨none, none, .e (.store 2 (.t 4) (.t 11))⟩,
 opI 5 (.mv (.c (.int .i64 8)))]
def c7b : List AIns := [mvI 12 0,
 mvI 13 1,
 ⟨some 14, none, .call c5l [(.t 12), (.t 13)]⟩,
 ⟨none, none, .e (.store 2 (.t 4) (.t 14))⟩,
 opI 5 (.mv (.c (.int .i64 0)))]
def d8o : ACode := .seq (rgI c7d) (.seq (.seq (rgI c7c) (.cond (.t 10) (.seq (rgI d6e) (.ret)) (.skip))) (.seq (rgI c7b) (.ret)))
theorem d6f : fchk Pr (fun _ _ => false) Tryz.f163 = some (d8o, [.cell 4 (some 2), .tmp 5], 15) := by kernel_rfl
theorem d6g : Pr.funcs[c5m]? = some Tryz.f163 := Tryz.func163
def c2j : List AIns := [⟨some 2, none, .e (.box 2 (.t 0))⟩,
 ⟨some 3, none, .e (.box 2 (.t 1))⟩,
 ⟨some 4, none, .e (.box 2 (.c (.agg [.bool false, .nil])))⟩]
def c2i : List AIns := [opI 5 (.load (some 2) (.t 2)),
 opI 6 (.load (some 2) (.t 3)),
 ⟨some 7, none, .call b9l [(.t 6)]⟩,
 ⟨some 8, none, .call a3V [(.t 5), (.t 7)]⟩,
 ⟨none, none, .e (.store 2 (.t 4) (.t 8))⟩]
def d4C : ACode := .seq (rgI c2j) (.seq (.region c2i true) (.ret))
theorem d1h : fchk Pr (fun _ _ => false) Tryz.f164 = some (d4C, [.cell 4 (some 2)], 9) := by kernel_rfl
theorem d1i : Pr.funcs[b0L]? = some Tryz.f164 := Tryz.func164
def b6m : List AIns := [⟨some 2, none, .e (.box 2 (.t 0))⟩,
 ⟨some 3, none, .e (.box 2 (.t 1))⟩,
 ⟨some 4, none, .e (.box 2 (.c (.agg [.bool false, .nil])))⟩,
 ⟨some 5, none, .e (.box 2 (.c (.agg [.bool false, .nil])))⟩,
 opI 6 (.mv (.c (.int .i64 0)))]
def b6l : List AIns := [opI 13 (.fldp (.t 2) 1),
 opI 14 (.load none (.t 13)),
 opI 15 (.fldp (.t 3) 1),
 opI 16 (.load none (.t 15)),
 ⟨some 17, none, .call c5k [(.t 14), (.t 16)]⟩,
 mvI 12 17,
 opI 18 (.ext (.t 12) 0),
 opI 19 (.ext (.t 12) 1),
 opI 20 (.ext (.t 12) 2),
 mvI 7 18,
 mvI 8 19,
 mvI 9 20]
def b6k : List AIns := [mvI 21 9,
 opI 22 (.bin .neq (.t 21) (.c (.int .i64 0)))]
def c7v : List AIns := [opI 23 (.bld [.bool false, .nil] []),
 opI 24 (.bld [.bool false, .nil] []),
 ⟨none, none, .e (.store 2 (.t 4) (.t 23))⟩,
 ⟨none, none, .e (.store 2 (.t 5) (.t 24))⟩,
 opI 6 (.mv (.c (.int .i64 11)))]
def b6j : List AIns := [opI 25 (.fldp (.t 2) 0),
 opI 26 (.load none (.t 25)),
 opI 27 (.fldp (.t 3) 0),
 opI 28 (.load none (.t 27)),
 opI 29 (.beq true (.t 26) (.t 28)),
 mvI 30 7,
 ⟨some 31, none, .call a1o [(.t 29), (.t 30)]⟩,
 opI 32 (.fldp (.t 2) 0),
 opI 33 (.load none (.t 32)),
 mvI 34 8,
 ⟨some 35, none, .call a1o [(.t 33), (.t 34)]⟩]
def b4D : List AIns := [⟨some 10, none, .e (.box 2 (.c (.agg [.bool false, .nil])))⟩,
 ⟨some 11, none, .e (.box 2 (.c (.agg [.bool false, .nil])))⟩,
 ⟨none, none, .e (.store 2 (.t 10) (.t 31))⟩,
 ⟨none, none, .e (.store 2 (.t 11) (.t 35))⟩]
def b4C : List AIns := [⟨some 11, none, .e (.box 2 (.c (.agg [.bool false, .nil])))⟩,
 ⟨some 10, none, .e (.box 2 (.c (.agg [.bool false, .nil])))⟩,
 ⟨none, none, .e (.store 2 (.t 10) (.t 31))⟩,
 ⟨none, none, .e (.store 2 (.t 11) (.t 35))⟩]
def b6i : List AIns := [opI 36 (.load (some 2) (.t 11)),
 ⟨some 37, none, .call a3K [(.t 36)]⟩,
 opI 38 (.bin .neq (.t 37) (.c (.int .i64 0))),
 mvI 39 38,
 ⟨some 40, some (39, true), .p (.load (some 2) (.t 11))⟩,
 ⟨some 41, some (39, true), .call a3K [(.t 40)]⟩,
 ⟨some 42, some (39, true), .p (.load (some 2) (.t 3))⟩,
 ⟨some 43, some (39, true), .call a3K [(.t 42)]⟩,
 ⟨some 44, some (39, true), .p (.bin .neq (.t 41) (.t 43))⟩,
 opI 45 (.pick (.t 39) (.t 44) (.c (.bool false)))]
def c7u : List AIns := [opI 46 (.load (some 2) (.t 10)),
 ⟨some 47, none, .call b3W [(.c (.int .i64 1))]⟩,
 ⟨some 48, none, .call b0L [(.t 46), (.t 47)]⟩,
 opI 49 (.load (some 2) (.t 11)),
 opI 50 (.load (some 2) (.t 3)),
 ⟨some 51, none, .call a3V [(.t 49), (.t 50)]⟩,
 ⟨none, none, .e (.store 2 (.t 10) (.t 48))⟩,
 ⟨none, none, .e (.store 2 (.t 11) (.t 51))⟩]
def b6h : List AIns := [opI 52 (.load (some 2) (.t 10)),
 opI 53 (.load (some 2) (.t 11)),
 ⟨none, none, .e (.store 2 (.t 4) (.t 52))⟩,
 ⟨none, none, .e (.store 2 (.t 5) (.t 53))⟩,
 opI 6 (.mv (.c (.int .i64 0)))]
def b4B : List AIns := []
def b4A : List AIns := []
def c9a : ACode := .seq (rgI b6m) (.seq (rgI b6l) (.seq (.seq (rgI b6k) (.cond (.t 22) (.seq (rgI c7v) (.ret)) (.skip))) (.seq (.regionX b6j b4D b4C []) (.seq (.seq (.region b6i true) (.cond (.t 45) (.region c7u true) (.skip))) (.seq (.regionX b6h b4B b4A [(11, 4)]) (.ret))))))
theorem c7w : fchk Pr (fun _ _ => false) Tryz.f165 = some (c9a, [.cell 4 (some 2), .cell 5 (some 2), .tmp 6], 54) := by kernel_rfl
theorem c7x : Pr.funcs[a9Q]? = some Tryz.f165 := Tryz.func165
def b9N : List AIns := [⟨some 1, none, .e (.box 2 (.t 0))⟩,
 opI 2 (.mv (.c (.int .i64 0)))]
def b9M : List AIns := [opI 3 (.fldp (.t 1) 1),
 opI 4 (.load none (.t 3)),
 ⟨some 5, none, .call b4m [(.t 4)]⟩,
 mvI 2 5]
def d1p : ACode := .seq (rgI b9N) (.seq (rgI b9M) (.ret))
theorem c9b : fchk Pr (fun _ _ => false) Tryz.f179 = some (d1p, [.tmp 2], 6) := by kernel_rfl
theorem c9c : Pr.funcs[b5U]? = some Tryz.f179 := Tryz.func179
def c7a : List AIns := [⟨some 4, none, .e (.box 2 (.c (.agg [.bool false, .nil])))⟩]
def c6Z : List AIns := [⟨some 5, none, .e (.box 2 (.c (.agg [.bool false, .nil])))⟩]
def c6Y : List AIns := [mvI 7 0,
 opI 8 (.len (.t 7)),
 opI 9 (.mv (.c (.int .i64 0)))]
def b8G : List AIns := [opI 10 (.bin .lss (.t 9) (.t 8))]
def c6X : List AIns := [mvI 11 9,
 mvI 6 11]
def c6W : List AIns := [opI 12 (.load (some 2) (.t 5)),
 mvI 13 0,
 mvI 14 6,
 opI 15 (.idxp 2 (.t 13) (.t 14)),
 opI 16 (.load (some 2) (.t 15)),
 mvI 17 1,
 mvI 18 6,
 opI 19 (.idxp 2 (.t 17) (.t 18)),
 opI 20 (.load (some 2) (.t 19)),
 ⟨some 21, none, .call a3U [(.t 16), (.t 20)]⟩,
 ⟨some 22, none, .call a3V [(.t 12), (.t 21)]⟩,
 ⟨none, none, .e (.store 2 (.t 5) (.t 22))⟩]
def c6V : List AIns := [opI 23 (.bin .add (.t 9) (.c (.int .i64 1))),
 mvI 9 23]
def d6a : ACode := .seq (rgI b8G) (.seq (.cond (.t 10) (.skip) (.exit 0)) (.seq (.block 1 (.seq (rgI c6X) (.region c6W true))) (rgI c6V)))
def c6U : List AIns := [opI 24 (.load (some 2) (.t 5)),
 ⟨none, none, .e (.store 2 (.t 4) (.t 24))⟩]
def d8n : ACode := .seq (rgI c7a) (.seq (rgI c6Z) (.seq (.seq (rgI c6Y) (.block 0 (.loop d6a))) (.seq (rgI c6U) (.ret))))
theorem d5Z : fchk Pr (fun _ _ => false) Tryz.f180 = some (d8n, [.cell 4 (some 2)], 25) := by kernel_rfl
theorem d6b : Pr.funcs[c5l]? = some Tryz.f180 := Tryz.func180
def c2m : List AIns := [⟨some 1, none, .e (.box 2 (.t 0))⟩,
 ⟨some 2, none, .e (.box 2 (.c (.agg [.bool false, .nil])))⟩]
def c2l : List AIns := [opI 3 (.fldp (.t 1) 0),
 opI 4 (.load none (.t 3)),
 opI 5 (.un .not (.t 4)),
 opI 6 (.fldp (.t 1) 1),
 opI 7 (.load none (.t 6)),
 ⟨some 8, none, .call a1o [(.t 5), (.t 7)]⟩,
 ⟨none, none, .e (.store 2 (.t 2) (.t 8))⟩]
def d4F : ACode := .seq (rgI c2m) (.seq (rgI c2l) (.ret))
theorem d1k : fchk Pr (fun _ _ => false) Tryz.f181 = some (d4F, [.cell 2 (some 2)], 9) := by kernel_rfl
theorem d1l : Pr.funcs[b9l]? = some Tryz.f181 := Tryz.func181
def c6B : List AIns := [opI 4 (.mv (.c (.nil))),
 opI 5 (.mv (.c (.nil))),
 opI 6 (.mv (.c (.int .i64 0)))]
def c6A : List AIns := [mvI 14 0,
 ⟨some 15, none, .call a0t [(.t 14)]⟩,
 mvI 16 1,
 ⟨some 17, none, .call a0t [(.t 16)]⟩,
 mvI 0 15,
 mvI 1 17]
def c6z : List AIns := [mvI 19 1,
 opI 20 (.len (.t 19)),
 opI 21 (.bin .eql (.t 20) (.c (.int .i64 0))),
 mvI 18 21]
def d5L : List AIns := [opI 4 (.mv (.c (.nil))),
 opI 5 (.mv (.c (.nil))),
 opI 6 (.mv (.c (.int .i64 11)))]
def c6y : List AIns := [mvI 23 0,
 mvI 24 1,
 ⟨some 25, none, .call b0N [(.t 23), (.t 24)]⟩,
 opI 26 (.bin .lss (.t 25) (.c (.int .i64 0))),
 mvI 22 26]
def c6x : List AIns := [mvI 27 0,
 ⟨some 28, none, .call b4l [(.t 27)]⟩,
 opI 4 (.mv (.c (.nil))),
 mvI 5 28,
 opI 6 (.mv (.c (.int .i64 0)))]
def b8v : List AIns := [mvI 30 1,
 opI 31 (.len (.t 30)),
 opI 32 (.bin .eql (.t 31) (.c (.int .i64 1))),
 mvI 29 32]
def c6w : List AIns := [mvI 34 0,
 mvI 35 1,
 opI 36 (.idxp 1 (.t 35) (.c (.int .i64 0))),
 opI 37 (.load none (.t 36)),
 ⟨some 38, none, .call a8M [(.t 34), (.t 37)]⟩,
 mvI 33 38,
 opI 39 (.ext (.t 33) 0),
 opI 40 (.ext (.t 33) 1),
 mvI 7 39,
 mvI 8 40]
def c6v : List AIns := [mvI 41 7,
 mvI 42 8,
 ⟨some 43, none, .e (.bsl 1 [(.t 42)])⟩,
 ⟨some 44, none, .call a0t [(.t 43)]⟩,
 mvI 4 41,
 mvI 5 44,
 opI 6 (.mv (.c (.int .i64 0)))]
def c6u : List AIns := [mvI 45 1,
 mvI 46 1,
 opI 47 (.len (.t 46)),
 opI 48 (.bin .sub (.t 47) (.c (.int .i64 1))),
 opI 49 (.idxp 1 (.t 45) (.t 48)),
 opI 50 (.load none (.t 49)),
 ⟨some 51, none, .call a1N [(.t 50)]⟩,
 mvI 9 51]
def c3J : List AIns := [mvI 52 1,
 mvI 53 9,
 ⟨some 54, none, .call b7R [(.t 52), (.t 53)]⟩,
 mvI 10 54]
def c3I : List AIns := [mvI 55 0,
 mvI 56 9,
 ⟨some 57, none, .call b7R [(.t 55), (.t 56)]⟩,
 ⟨some 58, none, .e (.bsl 1 [(.c (.int .u32 0)), (.c (.int .u32 0))])⟩,
 ⟨some 59, none, .e (.app 1 4 false (.t 57) (.t 58))⟩,
 mvI 60 0,
 opI 61 (.len (.t 60)),
 opI 62 (.bin .add (.t 61) (.c (.int .i64 1))),
 opI 63 (.slc 1 (.t 59) none (some (.t 62)) none),
 mvI 11 63]
def c3H : List AIns := [mvI 64 0,
 opI 65 (.len (.t 64)),
 mvI 66 1,
 opI 67 (.len (.t 66)),
 opI 68 (.bin .sub (.t 65) (.t 67)),
 opI 69 (.bin .add (.t 68) (.c (.int .i64 1))),
 ⟨some 70, none, .e (.mksl 1 4 (.int .u32 0) (.t 69) (.t 69))⟩,
 mvI 12 70]
def c3G : List AIns := [mvI 71 0,
 opI 72 (.len (.t 71)),
 mvI 73 1,
 opI 74 (.len (.t 73)),
 opI 75 (.bin .sub (.t 72) (.t 74)),
 mvI 13 75]
def b5B : List AIns := [mvI 76 13,
 opI 77 (.bin .geq (.t 76) (.c (.int .i64 0)))]
def c3F : List AIns := [mvI 80 12,
 mvI 81 13,
 mvI 82 11,
 mvI 83 13,
 mvI 84 13,
 mvI 85 10,
 opI 86 (.len (.t 85)),
 opI 87 (.bin .add (.t 84) (.t 86)),
 opI 88 (.bin .add (.t 87) (.c (.int .i64 1))),
 opI 89 (.slc 1 (.t 82) (some (.t 83)) (some (.t 88)) none),
 mvI 90 10,
 ⟨some 91, none, .call b1O [(.t 89), (.t 90)]⟩,
 opI 92 (.idxp 1 (.t 80) (.t 81)),
 ⟨none, none, .e (.store 1 (.t 92) (.t 91))⟩]
def c3E : List AIns := [mvI 78 13,
 opI 79 (.bin .sub (.t 78) (.c (.int .i64 1))),
 mvI 13 79]
def d5N : ACode := .seq (.seq (rgI b5B) (.cond (.t 77) (.skip) (.exit 1))) (.seq (.block 2 (rgI c3F)) (rgI c3E))
def c3D : List AIns := [mvI 93 12,
 ⟨some 94, none, .call a0t [(.t 93)]⟩,
 mvI 95 11,
 ⟨some 96, none, .call a0t [(.t 95)]⟩,
 mvI 97 9,
 ⟨some 98, none, .call b7Q [(.t 96), (.t 97)]⟩,
 mvI 4 94,
 mvI 5 98,
 opI 6 (.mv (.c (.int .i64 0)))]
def d8d : ACode := .seq (rgI c6B) (.seq (rgI c6A) (.seq (.block 0 (.seq (rgI c6z) (.cond (.t 18) (.seq (rgI d5L) (.ret)) (.seq (rgI c6y) (.cond (.t 22) (.seq (rgI c6x) (.ret)) (.seq (rgI b8v) (.cond (.t 29) (.seq (rgI c6w) (.seq (rgI c6v) (.ret))) (.skip)))))))) (.seq (rgI c6u) (.seq (rgI c3J) (.seq (rgI c3I) (.seq (rgI c3H) (.seq (.seq (rgI c3G) (.block 1 (.loop d5N))) (.seq (rgI c3D) (.ret)))))))))
theorem d5M : fchk Pr (fun _ _ => false) Tryz.f182 = some (d8d, [.tmp 4, .tmp 5, .tmp 6], 99) := by kernel_rfl
theorem d5O : Pr.funcs[c5k]? = some Tryz.f182 := Tryz.func182
def a2T : List AIns := [opI 2 (.mv (.c (.int .i64 0)))]
def a2S : List AIns := [mvI 3 0,
 ⟨some 4, none, .call a1p [(.t 3)]⟩,
 opI 5 (.bin .sub (.c (.int .i64 32)) (.t 4)),
 mvI 2 5]
def a8R : ACode := .seq (rgI a2T) (.seq (rgI a2S) (.ret))
theorem a8B : fchk Pr (fun _ _ => false) Tryz.f188 = some (a8R, [.tmp 2], 6) := by kernel_rfl
theorem a8C : Pr.funcs[a1N]? = some Tryz.f188 := Tryz.func188
def c6g : List AIns := [opI 4 (.mv (.c (.nil)))]
def c6f : List AIns := [mvI 10 0,
 ⟨some 11, none, .call a0t [(.t 10)]⟩,
 mvI 0 11]
def c6e : List AIns := [mvI 12 0,
 opI 13 (.len (.t 12)),
 opI 14 (.bin .eql (.t 13) (.c (.int .i64 0)))]
def d5z : List AIns := [opI 4 (.mv (.c (.nil)))]
def c6d : List AIns := [mvI 15 1,
 opI 16 (.bin .quo (.t 15) (.c (.int .i64 32))),
 mvI 17 1,
 opI 18 (.bin .rem (.t 17) (.c (.int .i64 32))),
 opI 19 (.conv .u64 (.t 18)),
 mvI 5 16,
 mvI 6 19]
def c6c : List AIns := [mvI 20 0,
 opI 21 (.len (.t 20)),
 mvI 22 5,
 opI 23 (.bin .add (.t 21) (.t 22)),
 opI 24 (.bin .add (.t 23) (.c (.int .i64 1))),
 ⟨some 25, none, .e (.mksl 1 4 (.int .u32 0) (.t 24) (.t 24))⟩,
 mvI 7 25]
def c6b : List AIns := [mvI 26 0,
 opI 27 (.len (.t 26)),
 opI 28 (.mv (.c (.int .i64 0)))]
def b8s : List AIns := [opI 29 (.bin .lss (.t 28) (.t 27))]
def c6a : List AIns := [mvI 30 28,
 mvI 8 30]
def c5Z : List AIns := [mvI 31 0,
 mvI 32 8,
 opI 33 (.idxp 1 (.t 31) (.t 32)),
 opI 34 (.load none (.t 33)),
 opI 35 (.conv .u64 (.t 34)),
 mvI 36 6,
 opI 37 (.bin .shl (.t 35) (.t 36)),
 mvI 9 37]
def c3e : List AIns := [mvI 38 7,
 mvI 39 8,
 mvI 40 5,
 opI 41 (.bin .add (.t 39) (.t 40)),
 opI 42 (.idxp 1 (.t 38) (.t 41)),
 opI 43 (.load none (.t 42)),
 mvI 44 9,
 opI 45 (.conv .u32 (.t 44)),
 opI 46 (.bin .or (.t 43) (.t 45)),
 opI 47 (.idxp 1 (.t 38) (.t 41)),
 ⟨none, none, .e (.store 1 (.t 47) (.t 46))⟩]
def c3d : List AIns := [mvI 48 7,
 mvI 49 8,
 mvI 50 5,
 opI 51 (.bin .add (.t 49) (.t 50)),
 opI 52 (.bin .add (.t 51) (.c (.int .i64 1))),
 mvI 53 9,
 opI 54 (.bin .shr (.t 53) (.c (.int .u64 32))),
 opI 55 (.conv .u32 (.t 54)),
 opI 56 (.idxp 1 (.t 48) (.t 52)),
 ⟨none, none, .e (.store 1 (.t 56) (.t 55))⟩]
def c3c : List AIns := [opI 57 (.bin .add (.t 28) (.c (.int .i64 1))),
 mvI 28 57]
def d5B : ACode := .seq (rgI b8s) (.seq (.cond (.t 29) (.skip) (.exit 0)) (.seq (.block 1 (.seq (rgI c6a) (.seq (rgI c5Z) (.seq (rgI c3e) (rgI c3d))))) (rgI c3c)))
def c3b : List AIns := [mvI 58 7,
 ⟨some 59, none, .call a0t [(.t 58)]⟩,
 mvI 4 59]
def d8a : ACode := .seq (rgI c6g) (.seq (rgI c6f) (.seq (.seq (rgI c6e) (.cond (.t 14) (.seq (rgI d5z) (.ret)) (.skip))) (.seq (rgI c6d) (.seq (rgI c6c) (.seq (.seq (rgI c6b) (.block 0 (.loop d5B))) (.seq (rgI c3b) (.ret)))))))
theorem d5A : fchk Pr (fun _ _ => false) Tryz.f189 = some (d8a, [.tmp 4], 60) := by kernel_rfl
theorem d5C : Pr.funcs[b7R]? = some Tryz.f189 := Tryz.func189
def c0h : List AIns := [opI 4 (.mv (.c (.int .u32 0)))]
def c0g : List AIns := [mvI 15 1,
 opI 16 (.len (.t 15)),
 mvI 5 16]
def c0f : List AIns := [mvI 17 0,
 mvI 18 5,
 opI 19 (.idxp 1 (.t 17) (.t 18)),
 opI 20 (.load none (.t 19)),
 opI 21 (.conv .u64 (.t 20)),
 opI 22 (.bin .shl (.t 21) (.c (.int .u64 32))),
 mvI 23 0,
 mvI 24 5,
 opI 25 (.bin .sub (.t 24) (.c (.int .i64 1))),
 opI 26 (.idxp 1 (.t 23) (.t 25)),
 opI 27 (.load none (.t 26)),
 opI 28 (.conv .u64 (.t 27)),
 opI 29 (.bin .or (.t 22) (.t 28)),
 mvI 6 29]
def c0e : List AIns := [mvI 30 6,
 mvI 31 1,
 mvI 32 5,
 opI 33 (.bin .sub (.t 32) (.c (.int .i64 1))),
 opI 34 (.idxp 1 (.t 31) (.t 33)),
 opI 35 (.load none (.t 34)),
 opI 36 (.conv .u64 (.t 35)),
 opI 37 (.bin .quo (.t 30) (.t 36)),
 opI 38 (.mnx false (.t 37) (.c (.int .u64 4294967295))),
 mvI 7 38]
def c0d : List AIns := [opI 8 (.mv (.c (.int .u64 0))),
 opI 9 (.mv (.c (.int .u64 0)))]
def c0c : List AIns := [mvI 39 5,
 opI 40 (.bin .add (.t 39) (.c (.int .i64 1))),
 opI 41 (.mv (.c (.int .i64 0)))]
def b3d : List AIns := [opI 42 (.bin .lss (.t 41) (.t 40))]
def c0b : List AIns := [mvI 43 41,
 mvI 10 43]
def c0a : List AIns := [mvI 44 8,
 mvI 11 44]
def b3c : List AIns := [mvI 45 10,
 mvI 46 5,
 opI 47 (.bin .lss (.t 45) (.t 46))]
def b6W : List AIns := [mvI 48 11,
 mvI 49 7,
 mvI 50 1,
 mvI 51 10,
 opI 52 (.idxp 1 (.t 50) (.t 51)),
 opI 53 (.load none (.t 52)),
 opI 54 (.conv .u64 (.t 53)),
 opI 55 (.bin .mul (.t 49) (.t 54)),
 opI 56 (.bin .add (.t 48) (.t 55)),
 mvI 11 56]
def b1r : List AIns := [mvI 57 11,
 opI 58 (.bin .shr (.t 57) (.c (.int .u64 32))),
 mvI 8 58]
def b1q : List AIns := [mvI 59 0,
 mvI 60 10,
 opI 61 (.idxp 1 (.t 59) (.t 60)),
 opI 62 (.load none (.t 61)),
 opI 63 (.conv .u64 (.t 62)),
 mvI 64 11,
 opI 65 (.conv .u32 (.t 64)),
 opI 66 (.conv .u64 (.t 65)),
 opI 67 (.bin .sub (.t 63) (.t 66)),
 mvI 68 9,
 opI 69 (.bin .sub (.t 67) (.t 68)),
 mvI 12 69]
def b1p : List AIns := [mvI 70 0,
 mvI 71 10,
 mvI 72 12,
 opI 73 (.conv .u32 (.t 72)),
 opI 74 (.idxp 1 (.t 70) (.t 71)),
 ⟨none, none, .e (.store 1 (.t 74) (.t 73))⟩]
def b1o : List AIns := [mvI 75 12,
 opI 76 (.bin .shr (.t 75) (.c (.int .u64 63))),
 mvI 9 76]
def b1n : List AIns := [opI 77 (.bin .add (.t 41) (.c (.int .i64 1))),
 mvI 41 77]
def a9h : ACode := .seq (rgI b3d) (.seq (.cond (.t 42) (.skip) (.exit 0)) (.seq (.block 1 (.seq (rgI c0b) (.seq (rgI c0a) (.seq (.seq (rgI b3c) (.cond (.t 47) (rgI b6W) (.skip))) (.seq (rgI b1r) (.seq (rgI b1q) (.seq (rgI b1p) (rgI b1o)))))))) (rgI b1n)))
def a7L : List AIns := [mvI 78 9,
 opI 79 (.bin .gtr (.t 78) (.c (.int .u64 0)))]
def b6V : List AIns := [mvI 80 7,
 opI 81 (.bin .sub (.t 80) (.c (.int .u64 1))),
 mvI 7 81]
def b6U : List AIns := [opI 13 (.mv (.c (.int .u64 0)))]
def b6T : List AIns := [mvI 82 5,
 opI 83 (.bin .add (.t 82) (.c (.int .i64 1))),
 opI 84 (.mv (.c (.int .i64 0)))]
def b1m : List AIns := [opI 85 (.bin .lss (.t 84) (.t 83))]
def b6S : List AIns := [mvI 86 84,
 mvI 14 86]
def b6R : List AIns := [mvI 87 13,
 mvI 88 0,
 mvI 89 14,
 opI 90 (.idxp 1 (.t 88) (.t 89)),
 opI 91 (.load none (.t 90)),
 opI 92 (.conv .u64 (.t 91)),
 opI 93 (.bin .add (.t 87) (.t 92)),
 mvI 13 93]
def b1l : List AIns := [mvI 94 14,
 mvI 95 5,
 opI 96 (.bin .lss (.t 94) (.t 95))]
def b6Q : List AIns := [mvI 97 13,
 mvI 98 1,
 mvI 99 14,
 opI 100 (.idxp 1 (.t 98) (.t 99)),
 opI 101 (.load none (.t 100)),
 opI 102 (.conv .u64 (.t 101)),
 opI 103 (.bin .add (.t 97) (.t 102)),
 mvI 13 103]
def b1k : List AIns := [mvI 104 0,
 mvI 105 14,
 mvI 106 13,
 opI 107 (.conv .u32 (.t 106)),
 opI 108 (.idxp 1 (.t 104) (.t 105)),
 ⟨none, none, .e (.store 1 (.t 108) (.t 107))⟩]
def b1j : List AIns := [mvI 109 13,
 opI 110 (.bin .shr (.t 109) (.c (.int .u64 32))),
 mvI 13 110]
def b1i : List AIns := [opI 111 (.bin .add (.t 84) (.c (.int .i64 1))),
 mvI 84 111]
def a9g : ACode := .seq (rgI b1m) (.seq (.cond (.t 85) (.skip) (.exit 4)) (.seq (.block 5 (.seq (rgI b6S) (.seq (rgI b6R) (.seq (.seq (rgI b1l) (.cond (.t 96) (rgI b6Q) (.skip))) (.seq (rgI b1k) (rgI b1j)))))) (rgI b1i)))
def b6P : List AIns := [mvI 112 9,
 mvI 113 13,
 opI 114 (.bin .sub (.t 112) (.t 113)),
 mvI 9 114]
def c0i : ACode := .seq (.seq (rgI a7L) (.cond (.t 79) (.skip) (.exit 2))) (.block 3 (.seq (rgI b6V) (.seq (rgI b6U) (.seq (.seq (rgI b6T) (.block 4 (.loop a9g))) (rgI b6P)))))
def a7K : List AIns := [mvI 115 7,
 opI 116 (.conv .u32 (.t 115)),
 mvI 4 116]
def d1U : ACode := .seq (rgI c0h) (.seq (rgI c0g) (.seq (.region c0f true) (.seq (rgI c0e) (.seq (rgI c0d) (.seq (.seq (rgI c0c) (.block 0 (.loop a9h))) (.seq (.block 2 (.loop c0i)) (.seq (rgI a7K) (.ret))))))))
theorem c9M : fchk Pr (fun _ _ => false) Tryz.f190 = some (d1U, [.tmp 4], 117) := by kernel_rfl
theorem c9N : Pr.funcs[b1O]? = some Tryz.f190 := Tryz.func190
def c5X : List AIns := [opI 4 (.mv (.c (.nil)))]
def c5W : List AIns := [mvI 10 0,
 ⟨some 11, none, .call a0t [(.t 10)]⟩,
 mvI 0 11]
def c5V : List AIns := [mvI 12 1,
 opI 13 (.bin .quo (.t 12) (.c (.int .i64 32))),
 mvI 14 1,
 opI 15 (.bin .rem (.t 14) (.c (.int .i64 32))),
 opI 16 (.conv .u64 (.t 15)),
 mvI 5 13,
 mvI 6 16]
def b8r : List AIns := [mvI 17 5,
 mvI 18 0,
 opI 19 (.len (.t 18)),
 opI 20 (.bin .geq (.t 17) (.t 19))]
def c5U : List AIns := [opI 4 (.mv (.c (.nil)))]
def c5T : List AIns := [mvI 21 0,
 opI 22 (.len (.t 21)),
 mvI 23 5,
 opI 24 (.bin .sub (.t 22) (.t 23)),
 ⟨some 25, none, .e (.mksl 1 4 (.int .u32 0) (.t 24) (.t 24))⟩,
 mvI 7 25]
def c5S : List AIns := [mvI 26 7,
 opI 27 (.len (.t 26)),
 opI 28 (.mv (.c (.int .i64 0)))]
def b8q : List AIns := [opI 29 (.bin .lss (.t 28) (.t 27))]
def c5R : List AIns := [mvI 30 28,
 mvI 8 30]
def c5Q : List AIns := [mvI 31 0,
 mvI 32 8,
 mvI 33 5,
 opI 34 (.bin .add (.t 32) (.t 33)),
 opI 35 (.idxp 1 (.t 31) (.t 34)),
 opI 36 (.load none (.t 35)),
 opI 37 (.conv .u64 (.t 36)),
 mvI 9 37]
def b5s : List AIns := [mvI 38 8,
 mvI 39 5,
 opI 40 (.bin .add (.t 38) (.t 39)),
 opI 41 (.bin .add (.t 40) (.c (.int .i64 1))),
 mvI 42 0,
 opI 43 (.len (.t 42)),
 opI 44 (.bin .lss (.t 41) (.t 43))]
def c3a : List AIns := [mvI 45 9,
 mvI 46 0,
 mvI 47 8,
 mvI 48 5,
 opI 49 (.bin .add (.t 47) (.t 48)),
 opI 50 (.bin .add (.t 49) (.c (.int .i64 1))),
 opI 51 (.idxp 1 (.t 46) (.t 50)),
 opI 52 (.load none (.t 51)),
 opI 53 (.conv .u64 (.t 52)),
 opI 54 (.bin .shl (.t 53) (.c (.int .u64 32))),
 opI 55 (.bin .or (.t 45) (.t 54)),
 mvI 9 55]
def b5r : List AIns := [mvI 56 7,
 mvI 57 8,
 mvI 58 9,
 mvI 59 6,
 opI 60 (.bin .shr (.t 58) (.t 59)),
 opI 61 (.conv .u32 (.t 60)),
 opI 62 (.idxp 1 (.t 56) (.t 57)),
 ⟨none, none, .e (.store 1 (.t 62) (.t 61))⟩]
def b5q : List AIns := [opI 63 (.bin .add (.t 28) (.c (.int .i64 1))),
 mvI 28 63]
def c5Y : ACode := .seq (rgI b8q) (.seq (.cond (.t 29) (.skip) (.exit 0)) (.seq (.block 1 (.seq (rgI c5R) (.seq (rgI c5Q) (.seq (.seq (rgI b5s) (.cond (.t 44) (rgI c3a) (.skip))) (rgI b5r))))) (rgI b5q)))
def b5p : List AIns := [mvI 64 7,
 ⟨some 65, none, .call a0t [(.t 64)]⟩,
 mvI 4 65]
def d7Z : ACode := .seq (rgI c5X) (.seq (rgI c5W) (.seq (rgI c5V) (.seq (.seq (rgI b8r) (.cond (.t 20) (.seq (rgI c5U) (.ret)) (.skip))) (.seq (rgI c5T) (.seq (.seq (rgI c5S) (.block 0 (.loop c5Y))) (.seq (rgI b5p) (.ret)))))))
theorem d5x : fchk Pr (fun _ _ => false) Tryz.f191 = some (d7Z, [.tmp 4], 66) := by kernel_rfl
theorem d5y : Pr.funcs[b7Q]? = some Tryz.f191 := Tryz.func191
def a9G : List AIns := [⟨some 2, none, .p (.mv (.c (.str ⟨#[]⟩)))⟩]
def a9F : List AIns := [mvI 8 0,
 ⟨some 9, none, .call a3l [(.t 8)]⟩,
 opI 10 (.len (.t 9)),
 opI 11 (.mv (.c (.int .i64 0)))]
def a4A : List AIns := [opI 12 (.bin .lss (.t 11) (.t 10))]
def a9E : List AIns := [opI 13 (.idxp 1 (.t 9) (.t 11)),
 opI 14 (.load none (.t 13)),
 mvI 5 14]
def a4z : List AIns := [mvI 15 5,
 ⟨some 16, none, .p (.bin .add (.c (.str ⟨#[108, 97, 116, 116, 105, 99, 101, 32]⟩)) (.t 15))⟩,
 ⟨some 17, none, .p (.bin .add (.t 16) (.c (.str ⟨#[10]⟩)))⟩,
 ⟨some 18, none, .call a0s [(.t 3), (.t 17)]⟩]
def a9D : List AIns := [mvI 19 0,
 opI 20 (.fldp (.t 19) 0),
 opI 21 (.fldp (.t 20) 0),
 opI 22 (.load none (.t 21)),
 mvI 23 5,
 opI 24 (.smap 1 (.t 22) (.t 23)),
 opI 25 (.len (.t 24)),
 opI 26 (.mv (.c (.int .i64 0)))]
def a4y : List AIns := [opI 27 (.bin .lss (.t 26) (.t 25))]
def a9C : List AIns := [opI 28 (.idxp 1 (.t 24) (.t 26)),
 opI 29 (.load none (.t 28)),
 mvI 7 29]
def a4x : List AIns := [mvI 30 7,
 ⟨some 31, none, .call a7c [(.t 30)]⟩,
 ⟨some 32, none, .p (.bin .add (.c (.str ⟨#[32]⟩)) (.t 31))⟩,
 ⟨some 33, none, .p (.bin .add (.t 32) (.c (.str ⟨#[10]⟩)))⟩,
 ⟨some 34, none, .call a0s [(.t 3), (.t 33)]⟩]
def a9B : List AIns := [opI 35 (.bin .add (.t 26) (.c (.int .i64 1))),
 mvI 26 35]
def a9H : ACode := .seq (rgI a4y) (.seq (.cond (.t 27) (.skip) (.exit 2)) (.seq (.block 3 (.seq (rgI a9C) (rgI a4x))) (rgI a9B)))
def a8G : List AIns := [⟨some 36, none, .call a0s [(.t 3), (.c (.str ⟨#[101, 110, 100, 10]⟩))]⟩]
def a3J : List AIns := [opI 37 (.bin .add (.t 11) (.c (.int .i64 1))),
 mvI 11 37]
def a4B : ACode := .seq (rgI a4A) (.seq (.cond (.t 12) (.skip) (.exit 0)) (.seq (.block 1 (.seq (rgI a9E) (.seq (rgI a4z) (.seq (.seq (rgI a9D) (.block 2 (.loop a9H))) (rgI a8G))))) (rgI a3J)))
def b5S : List AIns := [⟨some 38, none, .call a0K [(.t 3)]⟩,
 mvI 2 38]
noncomputable def b9h : ACode := .seq (rgI a9G) (.seq (.raw 1 (a9e Tryz.f13 1) false) (.seq (.seq (rgI a9F) (.block 0 (.loop a4B))) (.seq (rgI b5S) (.ret))))
theorem b7G : fchk Pr (fun r k => (r == 1 && k == 1000000)) Tryz.f13 = some (b9h, [.tmp 2], 39) := by kernel_rfl
theorem b7H : Pr.funcs[a1k]? = some Tryz.f13 := Tryz.func13
def a5u : List AIns := [opI 4 (.mv (.c (.int .i64 0)))]
def a2H : List AIns := [mvI 13 1,
 ⟨some 14, none, .p (.bin .eql (.t 13) (.c (.str ⟨#[101, 110, 100]⟩)))⟩]
def a5t : List AIns := [mvI 15 0,
 mvI 16 0,
 opI 17 (.mkbf a0X [(.t 16)]),
 opI 18 (.fldp (.t 15) 0),
 opI 19 (.fldp (.t 18) 1),
 ⟨none, none, .e (.store 1 (.t 19) (.t 17))⟩]
def a5s : List AIns := [mvI 34 1,
 ⟨some 35, none, .call a2u [(.t 34), (.c (.str ⟨#[32]⟩))]⟩,
 mvI 33 35,
 opI 36 (.ext (.t 33) 0),
 opI 37 (.ext (.t 33) 1),
 mvI 5 36,
 mvI 6 37]
def a2G : List AIns := [mvI 38 6,
 opI 39 (.un .not (.t 38))]
def a5r : List AIns := [opI 4 (.mv (.c (.int .i64 4)))]
def a2F : List AIns := [⟨some 40, none, .e (.bslm 2 [])⟩,
 mvI 7 40]
def a2E : List AIns := [mvI 41 5,
 ⟨some 42, none, .call a8K [(.t 41), (.c (.str ⟨#[32]⟩))]⟩,
 opI 43 (.len (.t 42)),
 opI 44 (.mv (.c (.int .i64 0)))]
def a2D : List AIns := [opI 45 (.bin .lss (.t 44) (.t 43))]
def a5q : List AIns := [opI 46 (.idxp 1 (.t 42) (.t 44)),
 opI 47 (.load none (.t 46)),
 mvI 9 47]
def a2s : List AIns := [mvI 49 9,
 ⟨some 50, none, .call a3b [(.t 49)]⟩,
 mvI 48 50,
 opI 51 (.ext (.t 48) 0),
 opI 52 (.ext (.t 48) 1),
 opI 53 (.ext (.t 48) 2),
 ⟨some 10, none, .e (.box 2 (.c (.agg [.bool false, .nil])))⟩,
 ⟨none, none, .e (.store 2 (.t 10) (.t 51))⟩,
 mvI 11 52,
 mvI 12 53]
def a2r : List AIns := [mvI 54 12,
 opI 55 (.bin .neq (.t 54) (.c (.int .i64 0)))]
def a4s : List AIns := [opI 4 (.mv (.c (.int .i64 4)))]
def a4r : List AIns := [mvI 56 7,
 opI 57 (.load (some 2) (.t 10)),
 ⟨some 58, none, .e (.bsl 2 [(.t 57)])⟩,
 ⟨some 59, none, .e (.app 2 32 false (.t 56) (.t 58))⟩,
 mvI 7 59]
def a4q : List AIns := [opI 60 (.bin .add (.t 44) (.c (.int .i64 1))),
 mvI 44 60]
def a5v : ACode := .seq (rgI a2D) (.seq (.cond (.t 45) (.skip) (.exit 0)) (.seq (.block 1 (.seq (rgI a5q) (.seq (rgI a2s) (.seq (.seq (rgI a2r) (.cond (.t 55) (.seq (rgI a4s) (.ret)) (.skip))) (rgI a4r))))) (rgI a4q)))
def a1h : List AIns := [mvI 61 0,
 mvI 62 0,
 opI 63 (.fldp (.t 62) 0),
 opI 64 (.fldp (.t 63) 3),
 opI 65 (.load none (.t 64)),
 mvI 66 7,
 ⟨some 67, none, .e (.bsl 1 [(.t 66)])⟩,
 ⟨some 68, none, .e (.app 1 24 false (.t 65) (.t 67))⟩,
 opI 69 (.fldp (.t 61) 0),
 opI 70 (.fldp (.t 69) 3),
 ⟨none, none, .e (.store 1 (.t 70) (.t 68))⟩]
def a1g : List AIns := [opI 4 (.mv (.c (.int .i64 0)))]
noncomputable def b3Q : ACode := .seq (rgI a5u) (.seq (.seq (rgI a2H) (.cond (.t 14) (.seq (rgI a5t) (.seq (.raw 3 (a9e Tryz.f49 3) true) (.ret))) (.skip))) (.seq (rgI a5s) (.seq (.seq (rgI a2G) (.cond (.t 39) (.seq (rgI a5r) (.ret)) (.skip))) (.seq (rgI a2F) (.seq (.seq (rgI a2E) (.block 0 (.loop a5v))) (.seq (rgI a1h) (.seq (rgI a1g) (.ret))))))))
theorem b2r : fchk Pr (fun r k => (r == 3 && k == 1000000) || (k == 0)) Tryz.f49 = some (b3Q, [.tmp 4], 71) := by kernel_rfl
theorem b2t : Pr.funcs[a1j]? = some Tryz.f49 := Tryz.func49
def a7q : List AIns := [opI 2 (.mv (.c (.nil)))]
def b4r : List AIns := [opI 2 (.mv (.c (.nil)))]
def a7p : List AIns := [⟨some 5, none, .e (.bslm 1 [])⟩,
 mvI 6 0,
 ⟨some 7, none, .e (.app 1 24 false (.t 5) (.t 6))⟩,
 mvI 2 7]
noncomputable def b5e : ACode := .seq (rgI a7q) (.seq (.seq (.raw 1 (a9e Tryz.f38 1) false) (.cond (.t 4) (.seq (rgI b4r) (.ret)) (.skip))) (.seq (rgI a7p) (.ret)))
theorem b4s : fchk Pr (fun r k => (r == 1 && k == 1000000) || (k == 0)) Tryz.f38 = some (b5e, [.tmp 2], 8) := by kernel_rfl
theorem b4t : Pr.funcs[a4G]? = some Tryz.f38 := Tryz.func38
end Go.Abs

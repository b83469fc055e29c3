/- Part 5 of the proof of BookRests: Code0, Code1, Code2, Code3, Code4. -/
import Derived.Test.YtclecbomkhgflaaGreatDoorBookRestsK4
set_option maxRecDepth 100000
noncomputable section
namespace Go.Abs
abbrev mvI (d s : Nat) : AIns := ⟨some d, none, .p (.mv (.t s))⟩
abbrev opI (d : Nat) (o : POp) : AIns := ⟨some d, none, .p o⟩
abbrev rgI (l : List AIns) : ACode := .region l false
open Go.Proofs
def b9B : List AIns := [opI 2 (.mv (.c (.lit (.pointer none)))),
 opI 3 (.mv (.c (.int .i64 0))),
 opI 4 (.mv (.c (.int .i64 0)))]
def b3j : List AIns := [mvI 14 0,
 opI 15 (.lens (.t 14)),
 opI 16 (.bin .gtr (.t 15) (.c (.int .i64 262144)))]
def b9A : List AIns := [opI 2 (.mv (.c (.lit (.pointer none)))),
 opI 3 (.mv (.c (.int .i64 0))),
 opI 4 (.mv (.c (.int .i64 2)))]
def b9z : List AIns := [⟨some 17, none, .call b8f []⟩,
 ⟨some 18, none, .p (.bld [.lit (.pointer none), .lit .nilFunc, .str ⟨#[]⟩, .nil] [(0, 1, (.t 17))])⟩,
 ⟨some 19, none, .e (.box 4 (.t 18))⟩,
 mvI 5 19]
def b9y : List AIns := [mvI 20 5,
 mvI 21 5,
 opI 22 (.mkbf a0T [(.t 21)]),
 opI 23 (.fldp (.t 20) 0),
 opI 24 (.fldp (.t 23) 1),
 ⟨none, none, .e (.store 1 (.t 24) (.t 22))⟩]
def b9x : List AIns := [opI 6 (.mv (.c (.int .i64 0)))]
def b9w : List AIns := [mvI 25 0,
 mvI 7 25]
def b3i : List AIns := [mvI 26 7,
 ⟨some 27, none, .p (.bin .neq (.t 26) (.c (.str ⟨#[]⟩)))⟩]
def b9v : List AIns := [mvI 29 7,
 ⟨some 30, none, .call b1t [(.t 29), (.c (.str ⟨#[10]⟩))]⟩,
 mvI 28 30,
 opI 31 (.ext (.t 28) 0),
 opI 32 (.ext (.t 28) 1),
 opI 33 (.ext (.t 28) 2),
 mvI 8 31,
 mvI 9 32,
 mvI 10 33]
def b9u : List AIns := [mvI 34 9,
 mvI 7 34]
def b6F : List AIns := [mvI 35 6,
 opI 36 (.bin .add (.t 35) (.c (.int .i64 1))),
 mvI 6 36]
def a7P : List AIns := [mvI 37 8,
 ⟨some 38, none, .p (.bin .eql (.t 37) (.c (.str ⟨#[]⟩)))⟩,
 mvI 39 38,
 ⟨some 40, some (39, false), .p (.mv (.t 8))⟩,
 ⟨some 41, some (39, false), .p (.idxs (.t 40) (.c (.int .i64 0)))⟩,
 ⟨some 42, some (39, false), .p (.bin .eql (.t 41) (.c (.int .u8 35)))⟩,
 opI 43 (.pick (.t 39) (.c (.bool true)) (.t 42))]
def c6U : List AIns := [mvI 44 5,
 opI 45 (.fldp (.t 44) 0),
 opI 46 (.fldp (.t 45) 1),
 opI 47 (.load none (.t 46)),
 mvI 48 8,
 ⟨some 49, none, .callv (.t 47) [(.t 48)]⟩,
 mvI 11 49]
def a7O : List AIns := [mvI 50 11,
 opI 51 (.bin .neq (.t 50) (.c (.int .i64 0)))]
def b1r : List AIns := [mvI 52 6,
 mvI 53 11,
 opI 2 (.mv (.c (.lit (.pointer none)))),
 mvI 3 52,
 mvI 4 53]
def a6H : ACode := .seq (.seq (rgI b3i) (.cond (.t 27) (.skip) (.exit 0))) (.block 1 (.seq (rgI b9v) (.seq (rgI b9u) (.seq (rgI b6F) (.seq (.seq (rgI a7P) (.cond (.t 43) (.exit 1) (.skip))) (.seq (rgI c6U) (.seq (rgI a7O) (.cond (.t 51) (.seq (rgI b1r) (.ret)) (.skip)))))))))
def a3k : List AIns := [mvI 54 5,
 opI 55 (.fldp (.t 54) 0),
 opI 56 (.fldp (.t 55) 2),
 opI 57 (.load none (.t 56)),
 ⟨some 58, none, .p (.bin .neq (.t 57) (.c (.str ⟨#[]⟩)))⟩]
def a7N : List AIns := [mvI 60 5,
 opI 61 (.fldp (.t 60) 0),
 opI 62 (.fldp (.t 61) 0),
 opI 63 (.load none (.t 62)),
 opI 64 (.fldp (.t 63) 0),
 opI 65 (.fldp (.t 64) 0),
 opI 66 (.load none (.t 65)),
 mvI 67 5,
 opI 68 (.fldp (.t 67) 0),
 opI 69 (.fldp (.t 68) 2),
 opI 70 (.load none (.t 69)),
 opI 71 (.smap 0 (.t 66) (.t 70)),
 mvI 59 71,
 opI 72 (.ext (.t 59) 0),
 opI 73 (.ext (.t 59) 1),
 mvI 12 72,
 mvI 13 73]
def a7M : List AIns := [mvI 74 13,
 opI 75 (.un .not (.t 74))]
def b1q : List AIns := [mvI 76 6,
 opI 77 (.bin .add (.t 76) (.c (.int .i64 1))),
 opI 2 (.mv (.c (.lit (.pointer none)))),
 mvI 3 77,
 opI 4 (.mv (.c (.int .i64 4)))]
def a7L : List AIns := [mvI 78 5,
 opI 79 (.fldp (.t 78) 0),
 opI 80 (.fldp (.t 79) 0),
 opI 81 (.load none (.t 80)),
 mvI 2 81,
 opI 3 (.mv (.c (.int .i64 0))),
 opI 4 (.mv (.c (.int .i64 0)))]
def d0S : ACode := .seq (rgI b9B) (.seq (.seq (rgI b3j) (.cond (.t 16) (.seq (rgI b9A) (.ret)) (.skip))) (.seq (rgI b9z) (.seq (rgI b9y) (.seq (rgI b9x) (.seq (.seq (rgI b9w) (.block 0 (.loop a6H))) (.seq (.seq (rgI a3k) (.cond (.t 58) (.seq (.region a7N true) (.seq (rgI a7M) (.cond (.t 75) (.seq (rgI b1q) (.ret)) (.skip)))) (.skip))) (.seq (rgI a7L) (.ret))))))))
theorem c8S : fchk Pr (fun _ _ => false) Tryz.f8 = some (d0S, [.tmp 2, .tmp 3, .tmp 4], 82) := by kernel_rfl
theorem c8T : Pr.funcs[a5R]? = some Tryz.f8 := Tryz.func8
def b3W : List AIns := [opI 0 (.mv (.c (.bool false)))]
def b3V : List AIns := [⟨some 5, none, .call a5R [(.c (.str ⟨#[108, 97, 116, 116, 105, 99, 101, 32, 122, 10, 32, 49, 32, 48, 10, 32, 48, 32, 49, 10, 101, 110, 100, 10]⟩))]⟩,
 mvI 4 5,
 opI 6 (.ext (.t 4) 0),
 opI 7 (.ext (.t 4) 1),
 opI 8 (.ext (.t 4) 2),
 mvI 1 6,
 mvI 2 7,
 mvI 3 8]
def b3U : List AIns := [mvI 9 1,
 opI 10 (.isn true true (.t 9)),
 mvI 11 10,
 ⟨some 12, some (11, true), .p (.mv (.t 2))⟩,
 ⟨some 13, some (11, true), .p (.bin .eql (.t 12) (.c (.int .i64 0)))⟩,
 opI 14 (.pick (.t 11) (.t 13) (.c (.bool false))),
 mvI 15 14,
 ⟨some 16, some (15, true), .p (.mv (.t 3))⟩,
 ⟨some 17, some (15, true), .p (.bin .eql (.t 16) (.c (.int .i64 0)))⟩,
 opI 18 (.pick (.t 15) (.t 17) (.c (.bool false))),
 mvI 19 18,
 ⟨some 20, some (19, true), .p (.mv (.t 1))⟩,
 ⟨some 21, some (19, true), .call a1M [(.t 20)]⟩,
 ⟨some 22, some (19, true), .p (.bin .eql (.t 21) (.c (.str ⟨#[108, 97, 116, 116, 105, 99, 101, 32, 122, 10, 32, 49, 32, 48, 10, 32, 48, 32, 49, 10, 101, 110, 100, 10]⟩)))⟩,
 opI 23 (.pick (.t 19) (.t 22) (.c (.bool false))),
 mvI 0 23]
def c6u : ACode := .seq (rgI b3W) (.seq (rgI b3V) (.seq (rgI b3U) (.ret)))
theorem c3L : fchk Pr (fun _ _ => false) Tryz.f10 = some (c6u, [.tmp 0], 24) := by kernel_rfl
theorem c3M : Pr.funcs[b1w]? = some Tryz.f10 := Tryz.func10
def a9G : List AIns := [opI 2 (.mv (.c (.nil)))]
def a9F : List AIns := [mvI 5 0,
 ⟨some 6, none, .call a6W [(.t 5)]⟩]
def b6I : List AIns := [opI 2 (.mv (.c (.nil)))]
def a9E : List AIns := [opI 3 (.mv (.c (.nil)))]
def a9D : List AIns := [mvI 7 0,
 opI 8 (.fldp (.t 7) 0),
 opI 9 (.fldp (.t 8) 0),
 opI 10 (.load none (.t 9)),
 ⟨some 11, none, .e (.smut 3 (.t 10) (.c (.nil)) (.c (.nil)))⟩]
def a9C : List AIns := [⟨some 12, none, .nxt (.t 11)⟩,
 opI 13 (.ext (.t 12) 0)]
def a9B : List AIns := [opI 14 (.ment (.t 11)),
 opI 15 (.ext (.t 14) 0),
 mvI 4 15]
def a9A : List AIns := [mvI 16 3,
 mvI 17 4,
 ⟨some 18, none, .e (.bsl 1 [(.t 17)])⟩,
 ⟨some 19, none, .e (.app 1 16 false (.t 16) (.t 18))⟩,
 mvI 3 19]
def b6K : ACode := .seq (rgI a9C) (.seq (.cond (.t 13) (.skip) (.exit 0)) (.block 1 (.seq (rgI a9B) (rgI a9A))))
def a4A : List AIns := [mvI 20 3,
 ⟨some 21, none, .call a1e [(.t 20)]⟩]
def a4z : List AIns := [mvI 22 3,
 mvI 2 22]
def b7X : ACode := .seq (rgI a9G) (.seq (.seq (rgI a9F) (.cond (.t 6) (.seq (rgI b6I) (.ret)) (.skip))) (.seq (rgI a9E) (.seq (.seq (rgI a9D) (.block 0 (.loop b6K))) (.seq (rgI a4A) (.seq (rgI a4z) (.ret))))))
theorem b6J : fchk Pr (fun _ _ => false) Tryz.f12 = some (b7X, [.tmp 2], 23) := by kernel_rfl
theorem b6L : Pr.funcs[a5S]? = some Tryz.f12 := Tryz.func12
def c3s : List AIns := [opI 0 (.mv (.c (.lit (.pointer none))))]
def c3r : List AIns := [⟨some 1, none, .e (.smut 0 (.c (.nil)) (.c (.nil)) (.c (.nil)))⟩,
 opI 2 (.bld [.lit (.map none)] [(0, 1, (.t 1))]),
 ⟨some 3, none, .e (.box 1 (.t 2))⟩,
 mvI 0 3]
def d4k : ACode := .seq (rgI c3s) (.seq (rgI c3r) (.ret))
theorem d0T : fchk Pr (fun _ _ => false) Tryz.f15 = some (d4k, [.tmp 0], 4) := by kernel_rfl
theorem d0U : Pr.funcs[b8f]? = some Tryz.f15 := Tryz.func15
def a5j : List AIns := [opI 4 (.mv (.c (.int .i64 0)))]
def a5i : List AIns := [mvI 9 1,
 ⟨some 10, none, .call a2t [(.t 9), (.c (.str ⟨#[108, 97, 116, 116, 105, 99, 101, 32]⟩))]⟩,
 mvI 8 10,
 opI 11 (.ext (.t 8) 0),
 opI 12 (.ext (.t 8) 1),
 mvI 5 11,
 mvI 6 12]
def a2D : List AIns := [mvI 13 6,
 opI 14 (.un .not (.t 13))]
def a5h : List AIns := [opI 4 (.mv (.c (.int .i64 4)))]
def a5g : List AIns := [mvI 15 0,
 opI 16 (.fldp (.t 15) 0),
 opI 17 (.fldp (.t 16) 0),
 opI 18 (.load none (.t 17)),
 mvI 19 5,
 ⟨some 20, none, .call a6V [(.t 18), (.t 19)]⟩,
 mvI 7 20]
def a2C : List AIns := [mvI 21 7,
 opI 22 (.bin .neq (.t 21) (.c (.int .i64 0)))]
def a5f : List AIns := [mvI 23 7,
 mvI 4 23]
def a5e : List AIns := [mvI 24 0,
 mvI 25 0,
 mvI 26 5,
 opI 27 (.fldp (.t 24) 0),
 opI 28 (.fldp (.t 27) 2),
 ⟨none, none, .e (.store 1 (.t 28) (.t 26))⟩,
 opI 29 (.fldp (.t 25) 0),
 opI 30 (.fldp (.t 29) 3),
 ⟨none, none, .e (.store 1 (.t 30) (.c (.nil)))⟩]
def a5d : List AIns := [mvI 31 0,
 mvI 32 0,
 opI 33 (.mkbf a1g [(.t 32)]),
 opI 34 (.fldp (.t 31) 0),
 opI 35 (.fldp (.t 34) 1),
 ⟨none, none, .e (.store 1 (.t 35) (.t 33))⟩]
def a5c : List AIns := [opI 4 (.mv (.c (.int .i64 0)))]
def b3g : ACode := .seq (rgI a5j) (.seq (rgI a5i) (.seq (.seq (rgI a2D) (.cond (.t 14) (.seq (rgI a5h) (.ret)) (.skip))) (.seq (.seq (rgI a5g) (.seq (rgI a2C) (.cond (.t 22) (.seq (rgI a5f) (.ret)) (.skip)))) (.seq (rgI a5e) (.seq (rgI a5d) (.seq (rgI a5c) (.ret)))))))
theorem b1M : fchk Pr (fun _ _ => false) Tryz.f25 = some (b3g, [.tmp 4], 36) := by kernel_rfl
theorem b1N : Pr.funcs[a0T]? = some Tryz.f25 := Tryz.func25
def b3Q : List AIns := [⟨some 4, none, .p (.mv (.c (.str ⟨#[]⟩)))⟩,
 ⟨some 5, none, .p (.mv (.c (.str ⟨#[]⟩)))⟩,
 opI 6 (.mv (.c (.bool false)))]
def b3P : List AIns := [mvI 7 0,
 mvI 8 1,
 ⟨some 9, none, .call a1L [(.t 7), (.t 8)]⟩,
 opI 10 (.ext (.t 9) 0),
 opI 11 (.ext (.t 9) 1),
 opI 12 (.ext (.t 9) 2),
 mvI 4 10,
 mvI 5 11,
 mvI 6 12]
def c5Y : ACode := .seq (rgI b3Q) (.seq (rgI b3P) (.ret))
theorem c3G : fchk Pr (fun _ _ => false) Tryz.f26 = some (c5Y, [.tmp 4, .tmp 5, .tmp 6], 13) := by kernel_rfl
theorem c3H : Pr.funcs[b1t]? = some Tryz.f26 := Tryz.func26
def b0q : List AIns := [opI 2 (.mv (.c (.bool false)))]
def b0p : List AIns := [mvI 3 0,
 opI 4 (.isn true false (.t 3)),
 mvI 5 4,
 ⟨some 6, some (5, false), .p (.mv (.t 0))⟩,
 ⟨some 7, some (5, false), .p (.fldp (.t 6) 0)⟩,
 ⟨some 8, some (5, false), .p (.fldp (.t 7) 0)⟩,
 ⟨some 9, some (5, false), .p (.load none (.t 8))⟩,
 ⟨some 10, some (5, false), .p (.isn false false (.t 9))⟩,
 opI 11 (.pick (.t 5) (.c (.bool true)) (.t 10)),
 mvI 2 11]
def b9R : ACode := .seq (rgI b0q) (.seq (rgI b0p) (.ret))
theorem b7U : fchk Pr (fun _ _ => false) Tryz.f29 = some (b9R, [.tmp 2], 12) := by kernel_rfl
theorem b7V : Pr.funcs[a6W]? = some Tryz.f29 := Tryz.func29
def a2K : List AIns := [mvI 3 0,
 opI 4 (.len (.t 3)),
 mvI 2 4]
def a2J : List AIns := [mvI 5 0,
 mvI 6 2,
 mvI 7 2,
 opI 8 (.conv .u64 (.t 7)),
 ⟨some 9, none, .call a8J [(.t 8)]⟩,
 ⟨some 10, none, .call a0x [(.t 5), (.c (.int .i64 0)), (.t 6), (.t 9)]⟩]
def a8h : ACode := .seq (rgI a2K) (rgI a2J)
theorem a7v : fchk Pr (fun _ _ => false) Tryz.f30 = some (a8h, [], 11) := by kernel_rfl
theorem a7w : Pr.funcs[a1e]? = some Tryz.f30 := Tryz.func30
def b0e : List AIns := [⟨some 2, none, .p (.mv (.c (.str ⟨#[]⟩)))⟩]
def b0d : List AIns := [mvI 3 0,
 ⟨some 4, none, .call a3T [(.t 3), (.c (.fn b1s []))]⟩,
 ⟨some 5, none, .call a5Y [(.t 4), (.c (.str ⟨#[32]⟩))]⟩,
 mvI 2 5]
def b9M : ACode := .seq (rgI b0e) (.seq (rgI b0d) (.ret))
theorem b7E : fchk Pr (fun _ _ => false) Tryz.f32 = some (b9M, [.tmp 2], 6) := by kernel_rfl
theorem b7F : Pr.funcs[a6U]? = some Tryz.f32 := Tryz.func32
def b0o : List AIns := [opI 4 (.mv (.c (.int .i64 0)))]
def b0n : List AIns := [mvI 7 1,
 ⟨some 8, none, .call b3o [(.t 7)]⟩,
 opI 9 (.un .not (.t 8))]
def b0m : List AIns := [opI 4 (.mv (.c (.int .i64 270)))]
def b0l : List AIns := [mvI 11 0,
 opI 12 (.fldp (.t 11) 0),
 opI 13 (.fldp (.t 12) 0),
 opI 14 (.load none (.t 13)),
 mvI 15 1,
 opI 16 (.smap 0 (.t 14) (.t 15)),
 mvI 10 16,
 opI 17 (.ext (.t 10) 0),
 opI 18 (.ext (.t 10) 1),
 mvI 5 17,
 mvI 6 18]
def a5M : List AIns := [mvI 19 6]
def b0k : List AIns := [opI 4 (.mv (.c (.int .i64 271)))]
def a5L : List AIns := [mvI 20 0,
 opI 21 (.fldp (.t 20) 0),
 opI 22 (.fldp (.t 21) 0),
 opI 23 (.load none (.t 22)),
 opI 24 (.smap 2 (.t 23) (.c (.nil))),
 opI 25 (.bin .geq (.t 24) (.c (.int .i64 64)))]
def b0j : List AIns := [opI 4 (.mv (.c (.int .i64 2)))]
def b0i : List AIns := [opI 4 (.mv (.c (.int .i64 0)))]
def b9O : ACode := .seq (rgI b0o) (.seq (.seq (rgI b0n) (.cond (.t 9) (.seq (rgI b0m) (.ret)) (.skip))) (.seq (.seq (rgI b0l) (.seq (rgI a5M) (.cond (.t 19) (.seq (rgI b0k) (.ret)) (.skip)))) (.seq (.seq (rgI a5L) (.cond (.t 25) (.seq (rgI b0j) (.ret)) (.skip))) (.seq (rgI b0i) (.ret)))))
theorem b7S : fchk Pr (fun _ _ => false) Tryz.f35 = some (b9O, [.tmp 4], 26) := by kernel_rfl
theorem b7T : Pr.funcs[a6V]? = some Tryz.f35 := Tryz.func35
def b1I : List AIns := [opI 6 (.mv (.c (.int .i64 0)))]
def b1H : List AIns := [mvI 8 2,
 ⟨some 9, none, .call b5g [(.t 8)]⟩,
 mvI 7 9]
def a6R : List AIns := [mvI 10 7,
 opI 11 (.bin .neq (.t 10) (.c (.int .i64 0)))]
def b1G : List AIns := [mvI 12 7,
 mvI 6 12]
def b1F : List AIns := [mvI 13 0,
 opI 14 (.fldp (.t 13) 0),
 opI 15 (.fldp (.t 14) 0),
 opI 16 (.load none (.t 15)),
 mvI 17 1,
 mvI 18 2,
 ⟨some 19, none, .call b8d [(.t 18)]⟩,
 ⟨none, none, .e (.smut 1 (.t 16) (.t 17) (.t 19))⟩]
def b1E : List AIns := [opI 6 (.mv (.c (.int .i64 0)))]
def c3t : ACode := .seq (rgI b1I) (.seq (.seq (rgI b1H) (.seq (rgI a6R) (.cond (.t 11) (.seq (rgI b1G) (.ret)) (.skip)))) (.seq (.region b1F true) (.seq (rgI b1E) (.ret))))
theorem b9P : fchk Pr (fun _ _ => false) Tryz.f36 = some (c3t, [.tmp 6], 20) := by kernel_rfl
theorem b9Q : Pr.funcs[a4C]? = some Tryz.f36 := Tryz.func36
def c2y : List AIns := [opI 2 (.mv (.c (.nil)))]
def c2x : List AIns := [mvI 3 0,
 ⟨some 4, none, .call a9S [(.t 3), (.c (.fn a9J []))]⟩,
 mvI 2 4]
def d3M : ACode := .seq (rgI c2y) (.seq (rgI c2x) (.ret))
theorem d0d : fchk Pr (fun _ _ => false) Tryz.f44 = some (d3M, [.tmp 2], 5) := by kernel_rfl
theorem d0e : Pr.funcs[b8d]? = some Tryz.f44 := Tryz.func44
def a3j : List AIns := [opI 2 (.mv (.c (.bool false)))]
def a3i : List AIns := [mvI 5 0,
 opI 6 (.lens (.t 5)),
 opI 7 (.bin .lss (.t 6) (.c (.int .i64 1))),
 mvI 8 7,
 ⟨some 9, some (8, false), .p (.mv (.t 0))⟩,
 ⟨some 10, some (8, false), .p (.lens (.t 9))⟩,
 ⟨some 11, some (8, false), .p (.bin .gtr (.t 10) (.c (.int .i64 32)))⟩,
 opI 12 (.pick (.t 8) (.c (.bool true)) (.t 11)),
 mvI 13 12,
 ⟨some 14, some (13, false), .p (.mv (.t 0))⟩,
 ⟨some 15, some (13, false), .p (.idxs (.t 14) (.c (.int .i64 0)))⟩,
 ⟨some 16, some (13, false), .p (.bin .lss (.t 15) (.c (.int .u8 97)))⟩,
 opI 17 (.pick (.t 13) (.c (.bool true)) (.t 16)),
 mvI 18 17,
 ⟨some 19, some (18, false), .p (.mv (.t 0))⟩,
 ⟨some 20, some (18, false), .p (.idxs (.t 19) (.c (.int .i64 0)))⟩,
 ⟨some 21, some (18, false), .p (.bin .gtr (.t 20) (.c (.int .u8 122)))⟩,
 opI 22 (.pick (.t 18) (.c (.bool true)) (.t 21))]
def a4r : List AIns := [opI 2 (.mv (.c (.bool false)))]
def b6E : List AIns := [mvI 23 0,
 opI 24 (.lens (.t 23)),
 opI 25 (.mv (.c (.int .i64 0)))]
def b1p : List AIns := [opI 26 (.bin .lss (.t 25) (.t 24))]
def b6D : List AIns := [mvI 27 25,
 mvI 3 27]
def b6C : List AIns := [mvI 28 0,
 mvI 29 3,
 opI 30 (.idxs (.t 28) (.t 29)),
 mvI 4 30]
def a1U : List AIns := [mvI 31 4,
 opI 32 (.bin .leq (.c (.int .u8 97)) (.t 31)),
 mvI 33 32,
 ⟨some 34, some (33, true), .p (.mv (.t 4))⟩,
 ⟨some 35, some (33, true), .p (.bin .leq (.t 34) (.c (.int .u8 122)))⟩,
 opI 36 (.pick (.t 33) (.t 35) (.c (.bool false))),
 mvI 37 36,
 ⟨some 38, some (37, false), .p (.mv (.t 4))⟩,
 ⟨some 39, some (37, false), .p (.bin .leq (.c (.int .u8 48)) (.t 38))⟩,
 ⟨some 40, some (37, false), .p (.mv (.t 39))⟩,
 ⟨some 41, some (40, true), .p (.mv (.t 4))⟩,
 ⟨some 42, some (40, true), .p (.bin .leq (.t 41) (.c (.int .u8 57)))⟩,
 ⟨some 43, some (37, false), .p (.pick (.t 40) (.t 42) (.c (.bool false)))⟩,
 opI 44 (.pick (.t 37) (.c (.bool true)) (.t 43)),
 mvI 45 44,
 ⟨some 46, some (45, false), .p (.mv (.t 4))⟩,
 ⟨some 47, some (45, false), .p (.bin .eql (.t 46) (.c (.int .u8 95)))⟩,
 opI 48 (.pick (.t 45) (.c (.bool true)) (.t 47)),
 mvI 49 48,
 ⟨some 50, some (49, false), .p (.mv (.t 4))⟩,
 ⟨some 51, some (49, false), .p (.bin .eql (.t 50) (.c (.int .u8 45)))⟩,
 opI 52 (.pick (.t 49) (.c (.bool true)) (.t 51)),
 opI 53 (.un .not (.t 52))]
def a7K : List AIns := [opI 2 (.mv (.c (.bool false)))]
def a4q : List AIns := [opI 54 (.bin .add (.t 25) (.c (.int .i64 1))),
 mvI 25 54]
def c6T : ACode := .seq (rgI b1p) (.seq (.cond (.t 26) (.skip) (.exit 0)) (.seq (.block 1 (.seq (rgI b6D) (.seq (rgI b6C) (.seq (rgI a1U) (.cond (.t 53) (.seq (rgI a7K) (.ret)) (.skip)))))) (rgI a4q)))
def b4d : List AIns := [opI 2 (.mv (.c (.bool true)))]
def c8R : ACode := .seq (rgI a3j) (.seq (.seq (rgI a3i) (.cond (.t 22) (.seq (rgI a4r) (.ret)) (.skip))) (.seq (.seq (rgI b6E) (.block 0 (.loop c6T))) (.seq (rgI b4d) (.ret))))
theorem a4s : fchk Pr (fun _ _ => false) Tryz.f45 = some (c8R, [.tmp 2], 55) := by kernel_rfl
theorem a4t : Pr.funcs[b3o]? = some Tryz.f45 := Tryz.func45
def a7g : List AIns := [⟨some 4, none, .p (.mv (.c (.str ⟨#[]⟩)))⟩,
 opI 5 (.mv (.c (.bool false)))]
def a7f : List AIns := [mvI 6 0,
 mvI 7 1,
 ⟨some 8, none, .call a1i [(.t 6), (.t 7)]⟩,
 opI 9 (.ext (.t 8) 0),
 opI 10 (.ext (.t 8) 1),
 mvI 4 9,
 mvI 5 10]
def b4n : ACode := .seq (rgI a7g) (.seq (rgI a7f) (.ret))
theorem b3E : fchk Pr (fun _ _ => false) Tryz.f48 = some (b4n, [.tmp 4, .tmp 5], 11) := by kernel_rfl
theorem b3F : Pr.funcs[a2t]? = some Tryz.f48 := Tryz.func48
def a2Z : List AIns := [mvI 20 0,
 opI 21 (.fldp (.t 20) 0),
 opI 22 (.fldp (.t 21) 0),
 opI 23 (.load none (.t 22)),
 mvI 24 0,
 opI 25 (.fldp (.t 24) 0),
 opI 26 (.fldp (.t 25) 2),
 opI 27 (.load none (.t 26)),
 mvI 28 0,
 opI 29 (.fldp (.t 28) 0),
 opI 30 (.fldp (.t 29) 3),
 opI 31 (.load none (.t 30)),
 ⟨some 32, none, .call a4C [(.t 23), (.t 27), (.t 31)]⟩,
 mvI 4 32]
def a1D : List AIns := [⟨some 4, none, .p (.mv (.c (.str ⟨#[]⟩)))⟩,
 ⟨some 5, none, .p (.mv (.c (.str ⟨#[]⟩)))⟩,
 opI 6 (.mv (.c (.bool false)))]
def a1C : List AIns := [mvI 8 0,
 mvI 9 1,
 ⟨some 10, none, .call a0F [(.t 8), (.t 9)]⟩,
 mvI 7 10]
def a1B : List AIns := [mvI 11 7,
 opI 12 (.bin .geq (.t 11) (.c (.int .i64 0)))]
def a2V : List AIns := [mvI 13 0,
 mvI 14 7,
 opI 15 (.slcs (.t 13) none (some (.t 14))),
 mvI 16 0,
 mvI 17 7,
 mvI 18 1,
 opI 19 (.lens (.t 18)),
 opI 20 (.bin .add (.t 17) (.t 19)),
 opI 21 (.slcs (.t 16) (some (.t 20)) none),
 mvI 4 15,
 mvI 5 21,
 opI 6 (.mv (.c (.bool true)))]
def a2U : List AIns := [mvI 22 0,
 mvI 4 22,
 ⟨some 5, none, .p (.mv (.c (.str ⟨#[]⟩)))⟩,
 opI 6 (.mv (.c (.bool false)))]
def a8M : ACode := .seq (rgI a1D) (.seq (.seq (rgI a1C) (.seq (rgI a1B) (.cond (.t 12) (.seq (.region a2V true) (.ret)) (.skip)))) (.seq (rgI a2U) (.ret)))
theorem a2W : fchk Pr (fun _ _ => false) Tryz.f50 = some (a8M, [.tmp 4, .tmp 5, .tmp 6], 23) := by kernel_rfl
theorem a2X : Pr.funcs[a1L]? = some Tryz.f50 := Tryz.func50
end Go.Abs
set_option maxRecDepth 100000
noncomputable section
namespace Go.Abs
open Go.Proofs
def a2g : List AIns := [opI 8 (.mv (.c (.bool true)))]
def a2f : List AIns := [opI 9 (.mv (.c (.bool true)))]
def a2e : List AIns := [mvI 19 2,
 mvI 20 1,
 opI 21 (.bin .sub (.t 19) (.t 20)),
 mvI 10 21]
def a2d : List AIns := [mvI 22 10,
 opI 23 (.bin .leq (.t 22) (.c (.int .i64 12)))]
def a2c : List AIns := [mvI 24 0,
 mvI 25 1,
 mvI 26 2,
 ⟨some 27, none, .call a0P [(.t 24), (.t 25), (.t 26)]⟩]
def a5x : List AIns := [mvI 28 3,
 opI 29 (.bin .eql (.t 28) (.c (.int .i64 0)))]
def a5w : List AIns := [mvI 30 0,
 mvI 31 1,
 mvI 32 2,
 ⟨some 33, none, .call a5O [(.t 30), (.t 31), (.t 32)]⟩]
def a5v : List AIns := [mvI 34 8,
 opI 35 (.un .not (.t 34))]
def a5u : List AIns := [mvI 36 0,
 mvI 37 1,
 mvI 38 2,
 ⟨some 39, none, .call a3I [(.t 36), (.t 37), (.t 38)]⟩]
def a5t : List AIns := [mvI 40 3,
 opI 41 (.bin .sub (.t 40) (.c (.int .i64 1))),
 mvI 3 41]
def a4X : List AIns := [mvI 43 0,
 mvI 44 1,
 mvI 45 2,
 ⟨some 46, none, .call a4b [(.t 43), (.t 44), (.t 45)]⟩,
 mvI 42 46,
 opI 47 (.ext (.t 42) 0),
 opI 48 (.ext (.t 42) 1),
 mvI 11 47,
 mvI 12 48]
def a4W : List AIns := [mvI 49 12,
 opI 50 (.bin .eql (.t 49) (.c (.int .i64 2)))]
def a4V : List AIns := [mvI 51 0,
 mvI 52 1,
 mvI 53 2,
 ⟨some 54, none, .call a3S [(.t 51), (.t 52), (.t 53)]⟩]
def a4U : List AIns := [mvI 55 2,
 opI 56 (.bin .sub (.t 55) (.c (.int .i64 1))),
 mvI 57 11,
 mvI 58 1,
 opI 59 (.bin .sub (.t 57) (.t 58)),
 opI 60 (.bin .sub (.t 56) (.t 59)),
 mvI 11 60]
def a4T : List AIns := [opI 12 (.mv (.c (.int .i64 1)))]
def a4S : List AIns := [mvI 61 8,
 mvI 62 61,
 ⟨some 63, some (62, true), .p (.mv (.t 9))⟩,
 opI 64 (.pick (.t 62) (.t 63) (.c (.bool false))),
 mvI 65 64,
 ⟨some 66, some (65, true), .p (.mv (.t 12))⟩,
 ⟨some 67, some (65, true), .p (.bin .eql (.t 66) (.c (.int .i64 1)))⟩,
 opI 68 (.pick (.t 65) (.t 67) (.c (.bool false)))]
def a4R : List AIns := [mvI 69 0,
 mvI 70 1,
 mvI 71 2,
 ⟨some 72, none, .call a2u [(.t 69), (.t 70), (.t 71)]⟩]
def a4Q : List AIns := [mvI 73 1,
 opI 74 (.bin .gtr (.t 73) (.c (.int .i64 0))),
 mvI 75 74,
 ⟨some 76, some (75, true), .p (.mv (.t 0))⟩,
 ⟨some 77, some (75, true), .p (.mv (.t 1))⟩,
 ⟨some 78, some (75, true), .p (.bin .sub (.t 77) (.c (.int .i64 1)))⟩,
 ⟨some 79, some (75, true), .p (.idxp 1 (.t 76) (.t 78))⟩,
 ⟨some 80, some (75, true), .p (.load none (.t 79))⟩,
 ⟨some 81, some (75, true), .p (.mv (.t 0))⟩,
 ⟨some 82, some (75, true), .p (.mv (.t 11))⟩,
 ⟨some 83, some (75, true), .p (.idxp 1 (.t 81) (.t 82))⟩,
 ⟨some 84, some (75, true), .p (.load none (.t 83))⟩,
 ⟨some 85, some (75, true), .call b0w [(.t 80), (.t 84)]⟩,
 ⟨some 86, some (75, true), .p (.un .not (.t 85))⟩,
 opI 87 (.pick (.t 75) (.t 86) (.c (.bool false)))]
def a4P : List AIns := [mvI 88 0,
 mvI 89 1,
 mvI 90 2,
 mvI 91 11,
 ⟨some 92, none, .call a3C [(.t 88), (.t 89), (.t 90), (.t 91)]⟩,
 mvI 13 92]
def a4O : List AIns := [mvI 93 13,
 mvI 1 93]
def a4N : List AIns := [mvI 95 0,
 mvI 96 1,
 mvI 97 2,
 mvI 98 11,
 ⟨some 99, none, .call a5a [(.t 95), (.t 96), (.t 97), (.t 98)]⟩,
 mvI 94 99,
 opI 100 (.ext (.t 94) 0),
 opI 101 (.ext (.t 94) 1),
 mvI 14 100,
 mvI 15 101]
def a4M : List AIns := [mvI 102 15,
 mvI 9 102]
def a4L : List AIns := [mvI 103 14,
 mvI 104 1,
 opI 105 (.bin .sub (.t 103) (.t 104)),
 mvI 106 2,
 mvI 107 14,
 opI 108 (.bin .sub (.t 106) (.t 107)),
 mvI 16 105,
 mvI 17 108]
def a4K : List AIns := [mvI 109 10,
 opI 110 (.bin .quo (.t 109) (.c (.int .i64 8))),
 mvI 18 110]
def a4J : List AIns := [mvI 111 16,
 mvI 112 17,
 opI 113 (.bin .lss (.t 111) (.t 112))]
def a4I : List AIns := [mvI 114 16,
 mvI 115 18,
 opI 116 (.bin .geq (.t 114) (.t 115)),
 mvI 8 116]
def a4H : List AIns := [mvI 117 0,
 mvI 118 1,
 mvI 119 14,
 mvI 120 3,
 ⟨some 121, none, .call a0x [(.t 117), (.t 118), (.t 119), (.t 120)]⟩]
def a4G : List AIns := [mvI 122 14,
 opI 123 (.bin .add (.t 122) (.c (.int .i64 1))),
 mvI 1 123]
def a4F : List AIns := [mvI 124 17,
 mvI 125 18,
 opI 126 (.bin .geq (.t 124) (.t 125)),
 mvI 8 126]
def a4E : List AIns := [mvI 127 0,
 mvI 128 14,
 opI 129 (.bin .add (.t 128) (.c (.int .i64 1))),
 mvI 130 2,
 mvI 131 3,
 ⟨some 132, none, .call a0x [(.t 127), (.t 129), (.t 130), (.t 131)]⟩]
def a4D : List AIns := [mvI 133 14,
 mvI 2 133]
def a5z : ACode := .block 1 (.seq (rgI a2e) (.seq (.seq (rgI a2d) (.cond (.t 23) (.seq (rgI a2c) (.ret)) (.skip))) (.seq (.seq (rgI a5x) (.cond (.t 29) (.seq (rgI a5w) (.ret)) (.skip))) (.seq (.seq (rgI a5v) (.cond (.t 35) (.seq (rgI a5u) (rgI a5t)) (.skip))) (.seq (rgI a4X) (.seq (.seq (rgI a4W) (.cond (.t 50) (.seq (rgI a4V) (.seq (rgI a4U) (rgI a4T))) (.skip))) (.seq (.seq (rgI a4S) (.cond (.t 68) (.seq (rgI a4R) (.cond (.t 72) (.ret) (.skip))) (.skip))) (.seq (.seq (.region a4Q true) (.cond (.t 87) (.seq (rgI a4P) (.seq (rgI a4O) (.exit 1))) (.skip))) (.seq (rgI a4N) (.seq (rgI a4M) (.seq (rgI a4L) (.seq (rgI a4K) (.seq (rgI a4J) (.cond (.t 113) (.seq (rgI a4I) (.seq (rgI a4H) (rgI a4G))) (.seq (rgI a4F) (.seq (rgI a4E) (rgI a4D)))))))))))))))))
def a6c : ACode := .seq (rgI a2g) (.seq (rgI a2f) (.block 0 (.loop a5z)))
theorem a5y : fchk Pr (fun _ _ => false) Tryz.f54 = some (a6c, [], 134) := by kernel_rfl
theorem a5A : Pr.funcs[a0x]? = some Tryz.f54 := Tryz.func54
def b1D : List AIns := [opI 2 (.mv (.c (.int .i64 0)))]
def b9J : List AIns := [mvI 3 0,
 opI 4 (.conv .u32 (.t 3)),
 ⟨some 5, none, .call a1n [(.t 4)]⟩,
 mvI 2 5]
def b1C : List AIns := [mvI 6 0,
 ⟨some 7, none, .call a5P [(.t 6)]⟩,
 mvI 2 7]
def c2q : ACode := .seq (rgI b1D) (.seq (.cond (.c (.bool false)) (.seq (rgI b9J) (.ret)) (.skip)) (.seq (rgI b1C) (.ret)))
theorem b9K : fchk Pr (fun _ _ => false) Tryz.f55 = some (c2q, [.tmp 2], 8) := by kernel_rfl
theorem b9L : Pr.funcs[a8J]? = some Tryz.f55 := Tryz.func55
def a7o : List AIns := [opI 4 (.mv (.c (.nil)))]
def a7n : List AIns := [mvI 8 0,
 opI 9 (.len (.t 8)),
 ⟨some 10, none, .e (.mksl 1 16 (.str ⟨#[]⟩) (.c (.int .i64 0)) (.t 9))⟩,
 mvI 5 10]
def a7m : List AIns := [mvI 11 0,
 opI 12 (.len (.t 11)),
 opI 13 (.mv (.c (.int .i64 0)))]
def a3x : List AIns := [opI 14 (.bin .lss (.t 13) (.t 12))]
def a7l : List AIns := [opI 15 (.idxp 2 (.t 11) (.t 13)),
 opI 16 (.load (some 2) (.t 15)),
 ⟨some 7, none, .e (.box 2 (.c (.agg [.bool false, .nil])))⟩,
 ⟨none, none, .e (.store 2 (.t 7) (.t 16))⟩]
def a7k : List AIns := [mvI 17 5,
 mvI 18 1,
 opI 19 (.load (some 2) (.t 7)),
 ⟨some 20, none, .callv (.t 18) [(.t 19)]⟩,
 ⟨some 21, none, .e (.bsl 1 [(.t 20)])⟩,
 ⟨some 22, none, .e (.app 1 16 false (.t 17) (.t 21))⟩,
 mvI 5 22]
def a7j : List AIns := [opI 23 (.bin .add (.t 13) (.c (.int .i64 1))),
 mvI 13 23]
def b3I : ACode := .seq (rgI a3x) (.seq (.cond (.t 14) (.skip) (.exit 0)) (.seq (.block 1 (.seq (rgI a7l) (rgI a7k))) (rgI a7j)))
def a7i : List AIns := [mvI 24 5,
 mvI 4 24]
def b4P : ACode := .seq (rgI a7o) (.seq (rgI a7n) (.seq (.seq (rgI a7m) (.block 0 (.loop b3I))) (.seq (rgI a7i) (.ret))))
theorem b3H : fchk Pr (fun _ _ => false) Tryz.f58 = some (b4P, [.tmp 4], 25) := by kernel_rfl
theorem b3J : Pr.funcs[a3T]? = some Tryz.f58 := Tryz.func58
def b1S : List AIns := [⟨some 1, none, .e (.box 2 (.t 0))⟩,
 ⟨some 2, none, .p (.mv (.c (.str ⟨#[]⟩)))⟩]
def b1R : List AIns := [opI 3 (.load (some 2) (.t 1)),
 ⟨some 4, none, .call a3R [(.t 3)]⟩,
 opI 5 (.bin .lss (.t 4) (.c (.int .i64 0)))]
def b8m : List AIns := [opI 6 (.fldp (.t 1) 1),
 opI 7 (.load none (.t 6)),
 ⟨some 8, none, .call a7W [(.t 7)]⟩,
 ⟨some 9, none, .p (.bin .add (.c (.str ⟨#[45]⟩)) (.t 8))⟩,
 mvI 2 9]
def b8l : List AIns := [opI 10 (.fldp (.t 1) 1),
 opI 11 (.load none (.t 10)),
 ⟨some 12, none, .call a7W [(.t 11)]⟩,
 mvI 2 12]
def c9h : ACode := .seq (rgI b1S) (.seq (.seq (rgI b1R) (.cond (.t 5) (.seq (rgI b8m) (.ret)) (.skip))) (.seq (rgI b8l) (.ret)))
theorem b8n : fchk Pr (fun _ _ => false) Tryz.f59 = some (c9h, [.tmp 2], 13) := by kernel_rfl
theorem b8o : Pr.funcs[b1s]? = some Tryz.f59 := Tryz.func59
def b9r : List AIns := [opI 2 (.mv (.c (.int .i64 0)))]
def b9q : List AIns := [mvI 6 0,
 ⟨some 7, none, .call c7c [(.t 6), (.c (.bool true))]⟩,
 mvI 5 7,
 opI 8 (.ext (.t 5) 0),
 opI 9 (.ext (.t 5) 1),
 ⟨some 3, none, .e (.box 2 (.c (.agg [.nil, .nil])))⟩,
 ⟨none, none, .e (.store 2 (.t 3) (.t 8))⟩,
 mvI 4 9]
def b2X : List AIns := [mvI 10 4,
 mvI 2 10]
def d0t : ACode := .seq (rgI b9r) (.seq (rgI b9q) (.seq (rgI b2X) (.ret)))
theorem c8v : fchk Pr (fun _ _ => false) Tryz.f62 = some (d0t, [.tmp 2], 11) := by kernel_rfl
theorem c8w : Pr.funcs[b5g]? = some Tryz.f62 := Tryz.func62
def c0O : List AIns := [⟨some 2, none, .e (.box 2 (.t 0))⟩,
 ⟨some 3, none, .e (.box 2 (.t 1))⟩,
 ⟨some 4, none, .e (.box 2 (.c (.agg [.bool false, .nil])))⟩]
def c0N : List AIns := [opI 7 (.fldp (.t 2) 0),
 opI 8 (.load none (.t 7)),
 opI 9 (.fldp (.t 3) 0),
 opI 10 (.load none (.t 9)),
 opI 11 (.beq false (.t 8) (.t 10))]
def c0M : List AIns := [opI 12 (.fldp (.t 2) 0),
 opI 13 (.load none (.t 12)),
 opI 14 (.fldp (.t 2) 1),
 opI 15 (.load none (.t 14)),
 opI 16 (.fldp (.t 3) 1),
 opI 17 (.load none (.t 16)),
 ⟨some 18, none, .call a8I [(.t 15), (.t 17)]⟩,
 ⟨some 19, none, .call a1m [(.t 13), (.t 18)]⟩,
 ⟨none, none, .e (.store 2 (.t 4) (.t 19))⟩]
def c0L : List AIns := [opI 20 (.fldp (.t 2) 1),
 opI 21 (.load none (.t 20)),
 opI 22 (.fldp (.t 3) 1),
 opI 23 (.load none (.t 22)),
 ⟨some 24, none, .call b0v [(.t 21), (.t 23)]⟩,
 opI 25 (.bin .lss (.t 24) (.c (.int .i64 0)))]
def c0K : List AIns := [opI 26 (.load (some 2) (.t 3)),
 opI 27 (.load (some 2) (.t 2)),
 ⟨none, none, .e (.store 2 (.t 2) (.t 26))⟩,
 ⟨none, none, .e (.store 2 (.t 3) (.t 27))⟩]
def b4f : List AIns := [opI 29 (.fldp (.t 2) 1),
 opI 30 (.load none (.t 29)),
 opI 31 (.fldp (.t 3) 1),
 opI 32 (.load none (.t 31)),
 ⟨some 33, none, .call c3B [(.t 30), (.t 32)]⟩,
 mvI 28 33,
 opI 34 (.ext (.t 28) 0),
 opI 35 (.ext (.t 28) 1),
 mvI 5 34,
 mvI 6 35]
def b4e : List AIns := [opI 36 (.fldp (.t 2) 0),
 opI 37 (.load none (.t 36)),
 mvI 38 5,
 ⟨some 39, none, .call a1m [(.t 37), (.t 38)]⟩,
 ⟨none, none, .e (.store 2 (.t 4) (.t 39))⟩]
def d2t : ACode := .seq (rgI c0O) (.seq (.seq (rgI c0N) (.cond (.t 11) (.seq (.region c0M true) (.ret)) (.skip))) (.seq (.seq (rgI c0L) (.cond (.t 25) (rgI c0K) (.skip))) (.seq (rgI b4f) (.seq (rgI b4e) (.ret)))))
theorem c9r : fchk Pr (fun _ _ => false) Tryz.f64 = some (d2t, [.cell 4 (some 2)], 40) := by kernel_rfl
theorem c9s : Pr.funcs[a7V]? = some Tryz.f64 := Tryz.func64
def b2M : List AIns := [opI 4 (.mv (.c (.nil)))]
def b2L : List AIns := [mvI 8 0,
 opI 9 (.len (.t 8)),
 ⟨some 10, none, .e (.mksl 2 32 (.agg [.bool false, .nil]) (.c (.int .i64 0)) (.t 9))⟩,
 mvI 5 10]
def b2K : List AIns := [mvI 11 0,
 opI 12 (.len (.t 11)),
 opI 13 (.mv (.c (.int .i64 0)))]
def a8r : List AIns := [opI 14 (.bin .lss (.t 13) (.t 12))]
def b2J : List AIns := [opI 15 (.idxp 2 (.t 11) (.t 13)),
 opI 16 (.load (some 2) (.t 15)),
 ⟨some 7, none, .e (.box 2 (.c (.agg [.bool false, .nil])))⟩,
 ⟨none, none, .e (.store 2 (.t 7) (.t 16))⟩]
def b2I : List AIns := [mvI 17 5,
 mvI 18 1,
 opI 19 (.load (some 2) (.t 7)),
 ⟨some 20, none, .callv (.t 18) [(.t 19)]⟩,
 ⟨some 21, none, .e (.bsl 2 [(.t 20)])⟩,
 ⟨some 22, none, .e (.app 2 32 false (.t 17) (.t 21))⟩,
 mvI 5 22]
def b2H : List AIns := [opI 23 (.bin .add (.t 13) (.c (.int .i64 1))),
 mvI 13 23]
def c2v : ACode := .seq (rgI a8r) (.seq (.cond (.t 14) (.skip) (.exit 0)) (.seq (.block 1 (.seq (rgI b2J) (rgI b2I))) (rgI b2H)))
def b2G : List AIns := [mvI 24 5,
 mvI 4 24]
def c3K : ACode := .seq (rgI b2M) (.seq (rgI b2L) (.seq (.seq (rgI b2K) (.block 0 (.loop c2v))) (.seq (rgI b2G) (.ret))))
theorem c2u : fchk Pr (fun _ _ => false) Tryz.f65 = some (c3K, [.tmp 4], 25) := by kernel_rfl
theorem c2w : Pr.funcs[a5Z]? = some Tryz.f65 := Tryz.func65
def c0J : List AIns := [⟨some 2, none, .e (.box 2 (.t 0))⟩,
 ⟨some 3, none, .e (.box 2 (.t 1))⟩,
 ⟨some 4, none, .e (.box 2 (.c (.agg [.bool false, .nil])))⟩]
def c0I : List AIns := [opI 5 (.fldp (.t 2) 0),
 opI 6 (.load none (.t 5)),
 opI 7 (.fldp (.t 3) 0),
 opI 8 (.load none (.t 7)),
 opI 9 (.beq true (.t 6) (.t 8)),
 opI 10 (.fldp (.t 2) 1),
 opI 11 (.load none (.t 10)),
 opI 12 (.fldp (.t 3) 1),
 opI 13 (.load none (.t 12)),
 ⟨some 14, none, .call a8H [(.t 11), (.t 13)]⟩,
 ⟨some 15, none, .call a1m [(.t 9), (.t 14)]⟩,
 ⟨none, none, .e (.store 2 (.t 4) (.t 15))⟩]
def d2s : ACode := .seq (rgI c0J) (.seq (.region c0I true) (.ret))
theorem c9n : fchk Pr (fun _ _ => false) Tryz.f67 = some (d2s, [.cell 4 (some 2)], 16) := by kernel_rfl
theorem c9o : Pr.funcs[a5N]? = some Tryz.f67 := Tryz.func67
def b2F : List AIns := [opI 4 (.mv (.c (.nil)))]
def b2E : List AIns := [mvI 8 0,
 opI 9 (.len (.t 8)),
 ⟨some 10, none, .e (.mksl 1 24 (.nil) (.c (.int .i64 0)) (.t 9))⟩,
 mvI 5 10]
def b2D : List AIns := [mvI 11 0,
 opI 12 (.len (.t 11)),
 opI 13 (.mv (.c (.int .i64 0)))]
def a8q : List AIns := [opI 14 (.bin .lss (.t 13) (.t 12))]
def b2C : List AIns := [opI 15 (.idxp 1 (.t 11) (.t 13)),
 opI 16 (.load none (.t 15)),
 mvI 7 16]
def b2B : List AIns := [mvI 17 5,
 mvI 18 1,
 mvI 19 7,
 ⟨some 20, none, .callv (.t 18) [(.t 19)]⟩,
 ⟨some 21, none, .e (.bsl 1 [(.t 20)])⟩,
 ⟨some 22, none, .e (.app 1 24 false (.t 17) (.t 21))⟩,
 mvI 5 22]
def b2A : List AIns := [opI 23 (.bin .add (.t 13) (.c (.int .i64 1))),
 mvI 13 23]
def c2s : ACode := .seq (rgI a8q) (.seq (.cond (.t 14) (.skip) (.exit 0)) (.seq (.block 1 (.seq (rgI b2C) (rgI b2B))) (rgI b2A)))
def b2z : List AIns := [mvI 24 5,
 mvI 4 24]
def c3J : ACode := .seq (rgI b2F) (.seq (rgI b2E) (.seq (.seq (rgI b2D) (.block 0 (.loop c2s))) (.seq (rgI b2z) (.ret))))
theorem c2r : fchk Pr (fun _ _ => false) Tryz.f79 = some (c3J, [.tmp 4], 25) := by kernel_rfl
theorem c2t : Pr.funcs[a9S]? = some Tryz.f79 := Tryz.func79
def b6h : List AIns := [opI 2 (.mv (.c (.nil)))]
def b6g : List AIns := [mvI 3 0,
 ⟨some 4, none, .call a5Z [(.t 3), (.c (.fn a8D []))]⟩,
 mvI 2 4]
def c7Y : ACode := .seq (rgI b6h) (.seq (rgI b6g) (.ret))
theorem c6n : fchk Pr (fun _ _ => false) Tryz.f80 = some (c7Y, [.tmp 2], 5) := by kernel_rfl
theorem c6o : Pr.funcs[a9J]? = some Tryz.f80 := Tryz.func80
def b8B : List AIns := [⟨some 1, none, .e (.box 2 (.t 0))⟩,
 ⟨some 2, none, .e (.box 2 (.c (.agg [.bool false, .nil])))⟩]
def b8A : List AIns := [opI 3 (.fldp (.t 1) 0),
 opI 4 (.load none (.t 3)),
 opI 5 (.fldp (.t 1) 1),
 opI 6 (.load none (.t 5)),
 ⟨some 7, none, .call a1m [(.t 4), (.t 6)]⟩,
 ⟨none, none, .e (.store 2 (.t 2) (.t 7))⟩]
def c9p : ACode := .seq (rgI b8B) (.seq (rgI b8A) (.ret))
theorem c7l : fchk Pr (fun _ _ => false) Tryz.f81 = some (c9p, [.cell 2 (some 2)], 8) := by kernel_rfl
theorem c7m : Pr.funcs[a8D]? = some Tryz.f81 := Tryz.func81
def a1a : List AIns := [⟨some 4, none, .p (.mv (.c (.str ⟨#[]⟩)))⟩,
 opI 5 (.mv (.c (.bool false)))]
def a0Z : List AIns := [mvI 6 0,
 mvI 7 1,
 ⟨some 8, none, .call a1h [(.t 6), (.t 7)]⟩,
 opI 9 (.un .not (.t 8))]
def a1R : List AIns := [mvI 10 0,
 mvI 4 10,
 opI 5 (.mv (.c (.bool false)))]
def a1Q : List AIns := [mvI 11 0,
 mvI 12 1,
 opI 13 (.lens (.t 12)),
 opI 14 (.slcs (.t 11) (some (.t 13)) none),
 mvI 4 14,
 opI 5 (.mv (.c (.bool true)))]
def a4Z : ACode := .seq (rgI a1a) (.seq (.seq (rgI a0Z) (.cond (.t 9) (.seq (rgI a1R) (.ret)) (.skip))) (.seq (rgI a1Q) (.ret)))
theorem a1S : fchk Pr (fun _ _ => false) Tryz.f84 = some (a4Z, [.tmp 4, .tmp 5], 15) := by kernel_rfl
theorem a1T : Pr.funcs[a1i]? = some Tryz.f84 := Tryz.func84
def b1y : List AIns := [opI 4 (.mv (.c (.nil)))]
def b1x : List AIns := [mvI 5 0,
 mvI 6 1,
 ⟨some 7, none, .call a4B [(.t 5), (.t 6), (.c (.int .i64 0)), (.c (.int .i64 (-1)))]⟩,
 mvI 4 7]
def c0W : ACode := .seq (rgI b1y) (.seq (rgI b1x) (.ret))
theorem b9D : fchk Pr (fun _ _ => false) Tryz.f85 = some (c0W, [.tmp 4], 8) := by kernel_rfl
theorem b9E : Pr.funcs[a8E]? = some Tryz.f85 := Tryz.func85
def b1V : List AIns := [⟨some 2, none, .e (.box 2 (.c (.agg [.bool false, .nil])))⟩,
 opI 3 (.mv (.c (.int .i64 0))),
 opI 4 (.mv (.c (.int .i64 0)))]
def b1U : List AIns := [mvI 11 0,
 opI 12 (.lens (.t 11)),
 opI 13 (.bin .gtr (.t 12) (.c (.int .i64 65536)))]
def b8y : List AIns := [opI 14 (.bld [.bool false, .nil] []),
 ⟨none, none, .e (.store 2 (.t 2) (.t 14))⟩,
 opI 3 (.mv (.c (.int .i64 0))),
 opI 4 (.mv (.c (.int .i64 2)))]
def b8x : List AIns := [opI 5 (.mv (.c (.int .i64 0)))]
def a8V : List AIns := [mvI 15 0,
 opI 16 (.lens (.t 15)),
 opI 17 (.bin .gtr (.t 16) (.c (.int .i64 0))),
 mvI 18 17,
 ⟨some 19, some (18, true), .p (.mv (.t 0))⟩,
 ⟨some 20, some (18, true), .p (.idxs (.t 19) (.c (.int .i64 0)))⟩,
 ⟨some 21, some (18, true), .p (.bin .eql (.t 20) (.c (.int .u8 45)))⟩,
 opI 22 (.pick (.t 18) (.t 21) (.c (.bool false)))]
def b8w : List AIns := [opI 5 (.mv (.c (.int .i64 1)))]
def a3U : List AIns := [mvI 23 5,
 opI 24 (.bin .eql (.t 23) (.c (.int .i64 1))),
 mvI 25 24,
 ⟨some 26, some (25, true), .p (.mv (.t 0))⟩,
 ⟨some 27, some (25, true), .p (.lens (.t 26))⟩,
 ⟨some 28, some (25, true), .p (.bin .gtr (.t 27) (.c (.int .i64 1)))⟩,
 opI 29 (.pick (.t 25) (.t 28) (.c (.bool false))),
 mvI 30 29,
 ⟨some 31, some (30, true), .p (.mv (.t 0))⟩,
 ⟨some 32, some (30, true), .p (.idxs (.t 31) (.c (.int .i64 1)))⟩,
 ⟨some 33, some (30, true), .p (.bin .eql (.t 32) (.c (.int .u8 48)))⟩,
 opI 34 (.pick (.t 30) (.t 33) (.c (.bool false)))]
def b8v : List AIns := [opI 35 (.bld [.bool false, .nil] []),
 ⟨none, none, .e (.store 2 (.t 2) (.t 35))⟩,
 opI 3 (.mv (.c (.int .i64 1))),
 opI 4 (.mv (.c (.int .i64 4)))]
def a8U : List AIns := [mvI 36 5,
 mvI 6 36]
def b1T : List AIns := [mvI 37 6,
 mvI 38 0,
 opI 39 (.lens (.t 38)),
 opI 40 (.bin .lss (.t 37) (.t 39))]
def a3c : List AIns := [mvI 43 0,
 mvI 44 6,
 opI 45 (.idxs (.t 43) (.t 44)),
 opI 46 (.bin .lss (.t 45) (.c (.int .u8 48))),
 mvI 47 46,
 ⟨some 48, some (47, false), .p (.mv (.t 0))⟩,
 ⟨some 49, some (47, false), .p (.mv (.t 6))⟩,
 ⟨some 50, some (47, false), .p (.idxs (.t 48) (.t 49))⟩,
 ⟨some 51, some (47, false), .p (.bin .gtr (.t 50) (.c (.int .u8 57)))⟩,
 opI 52 (.pick (.t 47) (.c (.bool true)) (.t 51)),
 mvI 53 52,
 ⟨some 54, some (53, false), .p (.mv (.t 6))⟩,
 ⟨some 55, some (53, false), .p (.mv (.t 5))⟩,
 ⟨some 56, some (53, false), .p (.bin .add (.t 55) (.c (.int .i64 1)))⟩,
 ⟨some 57, some (53, false), .p (.bin .eql (.t 54) (.t 56))⟩,
 ⟨some 58, some (53, false), .p (.mv (.t 57))⟩,
 ⟨some 59, some (58, true), .p (.mv (.t 0))⟩,
 ⟨some 60, some (58, true), .p (.mv (.t 5))⟩,
 ⟨some 61, some (58, true), .p (.idxs (.t 59) (.t 60))⟩,
 ⟨some 62, some (58, true), .p (.bin .eql (.t 61) (.c (.int .u8 48)))⟩,
 ⟨some 63, some (53, false), .p (.pick (.t 58) (.t 62) (.c (.bool false)))⟩,
 opI 64 (.pick (.t 53) (.c (.bool true)) (.t 63))]
def a7t : List AIns := [opI 65 (.bld [.bool false, .nil] []),
 mvI 66 6,
 ⟨none, none, .e (.store 2 (.t 2) (.t 65))⟩,
 mvI 3 66,
 opI 4 (.mv (.c (.int .i64 4)))]
def b0C : List AIns := [mvI 41 6,
 opI 42 (.bin .add (.t 41) (.c (.int .i64 1))),
 mvI 6 42]
def b1X : ACode := .seq (.seq (rgI b1T) (.cond (.t 40) (.skip) (.exit 0))) (.seq (.block 1 (.seq (rgI a3c) (.cond (.t 64) (.seq (rgI a7t) (.ret)) (.skip)))) (rgI b0C))
def a7s : List AIns := [mvI 67 5,
 mvI 68 0,
 opI 69 (.lens (.t 68)),
 opI 70 (.bin .eql (.t 67) (.t 69))]
def b0B : List AIns := [opI 71 (.bld [.bool false, .nil] []),
 mvI 72 5,
 ⟨none, none, .e (.store 2 (.t 2) (.t 71))⟩,
 mvI 3 72,
 opI 4 (.mv (.c (.int .i64 4)))]
def b0A : List AIns := [opI 7 (.mv (.c (.nil)))]
def b0z : List AIns := [mvI 73 5,
 mvI 8 73]
def b0y : List AIns := [mvI 74 8,
 mvI 75 0,
 opI 76 (.lens (.t 75)),
 opI 77 (.bin .lss (.t 74) (.t 76))]
def b5n : List AIns := [mvI 78 0,
 opI 79 (.lens (.t 78)),
 mvI 80 8,
 opI 81 (.bin .sub (.t 79) (.t 80)),
 opI 82 (.mnx false (.c (.int .i64 9)) (.t 81)),
 mvI 9 82]
def b5m : List AIns := [opI 10 (.mv (.c (.int .u32 0)))]
def b5l : List AIns := [mvI 83 9,
 opI 84 (.mv (.c (.int .i64 0)))]
def b0x : List AIns := [opI 85 (.bin .lss (.t 84) (.t 83))]
def b5k : List AIns := [mvI 86 10,
 opI 87 (.bin .mul (.c (.int .u32 10)) (.t 86)),
 mvI 88 0,
 mvI 89 8,
 opI 90 (.idxs (.t 88) (.t 89)),
 opI 91 (.bin .sub (.t 90) (.c (.int .u8 48))),
 opI 92 (.conv .u32 (.t 91)),
 opI 93 (.bin .add (.t 87) (.t 92)),
 mvI 10 93]
def b5j : List AIns := [mvI 94 8,
 opI 95 (.bin .add (.t 94) (.c (.int .i64 1))),
 mvI 8 95]
def b5i : List AIns := [opI 96 (.bin .add (.t 84) (.c (.int .i64 1))),
 mvI 84 96]
def c7k : ACode := .seq (rgI b0x) (.seq (.cond (.t 85) (.skip) (.exit 4)) (.seq (.block 5 (.seq (rgI b5k) (rgI b5j))) (rgI b5i)))
def b5h : List AIns := [mvI 97 7,
 mvI 98 9,
 ⟨some 99, none, .call b3l [(.t 98)]⟩,
 ⟨some 100, none, .e (.bsl 1 [(.t 99)])⟩,
 ⟨some 101, none, .call a8H [(.t 97), (.t 100)]⟩,
 mvI 102 10,
 ⟨some 103, none, .e (.bsl 1 [(.t 102)])⟩,
 ⟨some 104, none, .call a8I [(.t 101), (.t 103)]⟩,
 mvI 7 104]
def b8z : ACode := .seq (.seq (rgI b0y) (.cond (.t 77) (.skip) (.exit 2))) (.block 3 (.seq (rgI b5n) (.seq (rgI b5m) (.seq (.seq (rgI b5l) (.block 4 (.loop c7k))) (rgI b5h)))))
def a7r : List AIns := [mvI 105 5,
 opI 106 (.bin .eql (.t 105) (.c (.int .i64 1))),
 mvI 107 7,
 ⟨some 108, none, .call a1m [(.t 106), (.t 107)]⟩,
 ⟨none, none, .e (.store 2 (.t 2) (.t 108))⟩,
 opI 3 (.mv (.c (.int .i64 0))),
 opI 4 (.mv (.c (.int .i64 0)))]
def c0F : ACode := .seq (rgI b1V) (.seq (.seq (rgI b1U) (.cond (.t 13) (.seq (rgI b8y) (.ret)) (.skip))) (.seq (rgI b8x) (.seq (.seq (rgI a8V) (.cond (.t 22) (rgI b8w) (.skip))) (.seq (.seq (rgI a3U) (.cond (.t 34) (.seq (rgI b8v) (.ret)) (.skip))) (.seq (.seq (rgI a8U) (.block 0 (.loop b1X))) (.seq (.seq (rgI a7s) (.cond (.t 70) (.seq (rgI b0B) (.ret)) (.skip))) (.seq (rgI b0A) (.seq (.seq (rgI b0z) (.block 2 (.loop b8z))) (.seq (rgI a7r) (.ret))))))))))
theorem b1W : fchk Pr (fun _ _ => false) Tryz.f86 = some (c0F, [.cell 2 (some 2), .tmp 3, .tmp 4], 109) := by kernel_rfl
theorem b1Y : Pr.funcs[a3b]? = some Tryz.f86 := Tryz.func86
def a0C : List AIns := [opI 4 (.mv (.c (.int .i64 0)))]
def a0B : List AIns := [mvI 14 1,
 opI 15 (.lens (.t 14)),
 mvI 5 15]
def a0A : List AIns := [mvI 17 5,
 opI 18 (.bin .eql (.t 17) (.c (.int .i64 0))),
 mvI 19 18,
 ⟨some 20, some (19, false), .p (.mv (.t 1))⟩,
 ⟨some 21, some (19, false), .p (.mv (.t 0))⟩,
 ⟨some 22, some (19, false), .p (.bin .eql (.t 20) (.t 21))⟩,
 opI 23 (.pick (.t 19) (.c (.bool true)) (.t 22)),
 mvI 16 23]
def a1t : List AIns := [opI 4 (.mv (.c (.int .i64 0)))]
def a1s : List AIns := [mvI 25 5,
 opI 26 (.bin .eql (.t 25) (.c (.int .i64 1))),
 mvI 24 26]
def a1r : List AIns := [mvI 27 0,
 mvI 28 1,
 opI 29 (.idxs (.t 28) (.c (.int .i64 0))),
 ⟨some 30, none, .call a0H [(.t 27), (.t 29)]⟩,
 mvI 4 30]
def a6O : List AIns := [mvI 32 5,
 mvI 33 0,
 opI 34 (.lens (.t 33)),
 opI 35 (.bin .geq (.t 32) (.t 34)),
 mvI 31 35]
def a6N : List AIns := [opI 4 (.mv (.c (.int .i64 (-1))))]
def a6M : List AIns := [mvI 45 0,
 mvI 46 1,
 ⟨some 47, none, .call a2l [(.t 45), (.t 46)]⟩,
 mvI 4 47]
def a6L : List AIns := [mvI 48 1,
 opI 49 (.idxs (.t 48) (.c (.int .i64 0))),
 mvI 6 49]
def a6D : List AIns := [mvI 50 1,
 opI 51 (.idxs (.t 50) (.c (.int .i64 1))),
 mvI 7 51]
def a6C : List AIns := [opI 8 (.mv (.c (.int .i64 0)))]
def a6B : List AIns := [mvI 52 0,
 opI 53 (.lens (.t 52)),
 mvI 54 5,
 opI 55 (.bin .sub (.t 53) (.t 54)),
 opI 56 (.bin .add (.t 55) (.c (.int .i64 1))),
 mvI 9 56]
def a6A : List AIns := [opI 10 (.mv (.c (.int .i64 0)))]
def a6z : List AIns := [mvI 57 8,
 mvI 58 9,
 opI 59 (.bin .lss (.t 57) (.t 58))]
def a6y : List AIns := [mvI 60 0,
 mvI 61 8,
 opI 62 (.idxs (.t 60) (.t 61)),
 mvI 63 6,
 opI 64 (.bin .neq (.t 62) (.t 63))]
def a6x : List AIns := [mvI 65 0,
 mvI 66 8,
 opI 67 (.bin .add (.t 66) (.c (.int .i64 1))),
 mvI 68 9,
 opI 69 (.slcs (.t 65) (some (.t 67)) (some (.t 68))),
 mvI 70 6,
 ⟨some 71, none, .call a0H [(.t 69), (.t 70)]⟩,
 mvI 11 71]
def a6w : List AIns := [mvI 72 11,
 opI 73 (.bin .lss (.t 72) (.c (.int .i64 0)))]
def a6v : List AIns := [opI 4 (.mv (.c (.int .i64 (-1))))]
def a6u : List AIns := [mvI 74 8,
 mvI 75 11,
 opI 76 (.bin .add (.t 75) (.c (.int .i64 1))),
 opI 77 (.bin .add (.t 74) (.t 76)),
 mvI 8 77]
def a6t : List AIns := [mvI 78 0,
 mvI 79 8,
 opI 80 (.bin .add (.t 79) (.c (.int .i64 1))),
 opI 81 (.idxs (.t 78) (.t 80)),
 mvI 82 7,
 opI 83 (.bin .eql (.t 81) (.t 82)),
 mvI 84 83,
 ⟨some 85, some (84, true), .p (.mv (.t 0))⟩,
 ⟨some 86, some (84, true), .p (.mv (.t 8))⟩,
 ⟨some 87, some (84, true), .p (.mv (.t 8))⟩,
 ⟨some 88, some (84, true), .p (.mv (.t 5))⟩,
 ⟨some 89, some (84, true), .p (.bin .add (.t 87) (.t 88))⟩,
 ⟨some 90, some (84, true), .p (.slcs (.t 85) (some (.t 86)) (some (.t 89)))⟩,
 ⟨some 91, some (84, true), .p (.mv (.t 1))⟩,
 ⟨some 92, some (84, true), .p (.bin .eql (.t 90) (.t 91))⟩,
 opI 93 (.pick (.t 84) (.t 92) (.c (.bool false)))]
def a6s : List AIns := [mvI 94 8,
 mvI 4 94]
def a6r : List AIns := [mvI 95 8,
 opI 96 (.bin .add (.t 95) (.c (.int .i64 1))),
 mvI 8 96]
def a6q : List AIns := [mvI 97 10,
 opI 98 (.bin .add (.t 97) (.c (.int .i64 1))),
 mvI 10 98]
def a6p : List AIns := [mvI 108 0,
 mvI 109 8,
 opI 110 (.slcs (.t 108) (some (.t 109)) none),
 mvI 111 1,
 ⟨some 112, none, .call a2l [(.t 110), (.t 111)]⟩,
 mvI 12 112]
def a6o : List AIns := [mvI 113 12,
 opI 114 (.bin .geq (.t 113) (.c (.int .i64 0)))]
def a6n : List AIns := [mvI 115 12,
 mvI 116 8,
 opI 117 (.bin .add (.t 115) (.t 116)),
 mvI 4 117]
def a6m : List AIns := [opI 4 (.mv (.c (.int .i64 (-1))))]
def a6l : List AIns := [mvI 133 0,
 mvI 134 8,
 opI 135 (.slcs (.t 133) (some (.t 134)) none),
 mvI 136 1,
 ⟨some 137, none, .call a2N [(.t 135), (.t 136)]⟩,
 mvI 13 137]
def a6k : List AIns := [mvI 138 13,
 opI 139 (.bin .lss (.t 138) (.c (.int .i64 0)))]
def a6j : List AIns := [opI 4 (.mv (.c (.int .i64 (-1))))]
def a6i : List AIns := [mvI 140 8,
 mvI 141 13,
 opI 142 (.bin .add (.t 140) (.t 141)),
 mvI 4 142]
noncomputable def a6P : ACode := .seq (.seq (rgI a6z) (.cond (.t 59) (.skip) (.exit 1))) (.block 2 (.seq (.seq (rgI a6y) (.cond (.t 64) (.seq (rgI a6x) (.seq (.seq (rgI a6w) (.cond (.t 73) (.seq (rgI a6v) (.ret)) (.skip))) (rgI a6u))) (.skip))) (.seq (.seq (rgI a6t) (.cond (.t 93) (.seq (rgI a6s) (.ret)) (.skip))) (.seq (rgI a6r) (.seq (rgI a6q) (.seq (.raw 25 (b1B Tryz.f87 25) false) (.cond (.t 107) (.seq (rgI a6p) (.seq (.seq (rgI a6o) (.cond (.t 114) (.seq (rgI a6n) (.ret)) (.skip))) (.seq (rgI a6m) (.ret)))) (.seq (.raw 30 (b1B Tryz.f87 30) false) (.cond (.t 132) (.seq (rgI a6l) (.seq (.seq (rgI a6k) (.cond (.t 139) (.seq (rgI a6j) (.ret)) (.skip))) (.seq (rgI a6i) (.ret)))) (.skip))))))))))
def a6h : List AIns := [opI 4 (.mv (.c (.int .i64 (-1))))]
noncomputable def a7D : ACode := .seq (rgI a0C) (.seq (rgI a0B) (.seq (.block 0 (.seq (rgI a0A) (.cond (.t 16) (.seq (rgI a1t) (.ret)) (.seq (rgI a1s) (.cond (.t 24) (.seq (rgI a1r) (.ret)) (.seq (rgI a6O) (.cond (.t 31) (.seq (rgI a6N) (.ret)) (.seq (.raw 8 (b1B Tryz.f87 8) false) (.cond (.t 36) (.seq (rgI a6M) (.ret)) (.skip)))))))))) (.seq (rgI a6L) (.seq (rgI a6D) (.seq (rgI a6C) (.seq (rgI a6B) (.seq (rgI a6A) (.seq (.block 1 (.loop a6P)) (.seq (rgI a6h) (.ret))))))))))
theorem a0Q : fchk Pr (fun _ _ => false) Tryz.f87 = some (a7D, [.tmp 4], 143) := by kernel_rfl
theorem a0R : Pr.funcs[a0F]? = some Tryz.f87 := Tryz.func87
def a1v : List AIns := [mvI 8 1,
 opI 9 (.bin .add (.t 8) (.c (.int .i64 1))),
 mvI 6 9]
def a1u : List AIns := [mvI 10 6,
 mvI 11 2,
 opI 12 (.bin .lss (.t 10) (.t 11))]
def a3q : List AIns := [mvI 15 6,
 mvI 7 15]
def a3p : List AIns := [mvI 16 7,
 mvI 17 1,
 opI 18 (.bin .gtr (.t 16) (.t 17)),
 mvI 19 18,
 ⟨some 20, some (19, true), .p (.mv (.t 0))⟩,
 ⟨some 21, some (19, true), .p (.mv (.t 7))⟩,
 ⟨some 22, some (19, true), .p (.idxp 1 (.t 20) (.t 21))⟩,
 ⟨some 23, some (19, true), .p (.load none (.t 22))⟩,
 ⟨some 24, some (19, true), .p (.mv (.t 0))⟩,
 ⟨some 25, some (19, true), .p (.mv (.t 7))⟩,
 ⟨some 26, some (19, true), .p (.bin .sub (.t 25) (.c (.int .i64 1)))⟩,
 ⟨some 27, some (19, true), .p (.idxp 1 (.t 24) (.t 26))⟩,
 ⟨some 28, some (19, true), .p (.load none (.t 27))⟩,
 ⟨some 29, some (19, true), .call b0w [(.t 23), (.t 28)]⟩,
 opI 30 (.pick (.t 19) (.t 29) (.c (.bool false)))]
def a3o : List AIns := [mvI 33 0,
 mvI 34 7,
 mvI 35 0,
 mvI 36 7,
 opI 37 (.bin .sub (.t 36) (.c (.int .i64 1))),
 mvI 38 0,
 mvI 39 7,
 opI 40 (.bin .sub (.t 39) (.c (.int .i64 1))),
 opI 41 (.idxp 1 (.t 38) (.t 40)),
 opI 42 (.load none (.t 41)),
 mvI 43 0,
 mvI 44 7,
 opI 45 (.idxp 1 (.t 43) (.t 44)),
 opI 46 (.load none (.t 45)),
 opI 47 (.idxp 1 (.t 33) (.t 34)),
 ⟨none, none, .e (.store 1 (.t 47) (.t 42))⟩,
 opI 48 (.idxp 1 (.t 35) (.t 37)),
 ⟨none, none, .e (.store 1 (.t 48) (.t 46))⟩]
def a3n : List AIns := [mvI 31 7,
 opI 32 (.bin .sub (.t 31) (.c (.int .i64 1))),
 mvI 7 32]
def a3s : ACode := .seq (.seq (.region a3p true) (.cond (.t 30) (.skip) (.exit 2))) (.seq (.block 3 (.region a3o true)) (rgI a3n))
def a3m : List AIns := [mvI 13 6,
 opI 14 (.bin .add (.t 13) (.c (.int .i64 1))),
 mvI 6 14]
def a3t : ACode := .seq (.seq (rgI a1u) (.cond (.t 12) (.skip) (.exit 0))) (.seq (.block 1 (.seq (rgI a3q) (.block 2 (.loop a3s)))) (rgI a3m))
def a3E : ACode := .seq (rgI a1v) (.block 0 (.loop a3t))
theorem a3r : fchk Pr (fun _ _ => false) Tryz.f92 = some (a3E, [], 49) := by kernel_rfl
theorem a3u : Pr.funcs[a0P]? = some Tryz.f92 := Tryz.func92
end Go.Abs
set_option maxRecDepth 100000
noncomputable section
namespace Go.Abs
open Go.Proofs
def a9l : List AIns := [opI 2 (.mv (.c (.int .i64 0)))]
def a9k : List AIns := [mvI 3 0,
 opI 4 (.bin .geq (.t 3) (.c (.int .u32 65536)))]
def a9j : List AIns := [mvI 5 0,
 opI 6 (.bin .shr (.t 5) (.c (.int .u64 16))),
 mvI 0 6]
def a9i : List AIns := [opI 2 (.mv (.c (.int .i64 16)))]
def a4g : List AIns := [mvI 7 0,
 opI 8 (.bin .geq (.t 7) (.c (.int .u32 256)))]
def a4f : List AIns := [mvI 9 0,
 opI 10 (.bin .shr (.t 9) (.c (.int .u64 8))),
 mvI 0 10]
def a4e : List AIns := [mvI 11 2,
 opI 12 (.bin .add (.t 11) (.c (.int .i64 8))),
 mvI 2 12]
def a2M : List AIns := [mvI 13 2,
 mvI 14 0,
 opI 15 (.conv .u8 (.t 14)),
 opI 16 (.idxs (.c (.str c7C)) (.t 15)),
 opI 17 (.conv .i64 (.t 16)),
 opI 18 (.bin .add (.t 13) (.t 17)),
 mvI 2 18]
def b7C : ACode := .seq (rgI a9l) (.seq (.seq (rgI a9k) (.cond (.t 4) (.seq (rgI a9j) (rgI a9i)) (.skip))) (.seq (.seq (rgI a4g) (.cond (.t 8) (.seq (rgI a4f) (rgI a4e)) (.skip))) (.seq (rgI a2M) (.ret))))
theorem b6e : fchk Pr (fun _ _ => false) Tryz.f101 = some (b7C, [.tmp 2], 19) := by kernel_rfl
theorem b6f : Pr.funcs[a1n]? = some Tryz.f101 := Tryz.func101
def a9h : List AIns := [opI 2 (.mv (.c (.int .i64 0)))]
def a9g : List AIns := [mvI 3 0,
 opI 4 (.bin .geq (.t 3) (.c (.int .u64 4294967296)))]
def b6b : List AIns := [mvI 5 0,
 opI 6 (.bin .shr (.t 5) (.c (.int .u64 32))),
 mvI 0 6]
def b6a : List AIns := [opI 2 (.mv (.c (.int .i64 32)))]
def a9f : List AIns := [mvI 7 0,
 opI 8 (.bin .geq (.t 7) (.c (.int .u64 65536)))]
def b5Z : List AIns := [mvI 9 0,
 opI 10 (.bin .shr (.t 9) (.c (.int .u64 16))),
 mvI 0 10]
def b5Y : List AIns := [mvI 11 2,
 opI 12 (.bin .add (.t 11) (.c (.int .i64 16))),
 mvI 2 12]
def a9e : List AIns := [mvI 13 0,
 opI 14 (.bin .geq (.t 13) (.c (.int .u64 256)))]
def b5X : List AIns := [mvI 15 0,
 opI 16 (.bin .shr (.t 15) (.c (.int .u64 8))),
 mvI 0 16]
def b5W : List AIns := [mvI 17 2,
 opI 18 (.bin .add (.t 17) (.c (.int .i64 8))),
 mvI 2 18]
def a8n : List AIns := [mvI 19 2,
 mvI 20 0,
 opI 21 (.conv .u8 (.t 20)),
 opI 22 (.idxs (.c (.str c7C)) (.t 21)),
 opI 23 (.conv .i64 (.t 22)),
 opI 24 (.bin .add (.t 19) (.t 23)),
 mvI 2 24]
def b7B : ACode := .seq (rgI a9h) (.seq (.seq (rgI a9g) (.cond (.t 4) (.seq (rgI b6b) (rgI b6a)) (.skip))) (.seq (.seq (rgI a9f) (.cond (.t 8) (.seq (rgI b5Z) (rgI b5Y)) (.skip))) (.seq (.seq (rgI a9e) (.cond (.t 14) (.seq (rgI b5X) (rgI b5W)) (.skip))) (.seq (rgI a8n) (.ret)))))
theorem b6c : fchk Pr (fun _ _ => false) Tryz.f102 = some (b7B, [.tmp 2], 25) := by kernel_rfl
theorem b6d : Pr.funcs[a5P]? = some Tryz.f102 := Tryz.func102
def b8u : List AIns := [⟨some 1, none, .e (.box 2 (.t 0))⟩,
 opI 2 (.mv (.c (.int .i64 0)))]
def b8t : List AIns := [opI 4 (.fldp (.t 1) 1),
 opI 5 (.load none (.t 4)),
 ⟨some 6, none, .call b3C [(.t 5)]⟩,
 opI 7 (.bin .eql (.t 6) (.c (.int .i64 0))),
 mvI 3 7]
def b8s : List AIns := [opI 2 (.mv (.c (.int .i64 0)))]
def b8r : List AIns := [opI 9 (.fldp (.t 1) 0),
 opI 10 (.load none (.t 9)),
 mvI 8 10]
def b8q : List AIns := [opI 2 (.mv (.c (.int .i64 (-1))))]
def b8p : List AIns := [opI 2 (.mv (.c (.int .i64 1)))]
def c9k : ACode := .seq (rgI b8u) (.seq (.block 0 (.seq (rgI b8t) (.cond (.t 3) (.seq (rgI b8s) (.ret)) (.seq (rgI b8r) (.cond (.t 8) (.seq (rgI b8q) (.ret)) (.skip)))))) (.seq (rgI b8p) (.ret)))
theorem c7i : fchk Pr (fun _ _ => false) Tryz.f105 = some (c9k, [.tmp 2], 11) := by kernel_rfl
theorem c7j : Pr.funcs[a3R]? = some Tryz.f105 := Tryz.func105
def c1M : List AIns := [⟨some 2, none, .p (.mv (.c (.str ⟨#[]⟩)))⟩]
def c1L : List AIns := [mvI 9 0,
 ⟨some 10, none, .call b3B [(.t 9)]⟩,
 mvI 0 10]
def c1K : List AIns := [mvI 11 0,
 opI 12 (.len (.t 11)),
 opI 13 (.bin .eql (.t 12) (.c (.int .i64 0)))]
def c1J : List AIns := [⟨some 2, none, .p (.mv (.c (.str ⟨#[48]⟩)))⟩]
def c1I : List AIns := [opI 3 (.mv (.c (.nil)))]
def b4G : List AIns := [mvI 14 0,
 opI 15 (.len (.t 14)),
 opI 16 (.bin .gtr (.t 15) (.c (.int .i64 0)))]
def c1H : List AIns := [mvI 18 0,
 ⟨some 19, none, .call a8G [(.t 18), (.c (.int .u32 1000000000))]⟩,
 mvI 17 19,
 opI 20 (.ext (.t 17) 0),
 opI 21 (.ext (.t 17) 1),
 mvI 4 20,
 mvI 5 21]
def c1G : List AIns := [opI 6 (.mv (.c (.int .i64 0)))]
def a8k : List AIns := [mvI 22 6,
 opI 23 (.bin .lss (.t 22) (.c (.int .i64 9))),
 mvI 24 23,
 ⟨some 25, some (24, true), .p (.mv (.t 4))⟩,
 ⟨some 26, some (24, true), .p (.len (.t 25))⟩,
 ⟨some 27, some (24, true), .p (.bin .gtr (.t 26) (.c (.int .i64 0)))⟩,
 ⟨some 28, some (24, true), .p (.mv (.t 27))⟩,
 ⟨some 29, some (28, false), .p (.mv (.t 5))⟩,
 ⟨some 30, some (28, false), .p (.bin .gtr (.t 29) (.c (.int .u32 0)))⟩,
 ⟨some 31, some (24, true), .p (.pick (.t 28) (.c (.bool true)) (.t 30))⟩,
 opI 32 (.pick (.t 24) (.t 31) (.c (.bool false)))]
def b4F : List AIns := [mvI 35 3,
 mvI 36 5,
 opI 37 (.bin .rem (.t 36) (.c (.int .u32 10))),
 opI 38 (.bin .add (.c (.int .u32 48)) (.t 37)),
 opI 39 (.conv .u8 (.t 38)),
 ⟨some 40, none, .e (.bsl 1 [(.t 39)])⟩,
 ⟨some 41, none, .e (.app 1 1 false (.t 35) (.t 40))⟩,
 mvI 3 41]
def b2y : List AIns := [mvI 42 5,
 opI 43 (.bin .quo (.t 42) (.c (.int .u32 10))),
 mvI 5 43]
def b2x : List AIns := [mvI 33 6,
 opI 34 (.bin .add (.t 33) (.c (.int .i64 1))),
 mvI 6 34]
def c1N : ACode := .seq (.seq (rgI a8k) (.cond (.t 32) (.skip) (.exit 2))) (.seq (.block 3 (.seq (rgI b4F) (rgI b2y))) (rgI b2x))
def a9c : List AIns := [mvI 44 4,
 mvI 0 44]
def b4I : ACode := .seq (.seq (rgI b4G) (.cond (.t 16) (.skip) (.exit 0))) (.block 1 (.seq (rgI c1H) (.seq (.seq (rgI c1G) (.block 2 (.loop c1N))) (rgI a9c))))
def a9b : List AIns := [mvI 45 3,
 opI 46 (.len (.t 45)),
 opI 47 (.bin .sub (.t 46) (.c (.int .i64 1))),
 opI 7 (.mv (.c (.int .i64 0))),
 mvI 8 47]
def b2w : List AIns := [mvI 48 7,
 mvI 49 8,
 opI 50 (.bin .lss (.t 48) (.t 49))]
def b8Y : List AIns := [mvI 55 3,
 mvI 56 7,
 mvI 57 3,
 mvI 58 8,
 mvI 59 3,
 mvI 60 8,
 opI 61 (.idxp 1 (.t 59) (.t 60)),
 opI 62 (.load none (.t 61)),
 mvI 63 3,
 mvI 64 7,
 opI 65 (.idxp 1 (.t 63) (.t 64)),
 opI 66 (.load none (.t 65)),
 opI 67 (.idxp 1 (.t 55) (.t 56)),
 ⟨none, none, .e (.store 1 (.t 67) (.t 62))⟩,
 opI 68 (.idxp 1 (.t 57) (.t 58)),
 ⟨none, none, .e (.store 1 (.t 68) (.t 66))⟩]
def b8X : List AIns := [mvI 51 7,
 opI 52 (.bin .add (.t 51) (.c (.int .i64 1))),
 mvI 53 8,
 opI 54 (.bin .sub (.t 53) (.c (.int .i64 1))),
 mvI 7 52,
 mvI 8 54]
def b4H : ACode := .seq (.seq (rgI b2w) (.cond (.t 50) (.skip) (.exit 4))) (.seq (.block 5 (.region b8Y true)) (rgI b8X))
def a9a : List AIns := [mvI 69 3,
 opI 70 (.b2s (.t 69)),
 mvI 2 70]
def d3o : ACode := .seq (rgI c1M) (.seq (rgI c1L) (.seq (.seq (rgI c1K) (.cond (.t 13) (.seq (rgI c1J) (.ret)) (.skip))) (.seq (rgI c1I) (.seq (.block 0 (.loop b4I)) (.seq (.seq (rgI a9b) (.block 4 (.loop b4H))) (.seq (rgI a9a) (.ret)))))))
theorem c9T : fchk Pr (fun _ _ => false) Tryz.f106 = some (d3o, [.tmp 2], 71) := by kernel_rfl
theorem c9U : Pr.funcs[a7W]? = some Tryz.f106 := Tryz.func106
def c8r : List AIns := [⟨some 4, none, .e (.box 2 (.c (.agg [.nil, .nil])))⟩,
 opI 5 (.mv (.c (.int .i64 0)))]
def c8q : List AIns := [mvI 9 0,
 mvI 10 1,
 ⟨some 11, none, .call a9K [(.t 9), (.t 10)]⟩,
 mvI 6 11]
def c2Z : List AIns := [mvI 12 6,
 opI 13 (.bin .neq (.t 12) (.c (.int .i64 0)))]
def c8p : List AIns := [opI 14 (.bld [.nil, .nil] []),
 mvI 15 6,
 ⟨none, none, .e (.store 2 (.t 4) (.t 14))⟩,
 mvI 5 15]
def c8o : List AIns := [mvI 17 0,
 ⟨some 18, none, .call b5f [(.t 17)]⟩,
 mvI 16 18,
 opI 19 (.ext (.t 16) 0),
 opI 20 (.ext (.t 16) 1),
 ⟨some 7, none, .e (.box 2 (.c (.agg [.nil, .nil])))⟩,
 ⟨none, none, .e (.store 2 (.t 7) (.t 19))⟩,
 mvI 8 20]
def c2Y : List AIns := [mvI 21 8,
 opI 22 (.un .not (.t 21))]
def c8n : List AIns := [opI 23 (.bld [.nil, .nil] []),
 ⟨none, none, .e (.store 2 (.t 4) (.t 23))⟩,
 opI 5 (.mv (.c (.int .i64 50)))]
def c8m : List AIns := [opI 24 (.load (some 2) (.t 7)),
 ⟨none, none, .e (.store 2 (.t 4) (.t 24))⟩,
 opI 5 (.mv (.c (.int .i64 0)))]
def d9I : ACode := .seq (rgI c8r) (.seq (.seq (rgI c8q) (.seq (rgI c2Z) (.cond (.t 13) (.seq (rgI c8p) (.ret)) (.skip)))) (.seq (rgI c8o) (.seq (.seq (rgI c2Y) (.cond (.t 22) (.seq (rgI c8n) (.ret)) (.skip))) (.seq (rgI c8m) (.ret)))))
theorem d6C : fchk Pr (fun _ _ => false) Tryz.f108 = some (d9I, [.cell 4 (some 2), .tmp 5], 25) := by kernel_rfl
theorem d6D : Pr.funcs[c7c]? = some Tryz.f108 := Tryz.func108
def b8j : List AIns := [⟨some 4, none, .e (.box 2 (.c (.agg [.bool false, .nil])))⟩]
def b8i : List AIns := [mvI 7 1,
 opI 8 (.len (.t 7)),
 mvI 5 8]
def b1Q : List AIns := [mvI 9 5,
 opI 10 (.bin .gtr (.t 9) (.c (.int .i64 0))),
 mvI 11 10,
 ⟨some 12, some (11, true), .p (.mv (.t 1))⟩,
 ⟨some 13, some (11, true), .p (.mv (.t 5))⟩,
 ⟨some 14, some (11, true), .p (.bin .sub (.t 13) (.c (.int .i64 1)))⟩,
 ⟨some 15, some (11, true), .p (.idxp 1 (.t 12) (.t 14))⟩,
 ⟨some 16, some (11, true), .p (.load none (.t 15))⟩,
 ⟨some 17, some (11, true), .p (.bin .eql (.t 16) (.c (.int .u32 0)))⟩,
 opI 18 (.pick (.t 11) (.t 17) (.c (.bool false)))]
def b8h : List AIns := [mvI 19 5,
 opI 20 (.bin .sub (.t 19) (.c (.int .i64 1))),
 mvI 5 20]
def b8k : ACode := .seq (.seq (rgI b1Q) (.cond (.t 18) (.skip) (.exit 0))) (.block 1 (rgI b8h))
def a8T : List AIns := [mvI 21 5,
 opI 22 (.bin .eql (.t 21) (.c (.int .i64 0)))]
def a8S : List AIns := [opI 23 (.bld [.bool false, .nil] []),
 ⟨none, none, .e (.store 2 (.t 4) (.t 23))⟩]
def a8R : List AIns := [mvI 24 5,
 ⟨some 25, none, .e (.mksl 1 4 (.int .u32 0) (.t 24) (.t 24))⟩,
 mvI 6 25]
def a8Q : List AIns := [mvI 26 6,
 mvI 27 1,
 ⟨some 28, none, .e (.cpy 1 (.t 26) (.t 27))⟩]
def a8P : List AIns := [mvI 29 0,
 mvI 30 6,
 opI 31 (.bld [.bool false, .nil] [(0, 1, (.t 29)), (1, 1, (.t 30))]),
 ⟨none, none, .e (.store 2 (.t 4) (.t 31))⟩]
def c9g : ACode := .seq (rgI b8j) (.seq (rgI b8i) (.seq (.block 0 (.loop b8k)) (.seq (.seq (rgI a8T) (.cond (.t 22) (.seq (rgI a8S) (.ret)) (.skip))) (.seq (rgI a8R) (.seq (rgI a8Q) (.seq (rgI a8P) (.ret)))))))
theorem c7g : fchk Pr (fun _ _ => false) Tryz.f109 = some (c9g, [.cell 4 (some 2)], 32) := by kernel_rfl
theorem c7h : Pr.funcs[a1m]? = some Tryz.f109 := Tryz.func109
def c5k : List AIns := [opI 4 (.mv (.c (.nil)))]
def c5j : List AIns := [mvI 8 0,
 opI 9 (.len (.t 8)),
 mvI 10 1,
 opI 11 (.len (.t 10)),
 opI 12 (.bin .lss (.t 9) (.t 11))]
def c5i : List AIns := [mvI 13 1,
 mvI 14 0,
 mvI 0 13,
 mvI 1 14]
def b7x : List AIns := [mvI 15 0,
 opI 16 (.len (.t 15)),
 opI 17 (.bin .add (.t 16) (.c (.int .i64 1))),
 ⟨some 18, none, .e (.mksl 1 4 (.int .u32 0) (.t 17) (.t 17))⟩,
 mvI 5 18]
def b7w : List AIns := [opI 6 (.mv (.c (.int .u64 0)))]
def b7v : List AIns := [mvI 19 0,
 opI 20 (.len (.t 19)),
 opI 21 (.mv (.c (.int .i64 0)))]
def b7u : List AIns := [opI 22 (.bin .lss (.t 21) (.t 20))]
def c5h : List AIns := [mvI 23 21,
 mvI 7 23]
def c5g : List AIns := [mvI 24 6,
 mvI 25 0,
 mvI 26 7,
 opI 27 (.idxp 1 (.t 25) (.t 26)),
 opI 28 (.load none (.t 27)),
 opI 29 (.conv .u64 (.t 28)),
 opI 30 (.bin .add (.t 24) (.t 29)),
 mvI 6 30]
def c5f : List AIns := [mvI 31 7,
 mvI 32 1,
 opI 33 (.len (.t 32)),
 opI 34 (.bin .lss (.t 31) (.t 33))]
def c2l : List AIns := [mvI 35 6,
 mvI 36 1,
 mvI 37 7,
 opI 38 (.idxp 1 (.t 36) (.t 37)),
 opI 39 (.load none (.t 38)),
 opI 40 (.conv .u64 (.t 39)),
 opI 41 (.bin .add (.t 35) (.t 40)),
 mvI 6 41]
def b4O : List AIns := [mvI 42 5,
 mvI 43 7,
 mvI 44 6,
 opI 45 (.conv .u32 (.t 44)),
 opI 46 (.idxp 1 (.t 42) (.t 43)),
 ⟨none, none, .e (.store 1 (.t 46) (.t 45))⟩]
def b4N : List AIns := [mvI 47 6,
 opI 48 (.bin .shr (.t 47) (.c (.int .u64 32))),
 mvI 6 48]
def b4M : List AIns := [opI 49 (.bin .add (.t 21) (.c (.int .i64 1))),
 mvI 21 49]
def b3q : ACode := .seq (rgI b7u) (.seq (.cond (.t 22) (.skip) (.exit 0)) (.seq (.block 1 (.seq (rgI c5h) (.seq (rgI c5g) (.seq (.seq (rgI c5f) (.cond (.t 34) (rgI c2l) (.skip))) (.seq (rgI b4O) (rgI b4N)))))) (rgI b4M)))
def a8m : List AIns := [mvI 50 5,
 mvI 51 0,
 opI 52 (.len (.t 51)),
 mvI 53 6,
 opI 54 (.conv .u32 (.t 53)),
 opI 55 (.idxp 1 (.t 50) (.t 52)),
 ⟨none, none, .e (.store 1 (.t 55) (.t 54))⟩]
def a8l : List AIns := [mvI 56 5,
 ⟨some 57, none, .call a0u [(.t 56)]⟩,
 mvI 4 57]
def d5L : ACode := .seq (rgI c5k) (.seq (.seq (rgI c5j) (.cond (.t 12) (rgI c5i) (.skip))) (.seq (rgI b7x) (.seq (rgI b7w) (.seq (.seq (rgI b7v) (.block 0 (.loop b3q))) (.seq (rgI a8m) (.seq (rgI a8l) (.ret)))))))
theorem d3C : fchk Pr (fun _ _ => false) Tryz.f110 = some (d5L, [.tmp 4], 58) := by kernel_rfl
theorem d3D : Pr.funcs[a8I]? = some Tryz.f110 := Tryz.func110
def c5d : List AIns := [opI 4 (.mv (.c (.int .i64 0)))]
def c5c : List AIns := [mvI 6 0,
 ⟨some 7, none, .call a0u [(.t 6)]⟩,
 mvI 8 1,
 ⟨some 9, none, .call a0u [(.t 8)]⟩,
 mvI 0 7,
 mvI 1 9]
def c5b : List AIns := [mvI 10 0,
 opI 11 (.len (.t 10)),
 mvI 12 1,
 opI 13 (.len (.t 12)),
 opI 14 (.bin .neq (.t 11) (.t 13))]
def c5a : List AIns := [mvI 15 0,
 opI 16 (.len (.t 15)),
 mvI 17 1,
 opI 18 (.len (.t 17)),
 opI 19 (.bin .lss (.t 16) (.t 18))]
def c4Z : List AIns := [opI 4 (.mv (.c (.int .i64 (-1))))]
def c4Y : List AIns := [opI 4 (.mv (.c (.int .i64 1)))]
def c4X : List AIns := [mvI 20 0,
 opI 21 (.len (.t 20)),
 opI 22 (.bin .sub (.t 21) (.c (.int .i64 1))),
 mvI 5 22]
def b7t : List AIns := [mvI 23 5,
 opI 24 (.bin .geq (.t 23) (.c (.int .i64 0)))]
def c4W : List AIns := [mvI 27 0,
 mvI 28 5,
 opI 29 (.idxp 1 (.t 27) (.t 28)),
 opI 30 (.load none (.t 29)),
 mvI 31 1,
 mvI 32 5,
 opI 33 (.idxp 1 (.t 31) (.t 32)),
 opI 34 (.load none (.t 33)),
 opI 35 (.bin .neq (.t 30) (.t 34))]
def c4V : List AIns := [mvI 36 0,
 mvI 37 5,
 opI 38 (.idxp 1 (.t 36) (.t 37)),
 opI 39 (.load none (.t 38)),
 mvI 40 1,
 mvI 41 5,
 opI 42 (.idxp 1 (.t 40) (.t 41)),
 opI 43 (.load none (.t 42)),
 opI 44 (.bin .lss (.t 39) (.t 43))]
def c2f : List AIns := [opI 4 (.mv (.c (.int .i64 (-1))))]
def c2e : List AIns := [opI 4 (.mv (.c (.int .i64 1)))]
def c2d : List AIns := [mvI 25 5,
 opI 26 (.bin .sub (.t 25) (.c (.int .i64 1))),
 mvI 5 26]
def c5e : ACode := .seq (.seq (rgI b7t) (.cond (.t 24) (.skip) (.exit 0))) (.seq (.block 1 (.seq (.region c4W true) (.cond (.t 35) (.seq (.seq (.region c4V true) (.cond (.t 44) (.seq (rgI c2f) (.ret)) (.skip))) (.seq (rgI c2e) (.ret))) (.skip)))) (rgI c2d))
def b4L : List AIns := [opI 4 (.mv (.c (.int .i64 0)))]
def d5K : ACode := .seq (rgI c5d) (.seq (rgI c5c) (.seq (.seq (rgI c5b) (.cond (.t 14) (.seq (.seq (rgI c5a) (.cond (.t 19) (.seq (rgI c4Z) (.ret)) (.skip))) (.seq (rgI c4Y) (.ret))) (.skip))) (.seq (.seq (rgI c4X) (.block 0 (.loop c5e))) (.seq (rgI b4L) (.ret)))))
theorem d3z : fchk Pr (fun _ _ => false) Tryz.f111 = some (d5K, [.tmp 4], 45) := by kernel_rfl
theorem d3A : Pr.funcs[b0v]? = some Tryz.f111 := Tryz.func111
def c4C : List AIns := [opI 4 (.mv (.c (.nil))),
 opI 5 (.mv (.c (.int .i64 0)))]
def c4B : List AIns := [mvI 6 0,
 mvI 7 1,
 ⟨some 8, none, .call b0v [(.t 6), (.t 7)]⟩,
 opI 9 (.bin .lss (.t 8) (.c (.int .i64 0)))]
def d3p : List AIns := [opI 4 (.mv (.c (.nil))),
 opI 5 (.mv (.c (.int .i64 10)))]
def c4A : List AIns := [mvI 10 0,
 ⟨some 11, none, .call a0u [(.t 10)]⟩,
 mvI 12 1,
 ⟨some 13, none, .call a0u [(.t 12)]⟩,
 ⟨some 14, none, .call b0u [(.t 11), (.t 13)]⟩,
 mvI 4 14,
 opI 5 (.mv (.c (.int .i64 0)))]
def d5H : ACode := .seq (rgI c4C) (.seq (.seq (rgI c4B) (.cond (.t 9) (.seq (rgI d3p) (.ret)) (.skip))) (.seq (rgI c4A) (.ret)))
theorem d3q : fchk Pr (fun _ _ => false) Tryz.f112 = some (d5H, [.tmp 4, .tmp 5], 15) := by kernel_rfl
theorem d3r : Pr.funcs[c3B]? = some Tryz.f112 := Tryz.func112
def c4K : List AIns := [opI 4 (.mv (.c (.nil)))]
def c4J : List AIns := [mvI 9 0,
 ⟨some 10, none, .call a0u [(.t 9)]⟩,
 mvI 11 1,
 ⟨some 12, none, .call a0u [(.t 11)]⟩,
 mvI 0 10,
 mvI 1 12]
def c4I : List AIns := [mvI 13 0,
 opI 14 (.len (.t 13)),
 mvI 15 1,
 opI 16 (.len (.t 15)),
 opI 17 (.bin .add (.t 14) (.t 16)),
 ⟨some 18, none, .e (.mksl 1 4 (.int .u32 0) (.t 17) (.t 17))⟩,
 mvI 5 18]
def c4H : List AIns := [mvI 19 0,
 opI 20 (.len (.t 19)),
 opI 21 (.mv (.c (.int .i64 0)))]
def b7r : List AIns := [opI 22 (.bin .lss (.t 21) (.t 20))]
def c4G : List AIns := [mvI 23 21,
 mvI 6 23]
def c4F : List AIns := [opI 7 (.mv (.c (.int .u64 0)))]
def c4E : List AIns := [mvI 24 1,
 opI 25 (.len (.t 24)),
 opI 26 (.mv (.c (.int .i64 0)))]
def b7q : List AIns := [opI 27 (.bin .lss (.t 26) (.t 25))]
def c4D : List AIns := [mvI 28 26,
 mvI 8 28]
def c1V : List AIns := [mvI 29 7,
 mvI 30 0,
 mvI 31 6,
 opI 32 (.idxp 1 (.t 30) (.t 31)),
 opI 33 (.load none (.t 32)),
 opI 34 (.conv .u64 (.t 33)),
 mvI 35 1,
 mvI 36 8,
 opI 37 (.idxp 1 (.t 35) (.t 36)),
 opI 38 (.load none (.t 37)),
 opI 39 (.conv .u64 (.t 38)),
 opI 40 (.bin .mul (.t 34) (.t 39)),
 mvI 41 5,
 mvI 42 6,
 mvI 43 8,
 opI 44 (.bin .add (.t 42) (.t 43)),
 opI 45 (.idxp 1 (.t 41) (.t 44)),
 opI 46 (.load none (.t 45)),
 opI 47 (.conv .u64 (.t 46)),
 opI 48 (.bin .add (.t 40) (.t 47)),
 opI 49 (.bin .add (.t 29) (.t 48)),
 mvI 7 49]
def c1U : List AIns := [mvI 50 5,
 mvI 51 6,
 mvI 52 8,
 opI 53 (.bin .add (.t 51) (.t 52)),
 mvI 54 7,
 opI 55 (.conv .u32 (.t 54)),
 opI 56 (.idxp 1 (.t 50) (.t 53)),
 ⟨none, none, .e (.store 1 (.t 56) (.t 55))⟩]
def c1T : List AIns := [mvI 57 7,
 opI 58 (.bin .shr (.t 57) (.c (.int .u64 32))),
 mvI 7 58]
def c1S : List AIns := [opI 59 (.bin .add (.t 26) (.c (.int .i64 1))),
 mvI 26 59]
def c4L : ACode := .seq (rgI b7q) (.seq (.cond (.t 27) (.skip) (.exit 2)) (.seq (.block 3 (.seq (rgI c4D) (.seq (.region c1V true) (.seq (rgI c1U) (rgI c1T))))) (rgI c1S)))
def c1R : List AIns := [mvI 60 5,
 mvI 61 6,
 mvI 62 1,
 opI 63 (.len (.t 62)),
 opI 64 (.bin .add (.t 61) (.t 63)),
 mvI 65 7,
 opI 66 (.conv .u32 (.t 65)),
 opI 67 (.idxp 1 (.t 60) (.t 64)),
 ⟨none, none, .e (.store 1 (.t 67) (.t 66))⟩]
def c1Q : List AIns := [opI 68 (.bin .add (.t 21) (.c (.int .i64 1))),
 mvI 21 68]
def c4M : ACode := .seq (rgI b7r) (.seq (.cond (.t 22) (.skip) (.exit 0)) (.seq (.block 1 (.seq (rgI c4G) (.seq (rgI c4F) (.seq (.seq (rgI c4E) (.block 2 (.loop c4L))) (rgI c1R))))) (rgI c1Q)))
def b4J : List AIns := [mvI 69 5,
 ⟨some 70, none, .call a0u [(.t 69)]⟩,
 mvI 4 70]
def d5I : ACode := .seq (rgI c4K) (.seq (rgI c4J) (.seq (rgI c4I) (.seq (.seq (rgI c4H) (.block 0 (.loop c4M))) (.seq (rgI b4J) (.ret)))))
theorem d3t : fchk Pr (fun _ _ => false) Tryz.f113 = some (d5I, [.tmp 4], 71) := by kernel_rfl
theorem d3u : Pr.funcs[a8H]? = some Tryz.f113 := Tryz.func113
def a0Y : List AIns := [opI 4 (.mv (.c (.bool false)))]
def a0X : List AIns := [mvI 5 0,
 opI 6 (.lens (.t 5)),
 mvI 7 1,
 opI 8 (.lens (.t 7)),
 opI 9 (.bin .geq (.t 6) (.t 8)),
 mvI 10 9,
 ⟨some 11, some (10, true), .p (.mv (.t 0))⟩,
 ⟨some 12, some (10, true), .p (.mv (.t 1))⟩,
 ⟨some 13, some (10, true), .p (.lens (.t 12))⟩,
 ⟨some 14, some (10, true), .p (.slcs (.t 11) none (some (.t 13)))⟩,
 ⟨some 15, some (10, true), .p (.mv (.t 1))⟩,
 ⟨some 16, some (10, true), .p (.bin .eql (.t 14) (.t 15))⟩,
 opI 17 (.pick (.t 10) (.t 16) (.c (.bool false))),
 mvI 4 17]
def a4Y : ACode := .seq (rgI a0Y) (.seq (rgI a0X) (.ret))
theorem a1O : fchk Pr (fun _ _ => false) Tryz.f121 = some (a4Y, [.tmp 4], 18) := by kernel_rfl
theorem a1P : Pr.funcs[a1h]? = some Tryz.f121 := Tryz.func121
def a8f : List AIns := [opI 8 (.mv (.c (.nil)))]
def a8e : List AIns := [mvI 12 3,
 opI 13 (.bin .eql (.t 12) (.c (.int .i64 0)))]
def b4j : List AIns := [opI 8 (.mv (.c (.nil)))]
def a8d : List AIns := [mvI 14 1,
 ⟨some 15, none, .p (.bin .eql (.t 14) (.c (.str ⟨#[]⟩)))⟩]
def b4i : List AIns := [mvI 16 0,
 mvI 17 3,
 ⟨some 18, none, .call b8c [(.t 16), (.t 17)]⟩,
 mvI 8 18]
def a8c : List AIns := [mvI 19 3,
 opI 20 (.bin .lss (.t 19) (.c (.int .i64 0)))]
def a8b : List AIns := [mvI 21 0,
 mvI 22 1,
 ⟨some 23, none, .call b3n [(.t 21), (.t 22)]⟩,
 opI 24 (.bin .add (.t 23) (.c (.int .i64 1))),
 mvI 3 24]
def a8a : List AIns := [mvI 25 3,
 mvI 26 0,
 opI 27 (.lens (.t 26)),
 opI 28 (.bin .add (.t 27) (.c (.int .i64 1))),
 opI 29 (.mnx false (.t 25) (.t 28)),
 mvI 3 29]
def a7Z : List AIns := [mvI 30 3,
 ⟨some 31, none, .e (.mksl 1 16 (.str ⟨#[]⟩) (.t 30) (.t 30))⟩,
 mvI 9 31]
def a7Y : List AIns := [mvI 32 3,
 opI 33 (.bin .sub (.t 32) (.c (.int .i64 1))),
 mvI 3 33]
def a7e : List AIns := [opI 10 (.mv (.c (.int .i64 0)))]
def a3l : List AIns := [mvI 34 10,
 mvI 35 3,
 opI 36 (.bin .lss (.t 34) (.t 35))]
def a7d : List AIns := [mvI 37 0,
 mvI 38 1,
 ⟨some 39, none, .call a8F [(.t 37), (.t 38)]⟩,
 mvI 11 39]
def a7c : List AIns := [mvI 40 11,
 opI 41 (.bin .lss (.t 40) (.c (.int .i64 0)))]
def a7b : List AIns := [mvI 42 9,
 mvI 43 10,
 mvI 44 0,
 mvI 45 11,
 mvI 46 2,
 opI 47 (.bin .add (.t 45) (.t 46)),
 opI 48 (.slcs (.t 44) none (some (.t 47))),
 opI 49 (.idxp 1 (.t 42) (.t 43)),
 ⟨none, none, .e (.store 1 (.t 49) (.t 48))⟩]
def a7a : List AIns := [mvI 50 0,
 mvI 51 11,
 mvI 52 1,
 opI 53 (.lens (.t 52)),
 opI 54 (.bin .add (.t 51) (.t 53)),
 opI 55 (.slcs (.t 50) (some (.t 54)) none),
 mvI 0 55]
def a6Z : List AIns := [mvI 56 10,
 opI 57 (.bin .add (.t 56) (.c (.int .i64 1))),
 mvI 10 57]
def b4l : ACode := .seq (.seq (rgI a3l) (.cond (.t 36) (.skip) (.exit 0))) (.block 1 (.seq (rgI a7d) (.seq (.seq (rgI a7c) (.cond (.t 41) (.exit 0) (.skip))) (.seq (rgI a7b) (.seq (rgI a7a) (rgI a6Z))))))
def a6Y : List AIns := [mvI 58 9,
 mvI 59 10,
 mvI 60 0,
 opI 61 (.idxp 1 (.t 58) (.t 59)),
 ⟨none, none, .e (.store 1 (.t 61) (.t 60))⟩]
def a6X : List AIns := [mvI 62 9,
 mvI 63 10,
 opI 64 (.bin .add (.t 63) (.c (.int .i64 1))),
 opI 65 (.slc 1 (.t 62) none (some (.t 64)) none),
 mvI 8 65]
def b5D : ACode := .seq (rgI a8f) (.seq (.seq (rgI a8e) (.cond (.t 13) (.seq (rgI b4j) (.ret)) (.skip))) (.seq (.seq (rgI a8d) (.cond (.t 15) (.seq (rgI b4i) (.ret)) (.skip))) (.seq (.seq (rgI a8c) (.cond (.t 20) (rgI a8b) (.skip))) (.seq (rgI a8a) (.seq (rgI a7Z) (.seq (rgI a7Y) (.seq (rgI a7e) (.seq (.block 0 (.loop b4l)) (.seq (rgI a6Y) (.seq (rgI a6X) (.ret)))))))))))
theorem b4k : fchk Pr (fun _ _ => false) Tryz.f122 = some (b5D, [.tmp 8], 66) := by kernel_rfl
theorem b4m : Pr.funcs[a4B]? = some Tryz.f122 := Tryz.func122
def c2k : List AIns := [opI 2 (.mv (.c (.int .i64 0)))]
def c2j : List AIns := [mvI 3 0,
 ⟨some 4, none, .call a0u [(.t 3)]⟩,
 mvI 0 4]
def c2i : List AIns := [mvI 5 0,
 opI 6 (.len (.t 5)),
 opI 7 (.bin .eql (.t 6) (.c (.int .i64 0)))]
def c2h : List AIns := [opI 2 (.mv (.c (.int .i64 0)))]
def c2g : List AIns := [mvI 8 0,
 opI 9 (.len (.t 8)),
 opI 10 (.bin .sub (.t 9) (.c (.int .i64 1))),
 opI 11 (.bin .mul (.c (.int .i64 32)) (.t 10)),
 mvI 12 0,
 mvI 13 0,
 opI 14 (.len (.t 13)),
 opI 15 (.bin .sub (.t 14) (.c (.int .i64 1))),
 opI 16 (.idxp 1 (.t 12) (.t 15)),
 opI 17 (.load none (.t 16)),
 ⟨some 18, none, .call a1n [(.t 17)]⟩,
 opI 19 (.bin .add (.t 11) (.t 18)),
 mvI 2 19]
def d3B : ACode := .seq (rgI c2k) (.seq (rgI c2j) (.seq (.seq (rgI c2i) (.cond (.t 7) (.seq (rgI c2h) (.ret)) (.skip))) (.seq (rgI c2g) (.ret))))
theorem c9X : fchk Pr (fun _ _ => false) Tryz.f137 = some (d3B, [.tmp 2], 20) := by kernel_rfl
theorem c9Y : Pr.funcs[b3C]? = some Tryz.f137 := Tryz.func137
def c1P : List AIns := [opI 2 (.mv (.c (.nil)))]
def c1O : List AIns := [mvI 3 0,
 ⟨some 4, none, .call a0u [(.t 3)]⟩,
 ⟨some 5, none, .e (.app 1 4 false (.c (.nil)) (.t 4))⟩,
 mvI 2 5]
def d3s : ACode := .seq (rgI c1P) (.seq (rgI c1O) (.ret))
theorem c9V : fchk Pr (fun _ _ => false) Tryz.f138 = some (d3s, [.tmp 2], 6) := by kernel_rfl
theorem c9W : Pr.funcs[b3B]? = some Tryz.f138 := Tryz.func138
def b2q : List AIns := [opI 4 (.mv (.c (.nil))),
 opI 5 (.mv (.c (.int .u32 0)))]
def b2p : List AIns := [mvI 9 0,
 opI 10 (.len (.t 9)),
 ⟨some 11, none, .e (.mksl 1 4 (.int .u32 0) (.t 10) (.t 10))⟩,
 mvI 6 11]
def b2o : List AIns := [opI 7 (.mv (.c (.int .u64 0)))]
def b2n : List AIns := [mvI 12 0,
 opI 13 (.len (.t 12)),
 opI 14 (.bin .sub (.t 13) (.c (.int .i64 1))),
 mvI 8 14]
def a6f : List AIns := [mvI 15 8,
 opI 16 (.bin .geq (.t 15) (.c (.int .i64 0)))]
def b2m : List AIns := [mvI 19 7,
 opI 20 (.bin .shl (.t 19) (.c (.int .u64 32))),
 mvI 21 0,
 mvI 22 8,
 opI 23 (.idxp 1 (.t 21) (.t 22)),
 opI 24 (.load none (.t 23)),
 opI 25 (.conv .u64 (.t 24)),
 opI 26 (.bin .or (.t 20) (.t 25)),
 mvI 7 26]
def b2l : List AIns := [mvI 27 6,
 mvI 28 8,
 mvI 29 7,
 mvI 30 1,
 opI 31 (.conv .u64 (.t 30)),
 opI 32 (.bin .quo (.t 29) (.t 31)),
 opI 33 (.conv .u32 (.t 32)),
 opI 34 (.idxp 1 (.t 27) (.t 28)),
 ⟨none, none, .e (.store 1 (.t 34) (.t 33))⟩]
def b2k : List AIns := [mvI 35 7,
 mvI 36 1,
 opI 37 (.conv .u64 (.t 36)),
 opI 38 (.bin .rem (.t 35) (.t 37)),
 mvI 7 38]
def b2j : List AIns := [mvI 17 8,
 opI 18 (.bin .sub (.t 17) (.c (.int .i64 1))),
 mvI 8 18]
def c7U : ACode := .seq (.seq (rgI a6f) (.cond (.t 16) (.skip) (.exit 0))) (.seq (.block 1 (.seq (rgI b2m) (.seq (rgI b2l) (rgI b2k)))) (rgI b2j))
def b2i : List AIns := [mvI 39 6,
 ⟨some 40, none, .call a0u [(.t 39)]⟩,
 mvI 41 7,
 opI 42 (.conv .u32 (.t 41)),
 mvI 4 40,
 mvI 5 42]
def c9P : ACode := .seq (rgI b2q) (.seq (rgI b2p) (.seq (rgI b2o) (.seq (.seq (rgI b2n) (.block 0 (.loop c7U))) (.seq (rgI b2i) (.ret)))))
theorem b8M : fchk Pr (fun _ _ => false) Tryz.f139 = some (c9P, [.tmp 4, .tmp 5], 43) := by kernel_rfl
theorem b8N : Pr.funcs[a8G]? = some Tryz.f139 := Tryz.func139
def b6o : List AIns := [opI 4 (.mv (.c (.int .i64 0)))]
def a7I : List AIns := [mvI 11 0,
 opI 12 (.len (.t 11)),
 opI 13 (.bin .gtr (.t 12) (.c (.int .i64 12))),
 mvI 14 13,
 ⟨some 15, some (14, false), .p (.mv (.t 1))⟩,
 ⟨some 16, some (14, false), .p (.mv (.t 15))⟩,
 ⟨some 17, some (16, true), .p (.mv (.t 0))⟩,
 ⟨some 18, some (16, true), .call b8e [(.t 17)]⟩,
 ⟨some 19, some (16, true), .p (.bin .gtr (.t 18) (.c (.int .i64 256)))⟩,
 ⟨some 20, some (14, false), .p (.pick (.t 16) (.t 19) (.c (.bool false)))⟩,
 opI 21 (.pick (.t 14) (.c (.bool true)) (.t 20)),
 mvI 5 21]
def b1b : List AIns := [mvI 22 0,
 opI 23 (.len (.t 22)),
 opI 24 (.mv (.c (.int .i64 0)))]
def b1a : List AIns := [opI 25 (.bin .lss (.t 24) (.t 23))]
def b6n : List AIns := [opI 26 (.idxp 1 (.t 22) (.t 24)),
 opI 27 (.load none (.t 26)),
 mvI 7 27]
def a7H : List AIns := [mvI 28 5,
 mvI 29 28,
 ⟨some 30, some (29, false), .p (.mv (.t 7))⟩,
 ⟨some 31, some (29, false), .p (.len (.t 30))⟩,
 ⟨some 32, some (29, false), .p (.bin .gtr (.t 31) (.c (.int .i64 12)))⟩,
 opI 33 (.pick (.t 29) (.c (.bool true)) (.t 32)),
 mvI 5 33]
def a7G : List AIns := [opI 34 (.bin .add (.t 24) (.c (.int .i64 1))),
 mvI 24 34]
def b6p : ACode := .seq (rgI b1a) (.seq (.cond (.t 25) (.skip) (.exit 0)) (.seq (.block 1 (.seq (rgI b6n) (rgI a7H))) (rgI a7G)))
def a7F : List AIns := [mvI 35 5]
def b0Z : List AIns := [opI 4 (.mv (.c (.int .i64 40)))]
def a7E : List AIns := [mvI 36 0,
 opI 37 (.len (.t 36)),
 opI 38 (.bin .eql (.t 37) (.c (.int .i64 0)))]
def a9O : List AIns := [opI 4 (.mv (.c (.int .i64 41)))]
def a5W : List AIns := [mvI 40 0,
 ⟨some 41, none, .call b1v [(.t 40)]⟩,
 mvI 39 41,
 opI 42 (.ext (.t 39) 0),
 opI 43 (.ext (.t 39) 1),
 opI 44 (.ext (.t 39) 2),
 mvI 8 42,
 mvI 9 43,
 mvI 10 44]
def a5V : List AIns := [mvI 45 10,
 mvI 4 45]
def c8l : ACode := .seq (rgI b6o) (.seq (rgI a7I) (.seq (.seq (rgI b1b) (.block 0 (.loop b6p))) (.seq (.seq (rgI a7F) (.cond (.t 35) (.seq (rgI b0Z) (.ret)) (.skip))) (.seq (.seq (rgI a7E) (.cond (.t 38) (.seq (rgI a9O) (.ret)) (.skip))) (.seq (rgI a5W) (.seq (rgI a5V) (.ret)))))))
theorem c6G : fchk Pr (fun _ _ => false) Tryz.f140 = some (c8l, [.tmp 4], 46) := by kernel_rfl
theorem c6H : Pr.funcs[a9K]? = some Tryz.f140 := Tryz.func140
def b9n : List AIns := [⟨some 2, none, .e (.box 2 (.c (.agg [.nil, .nil])))⟩,
 opI 3 (.mv (.c (.bool false)))]
def b9m : List AIns := [⟨some 12, none, .call b3m [(.c (.int .i64 1))]⟩,
 ⟨some 13, none, .e (.bslm 2 [(.t 12)])⟩,
 opI 14 (.bld [.nil, .nil] [(0, 1, (.t 13))]),
 ⟨some 4, none, .e (.box 2 (.c (.agg [.nil, .nil])))⟩,
 ⟨none, none, .e (.store 2 (.t 4) (.t 14))⟩]
def b9l : List AIns := [mvI 15 0,
 opI 16 (.len (.t 15)),
 opI 17 (.mv (.c (.int .i64 0)))]
def b2W : List AIns := [opI 18 (.bin .lss (.t 17) (.t 16))]
def b9k : List AIns := [mvI 19 17,
 mvI 5 19]
def b9j : List AIns := [mvI 20 5,
 opI 21 (.bin .add (.t 20) (.c (.int .i64 1))),
 ⟨some 22, none, .e (.mksl 2 32 (.agg [.bool false, .nil]) (.c (.int .i64 0)) (.t 21))⟩,
 mvI 6 22]
def b9i : List AIns := [opI 7 (.mv (.c (.int .i64 0)))]
def b2V : List AIns := [mvI 23 7,
 mvI 24 5,
 opI 25 (.bin .leq (.t 23) (.t 24))]
def b9h : List AIns := [mvI 29 0,
 mvI 30 5,
 opI 31 (.idxp 1 (.t 29) (.t 30)),
 opI 32 (.load none (.t 31)),
 mvI 33 0,
 mvI 34 7,
 opI 35 (.idxp 1 (.t 33) (.t 34)),
 opI 36 (.load none (.t 35)),
 ⟨some 37, none, .call c3E [(.t 32), (.t 36)]⟩,
 mvI 28 37,
 opI 38 (.ext (.t 28) 0),
 opI 39 (.ext (.t 28) 1),
 ⟨some 8, none, .e (.box 2 (.c (.agg [.bool false, .nil])))⟩,
 ⟨none, none, .e (.store 2 (.t 8) (.t 38))⟩,
 mvI 9 39]
def b9g : List AIns := [opI 10 (.mv (.c (.int .i64 0)))]
def b1j : List AIns := [mvI 40 10,
 mvI 41 7,
 opI 42 (.bin .lss (.t 40) (.t 41))]
def b6w : List AIns := [mvI 45 6,
 mvI 11 45]
def b1i : List AIns := [mvI 46 7,
 mvI 47 5,
 opI 48 (.bin .lss (.t 46) (.t 47))]
def b6v : List AIns := [opI 49 (.fldp (.t 4) 1),
 opI 50 (.load none (.t 49)),
 mvI 51 7,
 opI 52 (.idxp 1 (.t 50) (.t 51)),
 opI 53 (.load none (.t 52)),
 mvI 11 53]
def b1h : List AIns := [opI 54 (.fldp (.t 4) 0),
 opI 55 (.load none (.t 54)),
 mvI 56 10,
 opI 57 (.bin .add (.t 56) (.c (.int .i64 1))),
 opI 58 (.idxp 2 (.t 55) (.t 57)),
 opI 59 (.load (some 2) (.t 58)),
 opI 60 (.load (some 2) (.t 8)),
 ⟨some 61, none, .call a5N [(.t 59), (.t 60)]⟩,
 mvI 62 6,
 mvI 63 10,
 opI 64 (.idxp 2 (.t 62) (.t 63)),
 opI 65 (.load (some 2) (.t 64)),
 mvI 66 11,
 mvI 67 10,
 opI 68 (.idxp 2 (.t 66) (.t 67)),
 opI 69 (.load (some 2) (.t 68)),
 ⟨some 70, none, .call a5N [(.t 65), (.t 69)]⟩,
 ⟨some 71, none, .call b0t [(.t 61), (.t 70)]⟩,
 ⟨none, none, .e (.store 2 (.t 8) (.t 71))⟩]
def b1g : List AIns := [opI 73 (.load (some 2) (.t 8)),
 opI 74 (.fldp (.t 4) 0),
 opI 75 (.load none (.t 74)),
 mvI 76 10,
 opI 77 (.idxp 2 (.t 75) (.t 76)),
 opI 78 (.load (some 2) (.t 77)),
 ⟨some 79, none, .call a9I [(.t 73), (.t 78)]⟩,
 mvI 72 79,
 opI 80 (.ext (.t 72) 0),
 opI 81 (.ext (.t 72) 1),
 opI 82 (.ext (.t 72) 2),
 ⟨none, none, .e (.store 2 (.t 8) (.t 80))⟩]
def b1f : List AIns := [mvI 43 10,
 opI 44 (.bin .add (.t 43) (.c (.int .i64 1))),
 mvI 10 44]
def b9o : ACode := .seq (.seq (rgI b1j) (.cond (.t 42) (.skip) (.exit 4))) (.seq (.block 5 (.seq (rgI b6w) (.seq (.seq (rgI b1i) (.cond (.t 48) (rgI b6v) (.skip))) (.seq (.region b1h true) (.region b1g true))))) (rgI b1f))
def b6u : List AIns := [mvI 83 6,
 opI 84 (.load (some 2) (.t 8)),
 ⟨some 85, none, .e (.bsl 2 [(.t 84)])⟩,
 ⟨some 86, none, .e (.app 2 32 false (.t 83) (.t 85))⟩,
 mvI 6 86]
def b6t : List AIns := [mvI 26 7,
 opI 27 (.bin .add (.t 26) (.c (.int .i64 1))),
 mvI 7 27]
def b9p : ACode := .seq (.seq (rgI b2V) (.cond (.t 25) (.skip) (.exit 2))) (.seq (.block 3 (.seq (.region b9h true) (.seq (.seq (rgI b9g) (.block 4 (.loop b9o))) (rgI b6u)))) (rgI b6t))
def b6s : List AIns := [mvI 87 6,
 mvI 88 5,
 opI 89 (.idxp 2 (.t 87) (.t 88)),
 opI 90 (.load (some 2) (.t 89)),
 ⟨some 91, none, .call a3R [(.t 90)]⟩,
 opI 92 (.bin .leq (.t 91) (.c (.int .i64 0)))]
def b6r : List AIns := [opI 93 (.bld [.nil, .nil] []),
 ⟨none, none, .e (.store 2 (.t 2) (.t 93))⟩,
 opI 3 (.mv (.c (.bool false)))]
def b1e : List AIns := [opI 94 (.fldp (.t 4) 0),
 opI 95 (.load none (.t 94)),
 mvI 96 6,
 mvI 97 5,
 opI 98 (.idxp 2 (.t 96) (.t 97)),
 opI 99 (.load (some 2) (.t 98)),
 ⟨some 100, none, .e (.bsl 2 [(.t 99)])⟩,
 ⟨some 101, none, .e (.app 2 32 false (.t 95) (.t 100))⟩,
 opI 102 (.fldp (.t 4) 0),
 ⟨none, none, .e (.store 1 (.t 102) (.t 101))⟩]
def b1d : List AIns := [opI 103 (.fldp (.t 4) 1),
 opI 104 (.load none (.t 103)),
 mvI 105 6,
 mvI 106 5,
 mvI 107 5,
 opI 108 (.slc 2 (.t 105) none (some (.t 106)) (some (.t 107))),
 ⟨some 109, none, .e (.bsl 1 [(.t 108)])⟩,
 ⟨some 110, none, .e (.app 1 24 false (.t 104) (.t 109))⟩,
 opI 111 (.fldp (.t 4) 1),
 ⟨none, none, .e (.store 1 (.t 111) (.t 110))⟩]
def b1c : List AIns := [opI 112 (.bin .add (.t 17) (.c (.int .i64 1))),
 mvI 17 112]
def c8t : ACode := .seq (rgI b2W) (.seq (.cond (.t 18) (.skip) (.exit 0)) (.seq (.block 1 (.seq (rgI b9k) (.seq (rgI b9j) (.seq (.seq (rgI b9i) (.block 2 (.loop b9p))) (.seq (.seq (rgI b6s) (.cond (.t 92) (.seq (rgI b6r) (.ret)) (.skip))) (.seq (.region b1e true) (.region b1d true))))))) (rgI b1c)))
def b6q : List AIns := [opI 113 (.load (some 2) (.t 4)),
 ⟨none, none, .e (.store 2 (.t 2) (.t 113))⟩,
 opI 3 (.mv (.c (.bool true)))]
def d0s : ACode := .seq (rgI b9n) (.seq (rgI b9m) (.seq (.seq (rgI b9l) (.block 0 (.loop c8t))) (.seq (rgI b6q) (.ret))))
theorem c8s : fchk Pr (fun r k => (r == 1 && k == 1)) Tryz.f141 = some (d0s, [.cell 2 (some 2), .tmp 3], 114) := by kernel_rfl
theorem c8u : Pr.funcs[b5f]? = some Tryz.f141 := Tryz.func141
def b4x : List AIns := [opI 2 (.mv (.c (.nil)))]
def a8j : List AIns := [mvI 3 0,
 opI 4 (.len (.t 3)),
 opI 5 (.bin .gtr (.t 4) (.c (.int .i64 0))),
 mvI 6 5,
 ⟨some 7, some (6, true), .p (.mv (.t 0))⟩,
 ⟨some 8, some (6, true), .p (.mv (.t 0))⟩,
 ⟨some 9, some (6, true), .p (.len (.t 8))⟩,
 ⟨some 10, some (6, true), .p (.bin .sub (.t 9) (.c (.int .i64 1)))⟩,
 ⟨some 11, some (6, true), .p (.idxp 1 (.t 7) (.t 10))⟩,
 ⟨some 12, some (6, true), .p (.load none (.t 11))⟩,
 ⟨some 13, some (6, true), .p (.bin .eql (.t 12) (.c (.int .u32 0)))⟩,
 opI 14 (.pick (.t 6) (.t 13) (.c (.bool false)))]
def b4w : List AIns := [mvI 15 0,
 mvI 16 0,
 opI 17 (.len (.t 16)),
 opI 18 (.bin .sub (.t 17) (.c (.int .i64 1))),
 opI 19 (.slc 1 (.t 15) none (some (.t 18)) none),
 mvI 0 19]
def c1r : ACode := .seq (.seq (rgI a8j) (.cond (.t 14) (.skip) (.exit 0))) (.block 1 (rgI b4w))
def a5F : List AIns := [mvI 20 0,
 mvI 2 20]
def d3g : ACode := .seq (rgI b4x) (.seq (.block 0 (.loop c1r)) (.seq (rgI a5F) (.ret)))
theorem c1q : fchk Pr (fun _ _ => false) Tryz.f142 = some (d3g, [.tmp 2], 21) := by kernel_rfl
theorem c1s : Pr.funcs[a0u]? = some Tryz.f142 := Tryz.func142
def c1F : List AIns := [opI 4 (.mv (.c (.nil)))]
def c1E : List AIns := [mvI 9 0,
 opI 10 (.len (.t 9)),
 ⟨some 11, none, .e (.mksl 1 4 (.int .u32 0) (.t 10) (.t 10))⟩,
 mvI 5 11]
def c1D : List AIns := [opI 6 (.mv (.c (.int .u64 0)))]
def c1C : List AIns := [mvI 12 0,
 opI 13 (.len (.t 12)),
 opI 14 (.mv (.c (.int .i64 0)))]
def b4D : List AIns := [opI 15 (.bin .lss (.t 14) (.t 13))]
def c1B : List AIns := [mvI 16 14,
 mvI 7 16]
def c1A : List AIns := [mvI 17 0,
 mvI 18 7,
 opI 19 (.idxp 1 (.t 17) (.t 18)),
 opI 20 (.load none (.t 19)),
 opI 21 (.conv .u64 (.t 20)),
 mvI 22 6,
 opI 23 (.bin .sub (.t 21) (.t 22)),
 mvI 8 23]
def c1z : List AIns := [mvI 24 7,
 mvI 25 1,
 opI 26 (.len (.t 25)),
 opI 27 (.bin .lss (.t 24) (.t 26))]
def c1y : List AIns := [mvI 28 8,
 mvI 29 1,
 mvI 30 7,
 opI 31 (.idxp 1 (.t 29) (.t 30)),
 opI 32 (.load none (.t 31)),
 opI 33 (.conv .u64 (.t 32)),
 opI 34 (.bin .sub (.t 28) (.t 33)),
 mvI 8 34]
def b4C : List AIns := [mvI 35 5,
 mvI 36 7,
 mvI 37 8,
 opI 38 (.conv .u32 (.t 37)),
 opI 39 (.idxp 1 (.t 35) (.t 36)),
 ⟨none, none, .e (.store 1 (.t 39) (.t 38))⟩]
def b2t : List AIns := [mvI 40 8,
 opI 41 (.bin .shr (.t 40) (.c (.int .u64 63))),
 mvI 6 41]
def b2r : List AIns := [opI 42 (.bin .add (.t 14) (.c (.int .i64 1))),
 mvI 14 42]
def b4E : ACode := .seq (rgI b4D) (.seq (.cond (.t 15) (.skip) (.exit 0)) (.seq (.block 1 (.seq (rgI c1B) (.seq (rgI c1A) (.seq (.seq (rgI c1z) (.cond (.t 27) (rgI c1y) (.skip))) (.seq (rgI b4C) (rgI b2t)))))) (rgI b2r)))
def a8X : List AIns := [mvI 43 5,
 ⟨some 44, none, .call a0u [(.t 43)]⟩,
 mvI 4 44]
def d3n : ACode := .seq (rgI c1F) (.seq (rgI c1E) (.seq (rgI c1D) (.seq (.seq (rgI c1C) (.block 0 (.loop b4E))) (.seq (rgI a8X) (.ret)))))
theorem c9Q : fchk Pr (fun _ _ => false) Tryz.f143 = some (d3n, [.tmp 4], 45) := by kernel_rfl
theorem c9R : Pr.funcs[b0u]? = some Tryz.f143 := Tryz.func143
end Go.Abs
set_option maxRecDepth 100000
noncomputable section
namespace Go.Abs
open Go.Proofs
def b1A : List AIns := [opI 4 (.mv (.c (.int .i64 0)))]
def b1z : List AIns := [mvI 5 0,
 mvI 6 1,
 ⟨some 7, none, .call a0F [(.t 5), (.t 6)]⟩,
 mvI 4 7]
def c0X : ACode := .seq (rgI b1A) (.seq (rgI b1z) (.ret))
theorem b9F : fchk Pr (fun _ _ => false) Tryz.f153 = some (c0X, [.tmp 4], 8) := by kernel_rfl
theorem b9G : Pr.funcs[a8F]? = some Tryz.f153 := Tryz.func153
def c2G : List AIns := [opI 2 (.mv (.c (.int .i64 0)))]
def c2F : List AIns := [opI 3 (.mv (.c (.int .i64 0)))]
def c2E : List AIns := [mvI 8 0,
 opI 9 (.len (.t 8)),
 opI 10 (.mv (.c (.int .i64 0)))]
def b4R : List AIns := [opI 11 (.bin .lss (.t 10) (.t 9))]
def c2D : List AIns := [opI 12 (.idxp 1 (.t 8) (.t 10)),
 opI 13 (.load none (.t 12)),
 mvI 5 13]
def c2C : List AIns := [mvI 14 5,
 opI 15 (.len (.t 14)),
 opI 16 (.mv (.c (.int .i64 0)))]
def b4Q : List AIns := [opI 17 (.bin .lss (.t 16) (.t 15))]
def c2B : List AIns := [opI 18 (.idxp 2 (.t 14) (.t 16)),
 opI 19 (.load (some 2) (.t 18)),
 ⟨some 7, none, .e (.box 2 (.c (.agg [.bool false, .nil])))⟩,
 ⟨none, none, .e (.store 2 (.t 7) (.t 19))⟩]
def c2A : List AIns := [mvI 20 3,
 opI 21 (.load (some 2) (.t 7)),
 ⟨some 22, none, .call b5e [(.t 21)]⟩,
 opI 23 (.mnx true (.t 20) (.t 22)),
 mvI 3 23]
def c2z : List AIns := [opI 24 (.bin .add (.t 16) (.c (.int .i64 1))),
 mvI 16 24]
def d0g : ACode := .seq (rgI b4Q) (.seq (.cond (.t 17) (.skip) (.exit 2)) (.seq (.block 3 (.seq (rgI c2B) (rgI c2A))) (rgI c2z)))
def b9f : List AIns := [opI 25 (.bin .add (.t 10) (.c (.int .i64 1))),
 mvI 10 25]
def d0h : ACode := .seq (rgI b4R) (.seq (.cond (.t 11) (.skip) (.exit 0)) (.seq (.block 1 (.seq (rgI c2D) (.seq (rgI c2C) (.block 2 (.loop d0g))))) (rgI b9f)))
def b9e : List AIns := [mvI 26 3,
 mvI 2 26]
def d3Q : ACode := .seq (rgI c2G) (.seq (rgI c2F) (.seq (.seq (rgI c2E) (.block 0 (.loop d0h))) (.seq (rgI b9e) (.ret))))
theorem d0f : fchk Pr (fun _ _ => false) Tryz.f160 = some (d3Q, [.tmp 2], 27) := by kernel_rfl
theorem d0i : Pr.funcs[b8e]? = some Tryz.f160 := Tryz.func160
def b2Q : List AIns := [opI 2 (.mv (.c (.int .i64 0))),
 opI 3 (.mv (.c (.int .i64 0))),
 opI 4 (.mv (.c (.int .i64 0)))]
def b2P : List AIns := [mvI 7 0,
 opI 8 (.len (.t 7)),
 opI 9 (.bin .eql (.t 8) (.c (.int .i64 0)))]
def b9b : List AIns := [opI 2 (.mv (.c (.int .i64 0))),
 opI 3 (.mv (.c (.int .i64 0))),
 opI 4 (.mv (.c (.int .i64 0)))]
def b2O : List AIns := [mvI 10 0,
 opI 11 (.len (.t 10)),
 opI 12 (.mv (.c (.int .i64 0)))]
def a6g : List AIns := [opI 13 (.bin .lss (.t 12) (.t 11))]
def a9n : List AIns := [opI 14 (.idxp 1 (.t 10) (.t 12)),
 opI 15 (.load none (.t 14)),
 mvI 6 15]
def a9m : List AIns := [mvI 16 6,
 opI 17 (.len (.t 16)),
 mvI 18 0,
 opI 19 (.idxp 1 (.t 18) (.c (.int .i64 0))),
 opI 20 (.load none (.t 19)),
 opI 21 (.len (.t 20)),
 opI 22 (.bin .neq (.t 17) (.t 21))]
def b9a : List AIns := [opI 2 (.mv (.c (.int .i64 0))),
 opI 3 (.mv (.c (.int .i64 0))),
 opI 4 (.mv (.c (.int .i64 8)))]
def b2N : List AIns := [opI 23 (.bin .add (.t 12) (.c (.int .i64 1))),
 mvI 12 23]
def c7X : ACode := .seq (rgI a6g) (.seq (.cond (.t 13) (.skip) (.exit 0)) (.seq (.block 1 (.seq (rgI a9n) (.seq (rgI a9m) (.cond (.t 22) (.seq (rgI b9a) (.ret)) (.skip))))) (rgI b2N)))
def b8Z : List AIns := [mvI 24 0,
 opI 25 (.len (.t 24)),
 mvI 26 0,
 opI 27 (.idxp 1 (.t 26) (.c (.int .i64 0))),
 opI 28 (.load none (.t 27)),
 opI 29 (.len (.t 28)),
 mvI 2 25,
 mvI 3 29,
 opI 4 (.mv (.c (.int .i64 0)))]
def d0c : ACode := .seq (rgI b2Q) (.seq (.seq (rgI b2P) (.cond (.t 9) (.seq (rgI b9b) (.ret)) (.skip))) (.seq (.seq (rgI b2O) (.block 0 (.loop c7X))) (.seq (.region b8Z true) (.ret))))
theorem b9c : fchk Pr (fun _ _ => false) Tryz.f161 = some (d0c, [.tmp 2, .tmp 3, .tmp 4], 30) := by kernel_rfl
theorem b9d : Pr.funcs[b1v]? = some Tryz.f161 := Tryz.func161
def c3V : List AIns := [⟨some 2, none, .e (.box 2 (.c (.agg [.bool false, .nil])))⟩]
def c3U : List AIns := [mvI 4 0,
 opI 5 (.conv .u64 (.t 4)),
 mvI 3 5]
def c3T : List AIns := [mvI 6 0,
 opI 7 (.bin .lss (.t 6) (.c (.int .i64 0)))]
def c3S : List AIns := [mvI 8 3,
 opI 9 (.un .neg (.t 8)),
 mvI 3 9]
def b6S : List AIns := [mvI 10 0,
 opI 11 (.bin .lss (.t 10) (.c (.int .i64 0))),
 mvI 12 3,
 opI 13 (.conv .u32 (.t 12)),
 mvI 14 3,
 opI 15 (.bin .shr (.t 14) (.c (.int .u64 32))),
 opI 16 (.conv .u32 (.t 15)),
 ⟨some 17, none, .e (.bsl 1 [(.t 13), (.t 16)])⟩,
 ⟨some 18, none, .call a1m [(.t 11), (.t 17)]⟩,
 ⟨none, none, .e (.store 2 (.t 2) (.t 18))⟩]
def d4r : ACode := .seq (rgI c3V) (.seq (rgI c3U) (.seq (.seq (rgI c3T) (.cond (.t 7) (rgI c3S) (.skip))) (.seq (rgI b6S) (.ret))))
theorem d2p : fchk Pr (fun _ _ => false) Tryz.f162 = some (d4r, [.cell 2 (some 2)], 19) := by kernel_rfl
theorem d2q : Pr.funcs[b3m]? = some Tryz.f162 := Tryz.func162
def c5w : List AIns := [⟨some 4, none, .e (.box 2 (.c (.agg [.bool false, .nil])))⟩,
 opI 5 (.mv (.c (.int .i64 0)))]
def c5v : List AIns := [mvI 6 0,
 opI 7 (.len (.t 6)),
 mvI 8 1,
 opI 9 (.len (.t 8)),
 opI 10 (.bin .neq (.t 7) (.t 9))]
def d3N : List AIns := [opI 11 (.bld [.bool false, .nil] []),
 ⟨none, none, .e (.store 2 (.t 4) (.t 11))⟩,
 opI 5 (.mv (.c (.int .i64 8)))]
def c5u : List AIns := [mvI 12 0,
 mvI 13 1,
 ⟨some 14, none, .call c3D [(.t 12), (.t 13)]⟩,
 ⟨none, none, .e (.store 2 (.t 4) (.t 14))⟩,
 opI 5 (.mv (.c (.int .i64 0)))]
def d5V : ACode := .seq (rgI c5w) (.seq (.seq (rgI c5v) (.cond (.t 10) (.seq (rgI d3N) (.ret)) (.skip))) (.seq (rgI c5u) (.ret)))
theorem d3O : fchk Pr (fun _ _ => false) Tryz.f163 = some (d5V, [.cell 4 (some 2), .tmp 5], 15) := by kernel_rfl
theorem d3P : Pr.funcs[c3E]? = some Tryz.f163 := Tryz.func163
def c0E : List AIns := [⟨some 2, none, .e (.box 2 (.t 0))⟩,
 ⟨some 3, none, .e (.box 2 (.t 1))⟩,
 ⟨some 4, none, .e (.box 2 (.c (.agg [.bool false, .nil])))⟩]
def c0D : List AIns := [opI 5 (.load (some 2) (.t 2)),
 opI 6 (.load (some 2) (.t 3)),
 ⟨some 7, none, .call b8b [(.t 6)]⟩,
 ⟨some 8, none, .call a7V [(.t 5), (.t 7)]⟩,
 ⟨none, none, .e (.store 2 (.t 4) (.t 8))⟩]
def d2o : ACode := .seq (rgI c0E) (.seq (.region c0D true) (.ret))
theorem c9i : fchk Pr (fun _ _ => false) Tryz.f164 = some (d2o, [.cell 4 (some 2)], 9) := by kernel_rfl
theorem c9j : Pr.funcs[b0t]? = some Tryz.f164 := Tryz.func164
def b5t : List AIns := [⟨some 2, none, .e (.box 2 (.t 0))⟩,
 ⟨some 3, none, .e (.box 2 (.t 1))⟩,
 ⟨some 4, none, .e (.box 2 (.c (.agg [.bool false, .nil])))⟩,
 ⟨some 5, none, .e (.box 2 (.c (.agg [.bool false, .nil])))⟩,
 opI 6 (.mv (.c (.int .i64 0)))]
def b5s : List AIns := [opI 13 (.fldp (.t 2) 1),
 opI 14 (.load none (.t 13)),
 opI 15 (.fldp (.t 3) 1),
 opI 16 (.load none (.t 15)),
 ⟨some 17, none, .call c3C [(.t 14), (.t 16)]⟩,
 mvI 12 17,
 opI 18 (.ext (.t 12) 0),
 opI 19 (.ext (.t 12) 1),
 opI 20 (.ext (.t 12) 2),
 mvI 7 18,
 mvI 8 19,
 mvI 9 20]
def b5r : List AIns := [mvI 21 9,
 opI 22 (.bin .neq (.t 21) (.c (.int .i64 0)))]
def c5P : List AIns := [opI 23 (.bld [.bool false, .nil] []),
 opI 24 (.bld [.bool false, .nil] []),
 ⟨none, none, .e (.store 2 (.t 4) (.t 23))⟩,
 ⟨none, none, .e (.store 2 (.t 5) (.t 24))⟩,
 opI 6 (.mv (.c (.int .i64 11)))]
def b5q : List AIns := [opI 25 (.fldp (.t 2) 0),
 opI 26 (.load none (.t 25)),
 opI 27 (.fldp (.t 3) 0),
 opI 28 (.load none (.t 27)),
 opI 29 (.beq true (.t 26) (.t 28)),
 mvI 30 7,
 ⟨some 31, none, .call a1m [(.t 29), (.t 30)]⟩,
 opI 32 (.fldp (.t 2) 0),
 opI 33 (.load none (.t 32)),
 mvI 34 8,
 ⟨some 35, none, .call a1m [(.t 33), (.t 34)]⟩]
def b3O : List AIns := [⟨some 10, none, .e (.box 2 (.c (.agg [.bool false, .nil])))⟩,
 ⟨some 11, none, .e (.box 2 (.c (.agg [.bool false, .nil])))⟩,
 ⟨none, none, .e (.store 2 (.t 10) (.t 31))⟩,
 ⟨none, none, .e (.store 2 (.t 11) (.t 35))⟩]
def b3N : List AIns := [⟨some 11, none, .e (.box 2 (.c (.agg [.bool false, .nil])))⟩,
 ⟨some 10, none, .e (.box 2 (.c (.agg [.bool false, .nil])))⟩,
 ⟨none, none, .e (.store 2 (.t 10) (.t 31))⟩,
 ⟨none, none, .e (.store 2 (.t 11) (.t 35))⟩]
def b5p : List AIns := [opI 36 (.load (some 2) (.t 11)),
 ⟨some 37, none, .call a3R [(.t 36)]⟩,
 opI 38 (.bin .neq (.t 37) (.c (.int .i64 0))),
 mvI 39 38,
 ⟨some 40, some (39, true), .p (.load (some 2) (.t 11))⟩,
 ⟨some 41, some (39, true), .call a3R [(.t 40)]⟩,
 ⟨some 42, some (39, true), .p (.load (some 2) (.t 3))⟩,
 ⟨some 43, some (39, true), .call a3R [(.t 42)]⟩,
 ⟨some 44, some (39, true), .p (.bin .neq (.t 41) (.t 43))⟩,
 opI 45 (.pick (.t 39) (.t 44) (.c (.bool false)))]
def c5O : List AIns := [opI 46 (.load (some 2) (.t 10)),
 ⟨some 47, none, .call b3m [(.c (.int .i64 1))]⟩,
 ⟨some 48, none, .call b0t [(.t 46), (.t 47)]⟩,
 opI 49 (.load (some 2) (.t 11)),
 opI 50 (.load (some 2) (.t 3)),
 ⟨some 51, none, .call a7V [(.t 49), (.t 50)]⟩,
 ⟨none, none, .e (.store 2 (.t 10) (.t 48))⟩,
 ⟨none, none, .e (.store 2 (.t 11) (.t 51))⟩]
def b5o : List AIns := [opI 52 (.load (some 2) (.t 10)),
 opI 53 (.load (some 2) (.t 11)),
 ⟨none, none, .e (.store 2 (.t 4) (.t 52))⟩,
 ⟨none, none, .e (.store 2 (.t 5) (.t 53))⟩,
 opI 6 (.mv (.c (.int .i64 0)))]
def b3M : List AIns := []
def b3L : List AIns := []
def c7n : ACode := .seq (rgI b5t) (.seq (rgI b5s) (.seq (.seq (rgI b5r) (.cond (.t 22) (.seq (rgI c5P) (.ret)) (.skip))) (.seq (.regionX b5q b3O b3N []) (.seq (.seq (.region b5p true) (.cond (.t 45) (.region c5O true) (.skip))) (.seq (.regionX b5o b3M b3L [(11, 4)]) (.ret))))))
theorem c5Q : fchk Pr (fun _ _ => false) Tryz.f165 = some (c7n, [.cell 4 (some 2), .cell 5 (some 2), .tmp 6], 54) := by kernel_rfl
theorem c5R : Pr.funcs[a9I]? = some Tryz.f165 := Tryz.func165
def b8D : List AIns := [⟨some 1, none, .e (.box 2 (.t 0))⟩,
 opI 2 (.mv (.c (.int .i64 0)))]
def b8C : List AIns := [opI 3 (.fldp (.t 1) 1),
 opI 4 (.load none (.t 3)),
 ⟨some 5, none, .call b3C [(.t 4)]⟩,
 mvI 2 5]
def c9q : ACode := .seq (rgI b8D) (.seq (rgI b8C) (.ret))
theorem c7o : fchk Pr (fun _ _ => false) Tryz.f179 = some (c9q, [.tmp 2], 6) := by kernel_rfl
theorem c7p : Pr.funcs[b5e]? = some Tryz.f179 := Tryz.func179
def c5t : List AIns := [⟨some 4, none, .e (.box 2 (.c (.agg [.bool false, .nil])))⟩]
def c5s : List AIns := [⟨some 5, none, .e (.box 2 (.c (.agg [.bool false, .nil])))⟩]
def c5r : List AIns := [mvI 7 0,
 opI 8 (.len (.t 7)),
 opI 9 (.mv (.c (.int .i64 0)))]
def b7D : List AIns := [opI 10 (.bin .lss (.t 9) (.t 8))]
def c5q : List AIns := [mvI 11 9,
 mvI 6 11]
def c5p : List AIns := [opI 12 (.load (some 2) (.t 5)),
 mvI 13 0,
 mvI 14 6,
 opI 15 (.idxp 2 (.t 13) (.t 14)),
 opI 16 (.load (some 2) (.t 15)),
 mvI 17 1,
 mvI 18 6,
 opI 19 (.idxp 2 (.t 17) (.t 18)),
 opI 20 (.load (some 2) (.t 19)),
 ⟨some 21, none, .call a5N [(.t 16), (.t 20)]⟩,
 ⟨some 22, none, .call a7V [(.t 12), (.t 21)]⟩,
 ⟨none, none, .e (.store 2 (.t 5) (.t 22))⟩]
def c5o : List AIns := [opI 23 (.bin .add (.t 9) (.c (.int .i64 1))),
 mvI 9 23]
def d3K : ACode := .seq (rgI b7D) (.seq (.cond (.t 10) (.skip) (.exit 0)) (.seq (.block 1 (.seq (rgI c5q) (.region c5p true))) (rgI c5o)))
def c5n : List AIns := [opI 24 (.load (some 2) (.t 5)),
 ⟨none, none, .e (.store 2 (.t 4) (.t 24))⟩]
def d5U : ACode := .seq (rgI c5t) (.seq (rgI c5s) (.seq (.seq (rgI c5r) (.block 0 (.loop d3K))) (.seq (rgI c5n) (.ret))))
theorem d3J : fchk Pr (fun _ _ => false) Tryz.f180 = some (d5U, [.cell 4 (some 2)], 25) := by kernel_rfl
theorem d3L : Pr.funcs[c3D]? = some Tryz.f180 := Tryz.func180
def c0H : List AIns := [⟨some 1, none, .e (.box 2 (.t 0))⟩,
 ⟨some 2, none, .e (.box 2 (.c (.agg [.bool false, .nil])))⟩]
def c0G : List AIns := [opI 3 (.fldp (.t 1) 0),
 opI 4 (.load none (.t 3)),
 opI 5 (.un .not (.t 4)),
 opI 6 (.fldp (.t 1) 1),
 opI 7 (.load none (.t 6)),
 ⟨some 8, none, .call a1m [(.t 5), (.t 7)]⟩,
 ⟨none, none, .e (.store 2 (.t 2) (.t 8))⟩]
def d2r : ACode := .seq (rgI c0H) (.seq (rgI c0G) (.ret))
theorem c9l : fchk Pr (fun _ _ => false) Tryz.f181 = some (d2r, [.cell 2 (some 2)], 9) := by kernel_rfl
theorem c9m : Pr.funcs[b8b]? = some Tryz.f181 := Tryz.func181
def c4U : List AIns := [opI 4 (.mv (.c (.nil))),
 opI 5 (.mv (.c (.nil))),
 opI 6 (.mv (.c (.int .i64 0)))]
def c4T : List AIns := [mvI 14 0,
 ⟨some 15, none, .call a0u [(.t 14)]⟩,
 mvI 16 1,
 ⟨some 17, none, .call a0u [(.t 16)]⟩,
 mvI 0 15,
 mvI 1 17]
def c4S : List AIns := [mvI 19 1,
 opI 20 (.len (.t 19)),
 opI 21 (.bin .eql (.t 20) (.c (.int .i64 0))),
 mvI 18 21]
def d3v : List AIns := [opI 4 (.mv (.c (.nil))),
 opI 5 (.mv (.c (.nil))),
 opI 6 (.mv (.c (.int .i64 11)))]
def c4R : List AIns := [mvI 23 0,
 mvI 24 1,
 ⟨some 25, none, .call b0v [(.t 23), (.t 24)]⟩,
 opI 26 (.bin .lss (.t 25) (.c (.int .i64 0))),
 mvI 22 26]
def c4Q : List AIns := [mvI 27 0,
 ⟨some 28, none, .call b3B [(.t 27)]⟩,
 opI 4 (.mv (.c (.nil))),
 mvI 5 28,
 opI 6 (.mv (.c (.int .i64 0)))]
def b7s : List AIns := [mvI 30 1,
 opI 31 (.len (.t 30)),
 opI 32 (.bin .eql (.t 31) (.c (.int .i64 1))),
 mvI 29 32]
def c4P : List AIns := [mvI 34 0,
 mvI 35 1,
 opI 36 (.idxp 1 (.t 35) (.c (.int .i64 0))),
 opI 37 (.load none (.t 36)),
 ⟨some 38, none, .call a8G [(.t 34), (.t 37)]⟩,
 mvI 33 38,
 opI 39 (.ext (.t 33) 0),
 opI 40 (.ext (.t 33) 1),
 mvI 7 39,
 mvI 8 40]
def c4O : List AIns := [mvI 41 7,
 mvI 42 8,
 ⟨some 43, none, .e (.bsl 1 [(.t 42)])⟩,
 ⟨some 44, none, .call a0u [(.t 43)]⟩,
 mvI 4 41,
 mvI 5 44,
 opI 6 (.mv (.c (.int .i64 0)))]
def c4N : List AIns := [mvI 45 1,
 mvI 46 1,
 opI 47 (.len (.t 46)),
 opI 48 (.bin .sub (.t 47) (.c (.int .i64 1))),
 opI 49 (.idxp 1 (.t 45) (.t 48)),
 opI 50 (.load none (.t 49)),
 ⟨some 51, none, .call a1K [(.t 50)]⟩,
 mvI 9 51]
def c2c : List AIns := [mvI 52 1,
 mvI 53 9,
 ⟨some 54, none, .call b6Q [(.t 52), (.t 53)]⟩,
 mvI 10 54]
def c2b : List AIns := [mvI 55 0,
 mvI 56 9,
 ⟨some 57, none, .call b6Q [(.t 55), (.t 56)]⟩,
 ⟨some 58, none, .e (.bsl 1 [(.c (.int .u32 0)), (.c (.int .u32 0))])⟩,
 ⟨some 59, none, .e (.app 1 4 false (.t 57) (.t 58))⟩,
 mvI 60 0,
 opI 61 (.len (.t 60)),
 opI 62 (.bin .add (.t 61) (.c (.int .i64 1))),
 opI 63 (.slc 1 (.t 59) none (some (.t 62)) none),
 mvI 11 63]
def c2a : List AIns := [mvI 64 0,
 opI 65 (.len (.t 64)),
 mvI 66 1,
 opI 67 (.len (.t 66)),
 opI 68 (.bin .sub (.t 65) (.t 67)),
 opI 69 (.bin .add (.t 68) (.c (.int .i64 1))),
 ⟨some 70, none, .e (.mksl 1 4 (.int .u32 0) (.t 69) (.t 69))⟩,
 mvI 12 70]
def c1Z : List AIns := [mvI 71 0,
 opI 72 (.len (.t 71)),
 mvI 73 1,
 opI 74 (.len (.t 73)),
 opI 75 (.bin .sub (.t 72) (.t 74)),
 mvI 13 75]
def b4K : List AIns := [mvI 76 13,
 opI 77 (.bin .geq (.t 76) (.c (.int .i64 0)))]
def c1Y : List AIns := [mvI 80 12,
 mvI 81 13,
 mvI 82 11,
 mvI 83 13,
 mvI 84 13,
 mvI 85 10,
 opI 86 (.len (.t 85)),
 opI 87 (.bin .add (.t 84) (.t 86)),
 opI 88 (.bin .add (.t 87) (.c (.int .i64 1))),
 opI 89 (.slc 1 (.t 82) (some (.t 83)) (some (.t 88)) none),
 mvI 90 10,
 ⟨some 91, none, .call b1u [(.t 89), (.t 90)]⟩,
 opI 92 (.idxp 1 (.t 80) (.t 81)),
 ⟨none, none, .e (.store 1 (.t 92) (.t 91))⟩]
def c1X : List AIns := [mvI 78 13,
 opI 79 (.bin .sub (.t 78) (.c (.int .i64 1))),
 mvI 13 79]
def d3x : ACode := .seq (.seq (rgI b4K) (.cond (.t 77) (.skip) (.exit 1))) (.seq (.block 2 (rgI c1Y)) (rgI c1X))
def c1W : List AIns := [mvI 93 12,
 ⟨some 94, none, .call a0u [(.t 93)]⟩,
 mvI 95 11,
 ⟨some 96, none, .call a0u [(.t 95)]⟩,
 mvI 97 9,
 ⟨some 98, none, .call b6P [(.t 96), (.t 97)]⟩,
 mvI 4 94,
 mvI 5 98,
 opI 6 (.mv (.c (.int .i64 0)))]
def d5J : ACode := .seq (rgI c4U) (.seq (rgI c4T) (.seq (.block 0 (.seq (rgI c4S) (.cond (.t 18) (.seq (rgI d3v) (.ret)) (.seq (rgI c4R) (.cond (.t 22) (.seq (rgI c4Q) (.ret)) (.seq (rgI b7s) (.cond (.t 29) (.seq (rgI c4P) (.seq (rgI c4O) (.ret))) (.skip)))))))) (.seq (rgI c4N) (.seq (rgI c2c) (.seq (rgI c2b) (.seq (rgI c2a) (.seq (.seq (rgI c1Z) (.block 1 (.loop d3x))) (.seq (rgI c1W) (.ret)))))))))
theorem d3w : fchk Pr (fun _ _ => false) Tryz.f182 = some (d5J, [.tmp 4, .tmp 5, .tmp 6], 99) := by kernel_rfl
theorem d3y : Pr.funcs[c3C]? = some Tryz.f182 := Tryz.func182
def a2T : List AIns := [opI 2 (.mv (.c (.int .i64 0)))]
def a2S : List AIns := [mvI 3 0,
 ⟨some 4, none, .call a1n [(.t 3)]⟩,
 opI 5 (.bin .sub (.c (.int .i64 32)) (.t 4)),
 mvI 2 5]
def a8K : ACode := .seq (rgI a2T) (.seq (rgI a2S) (.ret))
theorem a8o : fchk Pr (fun _ _ => false) Tryz.f188 = some (a8K, [.tmp 2], 6) := by kernel_rfl
theorem a8p : Pr.funcs[a1K]? = some Tryz.f188 := Tryz.func188
def c4z : List AIns := [opI 4 (.mv (.c (.nil)))]
def c4y : List AIns := [mvI 10 0,
 ⟨some 11, none, .call a0u [(.t 10)]⟩,
 mvI 0 11]
def c4x : List AIns := [mvI 12 0,
 opI 13 (.len (.t 12)),
 opI 14 (.bin .eql (.t 13) (.c (.int .i64 0)))]
def d3j : List AIns := [opI 4 (.mv (.c (.nil)))]
def c4w : List AIns := [mvI 15 1,
 opI 16 (.bin .quo (.t 15) (.c (.int .i64 32))),
 mvI 17 1,
 opI 18 (.bin .rem (.t 17) (.c (.int .i64 32))),
 opI 19 (.conv .u64 (.t 18)),
 mvI 5 16,
 mvI 6 19]
def c4v : List AIns := [mvI 20 0,
 opI 21 (.len (.t 20)),
 mvI 22 5,
 opI 23 (.bin .add (.t 21) (.t 22)),
 opI 24 (.bin .add (.t 23) (.c (.int .i64 1))),
 ⟨some 25, none, .e (.mksl 1 4 (.int .u32 0) (.t 24) (.t 24))⟩,
 mvI 7 25]
def c4u : List AIns := [mvI 26 0,
 opI 27 (.len (.t 26)),
 opI 28 (.mv (.c (.int .i64 0)))]
def b7p : List AIns := [opI 29 (.bin .lss (.t 28) (.t 27))]
def c4t : List AIns := [mvI 30 28,
 mvI 8 30]
def c4s : List AIns := [mvI 31 0,
 mvI 32 8,
 opI 33 (.idxp 1 (.t 31) (.t 32)),
 opI 34 (.load none (.t 33)),
 opI 35 (.conv .u64 (.t 34)),
 mvI 36 6,
 opI 37 (.bin .shl (.t 35) (.t 36)),
 mvI 9 37]
def c1x : List AIns := [mvI 38 7,
 mvI 39 8,
 mvI 40 5,
 opI 41 (.bin .add (.t 39) (.t 40)),
 opI 42 (.idxp 1 (.t 38) (.t 41)),
 opI 43 (.load none (.t 42)),
 mvI 44 9,
 opI 45 (.conv .u32 (.t 44)),
 opI 46 (.bin .or (.t 43) (.t 45)),
 opI 47 (.idxp 1 (.t 38) (.t 41)),
 ⟨none, none, .e (.store 1 (.t 47) (.t 46))⟩]
def c1w : List AIns := [mvI 48 7,
 mvI 49 8,
 mvI 50 5,
 opI 51 (.bin .add (.t 49) (.t 50)),
 opI 52 (.bin .add (.t 51) (.c (.int .i64 1))),
 mvI 53 9,
 opI 54 (.bin .shr (.t 53) (.c (.int .u64 32))),
 opI 55 (.conv .u32 (.t 54)),
 opI 56 (.idxp 1 (.t 48) (.t 52)),
 ⟨none, none, .e (.store 1 (.t 56) (.t 55))⟩]
def c1v : List AIns := [opI 57 (.bin .add (.t 28) (.c (.int .i64 1))),
 mvI 28 57]
def d3l : ACode := .seq (rgI b7p) (.seq (.cond (.t 29) (.skip) (.exit 0)) (.seq (.block 1 (.seq (rgI c4t) (.seq (rgI c4s) (.seq (rgI c1x) (rgI c1w))))) (rgI c1v)))
def c1u : List AIns := [mvI 58 7,
 ⟨some 59, none, .call a0u [(.t 58)]⟩,
 mvI 4 59]
def d5G : ACode := .seq (rgI c4z) (.seq (rgI c4y) (.seq (.seq (rgI c4x) (.cond (.t 14) (.seq (rgI d3j) (.ret)) (.skip))) (.seq (rgI c4w) (.seq (rgI c4v) (.seq (.seq (rgI c4u) (.block 0 (.loop d3l))) (.seq (rgI c1u) (.ret)))))))
theorem d3k : fchk Pr (fun _ _ => false) Tryz.f189 = some (d5G, [.tmp 4], 60) := by kernel_rfl
theorem d3m : Pr.funcs[b6Q]? = some Tryz.f189 := Tryz.func189
def b8V : List AIns := [opI 4 (.mv (.c (.int .u32 0)))]
def b8U : List AIns := [mvI 15 1,
 opI 16 (.len (.t 15)),
 mvI 5 16]
def b8T : List AIns := [mvI 17 0,
 mvI 18 5,
 opI 19 (.idxp 1 (.t 17) (.t 18)),
 opI 20 (.load none (.t 19)),
 opI 21 (.conv .u64 (.t 20)),
 opI 22 (.bin .shl (.t 21) (.c (.int .u64 32))),
 mvI 23 0,
 mvI 24 5,
 opI 25 (.bin .sub (.t 24) (.c (.int .i64 1))),
 opI 26 (.idxp 1 (.t 23) (.t 25)),
 opI 27 (.load none (.t 26)),
 opI 28 (.conv .u64 (.t 27)),
 opI 29 (.bin .or (.t 22) (.t 28)),
 mvI 6 29]
def b8S : List AIns := [mvI 30 6,
 mvI 31 1,
 mvI 32 5,
 opI 33 (.bin .sub (.t 32) (.c (.int .i64 1))),
 opI 34 (.idxp 1 (.t 31) (.t 33)),
 opI 35 (.load none (.t 34)),
 opI 36 (.conv .u64 (.t 35)),
 opI 37 (.bin .quo (.t 30) (.t 36)),
 opI 38 (.mnx false (.t 37) (.c (.int .u64 4294967295))),
 mvI 7 38]
def b8R : List AIns := [opI 8 (.mv (.c (.int .u64 0))),
 opI 9 (.mv (.c (.int .u64 0)))]
def b8Q : List AIns := [mvI 39 5,
 opI 40 (.bin .add (.t 39) (.c (.int .i64 1))),
 opI 41 (.mv (.c (.int .i64 0)))]
def b2v : List AIns := [opI 42 (.bin .lss (.t 41) (.t 40))]
def b8P : List AIns := [mvI 43 41,
 mvI 10 43]
def b8O : List AIns := [mvI 44 8,
 mvI 11 44]
def b2u : List AIns := [mvI 45 10,
 mvI 46 5,
 opI 47 (.bin .lss (.t 45) (.t 46))]
def b5U : List AIns := [mvI 48 11,
 mvI 49 7,
 mvI 50 1,
 mvI 51 10,
 opI 52 (.idxp 1 (.t 50) (.t 51)),
 opI 53 (.load none (.t 52)),
 opI 54 (.conv .u64 (.t 53)),
 opI 55 (.bin .mul (.t 49) (.t 54)),
 opI 56 (.bin .add (.t 48) (.t 55)),
 mvI 11 56]
def b0V : List AIns := [mvI 57 11,
 opI 58 (.bin .shr (.t 57) (.c (.int .u64 32))),
 mvI 8 58]
def b0U : List AIns := [mvI 59 0,
 mvI 60 10,
 opI 61 (.idxp 1 (.t 59) (.t 60)),
 opI 62 (.load none (.t 61)),
 opI 63 (.conv .u64 (.t 62)),
 mvI 64 11,
 opI 65 (.conv .u32 (.t 64)),
 opI 66 (.conv .u64 (.t 65)),
 opI 67 (.bin .sub (.t 63) (.t 66)),
 mvI 68 9,
 opI 69 (.bin .sub (.t 67) (.t 68)),
 mvI 12 69]
def b0T : List AIns := [mvI 70 0,
 mvI 71 10,
 mvI 72 12,
 opI 73 (.conv .u32 (.t 72)),
 opI 74 (.idxp 1 (.t 70) (.t 71)),
 ⟨none, none, .e (.store 1 (.t 74) (.t 73))⟩]
def b0S : List AIns := [mvI 75 12,
 opI 76 (.bin .shr (.t 75) (.c (.int .u64 63))),
 mvI 9 76]
def b0R : List AIns := [opI 77 (.bin .add (.t 41) (.c (.int .i64 1))),
 mvI 41 77]
def a8Z : ACode := .seq (rgI b2v) (.seq (.cond (.t 42) (.skip) (.exit 0)) (.seq (.block 1 (.seq (rgI b8P) (.seq (rgI b8O) (.seq (.seq (rgI b2u) (.cond (.t 47) (rgI b5U) (.skip))) (.seq (rgI b0V) (.seq (rgI b0U) (.seq (rgI b0T) (rgI b0S)))))))) (rgI b0R)))
def a7B : List AIns := [mvI 78 9,
 opI 79 (.bin .gtr (.t 78) (.c (.int .u64 0)))]
def b5T : List AIns := [mvI 80 7,
 opI 81 (.bin .sub (.t 80) (.c (.int .u64 1))),
 mvI 7 81]
def b5S : List AIns := [opI 13 (.mv (.c (.int .u64 0)))]
def b5R : List AIns := [mvI 82 5,
 opI 83 (.bin .add (.t 82) (.c (.int .i64 1))),
 opI 84 (.mv (.c (.int .i64 0)))]
def b0Q : List AIns := [opI 85 (.bin .lss (.t 84) (.t 83))]
def b5Q : List AIns := [mvI 86 84,
 mvI 14 86]
def b5P : List AIns := [mvI 87 13,
 mvI 88 0,
 mvI 89 14,
 opI 90 (.idxp 1 (.t 88) (.t 89)),
 opI 91 (.load none (.t 90)),
 opI 92 (.conv .u64 (.t 91)),
 opI 93 (.bin .add (.t 87) (.t 92)),
 mvI 13 93]
def b0P : List AIns := [mvI 94 14,
 mvI 95 5,
 opI 96 (.bin .lss (.t 94) (.t 95))]
def b5O : List AIns := [mvI 97 13,
 mvI 98 1,
 mvI 99 14,
 opI 100 (.idxp 1 (.t 98) (.t 99)),
 opI 101 (.load none (.t 100)),
 opI 102 (.conv .u64 (.t 101)),
 opI 103 (.bin .add (.t 97) (.t 102)),
 mvI 13 103]
def b0O : List AIns := [mvI 104 0,
 mvI 105 14,
 mvI 106 13,
 opI 107 (.conv .u32 (.t 106)),
 opI 108 (.idxp 1 (.t 104) (.t 105)),
 ⟨none, none, .e (.store 1 (.t 108) (.t 107))⟩]
def b0N : List AIns := [mvI 109 13,
 opI 110 (.bin .shr (.t 109) (.c (.int .u64 32))),
 mvI 13 110]
def b0M : List AIns := [opI 111 (.bin .add (.t 84) (.c (.int .i64 1))),
 mvI 84 111]
def a8Y : ACode := .seq (rgI b0Q) (.seq (.cond (.t 85) (.skip) (.exit 4)) (.seq (.block 5 (.seq (rgI b5Q) (.seq (rgI b5P) (.seq (.seq (rgI b0P) (.cond (.t 96) (rgI b5O) (.skip))) (.seq (rgI b0O) (rgI b0N)))))) (rgI b0M)))
def b5N : List AIns := [mvI 112 9,
 mvI 113 13,
 opI 114 (.bin .sub (.t 112) (.t 113)),
 mvI 9 114]
def b8W : ACode := .seq (.seq (rgI a7B) (.cond (.t 79) (.skip) (.exit 2))) (.block 3 (.seq (rgI b5T) (.seq (rgI b5S) (.seq (.seq (rgI b5R) (.block 4 (.loop a8Y))) (rgI b5N)))))
def a7A : List AIns := [mvI 115 7,
 opI 116 (.conv .u32 (.t 115)),
 mvI 4 116]
def c9S : ACode := .seq (rgI b8V) (.seq (rgI b8U) (.seq (.region b8T true) (.seq (rgI b8S) (.seq (rgI b8R) (.seq (.seq (rgI b8Q) (.block 0 (.loop a8Z))) (.seq (.block 2 (.loop b8W)) (.seq (rgI a7A) (.ret))))))))
theorem c7V : fchk Pr (fun _ _ => false) Tryz.f190 = some (c9S, [.tmp 4], 117) := by kernel_rfl
theorem c7W : Pr.funcs[b1u]? = some Tryz.f190 := Tryz.func190
def c4q : List AIns := [opI 4 (.mv (.c (.nil)))]
def c4p : List AIns := [mvI 10 0,
 ⟨some 11, none, .call a0u [(.t 10)]⟩,
 mvI 0 11]
def c4o : List AIns := [mvI 12 1,
 opI 13 (.bin .quo (.t 12) (.c (.int .i64 32))),
 mvI 14 1,
 opI 15 (.bin .rem (.t 14) (.c (.int .i64 32))),
 opI 16 (.conv .u64 (.t 15)),
 mvI 5 13,
 mvI 6 16]
def b7o : List AIns := [mvI 17 5,
 mvI 18 0,
 opI 19 (.len (.t 18)),
 opI 20 (.bin .geq (.t 17) (.t 19))]
def c4n : List AIns := [opI 4 (.mv (.c (.nil)))]
def c4m : List AIns := [mvI 21 0,
 opI 22 (.len (.t 21)),
 mvI 23 5,
 opI 24 (.bin .sub (.t 22) (.t 23)),
 ⟨some 25, none, .e (.mksl 1 4 (.int .u32 0) (.t 24) (.t 24))⟩,
 mvI 7 25]
def c4l : List AIns := [mvI 26 7,
 opI 27 (.len (.t 26)),
 opI 28 (.mv (.c (.int .i64 0)))]
def b7n : List AIns := [opI 29 (.bin .lss (.t 28) (.t 27))]
def c4k : List AIns := [mvI 30 28,
 mvI 8 30]
def c4j : List AIns := [mvI 31 0,
 mvI 32 8,
 mvI 33 5,
 opI 34 (.bin .add (.t 32) (.t 33)),
 opI 35 (.idxp 1 (.t 31) (.t 34)),
 opI 36 (.load none (.t 35)),
 opI 37 (.conv .u64 (.t 36)),
 mvI 9 37]
def b4B : List AIns := [mvI 38 8,
 mvI 39 5,
 opI 40 (.bin .add (.t 38) (.t 39)),
 opI 41 (.bin .add (.t 40) (.c (.int .i64 1))),
 mvI 42 0,
 opI 43 (.len (.t 42)),
 opI 44 (.bin .lss (.t 41) (.t 43))]
def c1t : List AIns := [mvI 45 9,
 mvI 46 0,
 mvI 47 8,
 mvI 48 5,
 opI 49 (.bin .add (.t 47) (.t 48)),
 opI 50 (.bin .add (.t 49) (.c (.int .i64 1))),
 opI 51 (.idxp 1 (.t 46) (.t 50)),
 opI 52 (.load none (.t 51)),
 opI 53 (.conv .u64 (.t 52)),
 opI 54 (.bin .shl (.t 53) (.c (.int .u64 32))),
 opI 55 (.bin .or (.t 45) (.t 54)),
 mvI 9 55]
def b4A : List AIns := [mvI 56 7,
 mvI 57 8,
 mvI 58 9,
 mvI 59 6,
 opI 60 (.bin .shr (.t 58) (.t 59)),
 opI 61 (.conv .u32 (.t 60)),
 opI 62 (.idxp 1 (.t 56) (.t 57)),
 ⟨none, none, .e (.store 1 (.t 62) (.t 61))⟩]
def b4z : List AIns := [opI 63 (.bin .add (.t 28) (.c (.int .i64 1))),
 mvI 28 63]
def c4r : ACode := .seq (rgI b7n) (.seq (.cond (.t 29) (.skip) (.exit 0)) (.seq (.block 1 (.seq (rgI c4k) (.seq (rgI c4j) (.seq (.seq (rgI b4B) (.cond (.t 44) (rgI c1t) (.skip))) (rgI b4A))))) (rgI b4z)))
def b4y : List AIns := [mvI 64 7,
 ⟨some 65, none, .call a0u [(.t 64)]⟩,
 mvI 4 65]
def d5F : ACode := .seq (rgI c4q) (.seq (rgI c4p) (.seq (rgI c4o) (.seq (.seq (rgI b7o) (.cond (.t 20) (.seq (rgI c4n) (.ret)) (.skip))) (.seq (rgI c4m) (.seq (.seq (rgI c4l) (.block 0 (.loop c4r))) (.seq (rgI b4y) (.ret)))))))
theorem d3h : fchk Pr (fun _ _ => false) Tryz.f191 = some (d5F, [.tmp 4], 66) := by kernel_rfl
theorem d3i : Pr.funcs[b6P]? = some Tryz.f191 := Tryz.func191
def a9y : List AIns := [⟨some 2, none, .p (.mv (.c (.str ⟨#[]⟩)))⟩]
def a9x : List AIns := [mvI 8 0,
 ⟨some 9, none, .call a5S [(.t 8)]⟩,
 opI 10 (.len (.t 9)),
 opI 11 (.mv (.c (.int .i64 0)))]
def a4x : List AIns := [opI 12 (.bin .lss (.t 11) (.t 10))]
def a9w : List AIns := [opI 13 (.idxp 1 (.t 9) (.t 11)),
 opI 14 (.load none (.t 13)),
 mvI 5 14]
def a4w : List AIns := [mvI 15 5,
 ⟨some 16, none, .p (.bin .add (.c (.str ⟨#[108, 97, 116, 116, 105, 99, 101, 32]⟩)) (.t 15))⟩,
 ⟨some 17, none, .p (.bin .add (.t 16) (.c (.str ⟨#[10]⟩)))⟩,
 ⟨some 18, none, .call a0s [(.t 3), (.t 17)]⟩]
def a9v : List AIns := [mvI 19 0,
 opI 20 (.fldp (.t 19) 0),
 opI 21 (.fldp (.t 20) 0),
 opI 22 (.load none (.t 21)),
 mvI 23 5,
 opI 24 (.smap 1 (.t 22) (.t 23)),
 opI 25 (.len (.t 24)),
 opI 26 (.mv (.c (.int .i64 0)))]
def a4v : List AIns := [opI 27 (.bin .lss (.t 26) (.t 25))]
def a9u : List AIns := [opI 28 (.idxp 1 (.t 24) (.t 26)),
 opI 29 (.load none (.t 28)),
 mvI 7 29]
def a4u : List AIns := [mvI 30 7,
 ⟨some 31, none, .call a6U [(.t 30)]⟩,
 ⟨some 32, none, .p (.bin .add (.c (.str ⟨#[32]⟩)) (.t 31))⟩,
 ⟨some 33, none, .p (.bin .add (.t 32) (.c (.str ⟨#[10]⟩)))⟩,
 ⟨some 34, none, .call a0s [(.t 3), (.t 33)]⟩]
def a9t : List AIns := [opI 35 (.bin .add (.t 26) (.c (.int .i64 1))),
 mvI 26 35]
def a9z : ACode := .seq (rgI a4v) (.seq (.cond (.t 27) (.skip) (.exit 2)) (.seq (.block 3 (.seq (rgI a9u) (rgI a4u))) (rgI a9t)))
def a8A : List AIns := [⟨some 36, none, .call a0s [(.t 3), (.c (.str ⟨#[101, 110, 100, 10]⟩))]⟩]
def a3Q : List AIns := [opI 37 (.bin .add (.t 11) (.c (.int .i64 1))),
 mvI 11 37]
def a4y : ACode := .seq (rgI a4x) (.seq (.cond (.t 12) (.skip) (.exit 0)) (.seq (.block 1 (.seq (rgI a9w) (.seq (rgI a4w) (.seq (.seq (rgI a9v) (.block 2 (.loop a9z))) (rgI a8A))))) (rgI a3Q)))
def b5c : List AIns := [⟨some 38, none, .call a0G [(.t 3)]⟩,
 mvI 2 38]
noncomputable def b7W : ACode := .seq (rgI a9y) (.seq (.raw 1 (b1B Tryz.f13 1) false) (.seq (.seq (rgI a9x) (.block 0 (.loop a4y))) (.seq (rgI b5c) (.ret))))
theorem b6G : fchk Pr (fun r k => (r == 1 && k == 1000000)) Tryz.f13 = some (b7W, [.tmp 2], 39) := by kernel_rfl
theorem b6H : Pr.funcs[a1M]? = some Tryz.f13 := Tryz.func13
def a5o : List AIns := [opI 4 (.mv (.c (.int .i64 0)))]
def a2I : List AIns := [mvI 13 1,
 ⟨some 14, none, .p (.bin .eql (.t 13) (.c (.str ⟨#[101, 110, 100]⟩)))⟩]
def a5n : List AIns := [mvI 15 0,
 mvI 16 0,
 opI 17 (.mkbf a0T [(.t 16)]),
 opI 18 (.fldp (.t 15) 0),
 opI 19 (.fldp (.t 18) 1),
 ⟨none, none, .e (.store 1 (.t 19) (.t 17))⟩]
def a5m : List AIns := [mvI 34 1,
 ⟨some 35, none, .call a2t [(.t 34), (.c (.str ⟨#[32]⟩))]⟩,
 mvI 33 35,
 opI 36 (.ext (.t 33) 0),
 opI 37 (.ext (.t 33) 1),
 mvI 5 36,
 mvI 6 37]
def a2H : List AIns := [mvI 38 6,
 opI 39 (.un .not (.t 38))]
def a5l : List AIns := [opI 4 (.mv (.c (.int .i64 4)))]
def a2G : List AIns := [⟨some 40, none, .e (.bslm 2 [])⟩,
 mvI 7 40]
def a2F : List AIns := [mvI 41 5,
 ⟨some 42, none, .call a8E [(.t 41), (.c (.str ⟨#[32]⟩))]⟩,
 opI 43 (.len (.t 42)),
 opI 44 (.mv (.c (.int .i64 0)))]
def a2E : List AIns := [opI 45 (.bin .lss (.t 44) (.t 43))]
def a5k : List AIns := [opI 46 (.idxp 1 (.t 42) (.t 44)),
 opI 47 (.load none (.t 46)),
 mvI 9 47]
def a2q : List AIns := [mvI 49 9,
 ⟨some 50, none, .call a3b [(.t 49)]⟩,
 mvI 48 50,
 opI 51 (.ext (.t 48) 0),
 opI 52 (.ext (.t 48) 1),
 opI 53 (.ext (.t 48) 2),
 ⟨some 10, none, .e (.box 2 (.c (.agg [.bool false, .nil])))⟩,
 ⟨none, none, .e (.store 2 (.t 10) (.t 51))⟩,
 mvI 11 52,
 mvI 12 53]
def a2p : List AIns := [mvI 54 12,
 opI 55 (.bin .neq (.t 54) (.c (.int .i64 0)))]
def a4p : List AIns := [opI 4 (.mv (.c (.int .i64 4)))]
def a4o : List AIns := [mvI 56 7,
 opI 57 (.load (some 2) (.t 10)),
 ⟨some 58, none, .e (.bsl 2 [(.t 57)])⟩,
 ⟨some 59, none, .e (.app 2 32 false (.t 56) (.t 58))⟩,
 mvI 7 59]
def a4n : List AIns := [opI 60 (.bin .add (.t 44) (.c (.int .i64 1))),
 mvI 44 60]
def a5p : ACode := .seq (rgI a2E) (.seq (.cond (.t 45) (.skip) (.exit 0)) (.seq (.block 1 (.seq (rgI a5k) (.seq (rgI a2q) (.seq (.seq (rgI a2p) (.cond (.t 55) (.seq (rgI a4p) (.ret)) (.skip))) (rgI a4o))))) (rgI a4n)))
def a1d : List AIns := [mvI 61 0,
 mvI 62 0,
 opI 63 (.fldp (.t 62) 0),
 opI 64 (.fldp (.t 63) 3),
 opI 65 (.load none (.t 64)),
 mvI 66 7,
 ⟨some 67, none, .e (.bsl 1 [(.t 66)])⟩,
 ⟨some 68, none, .e (.app 1 24 false (.t 65) (.t 67))⟩,
 opI 69 (.fldp (.t 61) 0),
 opI 70 (.fldp (.t 69) 3),
 ⟨none, none, .e (.store 1 (.t 70) (.t 68))⟩]
def a1c : List AIns := [opI 4 (.mv (.c (.int .i64 0)))]
noncomputable def b3h : ACode := .seq (rgI a5o) (.seq (.seq (rgI a2I) (.cond (.t 14) (.seq (rgI a5n) (.seq (.raw 3 (b1B Tryz.f49 3) true) (.ret))) (.skip))) (.seq (rgI a5m) (.seq (.seq (rgI a2H) (.cond (.t 39) (.seq (rgI a5l) (.ret)) (.skip))) (.seq (rgI a2G) (.seq (.seq (rgI a2F) (.block 0 (.loop a5p))) (.seq (rgI a1d) (.seq (rgI a1c) (.ret))))))))
theorem b1O : fchk Pr (fun r k => (r == 3 && k == 1000000) || (k == 0)) Tryz.f49 = some (b3h, [.tmp 4], 71) := by kernel_rfl
theorem b1P : Pr.funcs[a1g]? = some Tryz.f49 := Tryz.func49
end Go.Abs
set_option maxRecDepth 100000
noncomputable section
namespace Go.Abs
open Go.Proofs
def a8x : List AIns := [opI 6 (.mv (.c (.bool false)))]
def a8w : List AIns := [⟨some 17, none, .call b1w []⟩,
 opI 18 (.un .not (.t 17))]
def b4T : List AIns := [opI 6 (.mv (.c (.bool false)))]
def a8v : List AIns := [mvI 20 0,
 ⟨some 21, none, .call a5R [(.t 20)]⟩,
 mvI 19 21,
 opI 22 (.ext (.t 19) 0),
 opI 23 (.ext (.t 19) 1),
 opI 24 (.ext (.t 19) 2),
 mvI 7 22,
 mvI 8 23,
 mvI 9 24]
def a3O : List AIns := [opI 10 (.mv (.c (.int .i64 0)))]
def a3N : List AIns := [mvI 25 10,
 mvI 26 1,
 opI 27 (.lens (.t 26)),
 opI 28 (.bin .lss (.t 25) (.t 27))]
def a3M : List AIns := [mvI 31 1,
 mvI 32 10,
 opI 33 (.idxs (.t 31) (.t 32)),
 opI 34 (.bin .eql (.t 33) (.c (.int .u8 10)))]
def a3L : List AIns := [mvI 35 9,
 opI 36 (.bin .eql (.t 35) (.c (.int .i64 0))),
 mvI 37 36,
 ⟨some 38, some (37, false), .p (.mv (.t 7))⟩,
 ⟨some 39, some (37, false), .p (.isn true false (.t 38))⟩,
 opI 40 (.pick (.t 37) (.c (.bool true)) (.t 39)),
 mvI 6 40]
def a8u : List AIns := [mvI 29 10,
 opI 30 (.bin .add (.t 29) (.c (.int .i64 1))),
 mvI 10 30]
def a8y : ACode := .seq (.seq (rgI a3N) (.cond (.t 28) (.skip) (.exit 0))) (.seq (.block 1 (.seq (rgI a3M) (.cond (.t 34) (.seq (rgI a3L) (.ret)) (.skip)))) (rgI a8u))
def a1A : List AIns := [mvI 41 9,
 opI 42 (.bin .neq (.t 41) (.c (.int .i64 0))),
 mvI 43 42,
 ⟨some 44, some (43, false), .p (.mv (.t 0))⟩,
 ⟨some 45, some (43, false), .p (.lens (.t 44))⟩,
 ⟨some 46, some (43, false), .p (.mv (.t 1))⟩,
 ⟨some 47, some (43, false), .p (.lens (.t 46))⟩,
 ⟨some 48, some (43, false), .p (.bin .add (.t 45) (.t 47))⟩,
 ⟨some 49, some (43, false), .p (.bin .add (.t 48) (.c (.int .i64 3)))⟩,
 ⟨some 50, some (43, false), .p (.bin .gtr (.t 49) (.c (.int .i64 262144)))⟩,
 opI 51 (.pick (.t 43) (.c (.bool true)) (.t 50))]
def a2b : List AIns := [mvI 52 9,
 opI 53 (.bin .eql (.t 52) (.c (.int .i64 0))),
 mvI 54 53,
 ⟨some 55, some (54, false), .p (.mv (.t 7))⟩,
 ⟨some 56, some (54, false), .p (.isn true false (.t 55))⟩,
 opI 57 (.pick (.t 54) (.c (.bool true)) (.t 56)),
 mvI 6 57]
def a3B : List AIns := [opI 11 (.mv (.c (.int .i64 0)))]
def a3A : List AIns := [opI 12 (.mv (.c (.int .i64 0)))]
def a3z : List AIns := [opI 13 (.mv (.c (.int .i64 0)))]
def a3y : List AIns := [mvI 58 13,
 mvI 59 0,
 opI 60 (.lens (.t 59)),
 opI 61 (.bin .lss (.t 58) (.t 60))]
def a2a : List AIns := [mvI 64 0,
 mvI 65 13,
 opI 66 (.idxs (.t 64) (.t 65)),
 opI 67 (.bin .eql (.t 66) (.c (.int .u8 10))),
 mvI 68 67,
 ⟨some 69, some (68, true), .p (.mv (.t 12))⟩,
 ⟨some 70, some (68, true), .p (.mv (.t 2))⟩,
 ⟨some 71, some (68, true), .p (.bin .rem (.t 70) (.c (.int .u16 20)))⟩,
 ⟨some 72, some (68, true), .p (.conv .i64 (.t 71))⟩,
 ⟨some 73, some (68, true), .p (.bin .leq (.t 69) (.t 72))⟩,
 opI 74 (.pick (.t 68) (.t 73) (.c (.bool false)))]
def a7q : List AIns := [mvI 75 13,
 opI 76 (.bin .add (.t 75) (.c (.int .i64 1))),
 mvI 11 76]
def a7p : List AIns := [mvI 77 12,
 opI 78 (.bin .add (.t 77) (.c (.int .i64 1))),
 mvI 12 78]
def a1Z : List AIns := [mvI 62 13,
 opI 63 (.bin .add (.t 62) (.c (.int .i64 1))),
 mvI 13 63]
def a3P : ACode := .seq (.seq (rgI a3y) (.cond (.t 61) (.skip) (.exit 2))) (.seq (.block 3 (.seq (rgI a2a) (.cond (.t 74) (.seq (rgI a7q) (rgI a7p)) (.skip)))) (rgI a1Z))
def a1Y : List AIns := [mvI 80 0,
 mvI 81 11,
 opI 82 (.slcs (.t 80) none (some (.t 81))),
 ⟨some 83, none, .p (.bin .add (.t 82) (.c (.str ⟨#[35]⟩)))⟩,
 mvI 84 1,
 opI 85 (.bin .add (.t 83) (.t 84)),
 ⟨some 86, none, .p (.bin .add (.t 85) (.c (.str ⟨#[10, 10]⟩)))⟩,
 mvI 87 0,
 mvI 88 11,
 opI 89 (.slcs (.t 87) (some (.t 88)) none),
 opI 90 (.bin .add (.t 86) (.t 89)),
 ⟨some 91, none, .gcall a5R [(.t 90)]⟩,
 mvI 79 91,
 opI 92 (.ext (.t 79) 0),
 opI 93 (.ext (.t 79) 1),
 opI 94 (.ext (.t 79) 2),
 mvI 14 92,
 mvI 15 93,
 mvI 16 94]
def a1X : List AIns := [mvI 95 16,
 opI 96 (.bin .eql (.t 95) (.c (.int .i64 0))),
 mvI 97 96,
 ⟨some 98, some (97, true), .p (.mv (.t 14))⟩,
 ⟨some 99, some (97, true), .p (.isn true true (.t 98))⟩,
 opI 100 (.pick (.t 97) (.t 99) (.c (.bool false))),
 mvI 101 100,
 ⟨some 102, some (101, true), .p (.mv (.t 14))⟩,
 ⟨some 103, some (101, true), .call a1M [(.t 102)]⟩,
 ⟨some 104, some (101, true), .p (.mv (.t 7))⟩,
 ⟨some 105, some (101, true), .call a1M [(.t 104)]⟩,
 ⟨some 106, some (101, true), .p (.bin .eql (.t 103) (.t 105))⟩,
 opI 107 (.pick (.t 101) (.t 106) (.c (.bool false))),
 mvI 6 107]
def b6l : ACode := .seq (rgI a8x) (.seq (.seq (rgI a8w) (.cond (.t 18) (.seq (rgI b4T) (.ret)) (.skip))) (.seq (rgI a8v) (.seq (.seq (rgI a3O) (.block 0 (.loop a8y))) (.seq (.seq (rgI a1A) (.cond (.t 51) (.seq (rgI a2b) (.ret)) (.skip))) (.seq (rgI a3B) (.seq (rgI a3A) (.seq (.seq (rgI a3z) (.block 2 (.loop a3P))) (.seq (.region a1Y true) (.seq (rgI a1X) (.ret))))))))))
theorem b4U : fchk Pr (fun _ k => (k == 11)) Tryz.f4 = some (b6l, [.tmp 6], 108) := by kernel_rfl
theorem b4V : Pr.funcs[a5Q]? = some Tryz.f4 := Tryz.func4
end Go.Abs

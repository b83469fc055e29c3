/- Part 4 of the proof of MatReads: Code0, Code1. -/
import Derived.Test.YtkehcnbnmjmpbaaDoorMatReadsK3
set_option maxRecDepth 100000
noncomputable section
namespace Go.Abs
abbrev mvI (d s : Nat) : AIns := ⟨some d, none, .p (.mv (.t s))⟩
abbrev opI (d : Nat) (o : POp) : AIns := ⟨some d, none, .p o⟩
abbrev rgI (l : List AIns) : ACode := .region l false
open Go.Proofs
def a6g : List AIns := [opI 2 (.mv (.c (.bool false)))]
def a6f : List AIns := [mvI 12 0,
  ⟨some 13, none, .call a4k [(.t 12)]⟩,
  mvI 11 13,
  opI 14 (.ext (.t 11) 0),
  opI 15 (.ext (.t 11) 1),
  opI 16 (.ext (.t 11) 2),
  mvI 3 14,
  mvI 4 15,
  mvI 5 16]
def a6e : List AIns := [mvI 18 0,
  ⟨some 19, none, .call a3r [(.t 18)]⟩,
  mvI 17 19,
  opI 20 (.ext (.t 17) 0),
  opI 21 (.ext (.t 17) 1),
  opI 22 (.ext (.t 17) 2),
  mvI 6 20,
  mvI 7 21,
  mvI 8 22]
def a6d : List AIns := [mvI 23 5,
  mvI 24 8,
  opI 25 (.bin .neq (.t 23) (.t 24)),
  mvI 26 25,
  ⟨some 27, some (26, false), .p (.mv (.t 4))⟩,
  ⟨some 28, some (26, false), .p (.mv (.t 7))⟩,
  ⟨some 29, some (26, false), .p (.bin .neq (.t 27) (.t 28))⟩,
  opI 30 (.pick (.t 26) (.c (.bool true)) (.t 29)),
  mvI 31 30,
  ⟨some 32, some (31, false), .p (.mv (.t 3))⟩,
  ⟨some 33, some (31, false), .p (.mv (.t 6))⟩,
  ⟨some 34, some (31, false), .call a4T [(.t 32), (.t 33)]⟩,
  ⟨some 35, some (31, false), .p (.un .not (.t 34))⟩,
  opI 36 (.pick (.t 31) (.c (.bool true)) (.t 35))]
def b1o : List AIns := [opI 2 (.mv (.c (.bool false)))]
def a6c : List AIns := [mvI 37 3,
  ⟨some 38, none, .call a5I [(.t 37)]⟩]
def a6b : List AIns := [mvI 40 0,
  ⟨some 41, none, .call a4k [(.t 40)]⟩,
  mvI 39 41,
  opI 42 (.ext (.t 39) 0),
  opI 43 (.ext (.t 39) 1),
  opI 44 (.ext (.t 39) 2),
  mvI 3 42]
def a6a : List AIns := [mvI 45 3,
  mvI 46 6,
  ⟨some 47, none, .call a4T [(.t 45), (.t 46)]⟩,
  opI 48 (.un .not (.t 47))]
def b1n : List AIns := [opI 2 (.mv (.c (.bool false)))]
def a5Z : List AIns := [mvI 50 0,
  ⟨some 51, none, .call a3E [(.t 50)]⟩,
  mvI 49 51,
  opI 52 (.ext (.t 49) 0),
  opI 53 (.ext (.t 49) 1),
  opI 54 (.ext (.t 49) 2),
  mvI 9 52,
  mvI 4 53,
  mvI 5 54]
def a5f : List AIns := [mvI 56 0,
  ⟨some 57, none, .call a2w [(.t 56)]⟩,
  mvI 55 57,
  opI 58 (.ext (.t 55) 0),
  opI 59 (.ext (.t 55) 1),
  opI 60 (.ext (.t 55) 2),
  mvI 10 58,
  mvI 7 59,
  mvI 8 60]
def a5e : List AIns := [mvI 61 5,
  mvI 62 8,
  opI 63 (.bin .eql (.t 61) (.t 62)),
  mvI 64 63,
  ⟨some 65, some (64, true), .p (.mv (.t 4))⟩,
  ⟨some 66, some (64, true), .p (.mv (.t 7))⟩,
  ⟨some 67, some (64, true), .p (.bin .eql (.t 65) (.t 66))⟩,
  opI 68 (.pick (.t 64) (.t 67) (.c (.bool false))),
  mvI 69 68,
  ⟨some 70, some (69, true), .p (.mv (.t 9))⟩,
  ⟨some 71, some (69, true), .p (.mv (.t 10))⟩,
  ⟨some 72, some (69, true), .call a6Z [(.t 70), (.t 71)]⟩,
  opI 73 (.pick (.t 69) (.t 72) (.c (.bool false))),
  mvI 2 73]
def b2R : ACode := .seq (rgI a6g) (.seq (rgI a6f) (.seq (rgI a6e) (.seq (.seq (rgI a6d) (.cond (.t 36) (.seq (rgI b1o) (.ret)) (.skip))) (.seq (rgI a6c) (.seq (rgI a6b) (.seq (.seq (rgI a6a) (.cond (.t 48) (.seq (rgI b1n) (.ret)) (.skip))) (.seq (rgI a5Z) (.seq (rgI a5f) (.seq (rgI a5e) (.ret))))))))))
theorem b1p : fchk Pr (fun _ _ => false) Tryd.f3 = some (b2R, [.tmp 2], 74) := by kernel_rfl
theorem b1q : Pr.funcs[a7g]? = some Tryd.f3 := Tryd.func3
def b4e : List AIns := [⟨some 1, none, .e (.box 1 (.t 0))⟩,
  opI 2 (.mv (.c (.nil))),
  opI 3 (.mv (.c (.int .i64 0))),
  opI 4 (.mv (.c (.int .i64 0)))]
def a9u : List AIns := [opI 8 (.load none (.t 1)),
  opI 9 (.lens (.t 8)),
  opI 10 (.bin .gtr (.t 9) (.c (.int .i64 65536)))]
def b4d : List AIns := [opI 2 (.mv (.c (.nil))),
  opI 3 (.mv (.c (.int .i64 0))),
  opI 4 (.mv (.c (.int .i64 2)))]
def b4c : List AIns := [opI 11 (.load none (.t 1)),
  ⟨some 12, none, .call a1R [(.t 11), (.c (.str ⟨#[32]⟩))]⟩,
  ⟨some 13, none, .p (.bin .eql (.t 12) (.c (.str ⟨#[]⟩)))⟩]
def b4b : List AIns := [opI 2 (.mv (.c (.nil))),
  opI 3 (.mv (.c (.int .i64 0))),
  opI 4 (.mv (.c (.int .i64 0)))]
def b4a : List AIns := [⟨some 5, none, .e (.box 1 (.c (.nil)))⟩]
def a9t : List AIns := [opI 15 (.mkfn a0Q [(.t 1), (.t 5)]),
  ⟨some 16, none, .call a1B [(.t 15)]⟩,
  mvI 14 16,
  opI 17 (.ext (.t 14) 0),
  opI 18 (.ext (.t 14) 1),
  mvI 6 17,
  mvI 7 18]
def a9s : List AIns := [mvI 19 7,
  opI 20 (.bin .neq (.t 19) (.c (.int .i64 0)))]
def b3Z : List AIns := [mvI 21 6,
  mvI 22 7,
  opI 2 (.mv (.c (.nil))),
  mvI 3 21,
  mvI 4 22]
def b3Y : List AIns := [opI 23 (.load none (.t 5)),
  mvI 2 23,
  opI 3 (.mv (.c (.int .i64 0))),
  opI 4 (.mv (.c (.int .i64 0)))]
def c0z : ACode := .seq (rgI b4e) (.seq (.seq (rgI a9u) (.cond (.t 10) (.seq (rgI b4d) (.ret)) (.skip))) (.seq (.seq (rgI b4c) (.cond (.t 13) (.seq (rgI b4b) (.ret)) (.skip))) (.seq (rgI b4a) (.seq (rgI a9t) (.seq (.seq (rgI a9s) (.cond (.t 20) (.seq (rgI b3Z) (.ret)) (.skip))) (.seq (rgI b3Y) (.ret)))))))
theorem b8A : fchk Pr (fun _ _ => false) Tryd.f5 = some (c0z, [.tmp 2, .tmp 3, .tmp 4], 24) := by kernel_rfl
theorem b8B : Pr.funcs[a4k]? = some Tryd.f5 := Tryd.func5
def a9R : List AIns := [opI 2 (.mv (.c (.nil))),
  opI 3 (.mv (.c (.int .i64 0))),
  opI 4 (.mv (.c (.int .i64 0)))]
def a6H : List AIns := [mvI 13 0,
  opI 14 (.lens (.t 13)),
  opI 15 (.bin .gtr (.t 14) (.c (.int .i64 65536)))]
def a9Q : List AIns := [opI 2 (.mv (.c (.nil))),
  opI 3 (.mv (.c (.int .i64 0))),
  opI 4 (.mv (.c (.int .i64 2)))]
def a9P : List AIns := [opI 5 (.mv (.c (.bool true)))]
def a9O : List AIns := [opI 6 (.mv (.c (.int .i64 0)))]
def a6G : List AIns := [mvI 16 6,
  mvI 17 0,
  opI 18 (.lens (.t 17)),
  opI 19 (.bin .lss (.t 16) (.t 18))]
def a3U : List AIns := [mvI 22 5,
  mvI 23 22,
  ⟨some 24, some (23, true), .p (.mv (.t 0))⟩,
  ⟨some 25, some (23, true), .p (.mv (.t 6))⟩,
  ⟨some 26, some (23, true), .p (.idxs (.t 24) (.t 25))⟩,
  ⟨some 27, some (23, true), .p (.bin .eql (.t 26) (.c (.int .u8 32)))⟩,
  opI 28 (.pick (.t 23) (.t 27) (.c (.bool false))),
  mvI 5 28]
def a3T : List AIns := [mvI 20 6,
  opI 21 (.bin .add (.t 20) (.c (.int .i64 1))),
  mvI 6 21]
def b5W : ACode := .seq (.seq (rgI a6G) (.cond (.t 19) (.skip) (.exit 0))) (.seq (.block 1 (rgI a3U)) (rgI a3T))
def a6F : List AIns := [mvI 29 5]
def a9N : List AIns := [opI 2 (.mv (.c (.nil))),
  opI 3 (.mv (.c (.int .i64 0))),
  opI 4 (.mv (.c (.int .i64 0)))]
def a8L : List AIns := [opI 7 (.mv (.c (.nil)))]
def a8K : List AIns := [opI 8 (.mv (.c (.int .i64 0)))]
def a8J : List AIns := [opI 9 (.mv (.c (.int .i64 0)))]
def a2I : List AIns := [mvI 30 9,
  mvI 31 0,
  opI 32 (.lens (.t 31)),
  opI 33 (.bin .leq (.t 30) (.t 32))]
def a2H : List AIns := [mvI 36 9,
  mvI 37 0,
  opI 38 (.lens (.t 37)),
  opI 39 (.bin .eql (.t 36) (.t 38)),
  mvI 40 39,
  ⟨some 41, some (40, false), .p (.mv (.t 0))⟩,
  ⟨some 42, some (40, false), .p (.mv (.t 9))⟩,
  ⟨some 43, some (40, false), .p (.idxs (.t 41) (.t 42))⟩,
  ⟨some 44, some (40, false), .p (.bin .eql (.t 43) (.c (.int .u8 59)))⟩,
  opI 45 (.pick (.t 40) (.c (.bool true)) (.t 44))]
def a2G : List AIns := [mvI 47 0,
  mvI 48 8,
  mvI 49 9,
  ⟨some 50, none, .call a1S [(.t 47), (.t 48), (.t 49)]⟩,
  mvI 46 50,
  opI 51 (.ext (.t 46) 0),
  opI 52 (.ext (.t 46) 1),
  opI 53 (.ext (.t 46) 2),
  mvI 10 51,
  mvI 11 52,
  mvI 12 53]
def a2F : List AIns := [mvI 54 12,
  opI 55 (.un .not (.t 54))]
def a5n : List AIns := [mvI 56 11,
  opI 2 (.mv (.c (.nil))),
  mvI 3 56,
  opI 4 (.mv (.c (.int .i64 4)))]
def a5m : List AIns := [mvI 57 7,
  mvI 58 10,
  ⟨some 59, none, .e (.bsl 1 [(.t 58)])⟩,
  ⟨some 60, none, .e (.app 1 24 false (.t 57) (.t 59))⟩,
  mvI 7 60]
def a5l : List AIns := [mvI 61 9,
  opI 62 (.bin .add (.t 61) (.c (.int .i64 1))),
  mvI 8 62]
def a1k : List AIns := [mvI 34 9,
  opI 35 (.bin .add (.t 34) (.c (.int .i64 1))),
  mvI 9 35]
def a6I : ACode := .seq (.seq (rgI a2I) (.cond (.t 33) (.skip) (.exit 2))) (.seq (.block 3 (.seq (rgI a2H) (.cond (.t 45) (.seq (rgI a2G) (.seq (.seq (rgI a2F) (.cond (.t 55) (.seq (rgI a5n) (.ret)) (.skip))) (.seq (rgI a5m) (rgI a5l)))) (.skip)))) (rgI a1k))
def a2E : List AIns := [mvI 63 7,
  mvI 2 63,
  opI 3 (.mv (.c (.int .i64 0))),
  opI 4 (.mv (.c (.int .i64 0)))]
def b6X : ACode := .seq (rgI a9R) (.seq (.seq (rgI a6H) (.cond (.t 15) (.seq (rgI a9Q) (.ret)) (.skip))) (.seq (rgI a9P) (.seq (.seq (rgI a9O) (.block 0 (.loop b5W))) (.seq (.seq (rgI a6F) (.cond (.t 29) (.seq (rgI a9N) (.ret)) (.skip))) (.seq (rgI a8L) (.seq (rgI a8K) (.seq (.seq (rgI a8J) (.block 2 (.loop a6I))) (.seq (rgI a2E) (.ret)))))))))
theorem b5V : fchk Pr (fun _ _ => false) Tryd.f6 = some (b6X, [.tmp 2, .tmp 3, .tmp 4], 64) := by kernel_rfl
theorem b5X : Pr.funcs[a3r]? = some Tryd.f6 := Tryd.func6
def b2E : List AIns := [opI 4 (.mv (.c (.bool false)))]
def b2D : List AIns := [mvI 6 0,
  opI 7 (.len (.t 6)),
  mvI 8 1,
  opI 9 (.len (.t 8)),
  opI 10 (.bin .neq (.t 7) (.t 9))]
def b7E : List AIns := [opI 4 (.mv (.c (.bool false)))]
def b2C : List AIns := [opI 5 (.mv (.c (.int .i64 0)))]
def a8k : List AIns := [mvI 11 5,
  mvI 12 0,
  opI 13 (.len (.t 12)),
  opI 14 (.bin .lss (.t 11) (.t 13))]
def b2B : List AIns := [mvI 17 0,
  mvI 18 5,
  opI 19 (.idxp 1 (.t 17) (.t 18)),
  opI 20 (.load none (.t 19)),
  mvI 21 1,
  mvI 22 5,
  opI 23 (.idxp 1 (.t 21) (.t 22)),
  opI 24 (.load none (.t 23)),
  ⟨some 25, none, .call a6Z [(.t 20), (.t 24)]⟩,
  opI 26 (.un .not (.t 25))]
def b7D : List AIns := [opI 4 (.mv (.c (.bool false)))]
def b2A : List AIns := [mvI 15 5,
  opI 16 (.bin .add (.t 15) (.c (.int .i64 1))),
  mvI 5 16]
def b7G : ACode := .seq (.seq (rgI a8k) (.cond (.t 14) (.skip) (.exit 0))) (.seq (.block 1 (.seq (.region b2B true) (.cond (.t 26) (.seq (rgI b7D) (.ret)) (.skip)))) (rgI b2A))
def b2z : List AIns := [opI 4 (.mv (.c (.bool true)))]
def b8F : ACode := .seq (rgI b2E) (.seq (.seq (rgI b2D) (.cond (.t 10) (.seq (rgI b7E) (.ret)) (.skip))) (.seq (.seq (rgI b2C) (.block 0 (.loop b7G))) (.seq (rgI b2z) (.ret))))
theorem b7F : fchk Pr (fun _ _ => false) Tryd.f7 = some (b8F, [.tmp 4], 27) := by kernel_rfl
theorem b7H : Pr.funcs[a4T]? = some Tryd.f7 := Tryd.func7
def a4K : List AIns := [opI 2 (.mv (.c (.int .i64 0)))]
def a2r : List AIns := [mvI 3 2,
  mvI 4 0,
  opI 5 (.len (.t 4)),
  opI 6 (.bin .lss (.t 3) (.t 5))]
def a8g : List AIns := [mvI 9 0,
  mvI 10 2,
  opI 11 (.idxp 1 (.t 9) (.t 10)),
  opI 12 (.load none (.t 11)),
  ⟨some 13, none, .call a5H [(.t 12)]⟩]
def a8f : List AIns := [mvI 7 2,
  opI 8 (.bin .add (.t 7) (.c (.int .i64 1))),
  mvI 2 8]
def b4h : ACode := .seq (.seq (rgI a2r) (.cond (.t 6) (.skip) (.exit 0))) (.seq (.block 1 (rgI a8g)) (rgI a8f))
def b4V : ACode := .seq (rgI a4K) (.block 0 (.loop b4h))
theorem a8h : fchk Pr (fun _ _ => false) Tryd.f8 = some (b4V, [], 14) := by kernel_rfl
theorem a8i : Pr.funcs[a5I]? = some Tryd.f8 := Tryd.func8
def a5W : List AIns := [⟨some 1, none, .e (.box 1 (.t 0))⟩,
  opI 2 (.mv (.c (.nil))),
  opI 3 (.mv (.c (.int .i64 0))),
  opI 4 (.mv (.c (.int .i64 0)))]
def a2z : List AIns := [opI 8 (.load none (.t 1)),
  opI 9 (.lens (.t 8)),
  opI 10 (.bin .gtr (.t 9) (.c (.int .i64 65536)))]
def a5V : List AIns := [opI 2 (.mv (.c (.nil))),
  opI 3 (.mv (.c (.int .i64 0))),
  opI 4 (.mv (.c (.int .i64 2)))]
def a5U : List AIns := [⟨some 5, none, .e (.box 1 (.c (.nil)))⟩]
def a2y : List AIns := [opI 12 (.mkfn a0t [(.t 1), (.t 5)]),
  ⟨some 13, none, .call a1B [(.t 12)]⟩,
  mvI 11 13,
  opI 14 (.ext (.t 11) 0),
  opI 15 (.ext (.t 11) 1),
  mvI 6 14,
  mvI 7 15]
def a2x : List AIns := [mvI 16 7,
  opI 17 (.bin .neq (.t 16) (.c (.int .i64 0)))]
def a5T : List AIns := [mvI 18 6,
  mvI 19 7,
  opI 2 (.mv (.c (.nil))),
  mvI 3 18,
  mvI 4 19]
def a5S : List AIns := [opI 20 (.load none (.t 5)),
  mvI 2 20,
  opI 3 (.mv (.c (.int .i64 0))),
  opI 4 (.mv (.c (.int .i64 0)))]
def b2P : ACode := .seq (rgI a5W) (.seq (.seq (rgI a2z) (.cond (.t 10) (.seq (rgI a5V) (.ret)) (.skip))) (.seq (rgI a5U) (.seq (rgI a2y) (.seq (.seq (rgI a2x) (.cond (.t 17) (.seq (rgI a5T) (.ret)) (.skip))) (.seq (rgI a5S) (.ret))))))
theorem b1i : fchk Pr (fun _ _ => false) Tryd.f9 = some (b2P, [.tmp 2, .tmp 3, .tmp 4], 21) := by kernel_rfl
theorem b1j : Pr.funcs[a3E]? = some Tryd.f9 := Tryd.func9
def a4C : List AIns := [opI 2 (.mv (.c (.nil))),
  opI 3 (.mv (.c (.int .i64 0))),
  opI 4 (.mv (.c (.int .i64 0)))]
def a1Z : List AIns := [mvI 8 0,
  opI 9 (.lens (.t 8)),
  opI 10 (.bin .gtr (.t 9) (.c (.int .i64 65536)))]
def a4B : List AIns := [opI 2 (.mv (.c (.nil))),
  opI 3 (.mv (.c (.int .i64 0))),
  opI 4 (.mv (.c (.int .i64 2)))]
def a1Y : List AIns := [mvI 12 0,
  mvI 13 0,
  opI 14 (.lens (.t 13)),
  ⟨some 15, none, .call a1S [(.t 12), (.c (.int .i64 0)), (.t 14)]⟩,
  mvI 11 15,
  opI 16 (.ext (.t 11) 0),
  opI 17 (.ext (.t 11) 1),
  opI 18 (.ext (.t 11) 2),
  mvI 5 16,
  mvI 6 17,
  mvI 7 18]
def a1X : List AIns := [mvI 19 7,
  opI 20 (.un .not (.t 19))]
def a4A : List AIns := [mvI 21 6,
  opI 2 (.mv (.c (.nil))),
  mvI 3 21,
  opI 4 (.mv (.c (.int .i64 4)))]
def a4z : List AIns := [mvI 22 5,
  mvI 2 22,
  opI 3 (.mv (.c (.int .i64 0))),
  opI 4 (.mv (.c (.int .i64 0)))]
def a9S : ACode := .seq (rgI a4C) (.seq (.seq (rgI a1Z) (.cond (.t 10) (.seq (rgI a4B) (.ret)) (.skip))) (.seq (rgI a1Y) (.seq (.seq (rgI a1X) (.cond (.t 20) (.seq (rgI a4A) (.ret)) (.skip))) (.seq (rgI a4z) (.ret)))))
theorem a9k : fchk Pr (fun _ _ => false) Tryd.f10 = some (a9S, [.tmp 2, .tmp 3, .tmp 4], 23) := by kernel_rfl
theorem a9l : Pr.funcs[a2w]? = some Tryd.f10 := Tryd.func10
def b2y : List AIns := [opI 4 (.mv (.c (.bool false)))]
def b2x : List AIns := [mvI 6 0,
  opI 7 (.len (.t 6)),
  mvI 8 1,
  opI 9 (.len (.t 8)),
  opI 10 (.bin .neq (.t 7) (.t 9))]
def b7z : List AIns := [opI 4 (.mv (.c (.bool false)))]
def b2w : List AIns := [opI 5 (.mv (.c (.int .i64 0)))]
def a8j : List AIns := [mvI 11 5,
  mvI 12 0,
  opI 13 (.len (.t 12)),
  opI 14 (.bin .lss (.t 11) (.t 13))]
def b2v : List AIns := [mvI 17 0,
  mvI 18 5,
  opI 19 (.idxp 2 (.t 17) (.t 18)),
  opI 20 (.load (some 2) (.t 19)),
  mvI 21 1,
  mvI 22 5,
  opI 23 (.idxp 2 (.t 21) (.t 22)),
  opI 24 (.load (some 2) (.t 23)),
  ⟨some 25, none, .call b1x [(.t 20), (.t 24)]⟩,
  opI 26 (.un .not (.t 25))]
def b7y : List AIns := [opI 4 (.mv (.c (.bool false)))]
def b2u : List AIns := [mvI 15 5,
  opI 16 (.bin .add (.t 15) (.c (.int .i64 1))),
  mvI 5 16]
def b7B : ACode := .seq (.seq (rgI a8j) (.cond (.t 14) (.skip) (.exit 0))) (.seq (.block 1 (.seq (.region b2v true) (.cond (.t 26) (.seq (rgI b7y) (.ret)) (.skip)))) (rgI b2u))
def b2t : List AIns := [opI 4 (.mv (.c (.bool true)))]
def b8E : ACode := .seq (rgI b2y) (.seq (.seq (rgI b2x) (.cond (.t 10) (.seq (rgI b7z) (.ret)) (.skip))) (.seq (.seq (rgI b2w) (.block 0 (.loop b7B))) (.seq (rgI b2t) (.ret))))
theorem b7A : fchk Pr (fun _ _ => false) Tryd.f11 = some (b8E, [.tmp 4], 27) := by kernel_rfl
theorem b7C : Pr.funcs[a6Z]? = some Tryd.f11 := Tryd.func11
def a4u : List AIns := [⟨some 4, none, .p (.mv (.c (.str ⟨#[]⟩)))⟩]
def a4t : List AIns := [mvI 7 0,
  ⟨some 8, none, .p (.bin .eql (.t 7) (.c (.str ⟨#[]⟩)))⟩,
  mvI 9 8,
  ⟨some 10, some (9, false), .p (.mv (.t 1))⟩,
  ⟨some 11, some (9, false), .p (.bin .eql (.t 10) (.c (.str ⟨#[]⟩)))⟩,
  opI 12 (.pick (.t 9) (.c (.bool true)) (.t 11))]
def a7x : List AIns := [mvI 13 0,
  mvI 4 13]
def a7w : List AIns := [mvI 14 1,
  opI 15 (.lens (.t 14)),
  opI 16 (.bin .eql (.t 15) (.c (.int .i64 1))),
  mvI 17 16,
  ⟨some 18, some (17, true), .p (.mv (.t 1))⟩,
  ⟨some 19, some (17, true), .p (.idxs (.t 18) (.c (.int .i64 0)))⟩,
  ⟨some 20, some (17, true), .p (.bin .lss (.t 19) (.c (.int .u8 128)))⟩,
  opI 21 (.pick (.t 17) (.t 20) (.c (.bool false)))]
def a7v : List AIns := [mvI 22 0,
  mvI 23 1,
  opI 24 (.idxs (.t 23) (.c (.int .i64 0))),
  ⟨some 25, none, .call a1a [(.t 22), (.t 24)]⟩,
  mvI 26 1,
  opI 27 (.idxs (.t 26) (.c (.int .i64 0))),
  ⟨some 28, none, .call a1o [(.t 25), (.t 27)]⟩,
  mvI 4 28]
def b3x : List AIns := [mvI 30 1,
  ⟨some 31, none, .call a7i [(.t 30)]⟩,
  mvI 29 31,
  opI 32 (.ext (.t 29) 0),
  opI 33 (.ext (.t 29) 1),
  ⟨some 5, none, .e (.box 256 (.c (.agg [.bool false, .bool false, .bool false, .bool false, .bool false, .bool false, .bool false, .bool false, .bool false, .bool false, .bool false, .bool false, .bool false, .bool false, .bool false, .bool false, .bool false, .bool false, .bool false, .bool false, .bool false, .bool false, .bool false, .bool false, .bool false, .bool false, .bool false, .bool false, .bool false, .bool false, .bool false, .bool false, .bool false, .bool false, .bool false, .bool false, .bool false, .bool false, .bool false, .bool false, .bool false, .bool false, .bool false, .bool false, .bool false, .bool false, .bool false, .bool false, .bool false, .bool false, .bool false, .bool false, .bool false, .bool false, .bool false, .bool false, .bool false, .bool false, .bool false, .bool false, .bool false, .bool false, .bool false, .bool false, .bool false, .bool false, .bool false, .bool false, .bool false, .bool false, .bool false, .bool false, .bool false, .bool false, .bool false, .bool false, .bool false, .bool false, .bool false, .bool false, .bool false, .bool false, .bool false, .bool false, .bool false, .bool false, .bool false, .bool false, .bool false, .bool false, .bool false, .bool false, .bool false, .bool false, .bool false, .bool false, .bool false, .bool false, .bool false, .bool false, .bool false, .bool false, .bool false, .bool false, .bool false, .bool false, .bool false, .bool false, .bool false, .bool false, .bool false, .bool false, .bool false, .bool false, .bool false, .bool false, .bool false, .bool false, .bool false, .bool false, .bool false, .bool false, .bool false, .bool false, .bool false, .bool false, .bool false, .bool false, .bool false, .bool false, .bool false, .bool false, .bool false, .bool false, .bool false, .bool false, .bool false, .bool false, .bool false, .bool false, .bool false, .bool false, .bool false, .bool false, .bool false, .bool false, .bool false, .bool false, .bool false, .bool false, .bool false, .bool false, .bool false, .bool false, .bool false, .bool false, .bool false, .bool false, .bool false, .bool false, .bool false, .bool false, .bool false, .bool false, .bool false, .bool false, .bool false, .bool false, .bool false, .bool false, .bool false, .bool false, .bool false, .bool false, .bool false, .bool false, .bool false, .bool false, .bool false, .bool false, .bool false, .bool false, .bool false, .bool false, .bool false, .bool false, .bool false, .bool false, .bool false, .bool false, .bool false, .bool false, .bool false, .bool false, .bool false, .bool false, .bool false, .bool false, .bool false, .bool false, .bool false, .bool false, .bool false, .bool false, .bool false, .bool false, .bool false, .bool false, .bool false, .bool false, .bool false, .bool false, .bool false, .bool false, .bool false, .bool false, .bool false, .bool false, .bool false, .bool false, .bool false, .bool false, .bool false, .bool false, .bool false, .bool false, .bool false, .bool false, .bool false, .bool false, .bool false, .bool false, .bool false, .bool false, .bool false, .bool false, .bool false, .bool false, .bool false, .bool false, .bool false, .bool false, .bool false, .bool false, .bool false, .bool false, .bool false, .bool false, .bool false, .bool false, .bool false, .bool false, .bool false, .bool false, .bool false, .bool false])))⟩,
  ⟨none, none, .e (.store 256 (.t 5) (.t 32))⟩,
  mvI 6 33]
def b3w : List AIns := [mvI 34 6]
def b3v : List AIns := [mvI 35 0,
  ⟨some 36, none, .call a6n [(.t 35), (.t 5)]⟩,
  ⟨some 37, none, .call a6X [(.t 36), (.t 5)]⟩,
  mvI 4 37]
def b3u : List AIns := [mvI 38 0,
  mvI 39 1,
  ⟨some 40, none, .call a4V [(.t 38), (.t 39)]⟩,
  mvI 41 1,
  ⟨some 42, none, .call a5G [(.t 40), (.t 41)]⟩,
  mvI 4 42]
def b4K : ACode := .seq (rgI a4u) (.seq (.seq (rgI a4t) (.cond (.t 12) (.seq (rgI a7x) (.ret)) (.skip))) (.seq (.seq (rgI a7w) (.cond (.t 21) (.seq (.region a7v true) (.ret)) (.skip))) (.seq (.seq (rgI b3x) (.seq (rgI b3w) (.cond (.t 34) (.seq (rgI b3v) (.ret)) (.skip)))) (.seq (rgI b3u) (.ret)))))
theorem a7y : fchk Pr (fun _ _ => false) Tryd.f16 = some (b4K, [.tmp 4], 43) := by kernel_rfl
theorem a7z : Pr.funcs[a1R]? = some Tryd.f16 := Tryd.func16
def a4f : List AIns := [opI 12 (.load none (.t 1)),
  mvI 13 4,
  mvI 14 2,
  ⟨some 15, none, .call a0D [(.t 13), (.t 14)]⟩,
  ⟨some 16, none, .e (.bsl 1 [(.t 15)])⟩,
  ⟨some 17, none, .e (.app 1 24 false (.t 12) (.t 16))⟩,
  ⟨none, none, .e (.store 1 (.t 1) (.t 17))⟩]
def a7b : List AIns := [opI 4 (.mv (.c (.nil)))]
def a7a : List AIns := [mvI 5 0,
  mvI 6 1,
  ⟨some 7, none, .call a2u [(.t 5), (.t 6), (.c (.int .i64 0)), (.c (.int .i64 (-1)))]⟩,
  mvI 4 7]
def b3y : ACode := .seq (rgI a7b) (.seq (rgI a7a) (.ret))
theorem b2I : fchk Pr (fun _ _ => false) Tryd.f19 = some (b3y, [.tmp 4], 8) := by kernel_rfl
theorem b2J : Pr.funcs[a2v]? = some Tryd.f19 := Tryd.func19
def b2q : List AIns := [opI 4 (.mv (.c (.nil)))]
def b2p : List AIns := [opI 5 (.mv (.c (.nil)))]
def b2o : List AIns := [opI 6 (.mv (.c (.int .i64 0)))]
def a7W : List AIns := [mvI 11 6,
  mvI 12 0,
  opI 13 (.lens (.t 12)),
  opI 14 (.bin .lss (.t 11) (.t 13))]
def a7V : List AIns := [mvI 15 0,
  mvI 16 6,
  opI 17 (.idxs (.t 15) (.t 16)),
  opI 18 (.bin .eql (.t 17) (.c (.int .u8 32)))]
def b2n : List AIns := [mvI 19 6,
  opI 20 (.bin .add (.t 19) (.c (.int .i64 1))),
  mvI 6 20]
def b2m : List AIns := [mvI 21 6,
  mvI 7 21]
def a5d : List AIns := [mvI 22 7,
  mvI 23 0,
  opI 24 (.lens (.t 23)),
  opI 25 (.bin .lss (.t 22) (.t 24)),
  mvI 26 25,
  ⟨some 27, some (26, true), .p (.mv (.t 0))⟩,
  ⟨some 28, some (26, true), .p (.mv (.t 7))⟩,
  ⟨some 29, some (26, true), .p (.idxs (.t 27) (.t 28))⟩,
  ⟨some 30, some (26, true), .p (.bin .neq (.t 29) (.c (.int .u8 32)))⟩,
  opI 31 (.pick (.t 26) (.t 30) (.c (.bool false)))]
def b2l : List AIns := [mvI 32 7,
  opI 33 (.bin .add (.t 32) (.c (.int .i64 1))),
  mvI 7 33]
def b7p : ACode := .seq (.seq (rgI a5d) (.cond (.t 31) (.skip) (.exit 2))) (.block 3 (rgI b2l))
def a5c : List AIns := [mvI 35 0,
  mvI 36 6,
  mvI 37 7,
  opI 38 (.slcs (.t 35) (some (.t 36)) (some (.t 37))),
  ⟨some 39, none, .call a1A [(.t 38)]⟩,
  mvI 34 39,
  opI 40 (.ext (.t 34) 0),
  opI 41 (.ext (.t 34) 1),
  opI 42 (.ext (.t 34) 2),
  ⟨some 8, none, .e (.box 2 (.c (.agg [.bool false, .nil])))⟩,
  ⟨none, none, .e (.store 2 (.t 8) (.t 40))⟩,
  mvI 9 41,
  mvI 10 42]
def a4c : List AIns := [mvI 43 10,
  opI 44 (.bin .neq (.t 43) (.c (.int .i64 0)))]
def a6R : List AIns := [mvI 50 5,
  opI 51 (.load (some 2) (.t 8)),
  ⟨some 52, none, .e (.bsl 2 [(.t 51)])⟩,
  ⟨some 53, none, .e (.app 2 32 false (.t 50) (.t 52))⟩,
  mvI 5 53]
def a6Q : List AIns := [mvI 54 7,
  mvI 6 54]
noncomputable def b2r : ACode := .seq (.seq (rgI a7W) (.cond (.t 14) (.skip) (.exit 0))) (.block 1 (.seq (.seq (rgI a7V) (.cond (.t 18) (.seq (rgI b2n) (.exit 1)) (.skip))) (.seq (rgI b2m) (.seq (.block 2 (.loop b7p)) (.seq (rgI a5c) (.seq (.seq (rgI a4c) (.cond (.t 44) (.raw 11 (a0R Tryd.f20 11) false) (.skip))) (.seq (rgI a6R) (rgI a6Q))))))))
def b0D : List AIns := [mvI 55 5,
  mvI 4 55]
def b8z : ACode := .seq (rgI b2q) (.seq (rgI b2p) (.seq (.seq (rgI b2o) (.block 0 (.loop b2r))) (.seq (rgI b0D) (.ret))))
theorem b7o : fchk Pr (fun _ _ => false) Tryd.f20 = some (b8z, [.tmp 4], 56) := by kernel_rfl
theorem b7q : Pr.funcs[a0D]? = some Tryd.f20 := Tryd.func20
def a7M : List AIns := [opI 6 (.mv (.c (.nil))),
  opI 7 (.mv (.c (.int .i64 0))),
  opI 8 (.mv (.c (.bool false)))]
def a7L : List AIns := [opI 9 (.mv (.c (.nil)))]
def a7K : List AIns := [mvI 15 1,
  mvI 10 15]
def a2o : List AIns := [mvI 16 10,
  mvI 17 2,
  opI 18 (.bin .lss (.t 16) (.t 17))]
def a4y : List AIns := [mvI 19 0,
  mvI 20 10,
  opI 21 (.idxs (.t 19) (.t 20)),
  opI 22 (.bin .eql (.t 21) (.c (.int .u8 32)))]
def a7J : List AIns := [mvI 23 10,
  opI 24 (.bin .add (.t 23) (.c (.int .i64 1))),
  mvI 10 24]
def a7I : List AIns := [mvI 25 10,
  mvI 11 25]
def a2n : List AIns := [mvI 26 11,
  mvI 27 2,
  opI 28 (.bin .lss (.t 26) (.t 27)),
  mvI 29 28,
  ⟨some 30, some (29, true), .p (.mv (.t 0))⟩,
  ⟨some 31, some (29, true), .p (.mv (.t 11))⟩,
  ⟨some 32, some (29, true), .p (.idxs (.t 30) (.t 31))⟩,
  ⟨some 33, some (29, true), .p (.bin .neq (.t 32) (.c (.int .u8 32)))⟩,
  opI 34 (.pick (.t 29) (.t 33) (.c (.bool false)))]
def a7H : List AIns := [mvI 35 11,
  opI 36 (.bin .add (.t 35) (.c (.int .i64 1))),
  mvI 11 36]
def b3I : ACode := .seq (.seq (rgI a2n) (.cond (.t 34) (.skip) (.exit 2))) (.block 3 (rgI a7H))
def a2m : List AIns := [mvI 38 0,
  mvI 39 10,
  mvI 40 11,
  opI 41 (.slcs (.t 38) (some (.t 39)) (some (.t 40))),
  ⟨some 42, none, .call a5h [(.t 41)]⟩,
  mvI 37 42,
  opI 43 (.ext (.t 37) 0),
  opI 44 (.ext (.t 37) 1),
  opI 45 (.ext (.t 37) 2),
  ⟨some 12, none, .e (.box 2 (.c (.agg [.bool false, .nil])))⟩,
  ⟨none, none, .e (.store 2 (.t 12) (.t 43))⟩,
  mvI 13 44,
  mvI 14 45]
def a1T : List AIns := [mvI 46 14,
  opI 47 (.bin .neq (.t 46) (.c (.int .i64 0)))]
def a3v : List AIns := [mvI 48 10,
  opI 6 (.mv (.c (.nil))),
  mvI 7 48,
  opI 8 (.mv (.c (.bool false)))]
def a3u : List AIns := [mvI 49 9,
  opI 50 (.load (some 2) (.t 12)),
  ⟨some 51, none, .e (.bsl 2 [(.t 50)])⟩,
  ⟨some 52, none, .e (.app 2 32 false (.t 49) (.t 51))⟩,
  mvI 9 52]
def a3t : List AIns := [mvI 53 11,
  mvI 10 53]
def a7N : ACode := .seq (.seq (rgI a2o) (.cond (.t 18) (.skip) (.exit 0))) (.block 1 (.seq (.seq (rgI a4y) (.cond (.t 22) (.seq (rgI a7J) (.exit 1)) (.skip))) (.seq (rgI a7I) (.seq (.block 2 (.loop b3I)) (.seq (rgI a2m) (.seq (.seq (rgI a1T) (.cond (.t 47) (.seq (rgI a3v) (.ret)) (.skip))) (.seq (rgI a3u) (rgI a3t))))))))
def a3s : List AIns := [mvI 54 9,
  mvI 6 54,
  opI 7 (.mv (.c (.int .i64 0))),
  opI 8 (.mv (.c (.bool true)))]
def b4N : ACode := .seq (rgI a7M) (.seq (rgI a7L) (.seq (.seq (rgI a7K) (.block 0 (.loop a7N))) (.seq (rgI a3s) (.ret))))
theorem b3H : fchk Pr (fun _ _ => false) Tryd.f21 = some (b4N, [.tmp 6, .tmp 7, .tmp 8], 55) := by kernel_rfl
theorem b3J : Pr.funcs[a1S]? = some Tryd.f21 := Tryd.func21
def a4J : List AIns := [opI 2 (.mv (.c (.int .i64 0)))]
def a2q : List AIns := [mvI 3 2,
  mvI 4 0,
  opI 5 (.len (.t 4)),
  opI 6 (.bin .lss (.t 3) (.t 5))]
def a8c : List AIns := [mvI 9 0,
  mvI 10 2,
  opI 11 (.idxp 2 (.t 9) (.t 10)),
  opI 12 (.load (some 2) (.t 11)),
  ⟨some 13, none, .call a4j [(.t 12)]⟩]
def a8b : List AIns := [mvI 14 0,
  mvI 15 2,
  opI 16 (.bld [.bool false, .nil] [(0, 1, (.c (.bool true))), (1, 1, (.c (.nil)))]),
  opI 17 (.idxp 2 (.t 14) (.t 15)),
  ⟨none, none, .e (.store 2 (.t 17) (.t 16))⟩]
def a8a : List AIns := [mvI 7 2,
  opI 8 (.bin .add (.t 7) (.c (.int .i64 1))),
  mvI 2 8]
def b4g : ACode := .seq (.seq (rgI a2q) (.cond (.t 6) (.skip) (.exit 0))) (.seq (.block 1 (.seq (rgI a8c) (rgI a8b))) (rgI a8a))
def b4U : ACode := .seq (rgI a4J) (.block 0 (.loop b4g))
theorem a8d : fchk Pr (fun _ _ => false) Tryd.f22 = some (b4U, [], 18) := by kernel_rfl
theorem a8e : Pr.funcs[a5H]? = some Tryd.f22 := Tryd.func22
def a4F : List AIns := [opI 2 (.load none (.t 0)),
  ⟨some 3, none, .call a0D [(.t 2), (.c (.int .i64 0))]⟩,
  ⟨none, none, .e (.store 1 (.t 1) (.t 3))⟩]
def b0L : ACode := rgI a4F
theorem a4G : fchk Pr (fun _ _ => false) Tryd.f23 = some (b0L, [], 4) := by kernel_rfl
theorem a4H : Pr.funcs[a0t]? = some Tryd.f23 := Tryd.func23
def b4n : List AIns := [⟨some 2, none, .e (.box 2 (.t 0))⟩,
  ⟨some 3, none, .e (.box 2 (.t 1))⟩,
  opI 4 (.mv (.c (.bool false)))]
def b4m : List AIns := [opI 6 (.fldp (.t 2) 0),
  opI 7 (.load none (.t 6)),
  opI 8 (.fldp (.t 3) 0),
  opI 9 (.load none (.t 8)),
  opI 10 (.beq true (.t 7) (.t 9)),
  mvI 11 10,
  ⟨some 12, some (11, false), .p (.fldp (.t 2) 1)⟩,
  ⟨some 13, some (11, false), .p (.load none (.t 12))⟩,
  ⟨some 14, some (11, false), .p (.len (.t 13))⟩,
  ⟨some 15, some (11, false), .p (.fldp (.t 3) 1)⟩,
  ⟨some 16, some (11, false), .p (.load none (.t 15))⟩,
  ⟨some 17, some (11, false), .p (.len (.t 16))⟩,
  ⟨some 18, some (11, false), .p (.bin .neq (.t 14) (.t 17))⟩,
  opI 19 (.pick (.t 11) (.c (.bool true)) (.t 18))]
def b8H : List AIns := [opI 4 (.mv (.c (.bool false)))]
def b4l : List AIns := [opI 5 (.mv (.c (.int .i64 0)))]
def a9v : List AIns := [mvI 20 5,
  opI 21 (.fldp (.t 2) 1),
  opI 22 (.load none (.t 21)),
  opI 23 (.len (.t 22)),
  opI 24 (.bin .lss (.t 20) (.t 23))]
def b4k : List AIns := [opI 27 (.fldp (.t 2) 1),
  opI 28 (.load none (.t 27)),
  mvI 29 5,
  opI 30 (.idxp 1 (.t 28) (.t 29)),
  opI 31 (.load none (.t 30)),
  opI 32 (.fldp (.t 3) 1),
  opI 33 (.load none (.t 32)),
  mvI 34 5,
  opI 35 (.idxp 1 (.t 33) (.t 34)),
  opI 36 (.load none (.t 35)),
  opI 37 (.bin .neq (.t 31) (.t 36))]
def b8G : List AIns := [opI 4 (.mv (.c (.bool false)))]
def b4j : List AIns := [mvI 25 5,
  opI 26 (.bin .add (.t 25) (.c (.int .i64 1))),
  mvI 5 26]
def b8J : ACode := .seq (.seq (rgI a9v) (.cond (.t 24) (.skip) (.exit 0))) (.seq (.block 1 (.seq (.region b4k true) (.cond (.t 37) (.seq (rgI b8G) (.ret)) (.skip)))) (rgI b4j))
def b4i : List AIns := [opI 4 (.mv (.c (.bool true)))]
def c0D : ACode := .seq (rgI b4n) (.seq (.seq (rgI b4m) (.cond (.t 19) (.seq (rgI b8H) (.ret)) (.skip))) (.seq (.seq (rgI b4l) (.block 0 (.loop b8J))) (.seq (rgI b4i) (.ret))))
theorem b8I : fchk Pr (fun _ _ => false) Tryd.f24 = some (c0D, [.tmp 4], 38) := by kernel_rfl
theorem b8K : Pr.funcs[b1x]? = some Tryd.f24 := Tryd.func24
def a2l : List AIns := [⟨some 4, none, .p (.mv (.c (.str ⟨#[]⟩)))⟩]
def a0M : List AIns := [mvI 5 0,
  opI 6 (.lens (.t 5)),
  opI 7 (.bin .gtr (.t 6) (.c (.int .i64 0))),
  mvI 8 7,
  ⟨some 9, some (8, true), .p (.mv (.t 0))⟩,
  ⟨some 10, some (8, true), .p (.idxs (.t 9) (.c (.int .i64 0)))⟩,
  ⟨some 11, some (8, true), .p (.mv (.t 1))⟩,
  ⟨some 12, some (8, true), .p (.bin .eql (.t 10) (.t 11))⟩,
  opI 13 (.pick (.t 8) (.t 12) (.c (.bool false)))]
def a2k : List AIns := [mvI 14 0,
  opI 15 (.slcs (.t 14) (some (.c (.int .i64 1))) none),
  mvI 0 15]
def a6B : ACode := .seq (.seq (rgI a0M) (.cond (.t 13) (.skip) (.exit 0))) (.block 1 (rgI a2k))
def a0Y : List AIns := [mvI 16 0,
  mvI 4 16]
def a7h : ACode := .seq (rgI a2l) (.seq (.block 0 (.loop a6B)) (.seq (rgI a0Y) (.ret)))
theorem a6A : fchk Pr (fun _ _ => false) Tryd.f34 = some (a7h, [.tmp 4], 17) := by kernel_rfl
theorem a6C : Pr.funcs[a1o]? = some Tryd.f34 := Tryd.func34
def a2e : List AIns := [⟨some 4, none, .p (.mv (.c (.str ⟨#[]⟩)))⟩]
def a0F : List AIns := [mvI 5 0,
  opI 6 (.lens (.t 5)),
  opI 7 (.bin .gtr (.t 6) (.c (.int .i64 0))),
  mvI 8 7,
  ⟨some 9, some (8, true), .p (.mv (.t 0))⟩,
  ⟨some 10, some (8, true), .p (.mv (.t 0))⟩,
  ⟨some 11, some (8, true), .p (.lens (.t 10))⟩,
  ⟨some 12, some (8, true), .p (.bin .sub (.t 11) (.c (.int .i64 1)))⟩,
  ⟨some 13, some (8, true), .p (.idxs (.t 9) (.t 12))⟩,
  ⟨some 14, some (8, true), .p (.mv (.t 1))⟩,
  ⟨some 15, some (8, true), .p (.bin .eql (.t 13) (.t 14))⟩,
  opI 16 (.pick (.t 8) (.t 15) (.c (.bool false)))]
def a2d : List AIns := [mvI 17 0,
  mvI 18 0,
  opI 19 (.lens (.t 18)),
  opI 20 (.bin .sub (.t 19) (.c (.int .i64 1))),
  opI 21 (.slcs (.t 17) none (some (.t 20))),
  mvI 0 21]
def a5L : ACode := .seq (.seq (rgI a0F) (.cond (.t 16) (.skip) (.exit 0))) (.block 1 (rgI a2d))
def a0T : List AIns := [mvI 22 0,
  mvI 4 22]
def a6z : ACode := .seq (rgI a2e) (.seq (.block 0 (.loop a5L)) (.seq (rgI a0T) (.ret)))
theorem a5K : fchk Pr (fun _ _ => false) Tryd.f35 = some (a6z, [.tmp 4], 23) := by kernel_rfl
theorem a5M : Pr.funcs[a1a]? = some Tryd.f35 := Tryd.func35
def a4s : List AIns := [opI 8 (.mv (.c (.nil)))]
def a4r : List AIns := [mvI 12 3,
  opI 13 (.bin .eql (.t 12) (.c (.int .i64 0)))]
def a9d : List AIns := [opI 8 (.mv (.c (.nil)))]
def a4q : List AIns := [mvI 14 1,
  ⟨some 15, none, .p (.bin .eql (.t 14) (.c (.str ⟨#[]⟩)))⟩]
def a9c : List AIns := [mvI 16 0,
  mvI 17 3,
  ⟨some 18, none, .call b1w [(.t 16), (.t 17)]⟩,
  mvI 8 18]
def a4p : List AIns := [mvI 19 3,
  opI 20 (.bin .lss (.t 19) (.c (.int .i64 0)))]
def a4o : List AIns := [mvI 21 0,
  mvI 22 1,
  ⟨some 23, none, .call a8s [(.t 21), (.t 22)]⟩,
  opI 24 (.bin .add (.t 23) (.c (.int .i64 1))),
  mvI 3 24]
def a4n : List AIns := [mvI 25 3,
  mvI 26 0,
  opI 27 (.lens (.t 26)),
  opI 28 (.bin .add (.t 27) (.c (.int .i64 1))),
  opI 29 (.mnx false (.t 25) (.t 28)),
  mvI 3 29]
def a4m : List AIns := [mvI 30 3,
  ⟨some 31, none, .e (.mksl 1 16 (.str ⟨#[]⟩) (.t 30) (.t 30))⟩,
  mvI 9 31]
def a4l : List AIns := [mvI 32 3,
  opI 33 (.bin .sub (.t 32) (.c (.int .i64 1))),
  mvI 3 33]
def a3M : List AIns := [opI 10 (.mv (.c (.int .i64 0)))]
def a1I : List AIns := [mvI 34 10,
  mvI 35 3,
  opI 36 (.bin .lss (.t 34) (.t 35))]
def a3L : List AIns := [mvI 37 0,
  mvI 38 1,
  ⟨some 39, none, .call a4S [(.t 37), (.t 38)]⟩,
  mvI 11 39]
def a3K : List AIns := [mvI 40 11,
  opI 41 (.bin .lss (.t 40) (.c (.int .i64 0)))]
def a3J : List AIns := [mvI 42 9,
  mvI 43 10,
  mvI 44 0,
  mvI 45 11,
  mvI 46 2,
  opI 47 (.bin .add (.t 45) (.t 46)),
  opI 48 (.slcs (.t 44) none (some (.t 47))),
  opI 49 (.idxp 1 (.t 42) (.t 43)),
  ⟨none, none, .e (.store 1 (.t 49) (.t 48))⟩]
def a3I : List AIns := [mvI 50 0,
  mvI 51 11,
  mvI 52 1,
  opI 53 (.lens (.t 52)),
  opI 54 (.bin .add (.t 51) (.t 53)),
  opI 55 (.slcs (.t 50) (some (.t 54)) none),
  mvI 0 55]
def a3H : List AIns := [mvI 56 10,
  opI 57 (.bin .add (.t 56) (.c (.int .i64 1))),
  mvI 10 57]
def a9f : ACode := .seq (.seq (rgI a1I) (.cond (.t 36) (.skip) (.exit 0))) (.block 1 (.seq (rgI a3L) (.seq (.seq (rgI a3K) (.cond (.t 41) (.exit 0) (.skip))) (.seq (rgI a3J) (.seq (rgI a3I) (rgI a3H))))))
def a3G : List AIns := [mvI 58 9,
  mvI 59 10,
  mvI 60 0,
  opI 61 (.idxp 1 (.t 58) (.t 59)),
  ⟨none, none, .e (.store 1 (.t 61) (.t 60))⟩]
def a3F : List AIns := [mvI 62 9,
  mvI 63 10,
  opI 64 (.bin .add (.t 63) (.c (.int .i64 1))),
  opI 65 (.slc 1 (.t 62) none (some (.t 64)) none),
  mvI 8 65]
def a9K : ACode := .seq (rgI a4s) (.seq (.seq (rgI a4r) (.cond (.t 13) (.seq (rgI a9d) (.ret)) (.skip))) (.seq (.seq (rgI a4q) (.cond (.t 15) (.seq (rgI a9c) (.ret)) (.skip))) (.seq (.seq (rgI a4p) (.cond (.t 20) (rgI a4o) (.skip))) (.seq (rgI a4n) (.seq (rgI a4m) (.seq (rgI a4l) (.seq (rgI a3M) (.seq (.block 0 (.loop a9f)) (.seq (rgI a3G) (.seq (rgI a3F) (.ret)))))))))))
theorem a9e : fchk Pr (fun _ _ => false) Tryd.f42 = some (a9K, [.tmp 8], 66) := by kernel_rfl
theorem a9g : Pr.funcs[a2u]? = some Tryd.f42 := Tryd.func42
def b1E : List AIns := [⟨some 2, none, .e (.box 2 (.c (.agg [.bool false, .nil])))⟩,
  opI 3 (.mv (.c (.int .i64 0))),
  opI 4 (.mv (.c (.int .i64 0)))]
def b1D : List AIns := [mvI 11 0,
  opI 12 (.lens (.t 11)),
  opI 13 (.bin .gtr (.t 12) (.c (.int .i64 65536)))]
def b6H : List AIns := [opI 14 (.bld [.bool false, .nil] []),
  ⟨none, none, .e (.store 2 (.t 2) (.t 14))⟩,
  opI 3 (.mv (.c (.int .i64 0))),
  opI 4 (.mv (.c (.int .i64 2)))]
def b1C : List AIns := [opI 5 (.mv (.c (.int .i64 0)))]
def a4X : List AIns := [mvI 15 0,
  opI 16 (.lens (.t 15)),
  opI 17 (.bin .gtr (.t 16) (.c (.int .i64 0))),
  mvI 18 17,
  ⟨some 19, some (18, true), .p (.mv (.t 0))⟩,
  ⟨some 20, some (18, true), .p (.idxs (.t 19) (.c (.int .i64 0)))⟩,
  ⟨some 21, some (18, true), .p (.bin .eql (.t 20) (.c (.int .u8 45)))⟩,
  opI 22 (.pick (.t 18) (.t 21) (.c (.bool false)))]
def b1B : List AIns := [opI 5 (.mv (.c (.int .i64 1)))]
def a2a : List AIns := [mvI 23 5,
  opI 24 (.bin .eql (.t 23) (.c (.int .i64 1))),
  mvI 25 24,
  ⟨some 26, some (25, true), .p (.mv (.t 0))⟩,
  ⟨some 27, some (25, true), .p (.lens (.t 26))⟩,
  ⟨some 28, some (25, true), .p (.bin .gtr (.t 27) (.c (.int .i64 1)))⟩,
  opI 29 (.pick (.t 25) (.t 28) (.c (.bool false))),
  mvI 30 29,
  ⟨some 31, some (30, true), .p (.mv (.t 0))⟩,
  ⟨some 32, some (30, true), .p (.idxs (.t 31) (.c (.int .i64 1)))⟩,
  ⟨some 33, some (30, true), .p (.bin .eql (.t 32) (.c (.int .u8 48)))⟩,
  opI 34 (.pick (.t 30) (.t 33) (.c (.bool false)))]
def b1A : List AIns := [opI 35 (.bld [.bool false, .nil] []),
  ⟨none, none, .e (.store 2 (.t 2) (.t 35))⟩,
  opI 3 (.mv (.c (.int .i64 1))),
  opI 4 (.mv (.c (.int .i64 4)))]
def a4W : List AIns := [mvI 36 5,
  mvI 6 36]
def a7n : List AIns := [mvI 37 6,
  mvI 38 0,
  opI 39 (.lens (.t 38)),
  opI 40 (.bin .lss (.t 37) (.t 39))]
def a1C : List AIns := [mvI 43 0,
  mvI 44 6,
  opI 45 (.idxs (.t 43) (.t 44)),
  opI 46 (.bin .lss (.t 45) (.c (.int .u8 48))),
  mvI 47 46,
  ⟨some 48, some (47, false), .p (.mv (.t 0))⟩,
  ⟨some 49, some (47, false), .p (.mv (.t 6))⟩,
  ⟨some 50, some (47, false), .p (.idxs (.t 48) (.t 49))⟩,
  ⟨some 51, some (47, false), .p (.bin .gtr (.t 50) (.c (.int .u8 57)))⟩,
  opI 52 (.pick (.t 47) (.c (.bool true)) (.t 51)),
  mvI 53 52,
  ⟨some 54, some (53, false), .p (.mv (.t 6))⟩,
  ⟨some 55, some (53, false), .p (.mv (.t 5))⟩,
  ⟨some 56, some (53, false), .p (.bin .add (.t 55) (.c (.int .i64 1)))⟩,
  ⟨some 57, some (53, false), .p (.bin .eql (.t 54) (.t 56))⟩,
  ⟨some 58, some (53, false), .p (.mv (.t 57))⟩,
  ⟨some 59, some (58, true), .p (.mv (.t 0))⟩,
  ⟨some 60, some (58, true), .p (.mv (.t 5))⟩,
  ⟨some 61, some (58, true), .p (.idxs (.t 59) (.t 60))⟩,
  ⟨some 62, some (58, true), .p (.bin .eql (.t 61) (.c (.int .u8 48)))⟩,
  ⟨some 63, some (53, false), .p (.pick (.t 58) (.t 62) (.c (.bool false)))⟩,
  opI 64 (.pick (.t 53) (.c (.bool true)) (.t 63))]
def a3Q : List AIns := [opI 65 (.bld [.bool false, .nil] []),
  mvI 66 6,
  ⟨none, none, .e (.store 2 (.t 2) (.t 65))⟩,
  mvI 3 66,
  opI 4 (.mv (.c (.int .i64 4)))]
def a6v : List AIns := [mvI 41 6,
  opI 42 (.bin .add (.t 41) (.c (.int .i64 1))),
  mvI 6 42]
def a7p : ACode := .seq (.seq (rgI a7n) (.cond (.t 40) (.skip) (.exit 0))) (.seq (.block 1 (.seq (rgI a1C) (.cond (.t 64) (.seq (rgI a3Q) (.ret)) (.skip)))) (rgI a6v))
def a3P : List AIns := [mvI 67 5,
  mvI 68 0,
  opI 69 (.lens (.t 68)),
  opI 70 (.bin .eql (.t 67) (.t 69))]
def a6u : List AIns := [opI 71 (.bld [.bool false, .nil] []),
  mvI 72 5,
  ⟨none, none, .e (.store 2 (.t 2) (.t 71))⟩,
  mvI 3 72,
  opI 4 (.mv (.c (.int .i64 4)))]
def a6t : List AIns := [opI 7 (.mv (.c (.nil)))]
def a6s : List AIns := [mvI 73 5,
  mvI 8 73]
def a6r : List AIns := [mvI 74 8,
  mvI 75 0,
  opI 76 (.lens (.t 75)),
  opI 77 (.bin .lss (.t 74) (.t 76))]
def a9C : List AIns := [mvI 78 0,
  opI 79 (.lens (.t 78)),
  mvI 80 8,
  opI 81 (.bin .sub (.t 79) (.t 80)),
  opI 82 (.mnx false (.c (.int .i64 9)) (.t 81)),
  mvI 9 82]
def a9B : List AIns := [opI 10 (.mv (.c (.int .u32 0)))]
def a9A : List AIns := [mvI 83 9,
  opI 84 (.mv (.c (.int .i64 0)))]
def a6q : List AIns := [opI 85 (.bin .lss (.t 84) (.t 83))]
def a9z : List AIns := [mvI 86 10,
  opI 87 (.bin .mul (.c (.int .u32 10)) (.t 86)),
  mvI 88 0,
  mvI 89 8,
  opI 90 (.idxs (.t 88) (.t 89)),
  opI 91 (.bin .sub (.t 90) (.c (.int .u8 48))),
  opI 92 (.conv .u32 (.t 91)),
  opI 93 (.bin .add (.t 87) (.t 92)),
  mvI 10 93]
def a9y : List AIns := [mvI 94 8,
  opI 95 (.bin .add (.t 94) (.c (.int .i64 1))),
  mvI 8 95]
def a9x : List AIns := [opI 96 (.bin .add (.t 84) (.c (.int .i64 1))),
  mvI 84 96]
def b6I : ACode := .seq (rgI a6q) (.seq (.cond (.t 85) (.skip) (.exit 4)) (.seq (.block 5 (.seq (rgI a9z) (rgI a9y))) (rgI a9x)))
def a9w : List AIns := [mvI 97 7,
  mvI 98 9,
  ⟨some 99, none, .call a8r [(.t 98)]⟩,
  ⟨some 100, none, .e (.bsl 1 [(.t 99)])⟩,
  ⟨some 101, none, .call a6o [(.t 97), (.t 100)]⟩,
  mvI 102 10,
  ⟨some 103, none, .e (.bsl 1 [(.t 102)])⟩,
  ⟨some 104, none, .call a6p [(.t 101), (.t 103)]⟩,
  mvI 7 104]
def b1F : ACode := .seq (.seq (rgI a6r) (.cond (.t 77) (.skip) (.exit 2))) (.block 3 (.seq (rgI a9C) (.seq (rgI a9B) (.seq (.seq (rgI a9A) (.block 4 (.loop b6I))) (rgI a9w)))))
def a2j : List AIns := [mvI 105 5,
  opI 106 (.bin .eql (.t 105) (.c (.int .i64 1))),
  mvI 107 7,
  ⟨some 108, none, .call a0Z [(.t 106), (.t 107)]⟩,
  ⟨none, none, .e (.store 2 (.t 2) (.t 108))⟩,
  opI 3 (.mv (.c (.int .i64 0))),
  opI 4 (.mv (.c (.int .i64 0)))]
def b3i : ACode := .seq (rgI b1E) (.seq (.seq (rgI b1D) (.cond (.t 13) (.seq (rgI b6H) (.ret)) (.skip))) (.seq (rgI b1C) (.seq (.seq (rgI a4X) (.cond (.t 22) (rgI b1B) (.skip))) (.seq (.seq (rgI a2a) (.cond (.t 34) (.seq (rgI b1A) (.ret)) (.skip))) (.seq (.seq (rgI a4W) (.block 0 (.loop a7p))) (.seq (.seq (rgI a3P) (.cond (.t 70) (.seq (rgI a6u) (.ret)) (.skip))) (.seq (rgI a6t) (.seq (.seq (rgI a6s) (.block 2 (.loop b1F))) (.seq (rgI a2j) (.ret))))))))))
theorem a7o : fchk Pr (fun _ _ => false) Tryd.f43 = some (b3i, [.cell 2 (some 2), .tmp 3, .tmp 4], 109) := by kernel_rfl
theorem a7q : Pr.funcs[a1A]? = some Tryd.f43 := Tryd.func43
def a9Z : List AIns := [⟨some 2, none, .e (.box 2 (.c (.agg [.bool false, .nil])))⟩,
  opI 3 (.mv (.c (.int .i64 0))),
  opI 4 (.mv (.c (.int .i64 0)))]
def a9Y : List AIns := [mvI 9 0,
  opI 10 (.lens (.t 9)),
  opI 11 (.bin .gtr (.t 10) (.c (.int .i64 65536)))]
def b6a : List AIns := [opI 12 (.bld [.bool false, .nil] []),
  ⟨none, none, .e (.store 2 (.t 2) (.t 12))⟩,
  opI 3 (.mv (.c (.int .i64 0))),
  opI 4 (.mv (.c (.int .i64 2)))]
def a9X : List AIns := [opI 5 (.mv (.c (.int .i64 0)))]
def a3X : List AIns := [mvI 13 0,
  opI 14 (.lens (.t 13)),
  opI 15 (.bin .gtr (.t 14) (.c (.int .i64 0))),
  mvI 16 15,
  ⟨some 17, some (16, true), .p (.mv (.t 0))⟩,
  ⟨some 18, some (16, true), .p (.idxs (.t 17) (.c (.int .i64 0)))⟩,
  ⟨some 19, some (16, true), .p (.bin .eql (.t 18) (.c (.int .u8 45)))⟩,
  opI 20 (.pick (.t 16) (.t 19) (.c (.bool false)))]
def a9W : List AIns := [opI 5 (.mv (.c (.int .i64 1)))]
def a1D : List AIns := [mvI 21 5,
  opI 22 (.bin .eql (.t 21) (.c (.int .i64 1))),
  mvI 23 22,
  ⟨some 24, some (23, true), .p (.mv (.t 0))⟩,
  ⟨some 25, some (23, true), .p (.lens (.t 24))⟩,
  ⟨some 26, some (23, true), .p (.bin .gtr (.t 25) (.c (.int .i64 1)))⟩,
  opI 27 (.pick (.t 23) (.t 26) (.c (.bool false))),
  mvI 28 27,
  ⟨some 29, some (28, true), .p (.mv (.t 0))⟩,
  ⟨some 30, some (28, true), .p (.idxs (.t 29) (.c (.int .i64 1)))⟩,
  ⟨some 31, some (28, true), .p (.bin .eql (.t 30) (.c (.int .u8 48)))⟩,
  opI 32 (.pick (.t 28) (.t 31) (.c (.bool false)))]
def a9V : List AIns := [opI 33 (.bld [.bool false, .nil] []),
  ⟨none, none, .e (.store 2 (.t 2) (.t 33))⟩,
  opI 3 (.mv (.c (.int .i64 1))),
  opI 4 (.mv (.c (.int .i64 4)))]
def a3W : List AIns := [mvI 35 0,
  mvI 36 5,
  opI 37 (.slcs (.t 35) (some (.t 36)) none),
  ⟨some 38, none, .call a2h [(.t 37)]⟩,
  mvI 34 38,
  opI 39 (.ext (.t 34) 0),
  opI 40 (.ext (.t 34) 1),
  opI 41 (.ext (.t 34) 2),
  mvI 6 39,
  mvI 7 40,
  mvI 8 41]
def a3V : List AIns := [mvI 42 8,
  opI 43 (.bin .neq (.t 42) (.c (.int .i64 0)))]
def a5p : List AIns := [opI 44 (.bld [.bool false, .nil] []),
  mvI 45 5,
  mvI 46 7,
  opI 47 (.bin .add (.t 45) (.t 46)),
  ⟨none, none, .e (.store 2 (.t 2) (.t 44))⟩,
  mvI 3 47,
  opI 4 (.mv (.c (.int .i64 4)))]
def a5o : List AIns := [mvI 48 5,
  opI 49 (.bin .eql (.t 48) (.c (.int .i64 1))),
  mvI 50 6,
  ⟨some 51, none, .call a8t [(.t 49), (.t 50)]⟩,
  ⟨none, none, .e (.store 2 (.t 2) (.t 51))⟩,
  opI 3 (.mv (.c (.int .i64 0))),
  opI 4 (.mv (.c (.int .i64 0)))]
def b6Z : ACode := .seq (rgI a9Z) (.seq (.seq (rgI a9Y) (.cond (.t 11) (.seq (rgI b6a) (.ret)) (.skip))) (.seq (rgI a9X) (.seq (.seq (rgI a3X) (.cond (.t 20) (rgI a9W) (.skip))) (.seq (.seq (rgI a1D) (.cond (.t 32) (.seq (rgI a9V) (.ret)) (.skip))) (.seq (rgI a3W) (.seq (.seq (rgI a3V) (.cond (.t 43) (.seq (rgI a5p) (.ret)) (.skip))) (.seq (rgI a5o) (.ret))))))))
theorem b6b : fchk Pr (fun _ _ => false) Tryd.f44 = some (b6Z, [.cell 2 (some 2), .tmp 3, .tmp 4], 52) := by kernel_rfl
theorem b6c : Pr.funcs[a5h]? = some Tryd.f44 := Tryd.func44
def a5C : List AIns := [⟨some 1, none, .e (.box 2 (.t 0))⟩]
def a5B : List AIns := [opI 2 (.mv (.c (.int .i64 0)))]
def a2K : List AIns := [mvI 4 2,
  opI 5 (.fldp (.t 1) 1),
  opI 6 (.load none (.t 5)),
  opI 7 (.len (.t 6)),
  opI 8 (.bin .lss (.t 4) (.t 7))]
def a8V : List AIns := [opI 11 (.fldp (.t 1) 1),
  opI 12 (.load none (.t 11)),
  mvI 13 2,
  opI 14 (.fldp (.t 1) 1),
  opI 15 (.load none (.t 14)),
  mvI 16 2,
  opI 17 (.idxp 1 (.t 15) (.t 16)),
  opI 18 (.load none (.t 17)),
  opI 19 (.bin .xor (.t 18) (.c (.int .u32 21845))),
  opI 20 (.idxp 1 (.t 12) (.t 13)),
  ⟨none, none, .e (.store 1 (.t 20) (.t 19))⟩]
def a8U : List AIns := [mvI 9 2,
  opI 10 (.bin .add (.t 9) (.c (.int .i64 1))),
  mvI 2 10]
def b4W : ACode := .seq (.seq (rgI a2K) (.cond (.t 8) (.skip) (.exit 0))) (.seq (.block 1 (.region a8V true)) (rgI a8U))
def a5A : List AIns := [opI 3 (.mv (.c (.int .i64 0)))]
def a1O : List AIns := [mvI 21 3,
  opI 22 (.bin .lss (.t 21) (.c (.int .i64 9)))]
def a1N : List AIns := [opI 25 (.fldp (.t 1) 1),
  opI 26 (.load none (.t 25)),
  mvI 27 3,
  opI 28 (.bin .add (.c (.int .i64 900)) (.t 27)),
  opI 29 (.conv .u32 (.t 28)),
  ⟨some 30, none, .e (.bsl 1 [(.t 29)])⟩,
  ⟨some 31, none, .e (.app 1 4 false (.t 26) (.t 30))⟩,
  opI 32 (.fldp (.t 1) 1),
  ⟨none, none, .e (.store 1 (.t 32) (.t 31))⟩]
def a2J : List AIns := [mvI 23 3,
  opI 24 (.bin .add (.t 23) (.c (.int .i64 1))),
  mvI 3 24]
def a2L : ACode := .seq (.seq (rgI a1O) (.cond (.t 22) (.skip) (.exit 2))) (.seq (.block 3 (rgI a1N)) (rgI a2J))
def b6u : ACode := .seq (rgI a5C) (.seq (.seq (rgI a5B) (.block 0 (.loop b4W))) (.seq (rgI a5A) (.block 2 (.loop a2L))))
theorem a8W : fchk Pr (fun _ _ => false) Tryd.f45 = some (b6u, [], 33) := by kernel_rfl
theorem a8X : Pr.funcs[a4j]? = some Tryd.f45 := Tryd.func45
def a7l : List AIns := [⟨some 4, none, .e (.box 2 (.c (.agg [.bool false, .nil])))⟩]
def a7k : List AIns := [mvI 7 1,
  opI 8 (.len (.t 7)),
  mvI 5 8]
def a2O : List AIns := [mvI 9 5,
  opI 10 (.bin .gtr (.t 9) (.c (.int .i64 0))),
  mvI 11 10,
  ⟨some 12, some (11, true), .p (.mv (.t 1))⟩,
  ⟨some 13, some (11, true), .p (.mv (.t 5))⟩,
  ⟨some 14, some (11, true), .p (.bin .sub (.t 13) (.c (.int .i64 1)))⟩,
  ⟨some 15, some (11, true), .p (.idxp 1 (.t 12) (.t 14))⟩,
  ⟨some 16, some (11, true), .p (.load none (.t 15))⟩,
  ⟨some 17, some (11, true), .p (.bin .eql (.t 16) (.c (.int .u32 0)))⟩,
  opI 18 (.pick (.t 11) (.t 17) (.c (.bool false)))]
def a7j : List AIns := [mvI 19 5,
  opI 20 (.bin .sub (.t 19) (.c (.int .i64 1))),
  mvI 5 20]
def a7m : ACode := .seq (.seq (rgI a2O) (.cond (.t 18) (.skip) (.exit 0))) (.block 1 (rgI a7j))
def a1v : List AIns := [mvI 21 5,
  opI 22 (.bin .eql (.t 21) (.c (.int .i64 0)))]
def a1u : List AIns := [opI 23 (.bld [.bool false, .nil] []),
  ⟨none, none, .e (.store 2 (.t 4) (.t 23))⟩]
def a1t : List AIns := [mvI 24 5,
  ⟨some 25, none, .e (.mksl 1 4 (.int .u32 0) (.t 24) (.t 24))⟩,
  mvI 6 25]
def a1s : List AIns := [mvI 26 6,
  mvI 27 1,
  ⟨some 28, none, .e (.cpy 1 (.t 26) (.t 27))⟩]
def a1r : List AIns := [mvI 29 0,
  mvI 30 6,
  opI 31 (.bld [.bool false, .nil] [(0, 1, (.t 29)), (1, 1, (.t 30))]),
  ⟨none, none, .e (.store 2 (.t 4) (.t 31))⟩]
def b8f : ACode := .seq (rgI a7l) (.seq (rgI a7k) (.seq (.block 0 (.loop a7m)) (.seq (.seq (rgI a1v) (.cond (.t 22) (.seq (rgI a1u) (.ret)) (.skip))) (.seq (rgI a1t) (.seq (rgI a1s) (.seq (rgI a1r) (.ret)))))))
theorem b1y : fchk Pr (fun _ _ => false) Tryd.f53 = some (b8f, [.cell 4 (some 2)], 32) := by kernel_rfl
theorem b1z : Pr.funcs[a0Z]? = some Tryd.f53 := Tryd.func53
def a7d : List AIns := [opI 4 (.mv (.c (.int .i64 0)))]
def a7c : List AIns := [mvI 5 0,
  mvI 6 1,
  ⟨some 7, none, .call a0N [(.t 5), (.t 6)]⟩,
  mvI 4 7]
def b3z : ACode := .seq (rgI a7d) (.seq (rgI a7c) (.ret))
theorem b2K : fchk Pr (fun _ _ => false) Tryd.f60 = some (b3z, [.tmp 4], 8) := by kernel_rfl
theorem b2L : Pr.funcs[a4S]? = some Tryd.f60 := Tryd.func60
end Go.Abs
set_option maxRecDepth 100000
noncomputable section
namespace Go.Abs
open Go.Proofs
def b5x : List AIns := [opI 4 (.mv (.c (.nil)))]
def b5w : List AIns := [mvI 8 0,
  opI 9 (.len (.t 8)),
  mvI 10 1,
  opI 11 (.len (.t 10)),
  opI 12 (.bin .lss (.t 9) (.t 11))]
def b5v : List AIns := [mvI 13 1,
  mvI 14 0,
  mvI 0 13,
  mvI 1 14]
def b1g : List AIns := [mvI 15 0,
  opI 16 (.len (.t 15)),
  opI 17 (.bin .add (.t 16) (.c (.int .i64 1))),
  ⟨some 18, none, .e (.mksl 1 4 (.int .u32 0) (.t 17) (.t 17))⟩,
  mvI 5 18]
def b1f : List AIns := [opI 6 (.mv (.c (.int .u64 0)))]
def b1e : List AIns := [mvI 19 0,
  opI 20 (.len (.t 19)),
  opI 21 (.mv (.c (.int .i64 0)))]
def b1d : List AIns := [opI 22 (.bin .lss (.t 21) (.t 20))]
def b5u : List AIns := [mvI 23 21,
  mvI 7 23]
def b5t : List AIns := [mvI 24 6,
  mvI 25 0,
  mvI 26 7,
  opI 27 (.idxp 1 (.t 25) (.t 26)),
  opI 28 (.load none (.t 27)),
  opI 29 (.conv .u64 (.t 28)),
  opI 30 (.bin .add (.t 24) (.t 29)),
  mvI 6 30]
def b5s : List AIns := [mvI 31 7,
  mvI 32 1,
  opI 33 (.len (.t 32)),
  opI 34 (.bin .lss (.t 31) (.t 33))]
def b3X : List AIns := [mvI 35 6,
  mvI 36 1,
  mvI 37 7,
  opI 38 (.idxp 1 (.t 36) (.t 37)),
  opI 39 (.load none (.t 38)),
  opI 40 (.conv .u64 (.t 39)),
  opI 41 (.bin .add (.t 35) (.t 40)),
  mvI 6 41]
def a9r : List AIns := [mvI 42 5,
  mvI 43 7,
  mvI 44 6,
  opI 45 (.conv .u32 (.t 44)),
  opI 46 (.idxp 1 (.t 42) (.t 43)),
  ⟨none, none, .e (.store 1 (.t 46) (.t 45))⟩]
def a9q : List AIns := [mvI 47 6,
  opI 48 (.bin .shr (.t 47) (.c (.int .u64 32))),
  mvI 6 48]
def a9p : List AIns := [opI 49 (.bin .add (.t 21) (.c (.int .i64 1))),
  mvI 21 49]
def a8A : ACode := .seq (rgI b1d) (.seq (.cond (.t 22) (.skip) (.exit 0)) (.seq (.block 1 (.seq (rgI b5u) (.seq (rgI b5t) (.seq (.seq (rgI b5s) (.cond (.t 34) (rgI b3X) (.skip))) (.seq (rgI a9r) (rgI a9q)))))) (rgI a9p)))
def a4E : List AIns := [mvI 50 5,
  mvI 51 0,
  opI 52 (.len (.t 51)),
  mvI 53 6,
  opI 54 (.conv .u32 (.t 53)),
  opI 55 (.idxp 1 (.t 50) (.t 52)),
  ⟨none, none, .e (.store 1 (.t 55) (.t 54))⟩]
def a4D : List AIns := [mvI 56 5,
  ⟨some 57, none, .call a2D [(.t 56)]⟩,
  mvI 4 57]
def c1G : ACode := .seq (rgI b5x) (.seq (.seq (rgI b5w) (.cond (.t 12) (rgI b5v) (.skip))) (.seq (rgI b1g) (.seq (rgI b1f) (.seq (.seq (rgI b1e) (.block 0 (.loop a8A))) (.seq (rgI a4E) (.seq (rgI a4D) (.ret)))))))
theorem c0v : fchk Pr (fun _ _ => false) Tryd.f61 = some (c1G, [.tmp 4], 58) := by kernel_rfl
theorem c0w : Pr.funcs[a6p]? = some Tryd.f61 := Tryd.func61
def b5p : List AIns := [opI 4 (.mv (.c (.nil)))]
def b5o : List AIns := [mvI 9 0,
  ⟨some 10, none, .call a2D [(.t 9)]⟩,
  mvI 11 1,
  ⟨some 12, none, .call a2D [(.t 11)]⟩,
  mvI 0 10,
  mvI 1 12]
def b5n : List AIns := [mvI 13 0,
  opI 14 (.len (.t 13)),
  mvI 15 1,
  opI 16 (.len (.t 15)),
  opI 17 (.bin .add (.t 14) (.t 16)),
  ⟨some 18, none, .e (.mksl 1 4 (.int .u32 0) (.t 17) (.t 17))⟩,
  mvI 5 18]
def b5m : List AIns := [mvI 19 0,
  opI 20 (.len (.t 19)),
  opI 21 (.mv (.c (.int .i64 0)))]
def b1c : List AIns := [opI 22 (.bin .lss (.t 21) (.t 20))]
def b5l : List AIns := [mvI 23 21,
  mvI 6 23]
def b5k : List AIns := [opI 7 (.mv (.c (.int .u64 0)))]
def b5j : List AIns := [mvI 24 1,
  opI 25 (.len (.t 24)),
  opI 26 (.mv (.c (.int .i64 0)))]
def b1b : List AIns := [opI 27 (.bin .lss (.t 26) (.t 25))]
def b5i : List AIns := [mvI 28 26,
  mvI 8 28]
def b3W : List AIns := [mvI 29 7,
  mvI 30 0,
  mvI 31 6,
  opI 32 (.idxp 1 (.t 30) (.t 31)),
  opI 33 (.load none (.t 32)),
  opI 34 (.conv .u64 (.t 33)),
  mvI 35 1,
  mvI 36 8,
  opI 37 (.idxp 1 (.t 35) (.t 36)),
  opI 38 (.load none (.t 37)),
  opI 39 (.conv .u64 (.t 38)),
  opI 40 (.bin .mul (.t 34) (.t 39)),
  mvI 41 5,
  mvI 42 6,
  mvI 43 8,
  opI 44 (.bin .add (.t 42) (.t 43)),
  opI 45 (.idxp 1 (.t 41) (.t 44)),
  opI 46 (.load none (.t 45)),
  opI 47 (.conv .u64 (.t 46)),
  opI 48 (.bin .add (.t 40) (.t 47)),
  opI 49 (.bin .add (.t 29) (.t 48)),
  mvI 7 49]
def b3V : List AIns := [mvI 50 5,
  mvI 51 6,
  mvI 52 8,
  opI 53 (.bin .add (.t 51) (.t 52)),
  mvI 54 7,
  opI 55 (.conv .u32 (.t 54)),
  opI 56 (.idxp 1 (.t 50) (.t 53)),
  ⟨none, none, .e (.store 1 (.t 56) (.t 55))⟩]
def b3U : List AIns := [mvI 57 7,
  opI 58 (.bin .shr (.t 57) (.c (.int .u64 32))),
  mvI 7 58]
def b3T : List AIns := [opI 59 (.bin .add (.t 26) (.c (.int .i64 1))),
  mvI 26 59]
def b5q : ACode := .seq (rgI b1b) (.seq (.cond (.t 27) (.skip) (.exit 2)) (.seq (.block 3 (.seq (rgI b5i) (.seq (.region b3W true) (.seq (rgI b3V) (rgI b3U))))) (rgI b3T)))
def b3S : List AIns := [mvI 60 5,
  mvI 61 6,
  mvI 62 1,
  opI 63 (.len (.t 62)),
  opI 64 (.bin .add (.t 61) (.t 63)),
  mvI 65 7,
  opI 66 (.conv .u32 (.t 65)),
  opI 67 (.idxp 1 (.t 60) (.t 64)),
  ⟨none, none, .e (.store 1 (.t 67) (.t 66))⟩]
def b3R : List AIns := [opI 68 (.bin .add (.t 21) (.c (.int .i64 1))),
  mvI 21 68]
def b5r : ACode := .seq (rgI b1c) (.seq (.cond (.t 22) (.skip) (.exit 0)) (.seq (.block 1 (.seq (rgI b5l) (.seq (rgI b5k) (.seq (.seq (rgI b5j) (.block 2 (.loop b5q))) (rgI b3S))))) (rgI b3R)))
def a9o : List AIns := [mvI 69 5,
  ⟨some 70, none, .call a2D [(.t 69)]⟩,
  mvI 4 70]
def c1F : ACode := .seq (rgI b5p) (.seq (rgI b5o) (.seq (rgI b5n) (.seq (.seq (rgI b5m) (.block 0 (.loop b5r))) (.seq (rgI a9o) (.ret)))))
theorem c0t : fchk Pr (fun _ _ => false) Tryd.f62 = some (c1F, [.tmp 4], 71) := by kernel_rfl
theorem c0u : Pr.funcs[a6o]? = some Tryd.f62 := Tryd.func62
def b0m : List AIns := [opI 2 (.mv (.c (.nil))),
  opI 3 (.mv (.c (.int .i64 0))),
  opI 4 (.mv (.c (.int .i64 0)))]
def b0l : List AIns := [mvI 7 0,
  opI 8 (.lens (.t 7)),
  opI 9 (.bin .gtr (.t 8) (.c (.int .i64 65536)))]
def b6h : List AIns := [opI 2 (.mv (.c (.nil))),
  opI 3 (.mv (.c (.int .i64 0))),
  opI 4 (.mv (.c (.int .i64 2)))]
def a6L : List AIns := [mvI 10 0,
  opI 11 (.lens (.t 10)),
  opI 12 (.bin .eql (.t 11) (.c (.int .i64 0)))]
def b0k : List AIns := [opI 2 (.mv (.c (.nil))),
  opI 3 (.mv (.c (.int .i64 0))),
  opI 4 (.mv (.c (.int .i64 4)))]
def b0j : List AIns := [opI 5 (.mv (.c (.nil)))]
def b0i : List AIns := [opI 6 (.mv (.c (.int .i64 0)))]
def a6K : List AIns := [mvI 13 6,
  mvI 14 0,
  opI 15 (.lens (.t 14)),
  opI 16 (.bin .lss (.t 13) (.t 15))]
def a1E : List AIns := [mvI 19 0,
  mvI 20 6,
  opI 21 (.idxs (.t 19) (.t 20)),
  opI 22 (.bin .lss (.t 21) (.c (.int .u8 48))),
  mvI 23 22,
  ⟨some 24, some (23, false), .p (.mv (.t 0))⟩,
  ⟨some 25, some (23, false), .p (.mv (.t 6))⟩,
  ⟨some 26, some (23, false), .p (.idxs (.t 24) (.t 25))⟩,
  ⟨some 27, some (23, false), .p (.bin .gtr (.t 26) (.c (.int .u8 57)))⟩,
  opI 28 (.pick (.t 23) (.c (.bool true)) (.t 27)),
  mvI 29 28,
  ⟨some 30, some (29, false), .p (.mv (.t 6))⟩,
  ⟨some 31, some (29, false), .p (.bin .eql (.t 30) (.c (.int .i64 1)))⟩,
  ⟨some 32, some (29, false), .p (.mv (.t 31))⟩,
  ⟨some 33, some (32, true), .p (.mv (.t 0))⟩,
  ⟨some 34, some (32, true), .p (.idxs (.t 33) (.c (.int .i64 0)))⟩,
  ⟨some 35, some (32, true), .p (.bin .eql (.t 34) (.c (.int .u8 48)))⟩,
  ⟨some 36, some (29, false), .p (.pick (.t 32) (.t 35) (.c (.bool false)))⟩,
  opI 37 (.pick (.t 29) (.c (.bool true)) (.t 36))]
def a3Y : List AIns := [mvI 38 6,
  opI 2 (.mv (.c (.nil))),
  mvI 3 38,
  opI 4 (.mv (.c (.int .i64 4)))]
def a5s : List AIns := [mvI 39 5,
  ⟨some 40, none, .e (.bsl 1 [(.c (.int .u32 10))])⟩,
  ⟨some 41, none, .call a2C [(.t 39), (.t 40)]⟩,
  mvI 42 0,
  mvI 43 6,
  opI 44 (.idxs (.t 42) (.t 43)),
  opI 45 (.bin .sub (.t 44) (.c (.int .u8 48))),
  opI 46 (.conv .u32 (.t 45)),
  ⟨some 47, none, .e (.bsl 1 [(.t 46)])⟩,
  ⟨some 48, none, .call a6Y [(.t 41), (.t 47)]⟩,
  mvI 5 48]
def a5r : List AIns := [mvI 17 6,
  opI 18 (.bin .add (.t 17) (.c (.int .i64 1))),
  mvI 6 18]
def b0o : ACode := .seq (.seq (rgI a6K) (.cond (.t 16) (.skip) (.exit 0))) (.seq (.block 1 (.seq (.seq (rgI a1E) (.cond (.t 37) (.seq (rgI a3Y) (.ret)) (.skip))) (.region a5s true))) (rgI a5r))
def a5q : List AIns := [mvI 49 5,
  mvI 2 49,
  opI 3 (.mv (.c (.int .i64 0))),
  opI 4 (.mv (.c (.int .i64 0)))]
def b1O : ACode := .seq (rgI b0m) (.seq (.seq (rgI b0l) (.cond (.t 9) (.seq (rgI b6h) (.ret)) (.skip))) (.seq (.seq (rgI a6L) (.cond (.t 12) (.seq (rgI b0k) (.ret)) (.skip))) (.seq (rgI b0j) (.seq (.seq (rgI b0i) (.block 0 (.loop b0o))) (.seq (rgI a5q) (.ret))))))
theorem b0n : fchk Pr (fun _ _ => false) Tryd.f64 = some (b1O, [.tmp 2, .tmp 3, .tmp 4], 50) := by kernel_rfl
theorem b0p : Pr.funcs[a2h]? = some Tryd.f64 := Tryd.func64
def a9U : List AIns := [⟨some 4, none, .e (.box 2 (.c (.agg [.bool false, .nil])))⟩]
def a9T : List AIns := [mvI 6 1,
  ⟨some 7, none, .call a0W [(.t 6)]⟩,
  mvI 5 7]
def a6J : List AIns := [mvI 8 0,
  mvI 9 8,
  ⟨some 10, some (9, true), .p (.mv (.t 5))⟩,
  ⟨some 11, some (9, true), .p (.len (.t 10))⟩,
  ⟨some 12, some (9, true), .p (.bin .gtr (.t 11) (.c (.int .i64 0)))⟩,
  opI 13 (.pick (.t 9) (.t 12) (.c (.bool false))),
  mvI 14 5,
  opI 15 (.bld [.bool false, .nil] [(0, 1, (.t 13)), (1, 1, (.t 14))]),
  ⟨none, none, .e (.store 2 (.t 4) (.t 15))⟩]
def b6Y : ACode := .seq (rgI a9U) (.seq (rgI a9T) (.seq (rgI a6J) (.ret)))
theorem b5Y : fchk Pr (fun _ _ => false) Tryd.f65 = some (b6Y, [.cell 4 (some 2)], 16) := by kernel_rfl
theorem b5Z : Pr.funcs[a8t]? = some Tryd.f65 := Tryd.func65
def a0L : List AIns := [opI 4 (.mv (.c (.int .i64 0)))]
def a0K : List AIns := [mvI 14 1,
  opI 15 (.lens (.t 14)),
  mvI 5 15]
def a0J : List AIns := [mvI 17 5,
  opI 18 (.bin .eql (.t 17) (.c (.int .i64 0))),
  mvI 19 18,
  ⟨some 20, some (19, false), .p (.mv (.t 1))⟩,
  ⟨some 21, some (19, false), .p (.mv (.t 0))⟩,
  ⟨some 22, some (19, false), .p (.bin .eql (.t 20) (.t 21))⟩,
  opI 23 (.pick (.t 19) (.c (.bool true)) (.t 22)),
  mvI 16 23]
def a1f : List AIns := [opI 4 (.mv (.c (.int .i64 0)))]
def a1e : List AIns := [mvI 25 5,
  opI 26 (.bin .eql (.t 25) (.c (.int .i64 1))),
  mvI 24 26]
def a1d : List AIns := [mvI 27 0,
  mvI 28 1,
  opI 29 (.idxs (.t 28) (.c (.int .i64 0))),
  ⟨some 30, none, .call a0A [(.t 27), (.t 29)]⟩,
  mvI 4 30]
def a3A : List AIns := [mvI 32 5,
  mvI 33 0,
  opI 34 (.lens (.t 33)),
  opI 35 (.bin .geq (.t 32) (.t 34)),
  mvI 31 35]
def a3z : List AIns := [opI 4 (.mv (.c (.int .i64 (-1))))]
def a3y : List AIns := [mvI 45 0,
  mvI 46 1,
  ⟨some 47, none, .call a0X [(.t 45), (.t 46)]⟩,
  mvI 4 47]
def a3x : List AIns := [mvI 48 1,
  opI 49 (.idxs (.t 48) (.c (.int .i64 0))),
  mvI 6 49]
def a3o : List AIns := [mvI 50 1,
  opI 51 (.idxs (.t 50) (.c (.int .i64 1))),
  mvI 7 51]
def a3n : List AIns := [opI 8 (.mv (.c (.int .i64 0)))]
def a3m : List AIns := [mvI 52 0,
  opI 53 (.lens (.t 52)),
  mvI 54 5,
  opI 55 (.bin .sub (.t 53) (.t 54)),
  opI 56 (.bin .add (.t 55) (.c (.int .i64 1))),
  mvI 9 56]
def a3l : List AIns := [opI 10 (.mv (.c (.int .i64 0)))]
def a3k : List AIns := [mvI 57 8,
  mvI 58 9,
  opI 59 (.bin .lss (.t 57) (.t 58))]
def a3j : List AIns := [mvI 60 0,
  mvI 61 8,
  opI 62 (.idxs (.t 60) (.t 61)),
  mvI 63 6,
  opI 64 (.bin .neq (.t 62) (.t 63))]
def a3i : List AIns := [mvI 65 0,
  mvI 66 8,
  opI 67 (.bin .add (.t 66) (.c (.int .i64 1))),
  mvI 68 9,
  opI 69 (.slcs (.t 65) (some (.t 67)) (some (.t 68))),
  mvI 70 6,
  ⟨some 71, none, .call a0A [(.t 69), (.t 70)]⟩,
  mvI 11 71]
def a3h : List AIns := [mvI 72 11,
  opI 73 (.bin .lss (.t 72) (.c (.int .i64 0)))]
def a3g : List AIns := [opI 4 (.mv (.c (.int .i64 (-1))))]
def a3f : List AIns := [mvI 74 8,
  mvI 75 11,
  opI 76 (.bin .add (.t 75) (.c (.int .i64 1))),
  opI 77 (.bin .add (.t 74) (.t 76)),
  mvI 8 77]
def a3e : List AIns := [mvI 78 0,
  mvI 79 8,
  opI 80 (.bin .add (.t 79) (.c (.int .i64 1))),
  opI 81 (.idxs (.t 78) (.t 80)),
  mvI 82 7,
  opI 83 (.bin .eql (.t 81) (.t 82)),
  mvI 84 83,
  ⟨some 85, some (84, true), .p (.mv (.t 0))⟩,
  ⟨some 86, some (84, true), .p (.mv (.t 8))⟩,
  ⟨some 87, some (84, true), .p (.mv (.t 8))⟩,
  ⟨some 88, some (84, true), .p (.mv (.t 5))⟩,
  ⟨some 89, some (84, true), .p (.bin .add (.t 87) (.t 88))⟩,
  ⟨some 90, some (84, true), .p (.slcs (.t 85) (some (.t 86)) (some (.t 89)))⟩,
  ⟨some 91, some (84, true), .p (.mv (.t 1))⟩,
  ⟨some 92, some (84, true), .p (.bin .eql (.t 90) (.t 91))⟩,
  opI 93 (.pick (.t 84) (.t 92) (.c (.bool false)))]
def a3d : List AIns := [mvI 94 8,
  mvI 4 94]
def a3c : List AIns := [mvI 95 8,
  opI 96 (.bin .add (.t 95) (.c (.int .i64 1))),
  mvI 8 96]
def a3b : List AIns := [mvI 97 10,
  opI 98 (.bin .add (.t 97) (.c (.int .i64 1))),
  mvI 10 98]
def a3a : List AIns := [mvI 108 0,
  mvI 109 8,
  opI 110 (.slcs (.t 108) (some (.t 109)) none),
  mvI 111 1,
  ⟨some 112, none, .call a0X [(.t 110), (.t 111)]⟩,
  mvI 12 112]
def a2Z : List AIns := [mvI 113 12,
  opI 114 (.bin .geq (.t 113) (.c (.int .i64 0)))]
def a2Y : List AIns := [mvI 115 12,
  mvI 116 8,
  opI 117 (.bin .add (.t 115) (.t 116)),
  mvI 4 117]
def a2X : List AIns := [opI 4 (.mv (.c (.int .i64 (-1))))]
def a2W : List AIns := [mvI 133 0,
  mvI 134 8,
  opI 135 (.slcs (.t 133) (some (.t 134)) none),
  mvI 136 1,
  ⟨some 137, none, .call a1q [(.t 135), (.t 136)]⟩,
  mvI 13 137]
def a2V : List AIns := [mvI 138 13,
  opI 139 (.bin .lss (.t 138) (.c (.int .i64 0)))]
def a2U : List AIns := [opI 4 (.mv (.c (.int .i64 (-1))))]
def a2T : List AIns := [mvI 140 8,
  mvI 141 13,
  opI 142 (.bin .add (.t 140) (.t 141)),
  mvI 4 142]
noncomputable def a3B : ACode := .seq (.seq (rgI a3k) (.cond (.t 59) (.skip) (.exit 1))) (.block 2 (.seq (.seq (rgI a3j) (.cond (.t 64) (.seq (rgI a3i) (.seq (.seq (rgI a3h) (.cond (.t 73) (.seq (rgI a3g) (.ret)) (.skip))) (rgI a3f))) (.skip))) (.seq (.seq (rgI a3e) (.cond (.t 93) (.seq (rgI a3d) (.ret)) (.skip))) (.seq (rgI a3c) (.seq (rgI a3b) (.seq (.raw 25 (a0R Tryd.f76 25) false) (.cond (.t 107) (.seq (rgI a3a) (.seq (.seq (rgI a2Z) (.cond (.t 114) (.seq (rgI a2Y) (.ret)) (.skip))) (.seq (rgI a2X) (.ret)))) (.seq (.raw 30 (a0R Tryd.f76 30) false) (.cond (.t 132) (.seq (rgI a2W) (.seq (.seq (rgI a2V) (.cond (.t 139) (.seq (rgI a2U) (.ret)) (.skip))) (.seq (rgI a2T) (.ret)))) (.skip))))))))))
def a2S : List AIns := [opI 4 (.mv (.c (.int .i64 (-1))))]
noncomputable def a4h : ACode := .seq (rgI a0L) (.seq (rgI a0K) (.seq (.block 0 (.seq (rgI a0J) (.cond (.t 16) (.seq (rgI a1f) (.ret)) (.seq (rgI a1e) (.cond (.t 24) (.seq (rgI a1d) (.ret)) (.seq (rgI a3A) (.cond (.t 31) (.seq (rgI a3z) (.ret)) (.seq (.raw 8 (a0R Tryd.f76 8) false) (.cond (.t 36) (.seq (rgI a3y) (.ret)) (.skip)))))))))) (.seq (rgI a3x) (.seq (rgI a3o) (.seq (rgI a3n) (.seq (rgI a3m) (.seq (rgI a3l) (.seq (.block 1 (.loop a3B)) (.seq (rgI a2S) (.ret))))))))))
theorem a1g : fchk Pr (fun _ _ => false) Tryd.f76 = some (a4h, [.tmp 4], 143) := by kernel_rfl
theorem a1h : Pr.funcs[a0N]? = some Tryd.f76 := Tryd.func76
def b3Q : List AIns := [opI 2 (.mv (.c (.nil)))]
def a9n : List AIns := [mvI 3 0,
  opI 4 (.len (.t 3)),
  opI 5 (.bin .gtr (.t 4) (.c (.int .i64 0))),
  mvI 6 5,
  ⟨some 7, some (6, true), .p (.mv (.t 0))⟩,
  ⟨some 8, some (6, true), .p (.mv (.t 0))⟩,
  ⟨some 9, some (6, true), .p (.len (.t 8))⟩,
  ⟨some 10, some (6, true), .p (.bin .sub (.t 9) (.c (.int .i64 1)))⟩,
  ⟨some 11, some (6, true), .p (.idxp 1 (.t 7) (.t 10))⟩,
  ⟨some 12, some (6, true), .p (.load none (.t 11))⟩,
  ⟨some 13, some (6, true), .p (.bin .eql (.t 12) (.c (.int .u32 0)))⟩,
  opI 14 (.pick (.t 6) (.t 13) (.c (.bool false)))]
def b3P : List AIns := [mvI 15 0,
  mvI 16 0,
  opI 17 (.len (.t 16)),
  opI 18 (.bin .sub (.t 17) (.c (.int .i64 1))),
  opI 19 (.slc 1 (.t 15) none (some (.t 18)) none),
  mvI 0 19]
def b8w : ACode := .seq (.seq (rgI a9n) (.cond (.t 14) (.skip) (.exit 0))) (.block 1 (rgI b3P))
def a9m : List AIns := [mvI 20 0,
  mvI 2 20]
def c0s : ACode := .seq (rgI b3Q) (.seq (.block 0 (.loop b8w)) (.seq (rgI a9m) (.ret)))
theorem b8v : fchk Pr (fun _ _ => false) Tryd.f77 = some (c0s, [.tmp 2], 21) := by kernel_rfl
theorem b8x : Pr.funcs[a2D]? = some Tryd.f77 := Tryd.func77
def b2g : List AIns := [opI 4 (.mv (.c (.nil)))]
def b2f : List AIns := [opI 5 (.mv (.c (.nil)))]
def b2e : List AIns := [opI 6 (.mv (.c (.int .u64 0)))]
def b2d : List AIns := [opI 7 (.mv (.c (.int .i64 0)))]
def a7R : List AIns := [mvI 8 7,
  mvI 9 0,
  opI 10 (.len (.t 9)),
  mvI 11 1,
  opI 12 (.len (.t 11)),
  ⟨some 13, none, .call a8u [(.t 10), (.t 12)]⟩,
  opI 14 (.bin .lss (.t 8) (.t 13))]
def b2c : List AIns := [mvI 17 6,
  mvI 18 0,
  mvI 19 7,
  ⟨some 20, none, .call a5i [(.t 18), (.t 19)]⟩,
  opI 21 (.bin .add (.t 17) (.t 20)),
  mvI 22 1,
  mvI 23 7,
  ⟨some 24, none, .call a5i [(.t 22), (.t 23)]⟩,
  opI 25 (.bin .add (.t 21) (.t 24)),
  mvI 6 25]
def b2b : List AIns := [mvI 26 5,
  mvI 27 6,
  opI 28 (.bin .rem (.t 27) (.c (.int .u64 4294967296))),
  opI 29 (.conv .u32 (.t 28)),
  ⟨some 30, none, .e (.bsl 1 [(.t 29)])⟩,
  ⟨some 31, none, .e (.app 1 4 false (.t 26) (.t 30))⟩,
  mvI 5 31]
def b2a : List AIns := [mvI 32 6,
  opI 33 (.bin .quo (.t 32) (.c (.int .u64 4294967296))),
  mvI 6 33]
def b1Z : List AIns := [mvI 15 7,
  opI 16 (.bin .add (.t 15) (.c (.int .i64 1))),
  mvI 7 16]
def b2h : ACode := .seq (.seq (rgI a7R) (.cond (.t 14) (.skip) (.exit 0))) (.seq (.block 1 (.seq (rgI b2c) (.seq (rgI b2b) (rgI b2a)))) (rgI b1Z))
def a7Q : List AIns := [mvI 34 5,
  mvI 35 6,
  opI 36 (.conv .u32 (.t 35)),
  ⟨some 37, none, .e (.bsl 1 [(.t 36)])⟩,
  ⟨some 38, none, .e (.app 1 4 false (.t 34) (.t 37))⟩,
  mvI 5 38]
def a6P : List AIns := [mvI 39 5,
  ⟨some 40, none, .call a0W [(.t 39)]⟩,
  mvI 4 40]
def b8r : ACode := .seq (rgI b2g) (.seq (rgI b2f) (.seq (rgI b2e) (.seq (.seq (rgI b2d) (.block 0 (.loop b2h))) (.seq (rgI a7Q) (.seq (rgI a6P) (.ret))))))
theorem b7f : fchk Pr (fun _ _ => false) Tryd.f78 = some (b8r, [.tmp 4], 41) := by kernel_rfl
theorem b7g : Pr.funcs[a6Y]? = some Tryd.f78 := Tryd.func78
def b1W : List AIns := [opI 4 (.mv (.c (.nil)))]
def b1V : List AIns := [mvI 9 0,
  opI 10 (.len (.t 9)),
  mvI 11 1,
  opI 12 (.len (.t 11)),
  opI 13 (.bin .add (.t 10) (.t 12)),
  ⟨some 14, none, .e (.mksl 1 4 (.int .u32 0) (.t 13) (.t 13))⟩,
  mvI 5 14]
def b1U : List AIns := [opI 6 (.mv (.c (.int .i64 0)))]
def a7P : List AIns := [mvI 15 6,
  mvI 16 0,
  opI 17 (.len (.t 16)),
  opI 18 (.bin .lss (.t 15) (.t 17))]
def b1T : List AIns := [opI 7 (.mv (.c (.int .u64 0)))]
def b1S : List AIns := [opI 8 (.mv (.c (.int .i64 0)))]
def a7O : List AIns := [mvI 21 8,
  mvI 22 1,
  opI 23 (.len (.t 22)),
  opI 24 (.bin .lss (.t 21) (.t 23))]
def b1R : List AIns := [mvI 27 7,
  mvI 28 5,
  mvI 29 6,
  mvI 30 8,
  opI 31 (.bin .add (.t 29) (.t 30)),
  opI 32 (.idxp 1 (.t 28) (.t 31)),
  opI 33 (.load none (.t 32)),
  opI 34 (.conv .u64 (.t 33)),
  opI 35 (.bin .add (.t 27) (.t 34)),
  mvI 36 0,
  mvI 37 6,
  opI 38 (.idxp 1 (.t 36) (.t 37)),
  opI 39 (.load none (.t 38)),
  opI 40 (.conv .u64 (.t 39)),
  mvI 41 1,
  mvI 42 8,
  opI 43 (.idxp 1 (.t 41) (.t 42)),
  opI 44 (.load none (.t 43)),
  opI 45 (.conv .u64 (.t 44)),
  opI 46 (.bin .mul (.t 40) (.t 45)),
  opI 47 (.bin .add (.t 35) (.t 46)),
  mvI 7 47]
def b1Q : List AIns := [mvI 48 5,
  mvI 49 6,
  mvI 50 8,
  opI 51 (.bin .add (.t 49) (.t 50)),
  mvI 52 7,
  opI 53 (.bin .rem (.t 52) (.c (.int .u64 4294967296))),
  opI 54 (.conv .u32 (.t 53)),
  opI 55 (.idxp 1 (.t 48) (.t 51)),
  ⟨none, none, .e (.store 1 (.t 55) (.t 54))⟩]
def b1P : List AIns := [mvI 56 7,
  opI 57 (.bin .quo (.t 56) (.c (.int .u64 4294967296))),
  mvI 7 57]
def b0y : List AIns := [mvI 25 8,
  opI 26 (.bin .add (.t 25) (.c (.int .i64 1))),
  mvI 8 26]
def b1X : ACode := .seq (.seq (rgI a7O) (.cond (.t 24) (.skip) (.exit 2))) (.seq (.block 3 (.seq (.region b1R true) (.seq (rgI b1Q) (rgI b1P)))) (rgI b0y))
def b0x : List AIns := [mvI 58 5,
  mvI 59 6,
  mvI 60 1,
  opI 61 (.len (.t 60)),
  opI 62 (.bin .add (.t 59) (.t 61)),
  mvI 63 7,
  opI 64 (.conv .u32 (.t 63)),
  opI 65 (.idxp 1 (.t 58) (.t 62)),
  ⟨none, none, .e (.store 1 (.t 65) (.t 64))⟩]
def b0w : List AIns := [mvI 19 6,
  opI 20 (.bin .add (.t 19) (.c (.int .i64 1))),
  mvI 6 20]
def b1Y : ACode := .seq (.seq (rgI a7P) (.cond (.t 18) (.skip) (.exit 0))) (.seq (.block 1 (.seq (rgI b1T) (.seq (.seq (rgI b1S) (.block 2 (.loop b1X))) (rgI b0x)))) (rgI b0w))
def a6O : List AIns := [mvI 66 5,
  ⟨some 67, none, .call a0W [(.t 66)]⟩,
  mvI 4 67]
def b8q : ACode := .seq (rgI b1W) (.seq (rgI b1V) (.seq (.seq (rgI b1U) (.block 0 (.loop b1Y))) (.seq (rgI a6O) (.ret))))
theorem b7d : fchk Pr (fun _ _ => false) Tryd.f79 = some (b8q, [.tmp 4], 68) := by kernel_rfl
theorem b7e : Pr.funcs[a2C]? = some Tryd.f79 := Tryd.func79
def b0u : List AIns := [opI 2 (.mv (.c (.nil)))]
def b0t : List AIns := [mvI 6 0,
  opI 7 (.len (.t 6)),
  mvI 3 7]
def a6N : List AIns := [mvI 8 3,
  opI 9 (.bin .gtr (.t 8) (.c (.int .i64 0))),
  mvI 10 9,
  ⟨some 11, some (10, true), .p (.mv (.t 0))⟩,
  ⟨some 12, some (10, true), .p (.mv (.t 3))⟩,
  ⟨some 13, some (10, true), .p (.bin .sub (.t 12) (.c (.int .i64 1)))⟩,
  ⟨some 14, some (10, true), .p (.idxp 1 (.t 11) (.t 13))⟩,
  ⟨some 15, some (10, true), .p (.load none (.t 14))⟩,
  ⟨some 16, some (10, true), .p (.bin .eql (.t 15) (.c (.int .u32 0)))⟩,
  opI 17 (.pick (.t 10) (.t 16) (.c (.bool false)))]
def b0s : List AIns := [mvI 18 3,
  opI 19 (.bin .sub (.t 18) (.c (.int .i64 1))),
  mvI 3 19]
def b0v : ACode := .seq (.seq (rgI a6N) (.cond (.t 17) (.skip) (.exit 0))) (.block 1 (rgI b0s))
def a4a : List AIns := [opI 4 (.mv (.c (.nil)))]
def a3Z : List AIns := [opI 5 (.mv (.c (.int .i64 0)))]
def a6M : List AIns := [mvI 20 5,
  mvI 21 3,
  opI 22 (.bin .lss (.t 20) (.t 21))]
def b0r : List AIns := [mvI 25 4,
  mvI 26 0,
  mvI 27 5,
  opI 28 (.idxp 1 (.t 26) (.t 27)),
  opI 29 (.load none (.t 28)),
  ⟨some 30, none, .e (.bsl 1 [(.t 29)])⟩,
  ⟨some 31, none, .e (.app 1 4 false (.t 25) (.t 30))⟩,
  mvI 4 31]
def b0q : List AIns := [mvI 23 5,
  opI 24 (.bin .add (.t 23) (.c (.int .i64 1))),
  mvI 5 24]
def a4b : ACode := .seq (.seq (rgI a6M) (.cond (.t 22) (.skip) (.exit 2))) (.seq (.block 3 (rgI b0r)) (rgI b0q))
def a2p : List AIns := [mvI 32 4,
  mvI 2 32]
def b7c : ACode := .seq (rgI b0u) (.seq (rgI b0t) (.seq (.block 0 (.loop b0v)) (.seq (rgI a4a) (.seq (.seq (rgI a3Z) (.block 2 (.loop a4b))) (.seq (rgI a2p) (.ret))))))
theorem b6i : fchk Pr (fun _ _ => false) Tryd.f80 = some (b7c, [.tmp 2], 33) := by kernel_rfl
theorem b6j : Pr.funcs[a0W]? = some Tryd.f80 := Tryd.func80
def b0d : List AIns := [opI 4 (.mv (.c (.int .i64 0)))]
def b0c : List AIns := [mvI 5 0,
  mvI 6 1,
  opI 7 (.bin .gtr (.t 5) (.t 6))]
def b0b : List AIns := [mvI 8 0,
  mvI 4 8]
def b0a : List AIns := [mvI 9 1,
  mvI 4 9]
def b7a : ACode := .seq (rgI b0d) (.seq (.seq (rgI b0c) (.cond (.t 7) (.seq (rgI b0b) (.ret)) (.skip))) (.seq (rgI b0a) (.ret)))
theorem b6d : fchk Pr (fun _ _ => false) Tryd.f92 = some (b7a, [.tmp 4], 10) := by kernel_rfl
theorem b6e : Pr.funcs[a8u]? = some Tryd.f92 := Tryd.func92
def b0h : List AIns := [opI 4 (.mv (.c (.int .u64 0)))]
def b0g : List AIns := [mvI 5 1,
  mvI 6 0,
  opI 7 (.len (.t 6)),
  opI 8 (.bin .lss (.t 5) (.t 7))]
def b0f : List AIns := [mvI 9 0,
  mvI 10 1,
  opI 11 (.idxp 1 (.t 9) (.t 10)),
  opI 12 (.load none (.t 11)),
  opI 13 (.conv .u64 (.t 12)),
  mvI 4 13]
def b0e : List AIns := [opI 4 (.mv (.c (.int .u64 0)))]
def b7b : ACode := .seq (rgI b0h) (.seq (.seq (rgI b0g) (.cond (.t 8) (.seq (rgI b0f) (.ret)) (.skip))) (.seq (rgI b0e) (.ret)))
theorem b6f : fchk Pr (fun _ _ => false) Tryd.f93 = some (b7b, [.tmp 4], 14) := by kernel_rfl
theorem b6g : Pr.funcs[a5i]? = some Tryd.f93 := Tryd.func93
def b0J : List AIns := [opI 4 (.mv (.c (.nil)))]
def b0I : List AIns := [opI 5 (.mv (.c (.nil)))]
def b0H : List AIns := [opI 6 (.mv (.c (.int .i64 0)))]
def a4e : List AIns := [mvI 11 6,
  mvI 12 0,
  opI 13 (.lens (.t 12)),
  opI 14 (.bin .lss (.t 11) (.t 13))]
def a6T : List AIns := [mvI 15 0,
  mvI 16 6,
  opI 17 (.idxs (.t 15) (.t 16)),
  opI 18 (.bin .eql (.t 17) (.c (.int .u8 32)))]
def b0G : List AIns := [mvI 19 6,
  opI 20 (.bin .add (.t 19) (.c (.int .i64 1))),
  mvI 6 20]
def b0F : List AIns := [mvI 21 6,
  mvI 7 21]
def a4d : List AIns := [mvI 22 7,
  mvI 23 0,
  opI 24 (.lens (.t 23)),
  opI 25 (.bin .lss (.t 22) (.t 24)),
  mvI 26 25,
  ⟨some 27, some (26, true), .p (.mv (.t 0))⟩,
  ⟨some 28, some (26, true), .p (.mv (.t 7))⟩,
  ⟨some 29, some (26, true), .p (.idxs (.t 27) (.t 28))⟩,
  ⟨some 30, some (26, true), .p (.bin .neq (.t 29) (.c (.int .u8 32)))⟩,
  opI 31 (.pick (.t 26) (.t 30) (.c (.bool false)))]
def b0E : List AIns := [mvI 32 7,
  opI 33 (.bin .add (.t 32) (.c (.int .i64 1))),
  mvI 7 33]
def b6p : ACode := .seq (.seq (rgI a4d) (.cond (.t 31) (.skip) (.exit 2))) (.block 3 (rgI b0E))
def a6S : List AIns := [mvI 35 0,
  mvI 36 6,
  mvI 37 7,
  opI 38 (.slcs (.t 35) (some (.t 36)) (some (.t 37))),
  ⟨some 39, none, .call a1A [(.t 38)]⟩,
  mvI 34 39,
  opI 40 (.ext (.t 34) 0),
  opI 41 (.ext (.t 34) 1),
  opI 42 (.ext (.t 34) 2),
  ⟨some 8, none, .e (.box 2 (.c (.agg [.bool false, .nil])))⟩,
  ⟨none, none, .e (.store 2 (.t 8) (.t 40))⟩,
  mvI 9 41,
  mvI 10 42]
def a5w : List AIns := [mvI 43 10,
  opI 44 (.bin .neq (.t 43) (.c (.int .i64 0)))]
def a5v : List AIns := [mvI 50 5,
  opI 51 (.load (some 2) (.t 8)),
  ⟨some 52, none, .e (.bslm 2 [(.t 51)])⟩,
  ⟨some 53, none, .e (.app 2 32 false (.t 50) (.t 52))⟩,
  mvI 5 53]
def a5u : List AIns := [mvI 54 7,
  mvI 6 54]
noncomputable def b0K : ACode := .seq (.seq (rgI a4e) (.cond (.t 14) (.skip) (.exit 0))) (.block 1 (.seq (.seq (rgI a6T) (.cond (.t 18) (.seq (rgI b0G) (.exit 1)) (.skip))) (.seq (rgI b0F) (.seq (.block 2 (.loop b6p)) (.seq (rgI a6S) (.seq (.seq (rgI a5w) (.cond (.t 44) (.raw 11 (a0R Tryd.f20 11) false) (.skip))) (.seq (rgI a5v) (rgI a5u))))))))
def a5t : List AIns := [mvI 55 5,
  mvI 4 55]
def b7r : ACode := .seq (rgI b0J) (.seq (rgI b0I) (.seq (.seq (rgI b0H) (.block 0 (.loop b0K))) (.seq (rgI a5t) (.ret))))
theorem b6o : fchk Pr (fun _ k => (k == 2)) Tryd.f20 = some (b7r, [.tmp 4], 56) := by kernel_rfl
theorem b6q : Pr.funcs[a0D]? = some Tryd.f20 := Tryd.func20
def a8T : List AIns := [opI 2 (.mv (.c (.int .i64 0)))]
def a8S : List AIns := [opI 5 (.load none (.t 0)),
  ⟨some 6, none, .call a2v [(.t 5), (.c (.str ⟨#[59]⟩))]⟩,
  opI 7 (.len (.t 6)),
  opI 8 (.mv (.c (.int .i64 0)))]
def a5z : List AIns := [opI 9 (.bin .lss (.t 8) (.t 7))]
def a8R : List AIns := [opI 10 (.idxp 1 (.t 6) (.t 8)),
  opI 11 (.load none (.t 10)),
  mvI 4 11]
def a8Q : List AIns := [opI 12 (.load none (.t 1)),
  mvI 13 4,
  mvI 14 2,
  ⟨some 15, none, .gcall a0D [(.t 13), (.t 14)]⟩,
  ⟨some 16, none, .e (.bslm 1 [(.t 15)])⟩,
  ⟨some 17, none, .e (.app 1 24 false (.t 12) (.t 16))⟩,
  ⟨none, none, .e (.store 1 (.t 1) (.t 17))⟩]
def a8P : List AIns := [mvI 18 2,
  mvI 19 4,
  opI 20 (.lens (.t 19)),
  opI 21 (.bin .add (.t 20) (.c (.int .i64 1))),
  opI 22 (.bin .add (.t 18) (.t 21)),
  mvI 2 22]
def a8O : List AIns := [opI 23 (.bin .add (.t 8) (.c (.int .i64 1))),
  mvI 8 23]
def b4S : ACode := .seq (rgI a5z) (.seq (.cond (.t 9) (.skip) (.exit 0)) (.seq (.block 1 (.seq (rgI a8R) (.seq (.region a8Q true) (rgI a8P)))) (rgI a8O)))
def b6s : ACode := .seq (rgI a8T) (.seq (rgI a8S) (.block 0 (.loop b4S)))
theorem b4R : fchk Pr (fun _ k => (k == 3) || (k == 4)) Tryd.f18 = some (b6s, [], 24) := by kernel_rfl
theorem b4T : Pr.funcs[a0Q]? = some Tryd.f18 := Tryd.func18
def a8N : List AIns := [opI 2 (.mv (.c (.int .i64 0)))]
def a8M : List AIns := [opI 5 (.load none (.t 0)),
  ⟨some 6, none, .call a2v [(.t 5), (.c (.str ⟨#[59]⟩))]⟩,
  opI 7 (.len (.t 6)),
  opI 8 (.mv (.c (.int .i64 0)))]
def a1M : List AIns := [opI 9 (.bin .lss (.t 8) (.t 7))]
def a1L : List AIns := [opI 10 (.idxp 1 (.t 6) (.t 8)),
  opI 11 (.load none (.t 10)),
  mvI 4 11]
def a5y : List AIns := [mvI 18 2,
  mvI 19 4,
  opI 20 (.lens (.t 19)),
  opI 21 (.bin .add (.t 20) (.c (.int .i64 1))),
  opI 22 (.bin .add (.t 18) (.t 21)),
  mvI 2 22]
def a5x : List AIns := [opI 23 (.bin .add (.t 8) (.c (.int .i64 1))),
  mvI 8 23]
noncomputable def b4P : ACode := .seq (rgI a1M) (.seq (.cond (.t 9) (.skip) (.exit 0)) (.seq (.block 1 (.seq (rgI a1L) (.seq (.raw 4 (a0R Tryd.f18 4) true) (rgI a5y)))) (rgI a5x)))
def b6r : ACode := .seq (rgI a8N) (.seq (rgI a8M) (.block 0 (.loop b4P)))
theorem b4O : fchk Pr (fun r k => (r == 4 && k == 1000000)) Tryd.f18 = some (b6r, [], 24) := by kernel_rfl
theorem b4Q : Pr.funcs[a0Q]? = some Tryd.f18 := Tryd.func18
end Go.Abs

/- Part 4 of the proof of MatBack: Code0, Code1. -/
import Derived.Test.YtkehcnbnmjmpbaaDoorMatBackK3
set_option maxRecDepth 100000
noncomputable section
namespace Go.Abs
abbrev mvI (d s : Nat) : AIns := ⟨some d, none, .p (.mv (.t s))⟩
abbrev opI (d : Nat) (o : POp) : AIns := ⟨some d, none, .p o⟩
abbrev rgI (l : List AIns) : ACode := .region l false
open Go.Proofs
def a5B : List AIns := [opI 2 (.mv (.c (.bool false)))]
def a5A : List AIns := [⟨some 7, none, .call a5r []⟩,
  opI 8 (.un .not (.t 7))]
def b1a : List AIns := [opI 2 (.mv (.c (.bool false)))]
def a1x : List AIns := [mvI 9 0,
  opI 10 (.len (.t 9)),
  opI 11 (.bin .eql (.t 10) (.c (.int .i64 0))),
  mvI 12 11,
  ⟨some 13, some (12, false), .p (.mv (.t 0))⟩,
  ⟨some 14, some (12, false), .call a3j [(.t 13)]⟩,
  ⟨some 15, some (12, false), .p (.lens (.t 14))⟩,
  ⟨some 16, some (12, false), .p (.bin .gtr (.t 15) (.c (.int .i64 65536)))⟩,
  opI 17 (.pick (.t 12) (.c (.bool true)) (.t 16))]
def a2A : List AIns := [mvI 18 0,
  opI 19 (.len (.t 18)),
  opI 20 (.bin .gtr (.t 19) (.c (.int .i64 0))),
  mvI 21 20,
  ⟨some 22, some (21, false), .p (.mv (.t 0))⟩,
  ⟨some 23, some (21, false), .call a3j [(.t 22)]⟩,
  ⟨some 24, some (21, false), .p (.bin .eql (.t 23) (.c (.str ⟨#[]⟩)))⟩,
  opI 25 (.pick (.t 21) (.c (.bool true)) (.t 24)),
  mvI 2 25]
def a5z : List AIns := [opI 3 (.mv (.c (.int .i64 0)))]
def a2z : List AIns := [mvI 26 3,
  mvI 27 0,
  opI 28 (.len (.t 27)),
  opI 29 (.bin .lss (.t 26) (.t 28))]
def a2y : List AIns := [mvI 32 0,
  mvI 33 3,
  opI 34 (.idxp 1 (.t 32) (.t 33)),
  opI 35 (.load none (.t 34)),
  opI 36 (.len (.t 35)),
  opI 37 (.bin .eql (.t 36) (.c (.int .i64 0)))]
def a5y : List AIns := [opI 2 (.mv (.c (.bool true)))]
def a5x : List AIns := [mvI 30 3,
  opI 31 (.bin .add (.t 30) (.c (.int .i64 1))),
  mvI 3 31]
def b1c : ACode := .seq (.seq (rgI a2z) (.cond (.t 29) (.skip) (.exit 0))) (.seq (.block 1 (.seq (rgI a2y) (.cond (.t 37) (.seq (rgI a5y) (.ret)) (.skip)))) (rgI a5x))
def a4v : List AIns := [mvI 39 0,
  ⟨some 40, none, .call a3j [(.t 39)]⟩,
  ⟨some 41, none, .call a7d [(.t 40)]⟩,
  mvI 38 41,
  opI 42 (.ext (.t 38) 0),
  opI 43 (.ext (.t 38) 1),
  opI 44 (.ext (.t 38) 2),
  mvI 4 42,
  mvI 5 43,
  mvI 6 44]
def a4u : List AIns := [mvI 45 6,
  opI 46 (.bin .eql (.t 45) (.c (.int .i64 0))),
  mvI 47 46,
  ⟨some 48, some (47, true), .p (.mv (.t 5))⟩,
  ⟨some 49, some (47, true), .p (.bin .eql (.t 48) (.c (.int .i64 0)))⟩,
  opI 50 (.pick (.t 47) (.t 49) (.c (.bool false))),
  mvI 51 50,
  ⟨some 52, some (51, true), .p (.mv (.t 0))⟩,
  ⟨some 53, some (51, true), .p (.mv (.t 4))⟩,
  ⟨some 54, some (51, true), .call a4B [(.t 52), (.t 53)]⟩,
  opI 55 (.pick (.t 51) (.t 54) (.c (.bool false))),
  mvI 56 55,
  ⟨some 57, some (56, true), .p (.mv (.t 4))⟩,
  ⟨some 58, some (56, true), .p (.mv (.t 0))⟩,
  ⟨some 59, some (56, true), .call a9t [(.t 58)]⟩,
  ⟨some 60, some (56, true), .call a7Y [(.t 57), (.t 59)]⟩,
  opI 61 (.pick (.t 56) (.t 60) (.c (.bool false))),
  mvI 2 61]
def b3q : ACode := .seq (rgI a5B) (.seq (.seq (rgI a5A) (.cond (.t 8) (.seq (rgI b1a) (.ret)) (.skip))) (.seq (.seq (rgI a1x) (.cond (.t 17) (.seq (rgI a2A) (.ret)) (.skip))) (.seq (.seq (rgI a5z) (.block 0 (.loop b1c))) (.seq (rgI a4v) (.seq (rgI a4u) (.ret))))))
theorem b1b : fchk Pr (fun _ _ => false) Tryd.f4 = some (b3q, [.tmp 2], 62) := by kernel_rfl
theorem b1d : Pr.funcs[a3G]? = some Tryd.f4 := Tryd.func4
def b3c : List AIns := [⟨some 1, none, .e (.box 1 (.t 0))⟩,
  opI 2 (.mv (.c (.nil))),
  opI 3 (.mv (.c (.int .i64 0))),
  opI 4 (.mv (.c (.int .i64 0)))]
def b3b : List AIns := [opI 8 (.load none (.t 1)),
  opI 9 (.lens (.t 8)),
  opI 10 (.bin .gtr (.t 9) (.c (.int .i64 65536)))]
def b7M : List AIns := [opI 2 (.mv (.c (.nil))),
  opI 3 (.mv (.c (.int .i64 0))),
  opI 4 (.mv (.c (.int .i64 2)))]
def b3a : List AIns := [opI 11 (.load none (.t 1)),
  ⟨some 12, none, .call a4i [(.t 11), (.c (.str ⟨#[32]⟩))]⟩,
  ⟨some 13, none, .p (.bin .eql (.t 12) (.c (.str ⟨#[]⟩)))⟩]
def b7L : List AIns := [opI 2 (.mv (.c (.nil))),
  opI 3 (.mv (.c (.int .i64 0))),
  opI 4 (.mv (.c (.int .i64 0)))]
def b2Z : List AIns := [⟨some 5, none, .e (.box 1 (.c (.nil)))⟩]
def b2Y : List AIns := [opI 15 (.mkfn a1J [(.t 1), (.t 5)]),
  ⟨some 16, none, .call a6W [(.t 15)]⟩,
  mvI 14 16,
  opI 17 (.ext (.t 14) 0),
  opI 18 (.ext (.t 14) 1),
  mvI 6 17,
  mvI 7 18]
def b2X : List AIns := [mvI 19 7,
  opI 20 (.bin .neq (.t 19) (.c (.int .i64 0)))]
def b7K : List AIns := [mvI 21 6,
  mvI 22 7,
  opI 2 (.mv (.c (.nil))),
  mvI 3 21,
  mvI 4 22]
def b2W : List AIns := [opI 23 (.load none (.t 5)),
  mvI 2 23,
  opI 3 (.mv (.c (.int .i64 0))),
  opI 4 (.mv (.c (.int .i64 0)))]
def c0o : ACode := .seq (rgI b3c) (.seq (.seq (rgI b3b) (.cond (.t 10) (.seq (rgI b7M) (.ret)) (.skip))) (.seq (.seq (rgI b3a) (.cond (.t 13) (.seq (rgI b7L) (.ret)) (.skip))) (.seq (rgI b2Z) (.seq (rgI b2Y) (.seq (.seq (rgI b2X) (.cond (.t 20) (.seq (rgI b7K) (.ret)) (.skip))) (.seq (rgI b2W) (.ret)))))))
theorem b7N : fchk Pr (fun _ _ => false) Tryd.f5 = some (c0o, [.tmp 2, .tmp 3, .tmp 4], 24) := by kernel_rfl
theorem b7O : Pr.funcs[a7d]? = some Tryd.f5 := Tryd.func5
def b0L : List AIns := [opI 4 (.mv (.c (.bool false)))]
def b0K : List AIns := [mvI 6 0,
  opI 7 (.len (.t 6)),
  mvI 8 1,
  opI 9 (.len (.t 8)),
  opI 10 (.bin .neq (.t 7) (.t 9))]
def b6y : List AIns := [opI 4 (.mv (.c (.bool false)))]
def b0J : List AIns := [opI 5 (.mv (.c (.int .i64 0)))]
def a6K : List AIns := [mvI 11 5,
  mvI 12 0,
  opI 13 (.len (.t 12)),
  opI 14 (.bin .lss (.t 11) (.t 13))]
def b0I : List AIns := [mvI 17 0,
  mvI 18 5,
  opI 19 (.idxp 1 (.t 17) (.t 18)),
  opI 20 (.load none (.t 19)),
  mvI 21 1,
  mvI 22 5,
  opI 23 (.idxp 1 (.t 21) (.t 22)),
  opI 24 (.load none (.t 23)),
  ⟨some 25, none, .call a7X [(.t 20), (.t 24)]⟩,
  opI 26 (.un .not (.t 25))]
def b6x : List AIns := [opI 4 (.mv (.c (.bool false)))]
def b0H : List AIns := [mvI 15 5,
  opI 16 (.bin .add (.t 15) (.c (.int .i64 1))),
  mvI 5 16]
def b6A : ACode := .seq (.seq (rgI a6K) (.cond (.t 14) (.skip) (.exit 0))) (.seq (.block 1 (.seq (.region b0I true) (.cond (.t 26) (.seq (rgI b6x) (.ret)) (.skip)))) (rgI b0H))
def b0G : List AIns := [opI 4 (.mv (.c (.bool true)))]
def b7X : ACode := .seq (rgI b0L) (.seq (.seq (rgI b0K) (.cond (.t 10) (.seq (rgI b6y) (.ret)) (.skip))) (.seq (.seq (rgI b0J) (.block 0 (.loop b6A))) (.seq (rgI b0G) (.ret))))
theorem b6z : fchk Pr (fun _ _ => false) Tryd.f7 = some (b7X, [.tmp 4], 27) := by kernel_rfl
theorem b6B : Pr.funcs[a7Y]? = some Tryd.f7 := Tryd.func7
def b0F : List AIns := [opI 4 (.mv (.c (.bool false)))]
def b0E : List AIns := [mvI 6 0,
  opI 7 (.len (.t 6)),
  mvI 8 1,
  opI 9 (.len (.t 8)),
  opI 10 (.bin .neq (.t 7) (.t 9))]
def b6t : List AIns := [opI 4 (.mv (.c (.bool false)))]
def b0D : List AIns := [opI 5 (.mv (.c (.int .i64 0)))]
def a6J : List AIns := [mvI 11 5,
  mvI 12 0,
  opI 13 (.len (.t 12)),
  opI 14 (.bin .lss (.t 11) (.t 13))]
def b0C : List AIns := [mvI 17 0,
  mvI 18 5,
  opI 19 (.idxp 2 (.t 17) (.t 18)),
  opI 20 (.load (some 2) (.t 19)),
  mvI 21 1,
  mvI 22 5,
  opI 23 (.idxp 2 (.t 21) (.t 22)),
  opI 24 (.load (some 2) (.t 23)),
  ⟨some 25, none, .call a9u [(.t 20), (.t 24)]⟩,
  opI 26 (.un .not (.t 25))]
def b6s : List AIns := [opI 4 (.mv (.c (.bool false)))]
def b0B : List AIns := [mvI 15 5,
  opI 16 (.bin .add (.t 15) (.c (.int .i64 1))),
  mvI 5 16]
def b6v : ACode := .seq (.seq (rgI a6J) (.cond (.t 14) (.skip) (.exit 0))) (.seq (.block 1 (.seq (.region b0C true) (.cond (.t 26) (.seq (rgI b6s) (.ret)) (.skip)))) (rgI b0B))
def b0A : List AIns := [opI 4 (.mv (.c (.bool true)))]
def b7W : ACode := .seq (rgI b0F) (.seq (.seq (rgI b0E) (.cond (.t 10) (.seq (rgI b6t) (.ret)) (.skip))) (.seq (.seq (rgI b0D) (.block 0 (.loop b6v))) (.seq (rgI b0A) (.ret))))
theorem b6u : fchk Pr (fun _ _ => false) Tryd.f11 = some (b7W, [.tmp 4], 27) := by kernel_rfl
theorem b6w : Pr.funcs[a7X]? = some Tryd.f11 := Tryd.func11
def a7p : List AIns := [opI 0 (.mv (.c (.bool false)))]
def a7o : List AIns := [⟨some 4, none, .call a9s [(.c (.int .i64 2))]⟩,
  mvI 3 4,
  opI 5 (.ext (.t 3) 0),
  opI 6 (.ext (.t 3) 1),
  mvI 1 5,
  mvI 2 6]
def a7n : List AIns := [mvI 7 1,
  ⟨some 8, none, .call a3j [(.t 7)]⟩,
  ⟨some 9, none, .p (.bin .eql (.t 8) (.c (.str ⟨#[49, 32, 48, 59, 32, 48, 32, 49]⟩)))⟩,
  mvI 0 9]
def b5k : ACode := .seq (rgI a7p) (.seq (rgI a7o) (.seq (rgI a7n) (.ret)))
theorem b3M : fchk Pr (fun _ _ => false) Tryd.f12 = some (b5k, [.tmp 0], 10) := by kernel_rfl
theorem b3N : Pr.funcs[a5r]? = some Tryd.f12 := Tryd.func12
def b2O : List AIns := [⟨some 2, none, .p (.mv (.c (.str ⟨#[]⟩)))⟩]
def b2N : List AIns := [mvI 3 0,
  ⟨some 4, none, .call a1C [(.t 3), (.c (.fn a1z []))]⟩,
  ⟨some 5, none, .call a1f [(.t 4), (.c (.str ⟨#[59, 32]⟩))]⟩,
  mvI 2 5]
def c0m : ACode := .seq (rgI b2O) (.seq (rgI b2N) (.ret))
theorem b7G : fchk Pr (fun _ _ => false) Tryd.f13 = some (c0m, [.tmp 2], 6) := by kernel_rfl
theorem b7H : Pr.funcs[a3j]? = some Tryd.f13 := Tryd.func13
def b2U : List AIns := [opI 4 (.mv (.c (.bool false)))]
def b2T : List AIns := [mvI 6 0,
  opI 7 (.len (.t 6)),
  mvI 8 1,
  opI 9 (.len (.t 8)),
  opI 10 (.bin .neq (.t 7) (.t 9))]
def b2S : List AIns := [opI 4 (.mv (.c (.bool false)))]
def b2R : List AIns := [mvI 11 0,
  opI 12 (.len (.t 11)),
  opI 13 (.mv (.c (.int .i64 0)))]
def a7T : List AIns := [opI 14 (.bin .lss (.t 13) (.t 12))]
def b2Q : List AIns := [mvI 15 13,
  mvI 5 15]
def a7S : List AIns := [mvI 16 0,
  mvI 17 5,
  opI 18 (.idxp 1 (.t 16) (.t 17)),
  opI 19 (.load none (.t 18)),
  opI 20 (.len (.t 19)),
  mvI 21 1,
  mvI 22 5,
  opI 23 (.idxp 1 (.t 21) (.t 22)),
  opI 24 (.load none (.t 23)),
  opI 25 (.len (.t 24)),
  opI 26 (.bin .neq (.t 20) (.t 25)),
  mvI 27 26,
  ⟨some 28, some (27, false), .p (.mv (.t 0))⟩,
  ⟨some 29, some (27, false), .p (.mv (.t 5))⟩,
  ⟨some 30, some (27, false), .p (.idxp 1 (.t 28) (.t 29))⟩,
  ⟨some 31, some (27, false), .p (.load none (.t 30))⟩,
  ⟨some 32, some (27, false), .p (.mv (.t 1))⟩,
  ⟨some 33, some (27, false), .p (.mv (.t 5))⟩,
  ⟨some 34, some (27, false), .p (.idxp 1 (.t 32) (.t 33))⟩,
  ⟨some 35, some (27, false), .p (.load none (.t 34))⟩,
  ⟨some 36, some (27, false), .call a5q [(.t 31), (.t 35)]⟩,
  ⟨some 37, some (27, false), .p (.bin .neq (.t 36) (.c (.int .i64 0)))⟩,
  opI 38 (.pick (.t 27) (.c (.bool true)) (.t 37))]
def a7R : List AIns := [opI 4 (.mv (.c (.bool false)))]
def b2P : List AIns := [opI 39 (.bin .add (.t 13) (.c (.int .i64 1))),
  mvI 13 39]
def b2V : ACode := .seq (rgI a7T) (.seq (.cond (.t 14) (.skip) (.exit 0)) (.seq (.block 1 (.seq (rgI b2Q) (.seq (.region a7S true) (.cond (.t 38) (.seq (rgI a7R) (.ret)) (.skip))))) (rgI b2P)))
def a7Q : List AIns := [opI 4 (.mv (.c (.bool true)))]
def c0n : ACode := .seq (rgI b2U) (.seq (.seq (rgI b2T) (.cond (.t 10) (.seq (rgI b2S) (.ret)) (.skip))) (.seq (.seq (rgI b2R) (.block 0 (.loop b2V))) (.seq (rgI a7Q) (.ret))))
theorem b7I : fchk Pr (fun _ _ => false) Tryd.f14 = some (c0n, [.tmp 4], 40) := by kernel_rfl
theorem b7J : Pr.funcs[a4B]? = some Tryd.f14 := Tryd.func14
def b3e : List AIns := [opI 2 (.mv (.c (.nil)))]
def b3d : List AIns := [mvI 3 0,
  ⟨some 4, none, .call a4j [(.t 3), (.c (.fn a4b []))]⟩,
  mvI 2 4]
def c0p : ACode := .seq (rgI b3e) (.seq (rgI b3d) (.ret))
theorem b7Q : fchk Pr (fun _ _ => false) Tryd.f15 = some (c0p, [.tmp 2], 5) := by kernel_rfl
theorem b7R : Pr.funcs[a9t]? = some Tryd.f15 := Tryd.func15
def a6c : List AIns := [⟨some 4, none, .p (.mv (.c (.str ⟨#[]⟩)))⟩]
def a6b : List AIns := [mvI 7 0,
  ⟨some 8, none, .p (.bin .eql (.t 7) (.c (.str ⟨#[]⟩)))⟩,
  mvI 9 8,
  ⟨some 10, some (9, false), .p (.mv (.t 1))⟩,
  ⟨some 11, some (9, false), .p (.bin .eql (.t 10) (.c (.str ⟨#[]⟩)))⟩,
  opI 12 (.pick (.t 9) (.c (.bool true)) (.t 11))]
def b1L : List AIns := [mvI 13 0,
  mvI 4 13]
def a6a : List AIns := [mvI 14 1,
  opI 15 (.lens (.t 14)),
  opI 16 (.bin .eql (.t 15) (.c (.int .i64 1))),
  mvI 17 16,
  ⟨some 18, some (17, true), .p (.mv (.t 1))⟩,
  ⟨some 19, some (17, true), .p (.idxs (.t 18) (.c (.int .i64 0)))⟩,
  ⟨some 20, some (17, true), .p (.bin .lss (.t 19) (.c (.int .u8 128)))⟩,
  opI 21 (.pick (.t 17) (.t 20) (.c (.bool false)))]
def a5Z : List AIns := [mvI 22 0,
  mvI 23 1,
  opI 24 (.idxs (.t 23) (.c (.int .i64 0))),
  ⟨some 25, none, .call a0W [(.t 22), (.t 24)]⟩,
  mvI 26 1,
  opI 27 (.idxs (.t 26) (.c (.int .i64 0))),
  ⟨some 28, none, .call a1g [(.t 25), (.t 27)]⟩,
  mvI 4 28]
def b1K : List AIns := [mvI 30 1,
  ⟨some 31, none, .call a5E [(.t 30)]⟩,
  mvI 29 31,
  opI 32 (.ext (.t 29) 0),
  opI 33 (.ext (.t 29) 1),
  ⟨some 5, none, .e (.box 256 (.c (.agg [.bool false, .bool false, .bool false, .bool false, .bool false, .bool false, .bool false, .bool false, .bool false, .bool false, .bool false, .bool false, .bool false, .bool false, .bool false, .bool false, .bool false, .bool false, .bool false, .bool false, .bool false, .bool false, .bool false, .bool false, .bool false, .bool false, .bool false, .bool false, .bool false, .bool false, .bool false, .bool false, .bool false, .bool false, .bool false, .bool false, .bool false, .bool false, .bool false, .bool false, .bool false, .bool false, .bool false, .bool false, .bool false, .bool false, .bool false, .bool false, .bool false, .bool false, .bool false, .bool false, .bool false, .bool false, .bool false, .bool false, .bool false, .bool false, .bool false, .bool false, .bool false, .bool false, .bool false, .bool false, .bool false, .bool false, .bool false, .bool false, .bool false, .bool false, .bool false, .bool false, .bool false, .bool false, .bool false, .bool false, .bool false, .bool false, .bool false, .bool false, .bool false, .bool false, .bool false, .bool false, .bool false, .bool false, .bool false, .bool false, .bool false, .bool false, .bool false, .bool false, .bool false, .bool false, .bool false, .bool false, .bool false, .bool false, .bool false, .bool false, .bool false, .bool false, .bool false, .bool false, .bool false, .bool false, .bool false, .bool false, .bool false, .bool false, .bool false, .bool false, .bool false, .bool false, .bool false, .bool false, .bool false, .bool false, .bool false, .bool false, .bool false, .bool false, .bool false, .bool false, .bool false, .bool false, .bool false, .bool false, .bool false, .bool false, .bool false, .bool false, .bool false, .bool false, .bool false, .bool false, .bool false, .bool false, .bool false, .bool false, .bool false, .bool false, .bool false, .bool false, .bool false, .bool false, .bool false, .bool false, .bool false, .bool false, .bool false, .bool false, .bool false, .bool false, .bool false, .bool false, .bool false, .bool false, .bool false, .bool false, .bool false, .bool false, .bool false, .bool false, .bool false, .bool false, .bool false, .bool false, .bool false, .bool false, .bool false, .bool false, .bool false, .bool false, .bool false, .bool false, .bool false, .bool false, .bool false, .bool false, .bool false, .bool false, .bool false, .bool false, .bool false, .bool false, .bool false, .bool false, .bool false, .bool false, .bool false, .bool false, .bool false, .bool false, .bool false, .bool false, .bool false, .bool false, .bool false, .bool false, .bool false, .bool false, .bool false, .bool false, .bool false, .bool false, .bool false, .bool false, .bool false, .bool false, .bool false, .bool false, .bool false, .bool false, .bool false, .bool false, .bool false, .bool false, .bool false, .bool false, .bool false, .bool false, .bool false, .bool false, .bool false, .bool false, .bool false, .bool false, .bool false, .bool false, .bool false, .bool false, .bool false, .bool false, .bool false, .bool false, .bool false, .bool false, .bool false, .bool false, .bool false, .bool false, .bool false, .bool false, .bool false, .bool false, .bool false, .bool false, .bool false, .bool false, .bool false, .bool false, .bool false, .bool false, .bool false, .bool false])))⟩,
  ⟨none, none, .e (.store 256 (.t 5) (.t 32))⟩,
  mvI 6 33]
def b1J : List AIns := [mvI 34 6]
def b1I : List AIns := [mvI 35 0,
  ⟨some 36, none, .call a4y [(.t 35), (.t 5)]⟩,
  ⟨some 37, none, .call a5p [(.t 36), (.t 5)]⟩,
  mvI 4 37]
def b1H : List AIns := [mvI 38 0,
  mvI 39 1,
  ⟨some 40, none, .call a3I [(.t 38), (.t 39)]⟩,
  mvI 41 1,
  ⟨some 42, none, .call a4h [(.t 40), (.t 41)]⟩,
  mvI 4 42]
def b3I : ACode := .seq (rgI a6c) (.seq (.seq (rgI a6b) (.cond (.t 12) (.seq (rgI b1L) (.ret)) (.skip))) (.seq (.seq (rgI a6a) (.cond (.t 21) (.seq (.region a5Z true) (.ret)) (.skip))) (.seq (.seq (rgI b1K) (.seq (rgI b1J) (.cond (.t 34) (.seq (rgI b1I) (.ret)) (.skip)))) (.seq (rgI b1H) (.ret)))))
theorem b1M : fchk Pr (fun _ _ => false) Tryd.f16 = some (b3I, [.tmp 4], 43) := by kernel_rfl
theorem b1N : Pr.funcs[a4i]? = some Tryd.f16 := Tryd.func16
def a8u : List AIns := [opI 2 (.mv (.c (.int .i64 0)))]
def a8t : List AIns := [opI 5 (.load none (.t 0)),
  ⟨some 6, none, .call a3E [(.t 5), (.c (.str ⟨#[59]⟩))]⟩,
  opI 7 (.len (.t 6)),
  opI 8 (.mv (.c (.int .i64 0)))]
def a3f : List AIns := [opI 9 (.bin .lss (.t 8) (.t 7))]
def a5d : List AIns := [opI 10 (.idxp 1 (.t 6) (.t 8)),
  opI 11 (.load none (.t 10)),
  mvI 4 11]
def a5c : List AIns := [opI 12 (.load none (.t 1)),
  mvI 13 4,
  mvI 14 2,
  ⟨some 15, none, .call a1V [(.t 13), (.t 14)]⟩,
  ⟨some 16, none, .e (.bsl 1 [(.t 15)])⟩,
  ⟨some 17, none, .e (.app 1 24 false (.t 12) (.t 16))⟩,
  ⟨none, none, .e (.store 1 (.t 1) (.t 17))⟩]
def a5b : List AIns := [mvI 18 2,
  mvI 19 4,
  opI 20 (.lens (.t 19)),
  opI 21 (.bin .add (.t 20) (.c (.int .i64 1))),
  opI 22 (.bin .add (.t 18) (.t 21)),
  mvI 2 22]
def a5a : List AIns := [opI 23 (.bin .add (.t 8) (.c (.int .i64 1))),
  mvI 8 23]
def b5e : ACode := .seq (rgI a3f) (.seq (.cond (.t 9) (.skip) (.exit 0)) (.seq (.block 1 (.seq (rgI a5d) (.seq (.region a5c true) (rgI a5b)))) (rgI a5a)))
def b6l : ACode := .seq (rgI a8u) (.seq (rgI a8t) (.block 0 (.loop b5e)))
theorem b5d : fchk Pr (fun _ _ => false) Tryd.f18 = some (b6l, [], 24) := by kernel_rfl
theorem b5f : Pr.funcs[a1J]? = some Tryd.f18 := Tryd.func18
def a5t : List AIns := [opI 4 (.mv (.c (.nil)))]
def a5s : List AIns := [mvI 5 0,
  mvI 6 1,
  ⟨some 7, none, .call a1S [(.t 5), (.t 6), (.c (.int .i64 0)), (.c (.int .i64 (-1)))]⟩,
  mvI 4 7]
def b1O : ACode := .seq (rgI a5t) (.seq (rgI a5s) (.ret))
theorem b0S : fchk Pr (fun _ _ => false) Tryd.f19 = some (b1O, [.tmp 4], 8) := by kernel_rfl
theorem b0T : Pr.funcs[a3E]? = some Tryd.f19 := Tryd.func19
def b0m : List AIns := [opI 4 (.mv (.c (.nil)))]
def b0l : List AIns := [opI 5 (.mv (.c (.nil)))]
def b0k : List AIns := [opI 6 (.mv (.c (.int .i64 0)))]
def a3X : List AIns := [mvI 11 6,
  mvI 12 0,
  opI 13 (.lens (.t 12)),
  opI 14 (.bin .lss (.t 11) (.t 13))]
def a6p : List AIns := [mvI 15 0,
  mvI 16 6,
  opI 17 (.idxs (.t 15) (.t 16)),
  opI 18 (.bin .eql (.t 17) (.c (.int .u8 32)))]
def b0j : List AIns := [mvI 19 6,
  opI 20 (.bin .add (.t 19) (.c (.int .i64 1))),
  mvI 6 20]
def b0i : List AIns := [mvI 21 6,
  mvI 7 21]
def a3W : List AIns := [mvI 22 7,
  mvI 23 0,
  opI 24 (.lens (.t 23)),
  opI 25 (.bin .lss (.t 22) (.t 24)),
  mvI 26 25,
  ⟨some 27, some (26, true), .p (.mv (.t 0))⟩,
  ⟨some 28, some (26, true), .p (.mv (.t 7))⟩,
  ⟨some 29, some (26, true), .p (.idxs (.t 27) (.t 28))⟩,
  ⟨some 30, some (26, true), .p (.bin .neq (.t 29) (.c (.int .u8 32)))⟩,
  opI 31 (.pick (.t 26) (.t 30) (.c (.bool false)))]
def b0h : List AIns := [mvI 32 7,
  opI 33 (.bin .add (.t 32) (.c (.int .i64 1))),
  mvI 7 33]
def b6j : ACode := .seq (.seq (rgI a3W) (.cond (.t 31) (.skip) (.exit 2))) (.block 3 (rgI b0h))
def a6o : List AIns := [mvI 35 0,
  mvI 36 6,
  mvI 37 7,
  opI 38 (.slcs (.t 35) (some (.t 36)) (some (.t 37))),
  ⟨some 39, none, .call a5o [(.t 38)]⟩,
  mvI 34 39,
  opI 40 (.ext (.t 34) 0),
  opI 41 (.ext (.t 34) 1),
  opI 42 (.ext (.t 34) 2),
  ⟨some 8, none, .e (.box 2 (.c (.agg [.bool false, .nil])))⟩,
  ⟨none, none, .e (.store 2 (.t 8) (.t 40))⟩,
  mvI 9 41,
  mvI 10 42]
def a4Y : List AIns := [mvI 43 10,
  opI 44 (.bin .neq (.t 43) (.c (.int .i64 0)))]
def a4X : List AIns := [mvI 50 5,
  opI 51 (.load (some 2) (.t 8)),
  ⟨some 52, none, .e (.bsl 2 [(.t 51)])⟩,
  ⟨some 53, none, .e (.app 2 32 false (.t 50) (.t 52))⟩,
  mvI 5 53]
def a4W : List AIns := [mvI 54 7,
  mvI 6 54]
def b0n : ACode := .seq (.seq (rgI a3X) (.cond (.t 14) (.skip) (.exit 0))) (.block 1 (.seq (.seq (rgI a6p) (.cond (.t 18) (.seq (rgI b0j) (.exit 1)) (.skip))) (.seq (rgI b0i) (.seq (.block 2 (.loop b6j)) (.seq (rgI a6o) (.seq (.seq (rgI a4Y) (.cond (.t 44) (.bad) (.skip))) (.seq (rgI a4X) (rgI a4W))))))))
def a4V : List AIns := [mvI 55 5,
  mvI 4 55]
def b7A : ACode := .seq (rgI b0m) (.seq (rgI b0l) (.seq (.seq (rgI b0k) (.block 0 (.loop b0n))) (.seq (rgI a4V) (.ret))))
theorem b6i : fchk Pr (fun _ _ => false) Tryd.f20 = some (b7A, [.tmp 4], 56) := by kernel_rfl
theorem b6k : Pr.funcs[a1V]? = some Tryd.f20 := Tryd.func20
def b3p : List AIns := [⟨some 2, none, .e (.box 2 (.t 0))⟩,
  ⟨some 3, none, .e (.box 2 (.t 1))⟩,
  opI 4 (.mv (.c (.bool false)))]
def b3o : List AIns := [opI 6 (.fldp (.t 2) 0),
  opI 7 (.load none (.t 6)),
  opI 8 (.fldp (.t 3) 0),
  opI 9 (.load none (.t 8)),
  opI 10 (.beq true (.t 7) (.t 9)),
  mvI 11 10,
  ⟨some 12, some (11, false), .p (.fldp (.t 2) 1)⟩,
  ⟨some 13, some (11, false), .p (.load none (.t 12))⟩,
  ⟨some 14, some (11, false), .p (.len (.t 13))⟩,
  ⟨some 15, some (11, false), .p (.fldp (.t 3) 1)⟩,
  ⟨some 16, some (11, false), .p (.load none (.t 15))⟩,
  ⟨some 17, some (11, false), .p (.len (.t 16))⟩,
  ⟨some 18, some (11, false), .p (.bin .neq (.t 14) (.t 17))⟩,
  opI 19 (.pick (.t 11) (.c (.bool true)) (.t 18))]
def b7Z : List AIns := [opI 4 (.mv (.c (.bool false)))]
def b3n : List AIns := [opI 5 (.mv (.c (.int .i64 0)))]
def a7U : List AIns := [mvI 20 5,
  opI 21 (.fldp (.t 2) 1),
  opI 22 (.load none (.t 21)),
  opI 23 (.len (.t 22)),
  opI 24 (.bin .lss (.t 20) (.t 23))]
def b3m : List AIns := [opI 27 (.fldp (.t 2) 1),
  opI 28 (.load none (.t 27)),
  mvI 29 5,
  opI 30 (.idxp 1 (.t 28) (.t 29)),
  opI 31 (.load none (.t 30)),
  opI 32 (.fldp (.t 3) 1),
  opI 33 (.load none (.t 32)),
  mvI 34 5,
  opI 35 (.idxp 1 (.t 33) (.t 34)),
  opI 36 (.load none (.t 35)),
  opI 37 (.bin .neq (.t 31) (.t 36))]
def b7Y : List AIns := [opI 4 (.mv (.c (.bool false)))]
def b3l : List AIns := [mvI 25 5,
  opI 26 (.bin .add (.t 25) (.c (.int .i64 1))),
  mvI 5 26]
def b8b : ACode := .seq (.seq (rgI a7U) (.cond (.t 24) (.skip) (.exit 0))) (.seq (.block 1 (.seq (.region b3m true) (.cond (.t 37) (.seq (rgI b7Y) (.ret)) (.skip)))) (rgI b3l))
def b3k : List AIns := [opI 4 (.mv (.c (.bool true)))]
def c0u : ACode := .seq (rgI b3p) (.seq (.seq (rgI b3o) (.cond (.t 19) (.seq (rgI b7Z) (.ret)) (.skip))) (.seq (.seq (rgI b3n) (.block 0 (.loop b8b))) (.seq (rgI b3k) (.ret))))
theorem b8a : fchk Pr (fun _ _ => false) Tryd.f24 = some (c0u, [.tmp 4], 38) := by kernel_rfl
theorem b8c : Pr.funcs[a9u]? = some Tryd.f24 := Tryd.func24
def b2M : List AIns := [opI 2 (.mv (.c (.nil))),
  opI 3 (.mv (.c (.int .i64 0)))]
def b2L : List AIns := [mvI 8 0,
  opI 9 (.bin .lss (.t 8) (.c (.int .i64 0))),
  mvI 7 9]
def b7C : List AIns := [opI 2 (.mv (.c (.nil))),
  opI 3 (.mv (.c (.int .i64 1)))]
def b2K : List AIns := [mvI 11 0,
  opI 12 (.bin .gtr (.t 11) (.c (.int .i64 64))),
  mvI 10 12]
def b7B : List AIns := [opI 2 (.mv (.c (.nil))),
  opI 3 (.mv (.c (.int .i64 2)))]
def b2J : List AIns := [opI 4 (.mv (.c (.nil)))]
def b2I : List AIns := [mvI 13 0,
  opI 14 (.mv (.c (.int .i64 0)))]
def a7P : List AIns := [opI 15 (.bin .lss (.t 14) (.t 13))]
def b2H : List AIns := [mvI 16 14,
  mvI 5 16]
def b2G : List AIns := [mvI 17 0,
  ⟨some 18, none, .e (.mksl 2 32 (.agg [.bool false, .nil]) (.t 17) (.t 17))⟩,
  mvI 6 18]
def b0r : List AIns := [mvI 19 6,
  mvI 20 5,
  ⟨some 21, none, .call a8G [(.c (.int .i64 1))]⟩,
  opI 22 (.idxp 2 (.t 19) (.t 20)),
  ⟨none, none, .e (.store 2 (.t 22) (.t 21))⟩]
def b0q : List AIns := [mvI 23 4,
  mvI 24 6,
  ⟨some 25, none, .e (.bsl 1 [(.t 24)])⟩,
  ⟨some 26, none, .e (.app 1 24 false (.t 23) (.t 25))⟩,
  mvI 4 26]
def b0p : List AIns := [opI 27 (.bin .add (.t 14) (.c (.int .i64 1))),
  mvI 14 27]
def b7E : ACode := .seq (rgI a7P) (.seq (.cond (.t 15) (.skip) (.exit 1)) (.seq (.block 2 (.seq (rgI b2H) (.seq (rgI b2G) (.seq (rgI b0r) (rgI b0q))))) (rgI b0p)))
def b0o : List AIns := [mvI 28 4,
  mvI 2 28,
  opI 3 (.mv (.c (.int .i64 0)))]
def c0l : ACode := .seq (rgI b2M) (.seq (.block 0 (.seq (rgI b2L) (.cond (.t 7) (.seq (rgI b7C) (.ret)) (.seq (rgI b2K) (.cond (.t 10) (.seq (rgI b7B) (.ret)) (.skip)))))) (.seq (rgI b2J) (.seq (.seq (rgI b2I) (.block 1 (.loop b7E))) (.seq (rgI b0o) (.ret)))))
theorem b7D : fchk Pr (fun _ _ => false) Tryd.f25 = some (c0l, [.tmp 2, .tmp 3], 29) := by kernel_rfl
theorem b7F : Pr.funcs[a9s]? = some Tryd.f25 := Tryd.func25
def a2W : List AIns := [opI 4 (.mv (.c (.nil)))]
def a2V : List AIns := [mvI 8 0,
  opI 9 (.len (.t 8)),
  ⟨some 10, none, .e (.mksl 1 16 (.str ⟨#[]⟩) (.c (.int .i64 0)) (.t 9))⟩,
  mvI 5 10]
def a2U : List AIns := [mvI 11 0,
  opI 12 (.len (.t 11)),
  opI 13 (.mv (.c (.int .i64 0)))]
def a1u : List AIns := [opI 14 (.bin .lss (.t 13) (.t 12))]
def a2T : List AIns := [opI 15 (.idxp 1 (.t 11) (.t 13)),
  opI 16 (.load none (.t 15)),
  mvI 7 16]
def a2S : List AIns := [mvI 17 5,
  mvI 18 1,
  mvI 19 7,
  ⟨some 20, none, .callv (.t 18) [(.t 19)]⟩,
  ⟨some 21, none, .e (.bsl 1 [(.t 20)])⟩,
  ⟨some 22, none, .e (.app 1 16 false (.t 17) (.t 21))⟩,
  mvI 5 22]
def a2R : List AIns := [opI 23 (.bin .add (.t 13) (.c (.int .i64 1))),
  mvI 13 23]
def a7f : ACode := .seq (rgI a1u) (.seq (.cond (.t 14) (.skip) (.exit 0)) (.seq (.block 1 (.seq (rgI a2T) (rgI a2S))) (rgI a2R)))
def a2Q : List AIns := [mvI 24 5,
  mvI 4 24]
def a7N : ACode := .seq (rgI a2W) (.seq (rgI a2V) (.seq (.seq (rgI a2U) (.block 0 (.loop a7f))) (.seq (rgI a2Q) (.ret))))
theorem a7e : fchk Pr (fun _ _ => false) Tryd.f27 = some (a7N, [.tmp 4], 25) := by kernel_rfl
theorem a7g : Pr.funcs[a1C]? = some Tryd.f27 := Tryd.func27
def a4t : List AIns := [⟨some 2, none, .p (.mv (.c (.str ⟨#[]⟩)))⟩]
def a4s : List AIns := [mvI 3 0,
  ⟨some 4, none, .call a1D [(.t 3), (.c (.fn a5n []))]⟩,
  ⟨some 5, none, .call a1f [(.t 4), (.c (.str ⟨#[32]⟩))]⟩,
  mvI 2 5]
def b0Z : ACode := .seq (rgI a4t) (.seq (rgI a4s) (.ret))
theorem a9d : fchk Pr (fun _ _ => false) Tryd.f28 = some (b0Z, [.tmp 2], 6) := by kernel_rfl
theorem a9e : Pr.funcs[a1z]? = some Tryd.f28 := Tryd.func28
def b0y : List AIns := [opI 4 (.mv (.c (.int .i64 0)))]
def b0x : List AIns := [mvI 7 0,
  opI 8 (.len (.t 7)),
  mvI 9 1,
  opI 10 (.len (.t 9)),
  opI 11 (.mnx false (.t 8) (.t 10)),
  opI 12 (.mv (.c (.int .i64 0)))]
def a6G : List AIns := [opI 13 (.bin .lss (.t 12) (.t 11))]
def b0w : List AIns := [mvI 14 12,
  mvI 5 14]
def b0v : List AIns := [mvI 15 0,
  mvI 16 5,
  opI 17 (.idxp 2 (.t 15) (.t 16)),
  opI 18 (.load (some 2) (.t 17)),
  mvI 19 1,
  mvI 20 5,
  opI 21 (.idxp 2 (.t 19) (.t 20)),
  opI 22 (.load (some 2) (.t 21)),
  ⟨some 23, none, .call a4g [(.t 18), (.t 22)]⟩,
  mvI 6 23]
def b0u : List AIns := [mvI 24 6,
  opI 25 (.bin .neq (.t 24) (.c (.int .i64 0)))]
def b0t : List AIns := [mvI 26 6,
  mvI 4 26]
def b0s : List AIns := [opI 27 (.bin .add (.t 12) (.c (.int .i64 1))),
  mvI 12 27]
def b0z : ACode := .seq (rgI a6G) (.seq (.cond (.t 13) (.skip) (.exit 0)) (.seq (.block 1 (.seq (rgI b0w) (.seq (.region b0v true) (.seq (rgI b0u) (.cond (.t 25) (.seq (rgI b0t) (.ret)) (.skip)))))) (rgI b0s)))
def a6F : List AIns := [mvI 29 0,
  opI 30 (.len (.t 29)),
  mvI 31 1,
  opI 32 (.len (.t 31)),
  opI 33 (.bin .lss (.t 30) (.t 32)),
  mvI 28 33]
def a6E : List AIns := [opI 4 (.mv (.c (.int .i64 (-1))))]
def a5g : List AIns := [mvI 35 0,
  opI 36 (.len (.t 35)),
  mvI 37 1,
  opI 38 (.len (.t 37)),
  opI 39 (.bin .gtr (.t 36) (.t 38)),
  mvI 34 39]
def a5f : List AIns := [opI 4 (.mv (.c (.int .i64 1)))]
def a5e : List AIns := [opI 4 (.mv (.c (.int .i64 0)))]
def b7P : ACode := .seq (rgI b0y) (.seq (.seq (rgI b0x) (.block 0 (.loop b0z))) (.seq (.block 2 (.seq (rgI a6F) (.cond (.t 28) (.seq (rgI a6E) (.ret)) (.seq (rgI a5g) (.cond (.t 34) (.seq (rgI a5f) (.ret)) (.skip)))))) (.seq (rgI a5e) (.ret))))
theorem b6m : fchk Pr (fun _ _ => false) Tryd.f29 = some (b7P, [.tmp 4], 40) := by kernel_rfl
theorem b6n : Pr.funcs[a5q]? = some Tryd.f29 := Tryd.func29
def a6w : List AIns := [opI 4 (.mv (.c (.nil)))]
def a6v : List AIns := [mvI 8 0,
  opI 9 (.len (.t 8)),
  ⟨some 10, none, .e (.mksl 1 24 (.nil) (.c (.int .i64 0)) (.t 9))⟩,
  mvI 5 10]
def a6u : List AIns := [mvI 11 0,
  opI 12 (.len (.t 11)),
  opI 13 (.mv (.c (.int .i64 0)))]
def a3x : List AIns := [opI 14 (.bin .lss (.t 13) (.t 12))]
def a6t : List AIns := [opI 15 (.idxp 1 (.t 11) (.t 13)),
  opI 16 (.load none (.t 15)),
  mvI 7 16]
def a6s : List AIns := [mvI 17 5,
  mvI 18 1,
  mvI 19 7,
  ⟨some 20, none, .callv (.t 18) [(.t 19)]⟩,
  ⟨some 21, none, .e (.bsl 1 [(.t 20)])⟩,
  ⟨some 22, none, .e (.app 1 24 false (.t 17) (.t 21))⟩,
  mvI 5 22]
def a6r : List AIns := [opI 23 (.bin .add (.t 13) (.c (.int .i64 1))),
  mvI 13 23]
def b2B : ACode := .seq (rgI a3x) (.seq (.cond (.t 14) (.skip) (.exit 0)) (.seq (.block 1 (.seq (rgI a6t) (rgI a6s))) (rgI a6r)))
def a6q : List AIns := [mvI 24 5,
  mvI 4 24]
def b3K : ACode := .seq (rgI a6w) (.seq (rgI a6v) (.seq (.seq (rgI a6u) (.block 0 (.loop b2B))) (.seq (rgI a6q) (.ret))))
theorem b2A : fchk Pr (fun _ _ => false) Tryd.f30 = some (b3K, [.tmp 4], 25) := by kernel_rfl
theorem b2C : Pr.funcs[a4j]? = some Tryd.f30 := Tryd.func30
def a8w : List AIns := [opI 2 (.mv (.c (.nil)))]
def a8v : List AIns := [mvI 3 0,
  ⟨some 4, none, .call a1W [(.t 3), (.c (.fn a3D []))]⟩,
  mvI 2 4]
def b6o : ACode := .seq (rgI a8w) (.seq (rgI a8v) (.ret))
theorem b5g : fchk Pr (fun _ _ => false) Tryd.f31 = some (b6o, [.tmp 2], 5) := by kernel_rfl
theorem b5h : Pr.funcs[a4b]? = some Tryd.f31 := Tryd.func31
def a6D : List AIns := [opI 4 (.mv (.c (.nil)))]
def a6C : List AIns := [mvI 8 0,
  opI 9 (.len (.t 8)),
  ⟨some 10, none, .e (.mksl 2 32 (.agg [.bool false, .nil]) (.c (.int .i64 0)) (.t 9))⟩,
  mvI 5 10]
def a6B : List AIns := [mvI 11 0,
  opI 12 (.len (.t 11)),
  opI 13 (.mv (.c (.int .i64 0)))]
def a3y : List AIns := [opI 14 (.bin .lss (.t 13) (.t 12))]
def a6A : List AIns := [opI 15 (.idxp 2 (.t 11) (.t 13)),
  opI 16 (.load (some 2) (.t 15)),
  ⟨some 7, none, .e (.box 2 (.c (.agg [.bool false, .nil])))⟩,
  ⟨none, none, .e (.store 2 (.t 7) (.t 16))⟩]
def a6z : List AIns := [mvI 17 5,
  mvI 18 1,
  opI 19 (.load (some 2) (.t 7)),
  ⟨some 20, none, .callv (.t 18) [(.t 19)]⟩,
  ⟨some 21, none, .e (.bsl 2 [(.t 20)])⟩,
  ⟨some 22, none, .e (.app 2 32 false (.t 17) (.t 21))⟩,
  mvI 5 22]
def a6y : List AIns := [opI 23 (.bin .add (.t 13) (.c (.int .i64 1))),
  mvI 13 23]
def b2E : ACode := .seq (rgI a3y) (.seq (.cond (.t 14) (.skip) (.exit 0)) (.seq (.block 1 (.seq (rgI a6A) (rgI a6z))) (rgI a6y)))
def a6x : List AIns := [mvI 24 5,
  mvI 4 24]
def b3L : ACode := .seq (rgI a6D) (.seq (rgI a6C) (.seq (.seq (rgI a6B) (.block 0 (.loop b2E))) (.seq (rgI a6x) (.ret))))
theorem b2D : fchk Pr (fun _ _ => false) Tryd.f32 = some (b3L, [.tmp 4], 25) := by kernel_rfl
theorem b2F : Pr.funcs[a1W]? = some Tryd.f32 := Tryd.func32
def a9P : List AIns := [⟨some 1, none, .e (.box 2 (.t 0))⟩,
  ⟨some 2, none, .e (.box 2 (.c (.agg [.bool false, .nil])))⟩]
def a9O : List AIns := [opI 3 (.fldp (.t 1) 0),
  opI 4 (.load none (.t 3)),
  opI 5 (.fldp (.t 1) 1),
  opI 6 (.load none (.t 5)),
  ⟨some 7, none, .call a1B [(.t 4), (.t 6)]⟩,
  ⟨none, none, .e (.store 2 (.t 2) (.t 7))⟩]
def b6Z : ACode := .seq (rgI a9P) (.seq (rgI a9O) (.ret))
theorem b5I : fchk Pr (fun _ _ => false) Tryd.f33 = some (b6Z, [.cell 2 (some 2)], 8) := by kernel_rfl
theorem b5J : Pr.funcs[a3D]? = some Tryd.f33 := Tryd.func33
def a1N : List AIns := [⟨some 4, none, .p (.mv (.c (.str ⟨#[]⟩)))⟩]
def a0A : List AIns := [mvI 5 0,
  opI 6 (.lens (.t 5)),
  opI 7 (.bin .gtr (.t 6) (.c (.int .i64 0))),
  mvI 8 7,
  ⟨some 9, some (8, true), .p (.mv (.t 0))⟩,
  ⟨some 10, some (8, true), .p (.idxs (.t 9) (.c (.int .i64 0)))⟩,
  ⟨some 11, some (8, true), .p (.mv (.t 1))⟩,
  ⟨some 12, some (8, true), .p (.bin .eql (.t 10) (.t 11))⟩,
  opI 13 (.pick (.t 8) (.t 12) (.c (.bool false)))]
def a1M : List AIns := [mvI 14 0,
  opI 15 (.slcs (.t 14) (some (.c (.int .i64 1))) none),
  mvI 0 15]
def a4P : ACode := .seq (.seq (rgI a0A) (.cond (.t 13) (.skip) (.exit 0))) (.block 1 (rgI a1M))
def a0T : List AIns := [mvI 16 0,
  mvI 4 16]
def a5D : ACode := .seq (rgI a1N) (.seq (.block 0 (.loop a4P)) (.seq (rgI a0T) (.ret)))
theorem a4O : fchk Pr (fun _ _ => false) Tryd.f34 = some (a5D, [.tmp 4], 17) := by kernel_rfl
theorem a4Q : Pr.funcs[a1g]? = some Tryd.f34 := Tryd.func34
def a1G : List AIns := [⟨some 4, none, .p (.mv (.c (.str ⟨#[]⟩)))⟩]
def a0u : List AIns := [mvI 5 0,
  opI 6 (.lens (.t 5)),
  opI 7 (.bin .gtr (.t 6) (.c (.int .i64 0))),
  mvI 8 7,
  ⟨some 9, some (8, true), .p (.mv (.t 0))⟩,
  ⟨some 10, some (8, true), .p (.mv (.t 0))⟩,
  ⟨some 11, some (8, true), .p (.lens (.t 10))⟩,
  ⟨some 12, some (8, true), .p (.bin .sub (.t 11) (.c (.int .i64 1)))⟩,
  ⟨some 13, some (8, true), .p (.idxs (.t 9) (.t 12))⟩,
  ⟨some 14, some (8, true), .p (.mv (.t 1))⟩,
  ⟨some 15, some (8, true), .p (.bin .eql (.t 13) (.t 14))⟩,
  opI 16 (.pick (.t 8) (.t 15) (.c (.bool false)))]
def a1F : List AIns := [mvI 17 0,
  mvI 18 0,
  opI 19 (.lens (.t 18)),
  opI 20 (.bin .sub (.t 19) (.c (.int .i64 1))),
  opI 21 (.slcs (.t 17) none (some (.t 20))),
  mvI 0 21]
def a4m : ACode := .seq (.seq (rgI a0u) (.cond (.t 16) (.skip) (.exit 0))) (.block 1 (rgI a1F))
def a0I : List AIns := [mvI 22 0,
  mvI 4 22]
def a4N : ACode := .seq (rgI a1G) (.seq (.block 0 (.loop a4m)) (.seq (rgI a0I) (.ret)))
theorem a4l : fchk Pr (fun _ _ => false) Tryd.f35 = some (a4N, [.tmp 4], 23) := by kernel_rfl
theorem a4n : Pr.funcs[a0W]? = some Tryd.f35 := Tryd.func35
def a3r : List AIns := [opI 8 (.mv (.c (.nil)))]
def a3q : List AIns := [mvI 12 3,
  opI 13 (.bin .eql (.t 12) (.c (.int .i64 0)))]
def a7v : List AIns := [opI 8 (.mv (.c (.nil)))]
def a3p : List AIns := [mvI 14 1,
  ⟨some 15, none, .p (.bin .eql (.t 14) (.c (.str ⟨#[]⟩)))⟩]
def a7u : List AIns := [mvI 16 0,
  mvI 17 3,
  ⟨some 18, none, .call a9p [(.t 16), (.t 17)]⟩,
  mvI 8 18]
def a3o : List AIns := [mvI 19 3,
  opI 20 (.bin .lss (.t 19) (.c (.int .i64 0)))]
def a3n : List AIns := [mvI 21 0,
  mvI 22 1,
  ⟨some 23, none, .call a6V [(.t 21), (.t 22)]⟩,
  opI 24 (.bin .add (.t 23) (.c (.int .i64 1))),
  mvI 3 24]
def a3m : List AIns := [mvI 25 3,
  mvI 26 0,
  opI 27 (.lens (.t 26)),
  opI 28 (.bin .add (.t 27) (.c (.int .i64 1))),
  opI 29 (.mnx false (.t 25) (.t 28)),
  mvI 3 29]
def a3l : List AIns := [mvI 30 3,
  ⟨some 31, none, .e (.mksl 1 16 (.str ⟨#[]⟩) (.t 30) (.t 30))⟩,
  mvI 9 31]
def a3k : List AIns := [mvI 32 3,
  opI 33 (.bin .sub (.t 32) (.c (.int .i64 1))),
  mvI 3 33]
def a2O : List AIns := [opI 10 (.mv (.c (.int .i64 0)))]
def a1t : List AIns := [mvI 34 10,
  mvI 35 3,
  opI 36 (.bin .lss (.t 34) (.t 35))]
def a2N : List AIns := [mvI 37 0,
  mvI 38 1,
  ⟨some 39, none, .call a3F [(.t 37), (.t 38)]⟩,
  mvI 11 39]
def a2M : List AIns := [mvI 40 11,
  opI 41 (.bin .lss (.t 40) (.c (.int .i64 0)))]
def a2L : List AIns := [mvI 42 9,
  mvI 43 10,
  mvI 44 0,
  mvI 45 11,
  mvI 46 2,
  opI 47 (.bin .add (.t 45) (.t 46)),
  opI 48 (.slcs (.t 44) none (some (.t 47))),
  opI 49 (.idxp 1 (.t 42) (.t 43)),
  ⟨none, none, .e (.store 1 (.t 49) (.t 48))⟩]
def a2K : List AIns := [mvI 50 0,
  mvI 51 11,
  mvI 52 1,
  opI 53 (.lens (.t 52)),
  opI 54 (.bin .add (.t 51) (.t 53)),
  opI 55 (.slcs (.t 50) (some (.t 54)) none),
  mvI 0 55]
def a2J : List AIns := [mvI 56 10,
  opI 57 (.bin .add (.t 56) (.c (.int .i64 1))),
  mvI 10 57]
def a7x : ACode := .seq (.seq (rgI a1t) (.cond (.t 36) (.skip) (.exit 0))) (.block 1 (.seq (rgI a2N) (.seq (.seq (rgI a2M) (.cond (.t 41) (.exit 0) (.skip))) (.seq (rgI a2L) (.seq (rgI a2K) (rgI a2J))))))
def a2I : List AIns := [mvI 58 9,
  mvI 59 10,
  mvI 60 0,
  opI 61 (.idxp 1 (.t 58) (.t 59)),
  ⟨none, none, .e (.store 1 (.t 61) (.t 60))⟩]
def a2H : List AIns := [mvI 62 9,
  mvI 63 10,
  opI 64 (.bin .add (.t 63) (.c (.int .i64 1))),
  opI 65 (.slc 1 (.t 62) none (some (.t 64)) none),
  mvI 8 65]
def a8o : ACode := .seq (rgI a3r) (.seq (.seq (rgI a3q) (.cond (.t 13) (.seq (rgI a7v) (.ret)) (.skip))) (.seq (.seq (rgI a3p) (.cond (.t 15) (.seq (rgI a7u) (.ret)) (.skip))) (.seq (.seq (rgI a3o) (.cond (.t 20) (rgI a3n) (.skip))) (.seq (rgI a3m) (.seq (rgI a3l) (.seq (rgI a3k) (.seq (rgI a2O) (.seq (.block 0 (.loop a7x)) (.seq (rgI a2I) (.seq (rgI a2H) (.ret)))))))))))
theorem a7w : fchk Pr (fun _ _ => false) Tryd.f42 = some (a8o, [.tmp 8], 66) := by kernel_rfl
theorem a7y : Pr.funcs[a1S]? = some Tryd.f42 := Tryd.func42
def a5O : List AIns := [⟨some 2, none, .e (.box 2 (.c (.agg [.bool false, .nil])))⟩,
  opI 3 (.mv (.c (.int .i64 0))),
  opI 4 (.mv (.c (.int .i64 0)))]
def a5N : List AIns := [mvI 11 0,
  opI 12 (.lens (.t 11)),
  opI 13 (.bin .gtr (.t 12) (.c (.int .i64 65536)))]
def b5G : List AIns := [opI 14 (.bld [.bool false, .nil] []),
  ⟨none, none, .e (.store 2 (.t 2) (.t 14))⟩,
  opI 3 (.mv (.c (.int .i64 0))),
  opI 4 (.mv (.c (.int .i64 2)))]
def a5M : List AIns := [opI 5 (.mv (.c (.int .i64 0)))]
def a5L : List AIns := [mvI 15 0,
  opI 16 (.lens (.t 15)),
  opI 17 (.bin .gtr (.t 16) (.c (.int .i64 0))),
  mvI 18 17,
  ⟨some 19, some (18, true), .p (.mv (.t 0))⟩,
  ⟨some 20, some (18, true), .p (.idxs (.t 19) (.c (.int .i64 0)))⟩,
  ⟨some 21, some (18, true), .p (.bin .eql (.t 20) (.c (.int .u8 45)))⟩,
  opI 22 (.pick (.t 18) (.t 21) (.c (.bool false)))]
def a9J : List AIns := [opI 5 (.mv (.c (.int .i64 1)))]
def a5K : List AIns := [mvI 23 5,
  opI 24 (.bin .eql (.t 23) (.c (.int .i64 1))),
  mvI 25 24,
  ⟨some 26, some (25, true), .p (.mv (.t 0))⟩,
  ⟨some 27, some (25, true), .p (.lens (.t 26))⟩,
  ⟨some 28, some (25, true), .p (.bin .gtr (.t 27) (.c (.int .i64 1)))⟩,
  opI 29 (.pick (.t 25) (.t 28) (.c (.bool false))),
  mvI 30 29,
  ⟨some 31, some (30, true), .p (.mv (.t 0))⟩,
  ⟨some 32, some (30, true), .p (.idxs (.t 31) (.c (.int .i64 1)))⟩,
  ⟨some 33, some (30, true), .p (.bin .eql (.t 32) (.c (.int .u8 48)))⟩,
  opI 34 (.pick (.t 30) (.t 33) (.c (.bool false)))]
def b5F : List AIns := [opI 35 (.bld [.bool false, .nil] []),
  ⟨none, none, .e (.store 2 (.t 2) (.t 35))⟩,
  opI 3 (.mv (.c (.int .i64 1))),
  opI 4 (.mv (.c (.int .i64 4)))]
def a5J : List AIns := [mvI 36 5,
  mvI 6 36]
def a5I : List AIns := [mvI 37 6,
  mvI 38 0,
  opI 39 (.lens (.t 38)),
  opI 40 (.bin .lss (.t 37) (.t 39))]
def a4J : List AIns := [mvI 43 0,
  mvI 44 6,
  opI 45 (.idxs (.t 43) (.t 44)),
  opI 46 (.bin .lss (.t 45) (.c (.int .u8 48))),
  mvI 47 46,
  ⟨some 48, some (47, false), .p (.mv (.t 0))⟩,
  ⟨some 49, some (47, false), .p (.mv (.t 6))⟩,
  ⟨some 50, some (47, false), .p (.idxs (.t 48) (.t 49))⟩,
  ⟨some 51, some (47, false), .p (.bin .gtr (.t 50) (.c (.int .u8 57)))⟩,
  opI 52 (.pick (.t 47) (.c (.bool true)) (.t 51)),
  mvI 53 52,
  ⟨some 54, some (53, false), .p (.mv (.t 6))⟩,
  ⟨some 55, some (53, false), .p (.mv (.t 5))⟩,
  ⟨some 56, some (53, false), .p (.bin .add (.t 55) (.c (.int .i64 1)))⟩,
  ⟨some 57, some (53, false), .p (.bin .eql (.t 54) (.t 56))⟩,
  ⟨some 58, some (53, false), .p (.mv (.t 57))⟩,
  ⟨some 59, some (58, true), .p (.mv (.t 0))⟩,
  ⟨some 60, some (58, true), .p (.mv (.t 5))⟩,
  ⟨some 61, some (58, true), .p (.idxs (.t 59) (.t 60))⟩,
  ⟨some 62, some (58, true), .p (.bin .eql (.t 61) (.c (.int .u8 48)))⟩,
  ⟨some 63, some (53, false), .p (.pick (.t 58) (.t 62) (.c (.bool false)))⟩,
  opI 64 (.pick (.t 53) (.c (.bool true)) (.t 63))]
def b4M : List AIns := [opI 65 (.bld [.bool false, .nil] []),
  mvI 66 6,
  ⟨none, none, .e (.store 2 (.t 2) (.t 65))⟩,
  mvI 3 66,
  opI 4 (.mv (.c (.int .i64 4)))]
def a4I : List AIns := [mvI 41 6,
  opI 42 (.bin .add (.t 41) (.c (.int .i64 1))),
  mvI 6 42]
def a9M : ACode := .seq (.seq (rgI a5I) (.cond (.t 40) (.skip) (.exit 0))) (.seq (.block 1 (.seq (rgI a4J) (.cond (.t 64) (.seq (rgI b4M) (.ret)) (.skip)))) (rgI a4I))
def a4H : List AIns := [mvI 67 5,
  mvI 68 0,
  opI 69 (.lens (.t 68)),
  opI 70 (.bin .eql (.t 67) (.t 69))]
def a8g : List AIns := [opI 71 (.bld [.bool false, .nil] []),
  mvI 72 5,
  ⟨none, none, .e (.store 2 (.t 2) (.t 71))⟩,
  mvI 3 72,
  opI 4 (.mv (.c (.int .i64 4)))]
def a4G : List AIns := [opI 7 (.mv (.c (.nil)))]
def a4F : List AIns := [mvI 73 5,
  mvI 8 73]
def a4E : List AIns := [mvI 74 8,
  mvI 75 0,
  opI 76 (.lens (.t 75)),
  opI 77 (.bin .lss (.t 74) (.t 76))]
def a8f : List AIns := [mvI 78 0,
  opI 79 (.lens (.t 78)),
  mvI 80 8,
  opI 81 (.bin .sub (.t 79) (.t 80)),
  opI 82 (.mnx false (.c (.int .i64 9)) (.t 81)),
  mvI 9 82]
def a8e : List AIns := [opI 10 (.mv (.c (.int .u32 0)))]
def a8d : List AIns := [mvI 83 9,
  opI 84 (.mv (.c (.int .i64 0)))]
def a4D : List AIns := [opI 85 (.bin .lss (.t 84) (.t 83))]
def a8c : List AIns := [mvI 86 10,
  opI 87 (.bin .mul (.c (.int .u32 10)) (.t 86)),
  mvI 88 0,
  mvI 89 8,
  opI 90 (.idxs (.t 88) (.t 89)),
  opI 91 (.bin .sub (.t 90) (.c (.int .u8 48))),
  opI 92 (.conv .u32 (.t 91)),
  opI 93 (.bin .add (.t 87) (.t 92)),
  mvI 10 93]
def a8b : List AIns := [mvI 94 8,
  opI 95 (.bin .add (.t 94) (.c (.int .i64 1))),
  mvI 8 95]
def a8a : List AIns := [opI 96 (.bin .add (.t 84) (.c (.int .i64 1))),
  mvI 84 96]
def b5H : ACode := .seq (rgI a4D) (.seq (.cond (.t 85) (.skip) (.exit 4)) (.seq (.block 5 (.seq (rgI a8c) (rgI a8b))) (rgI a8a)))
def a7Z : List AIns := [mvI 97 7,
  mvI 98 9,
  ⟨some 99, none, .call a6U [(.t 98)]⟩,
  ⟨some 100, none, .e (.bsl 1 [(.t 99)])⟩,
  ⟨some 101, none, .call a4z [(.t 97), (.t 100)]⟩,
  mvI 102 10,
  ⟨some 103, none, .e (.bsl 1 [(.t 102)])⟩,
  ⟨some 104, none, .call a4A [(.t 101), (.t 103)]⟩,
  mvI 7 104]
def a9L : ACode := .seq (.seq (rgI a4E) (.cond (.t 77) (.skip) (.exit 2))) (.block 3 (.seq (rgI a8f) (.seq (rgI a8e) (.seq (.seq (rgI a8d) (.block 4 (.loop b5H))) (rgI a7Z)))))
def a4C : List AIns := [mvI 105 5,
  opI 106 (.bin .eql (.t 105) (.c (.int .i64 1))),
  mvI 107 7,
  ⟨some 108, none, .call a1B [(.t 106), (.t 107)]⟩,
  ⟨none, none, .e (.store 2 (.t 2) (.t 108))⟩,
  opI 3 (.mv (.c (.int .i64 0))),
  opI 4 (.mv (.c (.int .i64 0)))]
def b6Y : ACode := .seq (rgI a5O) (.seq (.seq (rgI a5N) (.cond (.t 13) (.seq (rgI b5G) (.ret)) (.skip))) (.seq (rgI a5M) (.seq (.seq (rgI a5L) (.cond (.t 22) (rgI a9J) (.skip))) (.seq (.seq (rgI a5K) (.cond (.t 34) (.seq (rgI b5F) (.ret)) (.skip))) (.seq (.seq (rgI a5J) (.block 0 (.loop a9M))) (.seq (.seq (rgI a4H) (.cond (.t 70) (.seq (rgI a8g) (.ret)) (.skip))) (.seq (rgI a4G) (.seq (.seq (rgI a4F) (.block 2 (.loop a9L))) (.seq (rgI a4C) (.ret))))))))))
theorem a9K : fchk Pr (fun _ _ => false) Tryd.f43 = some (b6Y, [.cell 2 (some 2), .tmp 3, .tmp 4], 109) := by kernel_rfl
theorem a9N : Pr.funcs[a5o]? = some Tryd.f43 := Tryd.func43
def b3V : List AIns := [⟨some 2, none, .e (.box 2 (.c (.agg [.bool false, .nil])))⟩]
def b3U : List AIns := [mvI 4 0,
  opI 5 (.conv .u64 (.t 4)),
  mvI 3 5]
def b3T : List AIns := [mvI 6 0,
  opI 7 (.bin .lss (.t 6) (.c (.int .i64 0)))]
def b3S : List AIns := [mvI 8 3,
  opI 9 (.un .neg (.t 8)),
  mvI 3 9]
def a8J : List AIns := [mvI 10 0,
  opI 11 (.bin .lss (.t 10) (.c (.int .i64 0))),
  mvI 12 3,
  opI 13 (.conv .u32 (.t 12)),
  mvI 14 3,
  opI 15 (.bin .shr (.t 14) (.c (.int .u64 32))),
  opI 16 (.conv .u32 (.t 15)),
  ⟨some 17, none, .e (.bsl 1 [(.t 13), (.t 16)])⟩,
  ⟨some 18, none, .call a1B [(.t 11), (.t 17)]⟩,
  ⟨none, none, .e (.store 2 (.t 2) (.t 18))⟩]
def c0M : ACode := .seq (rgI b3V) (.seq (rgI b3U) (.seq (.seq (rgI b3T) (.cond (.t 7) (rgI b3S) (.skip))) (.seq (rgI a8J) (.ret))))
theorem b9s : fchk Pr (fun _ _ => false) Tryd.f46 = some (c0M, [.cell 2 (some 2)], 19) := by kernel_rfl
theorem b9t : Pr.funcs[a8G]? = some Tryd.f46 := Tryd.func46
def a3d : List AIns := [opI 4 (.mv (.c (.nil)))]
def a3c : List AIns := [mvI 8 0,
  opI 9 (.len (.t 8)),
  ⟨some 10, none, .e (.mksl 1 16 (.str ⟨#[]⟩) (.c (.int .i64 0)) (.t 9))⟩,
  mvI 5 10]
def a3b : List AIns := [mvI 11 0,
  opI 12 (.len (.t 11)),
  opI 13 (.mv (.c (.int .i64 0)))]
def a1v : List AIns := [opI 14 (.bin .lss (.t 13) (.t 12))]
def a3a : List AIns := [opI 15 (.idxp 2 (.t 11) (.t 13)),
  opI 16 (.load (some 2) (.t 15)),
  ⟨some 7, none, .e (.box 2 (.c (.agg [.bool false, .nil])))⟩,
  ⟨none, none, .e (.store 2 (.t 7) (.t 16))⟩]
def a2Z : List AIns := [mvI 17 5,
  mvI 18 1,
  opI 19 (.load (some 2) (.t 7)),
  ⟨some 20, none, .callv (.t 18) [(.t 19)]⟩,
  ⟨some 21, none, .e (.bsl 1 [(.t 20)])⟩,
  ⟨some 22, none, .e (.app 1 16 false (.t 17) (.t 21))⟩,
  mvI 5 22]
def a2Y : List AIns := [opI 23 (.bin .add (.t 13) (.c (.int .i64 1))),
  mvI 13 23]
def a7i : ACode := .seq (rgI a1v) (.seq (.cond (.t 14) (.skip) (.exit 0)) (.seq (.block 1 (.seq (rgI a3a) (rgI a2Z))) (rgI a2Y)))
def a2X : List AIns := [mvI 24 5,
  mvI 4 24]
def a7O : ACode := .seq (rgI a3d) (.seq (rgI a3c) (.seq (.seq (rgI a3b) (.block 0 (.loop a7i))) (.seq (rgI a2X) (.ret))))
theorem a7h : fchk Pr (fun _ _ => false) Tryd.f50 = some (a7O, [.tmp 4], 25) := by kernel_rfl
theorem a7j : Pr.funcs[a1D]? = some Tryd.f50 := Tryd.func50
def a5H : List AIns := [⟨some 1, none, .e (.box 2 (.t 0))⟩,
  ⟨some 2, none, .p (.mv (.c (.str ⟨#[]⟩)))⟩]
def a5G : List AIns := [opI 3 (.load (some 2) (.t 1)),
  ⟨some 4, none, .call a3C [(.t 3)]⟩,
  opI 5 (.bin .lss (.t 4) (.c (.int .i64 0)))]
def a9A : List AIns := [opI 6 (.fldp (.t 1) 1),
  opI 7 (.load none (.t 6)),
  ⟨some 8, none, .call a3i [(.t 7)]⟩,
  ⟨some 9, none, .p (.bin .add (.c (.str ⟨#[45]⟩)) (.t 8))⟩,
  mvI 2 9]
def a9z : List AIns := [opI 10 (.fldp (.t 1) 1),
  opI 11 (.load none (.t 10)),
  ⟨some 12, none, .call a3i [(.t 11)]⟩,
  mvI 2 12]
def b6W : ACode := .seq (rgI a5H) (.seq (.seq (rgI a5G) (.cond (.t 5) (.seq (rgI a9A) (.ret)) (.skip))) (.seq (rgI a9z) (.ret)))
theorem a9B : fchk Pr (fun _ _ => false) Tryd.f51 = some (b6W, [.tmp 2], 13) := by kernel_rfl
theorem a9C : Pr.funcs[a5n]? = some Tryd.f51 := Tryd.func51
def a5V : List AIns := [⟨some 2, none, .e (.box 2 (.t 0))⟩,
  ⟨some 3, none, .e (.box 2 (.t 1))⟩,
  opI 4 (.mv (.c (.int .i64 0)))]
def a5U : List AIns := [opI 7 (.load (some 2) (.t 2)),
  ⟨some 8, none, .call a3C [(.t 7)]⟩,
  opI 9 (.load (some 2) (.t 3)),
  ⟨some 10, none, .call a3C [(.t 9)]⟩,
  mvI 5 8,
  mvI 6 10]
def a5T : List AIns := [mvI 12 5,
  mvI 13 6,
  opI 14 (.bin .lss (.t 12) (.t 13)),
  mvI 11 14]
def a5S : List AIns := [opI 4 (.mv (.c (.int .i64 (-1))))]
def a5R : List AIns := [mvI 16 5,
  mvI 17 6,
  opI 18 (.bin .gtr (.t 16) (.t 17)),
  mvI 15 18]
def a5Q : List AIns := [opI 4 (.mv (.c (.int .i64 1)))]
def a5P : List AIns := [mvI 19 5,
  opI 20 (.fldp (.t 2) 1),
  opI 21 (.load none (.t 20)),
  opI 22 (.fldp (.t 3) 1),
  opI 23 (.load none (.t 22)),
  ⟨some 24, none, .call a8H [(.t 21), (.t 23)]⟩,
  opI 25 (.bin .mul (.t 19) (.t 24)),
  mvI 4 25]
def b3E : ACode := .seq (rgI a5V) (.seq (.region a5U true) (.seq (.block 0 (.seq (rgI a5T) (.cond (.t 11) (.seq (rgI a5S) (.ret)) (.seq (rgI a5R) (.cond (.t 15) (.seq (rgI a5Q) (.ret)) (.skip)))))) (.seq (rgI a5P) (.ret))))
theorem b1w : fchk Pr (fun _ _ => false) Tryd.f52 = some (b3E, [.tmp 4], 26) := by kernel_rfl
theorem b1x : Pr.funcs[a4g]? = some Tryd.f52 := Tryd.func52
def a9x : List AIns := [⟨some 4, none, .e (.box 2 (.c (.agg [.bool false, .nil])))⟩]
def a9w : List AIns := [mvI 7 1,
  opI 8 (.len (.t 7)),
  mvI 5 8]
def a5F : List AIns := [mvI 9 5,
  opI 10 (.bin .gtr (.t 9) (.c (.int .i64 0))),
  mvI 11 10,
  ⟨some 12, some (11, true), .p (.mv (.t 1))⟩,
  ⟨some 13, some (11, true), .p (.mv (.t 5))⟩,
  ⟨some 14, some (11, true), .p (.bin .sub (.t 13) (.c (.int .i64 1)))⟩,
  ⟨some 15, some (11, true), .p (.idxp 1 (.t 12) (.t 14))⟩,
  ⟨some 16, some (11, true), .p (.load none (.t 15))⟩,
  ⟨some 17, some (11, true), .p (.bin .eql (.t 16) (.c (.int .u32 0)))⟩,
  opI 18 (.pick (.t 11) (.t 17) (.c (.bool false)))]
def a9v : List AIns := [mvI 19 5,
  opI 20 (.bin .sub (.t 19) (.c (.int .i64 1))),
  mvI 5 20]
def a9y : ACode := .seq (.seq (rgI a5F) (.cond (.t 18) (.skip) (.exit 0))) (.block 1 (rgI a9v))
def a3N : List AIns := [mvI 21 5,
  opI 22 (.bin .eql (.t 21) (.c (.int .i64 0)))]
def a3M : List AIns := [opI 23 (.bld [.bool false, .nil] []),
  ⟨none, none, .e (.store 2 (.t 4) (.t 23))⟩]
def a3L : List AIns := [mvI 24 5,
  ⟨some 25, none, .e (.mksl 1 4 (.int .u32 0) (.t 24) (.t 24))⟩,
  mvI 6 25]
def a3K : List AIns := [mvI 26 6,
  mvI 27 1,
  ⟨some 28, none, .e (.cpy 1 (.t 26) (.t 27))⟩]
def a3J : List AIns := [mvI 29 0,
  mvI 30 6,
  opI 31 (.bld [.bool false, .nil] [(0, 1, (.t 29)), (1, 1, (.t 30))]),
  ⟨none, none, .e (.store 2 (.t 4) (.t 31))⟩]
def b6V : ACode := .seq (rgI a9x) (.seq (rgI a9w) (.seq (.block 0 (.loop a9y)) (.seq (.seq (rgI a3N) (.cond (.t 22) (.seq (rgI a3M) (.ret)) (.skip))) (.seq (rgI a3L) (.seq (rgI a3K) (.seq (rgI a3J) (.ret)))))))
theorem b5B : fchk Pr (fun _ _ => false) Tryd.f53 = some (b6V, [.cell 4 (some 2)], 32) := by kernel_rfl
theorem b5C : Pr.funcs[a1B]? = some Tryd.f53 := Tryd.func53
def a5v : List AIns := [opI 4 (.mv (.c (.int .i64 0)))]
def a5u : List AIns := [mvI 5 0,
  mvI 6 1,
  ⟨some 7, none, .call a0B [(.t 5), (.t 6)]⟩,
  mvI 4 7]
def b1P : ACode := .seq (rgI a5v) (.seq (rgI a5u) (.ret))
theorem b0U : fchk Pr (fun _ _ => false) Tryd.f60 = some (b1P, [.tmp 4], 8) := by kernel_rfl
theorem b0V : Pr.funcs[a3F]? = some Tryd.f60 := Tryd.func60
end Go.Abs
set_option maxRecDepth 100000
noncomputable section
namespace Go.Abs
open Go.Proofs
def b4C : List AIns := [opI 4 (.mv (.c (.nil)))]
def b4B : List AIns := [mvI 8 0,
  opI 9 (.len (.t 8)),
  mvI 10 1,
  opI 11 (.len (.t 10)),
  opI 12 (.bin .lss (.t 9) (.t 11))]
def b4A : List AIns := [mvI 13 1,
  mvI 14 0,
  mvI 0 13,
  mvI 1 14]
def a9a : List AIns := [mvI 15 0,
  opI 16 (.len (.t 15)),
  opI 17 (.bin .add (.t 16) (.c (.int .i64 1))),
  ⟨some 18, none, .e (.mksl 1 4 (.int .u32 0) (.t 17) (.t 17))⟩,
  mvI 5 18]
def a8Z : List AIns := [opI 6 (.mv (.c (.int .u64 0)))]
def a8Y : List AIns := [mvI 19 0,
  opI 20 (.len (.t 19)),
  opI 21 (.mv (.c (.int .i64 0)))]
def a8X : List AIns := [opI 22 (.bin .lss (.t 21) (.t 20))]
def b4z : List AIns := [mvI 23 21,
  mvI 7 23]
def b4y : List AIns := [mvI 24 6,
  mvI 25 0,
  mvI 26 7,
  opI 27 (.idxp 1 (.t 25) (.t 26)),
  opI 28 (.load none (.t 27)),
  opI 29 (.conv .u64 (.t 28)),
  opI 30 (.bin .add (.t 24) (.t 29)),
  mvI 6 30]
def b4x : List AIns := [mvI 31 7,
  mvI 32 1,
  opI 33 (.len (.t 32)),
  opI 34 (.bin .lss (.t 31) (.t 33))]
def b2z : List AIns := [mvI 35 6,
  mvI 36 1,
  mvI 37 7,
  opI 38 (.idxp 1 (.t 36) (.t 37)),
  opI 39 (.load none (.t 38)),
  opI 40 (.conv .u64 (.t 39)),
  opI 41 (.bin .add (.t 35) (.t 40)),
  mvI 6 41]
def a7M : List AIns := [mvI 42 5,
  mvI 43 7,
  mvI 44 6,
  opI 45 (.conv .u32 (.t 44)),
  opI 46 (.idxp 1 (.t 42) (.t 43)),
  ⟨none, none, .e (.store 1 (.t 46) (.t 45))⟩]
def a7L : List AIns := [mvI 47 6,
  opI 48 (.bin .shr (.t 47) (.c (.int .u64 32))),
  mvI 6 48]
def a7K : List AIns := [opI 49 (.bin .add (.t 21) (.c (.int .i64 1))),
  mvI 21 49]
def a7c : ACode := .seq (rgI a8X) (.seq (.cond (.t 22) (.skip) (.exit 0)) (.seq (.block 1 (.seq (rgI b4z) (.seq (rgI b4y) (.seq (.seq (rgI b4x) (.cond (.t 34) (rgI b2z) (.skip))) (.seq (rgI a7M) (rgI a7L)))))) (rgI a7K)))
def a3w : List AIns := [mvI 50 5,
  mvI 51 0,
  opI 52 (.len (.t 51)),
  mvI 53 6,
  opI 54 (.conv .u32 (.t 53)),
  opI 55 (.idxp 1 (.t 50) (.t 52)),
  ⟨none, none, .e (.store 1 (.t 55) (.t 54))⟩]
def a3v : List AIns := [mvI 56 5,
  ⟨some 57, none, .call a0F [(.t 56)]⟩,
  mvI 4 57]
def c1F : ACode := .seq (rgI b4C) (.seq (.seq (rgI b4B) (.cond (.t 12) (rgI b4A) (.skip))) (.seq (rgI a9a) (.seq (rgI a8Z) (.seq (.seq (rgI a8Y) (.block 0 (.loop a7c))) (.seq (rgI a3w) (.seq (rgI a3v) (.ret)))))))
theorem c0f : fchk Pr (fun _ _ => false) Tryd.f61 = some (c1F, [.tmp 4], 58) := by kernel_rfl
theorem c0g : Pr.funcs[a4A]? = some Tryd.f61 := Tryd.func61
def b4k : List AIns := [opI 4 (.mv (.c (.nil)))]
def b4j : List AIns := [mvI 9 0,
  ⟨some 10, none, .call a0F [(.t 9)]⟩,
  mvI 11 1,
  ⟨some 12, none, .call a0F [(.t 11)]⟩,
  mvI 0 10,
  mvI 1 12]
def b4i : List AIns := [mvI 13 0,
  opI 14 (.len (.t 13)),
  mvI 15 1,
  opI 16 (.len (.t 15)),
  opI 17 (.bin .add (.t 14) (.t 16)),
  ⟨some 18, none, .e (.mksl 1 4 (.int .u32 0) (.t 17) (.t 17))⟩,
  mvI 5 18]
def b4h : List AIns := [mvI 19 0,
  opI 20 (.len (.t 19)),
  opI 21 (.mv (.c (.int .i64 0)))]
def a8V : List AIns := [opI 22 (.bin .lss (.t 21) (.t 20))]
def b4g : List AIns := [mvI 23 21,
  mvI 6 23]
def b4f : List AIns := [opI 7 (.mv (.c (.int .u64 0)))]
def b4e : List AIns := [mvI 24 1,
  opI 25 (.len (.t 24)),
  opI 26 (.mv (.c (.int .i64 0)))]
def a8U : List AIns := [opI 27 (.bin .lss (.t 26) (.t 25))]
def b4d : List AIns := [mvI 28 26,
  mvI 8 28]
def b2p : List AIns := [mvI 29 7,
  mvI 30 0,
  mvI 31 6,
  opI 32 (.idxp 1 (.t 30) (.t 31)),
  opI 33 (.load none (.t 32)),
  opI 34 (.conv .u64 (.t 33)),
  mvI 35 1,
  mvI 36 8,
  opI 37 (.idxp 1 (.t 35) (.t 36)),
  opI 38 (.load none (.t 37)),
  opI 39 (.conv .u64 (.t 38)),
  opI 40 (.bin .mul (.t 34) (.t 39)),
  mvI 41 5,
  mvI 42 6,
  mvI 43 8,
  opI 44 (.bin .add (.t 42) (.t 43)),
  opI 45 (.idxp 1 (.t 41) (.t 44)),
  opI 46 (.load none (.t 45)),
  opI 47 (.conv .u64 (.t 46)),
  opI 48 (.bin .add (.t 40) (.t 47)),
  opI 49 (.bin .add (.t 29) (.t 48)),
  mvI 7 49]
def b2o : List AIns := [mvI 50 5,
  mvI 51 6,
  mvI 52 8,
  opI 53 (.bin .add (.t 51) (.t 52)),
  mvI 54 7,
  opI 55 (.conv .u32 (.t 54)),
  opI 56 (.idxp 1 (.t 50) (.t 53)),
  ⟨none, none, .e (.store 1 (.t 56) (.t 55))⟩]
def b2n : List AIns := [mvI 57 7,
  opI 58 (.bin .shr (.t 57) (.c (.int .u64 32))),
  mvI 7 58]
def b2m : List AIns := [opI 59 (.bin .add (.t 26) (.c (.int .i64 1))),
  mvI 26 59]
def b4l : ACode := .seq (rgI a8U) (.seq (.cond (.t 27) (.skip) (.exit 2)) (.seq (.block 3 (.seq (rgI b4d) (.seq (.region b2p true) (.seq (rgI b2o) (rgI b2n))))) (rgI b2m)))
def b2l : List AIns := [mvI 60 5,
  mvI 61 6,
  mvI 62 1,
  opI 63 (.len (.t 62)),
  opI 64 (.bin .add (.t 61) (.t 63)),
  mvI 65 7,
  opI 66 (.conv .u32 (.t 65)),
  opI 67 (.idxp 1 (.t 60) (.t 64)),
  ⟨none, none, .e (.store 1 (.t 67) (.t 66))⟩]
def b2k : List AIns := [opI 68 (.bin .add (.t 21) (.c (.int .i64 1))),
  mvI 21 68]
def b4m : ACode := .seq (rgI a8V) (.seq (.cond (.t 22) (.skip) (.exit 0)) (.seq (.block 1 (.seq (rgI b4g) (.seq (rgI b4f) (.seq (.seq (rgI b4e) (.block 2 (.loop b4l))) (rgI b2l))))) (rgI b2k)))
def a7I : List AIns := [mvI 69 5,
  ⟨some 70, none, .call a0F [(.t 69)]⟩,
  mvI 4 70]
def c1D : ACode := .seq (rgI b4k) (.seq (rgI b4j) (.seq (rgI b4i) (.seq (.seq (rgI b4h) (.block 0 (.loop b4m))) (.seq (rgI a7I) (.ret)))))
theorem c0a : fchk Pr (fun _ _ => false) Tryd.f62 = some (c1D, [.tmp 4], 71) := by kernel_rfl
theorem c0b : Pr.funcs[a4z]? = some Tryd.f62 := Tryd.func62
def a9I : List AIns := [⟨some 1, none, .e (.box 2 (.t 0))⟩,
  opI 2 (.mv (.c (.int .i64 0)))]
def a9H : List AIns := [opI 4 (.fldp (.t 1) 1),
  opI 5 (.load none (.t 4)),
  ⟨some 6, none, .call a9r [(.t 5)]⟩,
  opI 7 (.bin .eql (.t 6) (.c (.int .i64 0))),
  mvI 3 7]
def a9G : List AIns := [opI 2 (.mv (.c (.int .i64 0)))]
def a9F : List AIns := [opI 9 (.fldp (.t 1) 0),
  opI 10 (.load none (.t 9)),
  mvI 8 10]
def a9E : List AIns := [opI 2 (.mv (.c (.int .i64 (-1))))]
def a9D : List AIns := [opI 2 (.mv (.c (.int .i64 1)))]
def b6X : ACode := .seq (rgI a9I) (.seq (.block 0 (.seq (rgI a9H) (.cond (.t 3) (.seq (rgI a9G) (.ret)) (.seq (rgI a9F) (.cond (.t 8) (.seq (rgI a9E) (.ret)) (.skip)))))) (.seq (rgI a9D) (.ret)))
theorem b5D : fchk Pr (fun _ _ => false) Tryd.f68 = some (b6X, [.tmp 2], 11) := by kernel_rfl
theorem b5E : Pr.funcs[a3C]? = some Tryd.f68 := Tryd.func68
def b2g : List AIns := [⟨some 2, none, .p (.mv (.c (.str ⟨#[]⟩)))⟩]
def b2f : List AIns := [mvI 9 0,
  ⟨some 10, none, .call a9q [(.t 9)]⟩,
  mvI 0 10]
def b2e : List AIns := [mvI 11 0,
  opI 12 (.len (.t 11)),
  opI 13 (.bin .eql (.t 12) (.c (.int .i64 0)))]
def b2d : List AIns := [⟨some 2, none, .p (.mv (.c (.str ⟨#[48]⟩)))⟩]
def b2c : List AIns := [opI 3 (.mv (.c (.nil)))]
def a7F : List AIns := [mvI 14 0,
  opI 15 (.len (.t 14)),
  opI 16 (.bin .gtr (.t 15) (.c (.int .i64 0)))]
def b2b : List AIns := [mvI 18 0,
  ⟨some 19, none, .call a7W [(.t 18), (.c (.int .u32 1000000000))]⟩,
  mvI 17 19,
  opI 20 (.ext (.t 17) 0),
  opI 21 (.ext (.t 17) 1),
  mvI 4 20,
  mvI 5 21]
def b2a : List AIns := [opI 6 (.mv (.c (.int .i64 0)))]
def a3u : List AIns := [mvI 22 6,
  opI 23 (.bin .lss (.t 22) (.c (.int .i64 9))),
  mvI 24 23,
  ⟨some 25, some (24, true), .p (.mv (.t 4))⟩,
  ⟨some 26, some (24, true), .p (.len (.t 25))⟩,
  ⟨some 27, some (24, true), .p (.bin .gtr (.t 26) (.c (.int .i64 0)))⟩,
  ⟨some 28, some (24, true), .p (.mv (.t 27))⟩,
  ⟨some 29, some (28, false), .p (.mv (.t 5))⟩,
  ⟨some 30, some (28, false), .p (.bin .gtr (.t 29) (.c (.int .u32 0)))⟩,
  ⟨some 31, some (24, true), .p (.pick (.t 28) (.c (.bool true)) (.t 30))⟩,
  opI 32 (.pick (.t 24) (.t 31) (.c (.bool false)))]
def a7E : List AIns := [mvI 35 3,
  mvI 36 5,
  opI 37 (.bin .rem (.t 36) (.c (.int .u32 10))),
  opI 38 (.bin .add (.c (.int .u32 48)) (.t 37)),
  opI 39 (.conv .u8 (.t 38)),
  ⟨some 40, none, .e (.bsl 1 [(.t 39)])⟩,
  ⟨some 41, none, .e (.app 1 1 false (.t 35) (.t 40))⟩,
  mvI 3 41]
def a6n : List AIns := [mvI 42 5,
  opI 43 (.bin .quo (.t 42) (.c (.int .u32 10))),
  mvI 5 43]
def a6m : List AIns := [mvI 33 6,
  opI 34 (.bin .add (.t 33) (.c (.int .i64 1))),
  mvI 6 34]
def b2h : ACode := .seq (.seq (rgI a3u) (.cond (.t 32) (.skip) (.exit 2))) (.seq (.block 3 (.seq (rgI a7E) (rgI a6n))) (rgI a6m))
def a3R : List AIns := [mvI 44 4,
  mvI 0 44]
def a7H : ACode := .seq (.seq (rgI a7F) (.cond (.t 16) (.skip) (.exit 0))) (.block 1 (.seq (rgI b2b) (.seq (.seq (rgI b2a) (.block 2 (.loop b2h))) (rgI a3R))))
def a3Q : List AIns := [mvI 45 3,
  opI 46 (.len (.t 45)),
  opI 47 (.bin .sub (.t 46) (.c (.int .i64 1))),
  opI 7 (.mv (.c (.int .i64 0))),
  mvI 8 47]
def a6l : List AIns := [mvI 48 7,
  mvI 49 8,
  opI 50 (.bin .lss (.t 48) (.t 49))]
def b0g : List AIns := [mvI 55 3,
  mvI 56 7,
  mvI 57 3,
  mvI 58 8,
  mvI 59 3,
  mvI 60 8,
  opI 61 (.idxp 1 (.t 59) (.t 60)),
  opI 62 (.load none (.t 61)),
  mvI 63 3,
  mvI 64 7,
  opI 65 (.idxp 1 (.t 63) (.t 64)),
  opI 66 (.load none (.t 65)),
  opI 67 (.idxp 1 (.t 55) (.t 56)),
  ⟨none, none, .e (.store 1 (.t 67) (.t 62))⟩,
  opI 68 (.idxp 1 (.t 57) (.t 58)),
  ⟨none, none, .e (.store 1 (.t 68) (.t 66))⟩]
def b0f : List AIns := [mvI 51 7,
  opI 52 (.bin .add (.t 51) (.c (.int .i64 1))),
  mvI 53 8,
  opI 54 (.bin .sub (.t 53) (.c (.int .i64 1))),
  mvI 7 52,
  mvI 8 54]
def a7G : ACode := .seq (.seq (rgI a6l) (.cond (.t 50) (.skip) (.exit 4))) (.seq (.block 5 (.region b0g true)) (rgI b0f))
def a3P : List AIns := [mvI 69 3,
  opI 70 (.b2s (.t 69)),
  mvI 2 70]
def b9Y : ACode := .seq (rgI b2g) (.seq (rgI b2f) (.seq (.seq (rgI b2e) (.cond (.t 13) (.seq (rgI b2d) (.ret)) (.skip))) (.seq (rgI b2c) (.seq (.block 0 (.loop a7H)) (.seq (.seq (rgI a3Q) (.block 4 (.loop a7G))) (.seq (rgI a3P) (.ret)))))))
theorem b7s : fchk Pr (fun _ _ => false) Tryd.f69 = some (b9Y, [.tmp 2], 71) := by kernel_rfl
theorem b7t : Pr.funcs[a3i]? = some Tryd.f69 := Tryd.func69
def b4v : List AIns := [opI 4 (.mv (.c (.int .i64 0)))]
def b4u : List AIns := [mvI 6 0,
  ⟨some 7, none, .call a0F [(.t 6)]⟩,
  mvI 8 1,
  ⟨some 9, none, .call a0F [(.t 8)]⟩,
  mvI 0 7,
  mvI 1 9]
def b4t : List AIns := [mvI 10 0,
  opI 11 (.len (.t 10)),
  mvI 12 1,
  opI 13 (.len (.t 12)),
  opI 14 (.bin .neq (.t 11) (.t 13))]
def b4s : List AIns := [mvI 15 0,
  opI 16 (.len (.t 15)),
  mvI 17 1,
  opI 18 (.len (.t 17)),
  opI 19 (.bin .lss (.t 16) (.t 18))]
def b4r : List AIns := [opI 4 (.mv (.c (.int .i64 (-1))))]
def b4q : List AIns := [opI 4 (.mv (.c (.int .i64 1)))]
def b4p : List AIns := [mvI 20 0,
  opI 21 (.len (.t 20)),
  opI 22 (.bin .sub (.t 21) (.c (.int .i64 1))),
  mvI 5 22]
def a8W : List AIns := [mvI 23 5,
  opI 24 (.bin .geq (.t 23) (.c (.int .i64 0)))]
def b4o : List AIns := [mvI 27 0,
  mvI 28 5,
  opI 29 (.idxp 1 (.t 27) (.t 28)),
  opI 30 (.load none (.t 29)),
  mvI 31 1,
  mvI 32 5,
  opI 33 (.idxp 1 (.t 31) (.t 32)),
  opI 34 (.load none (.t 33)),
  opI 35 (.bin .neq (.t 30) (.t 34))]
def b4n : List AIns := [mvI 36 0,
  mvI 37 5,
  opI 38 (.idxp 1 (.t 36) (.t 37)),
  opI 39 (.load none (.t 38)),
  mvI 40 1,
  mvI 41 5,
  opI 42 (.idxp 1 (.t 40) (.t 41)),
  opI 43 (.load none (.t 42)),
  opI 44 (.bin .lss (.t 39) (.t 43))]
def b2t : List AIns := [opI 4 (.mv (.c (.int .i64 (-1))))]
def b2r : List AIns := [opI 4 (.mv (.c (.int .i64 1)))]
def b2q : List AIns := [mvI 25 5,
  opI 26 (.bin .sub (.t 25) (.c (.int .i64 1))),
  mvI 5 26]
def b4w : ACode := .seq (.seq (rgI a8W) (.cond (.t 24) (.skip) (.exit 0))) (.seq (.block 1 (.seq (.region b4o true) (.cond (.t 35) (.seq (.seq (.region b4n true) (.cond (.t 44) (.seq (rgI b2t) (.ret)) (.skip))) (.seq (rgI b2r) (.ret))) (.skip)))) (rgI b2q))
def a7J : List AIns := [opI 4 (.mv (.c (.int .i64 0)))]
def c1E : ACode := .seq (rgI b4v) (.seq (rgI b4u) (.seq (.seq (rgI b4t) (.cond (.t 14) (.seq (.seq (rgI b4s) (.cond (.t 19) (.seq (rgI b4r) (.ret)) (.skip))) (.seq (rgI b4q) (.ret))) (.skip))) (.seq (.seq (rgI b4p) (.block 0 (.loop b4w))) (.seq (rgI a7J) (.ret)))))
theorem c0c : fchk Pr (fun _ _ => false) Tryd.f70 = some (c1E, [.tmp 4], 45) := by kernel_rfl
theorem c0d : Pr.funcs[a8H]? = some Tryd.f70 := Tryd.func70
def a0z : List AIns := [opI 4 (.mv (.c (.int .i64 0)))]
def a0y : List AIns := [mvI 14 1,
  opI 15 (.lens (.t 14)),
  mvI 5 15]
def a0x : List AIns := [mvI 17 5,
  opI 18 (.bin .eql (.t 17) (.c (.int .i64 0))),
  mvI 19 18,
  ⟨some 20, some (19, false), .p (.mv (.t 1))⟩,
  ⟨some 21, some (19, false), .p (.mv (.t 0))⟩,
  ⟨some 22, some (19, false), .p (.bin .eql (.t 20) (.t 21))⟩,
  opI 23 (.pick (.t 19) (.c (.bool true)) (.t 22)),
  mvI 16 23]
def a0Z : List AIns := [opI 4 (.mv (.c (.int .i64 0)))]
def a0Y : List AIns := [mvI 25 5,
  opI 26 (.bin .eql (.t 25) (.c (.int .i64 1))),
  mvI 24 26]
def a0X : List AIns := [mvI 27 0,
  mvI 28 1,
  opI 29 (.idxs (.t 28) (.c (.int .i64 0))),
  ⟨some 30, none, .call a0o [(.t 27), (.t 29)]⟩,
  mvI 4 30]
def a2E : List AIns := [mvI 32 5,
  mvI 33 0,
  opI 34 (.lens (.t 33)),
  opI 35 (.bin .geq (.t 32) (.t 34)),
  mvI 31 35]
def a2D : List AIns := [opI 4 (.mv (.c (.int .i64 (-1))))]
def a2C : List AIns := [mvI 45 0,
  mvI 46 1,
  ⟨some 47, none, .call a0R [(.t 45), (.t 46)]⟩,
  mvI 4 47]
def a2B : List AIns := [mvI 48 1,
  opI 49 (.idxs (.t 48) (.c (.int .i64 0))),
  mvI 6 49]
def a2v : List AIns := [mvI 50 1,
  opI 51 (.idxs (.t 50) (.c (.int .i64 1))),
  mvI 7 51]
def a2u : List AIns := [opI 8 (.mv (.c (.int .i64 0)))]
def a2t : List AIns := [mvI 52 0,
  opI 53 (.lens (.t 52)),
  mvI 54 5,
  opI 55 (.bin .sub (.t 53) (.t 54)),
  opI 56 (.bin .add (.t 55) (.c (.int .i64 1))),
  mvI 9 56]
def a2s : List AIns := [opI 10 (.mv (.c (.int .i64 0)))]
def a2r : List AIns := [mvI 57 8,
  mvI 58 9,
  opI 59 (.bin .lss (.t 57) (.t 58))]
def a2q : List AIns := [mvI 60 0,
  mvI 61 8,
  opI 62 (.idxs (.t 60) (.t 61)),
  mvI 63 6,
  opI 64 (.bin .neq (.t 62) (.t 63))]
def a2p : List AIns := [mvI 65 0,
  mvI 66 8,
  opI 67 (.bin .add (.t 66) (.c (.int .i64 1))),
  mvI 68 9,
  opI 69 (.slcs (.t 65) (some (.t 67)) (some (.t 68))),
  mvI 70 6,
  ⟨some 71, none, .call a0o [(.t 69), (.t 70)]⟩,
  mvI 11 71]
def a2o : List AIns := [mvI 72 11,
  opI 73 (.bin .lss (.t 72) (.c (.int .i64 0)))]
def a2n : List AIns := [opI 4 (.mv (.c (.int .i64 (-1))))]
def a2m : List AIns := [mvI 74 8,
  mvI 75 11,
  opI 76 (.bin .add (.t 75) (.c (.int .i64 1))),
  opI 77 (.bin .add (.t 74) (.t 76)),
  mvI 8 77]
def a2l : List AIns := [mvI 78 0,
  mvI 79 8,
  opI 80 (.bin .add (.t 79) (.c (.int .i64 1))),
  opI 81 (.idxs (.t 78) (.t 80)),
  mvI 82 7,
  opI 83 (.bin .eql (.t 81) (.t 82)),
  mvI 84 83,
  ⟨some 85, some (84, true), .p (.mv (.t 0))⟩,
  ⟨some 86, some (84, true), .p (.mv (.t 8))⟩,
  ⟨some 87, some (84, true), .p (.mv (.t 8))⟩,
  ⟨some 88, some (84, true), .p (.mv (.t 5))⟩,
  ⟨some 89, some (84, true), .p (.bin .add (.t 87) (.t 88))⟩,
  ⟨some 90, some (84, true), .p (.slcs (.t 85) (some (.t 86)) (some (.t 89)))⟩,
  ⟨some 91, some (84, true), .p (.mv (.t 1))⟩,
  ⟨some 92, some (84, true), .p (.bin .eql (.t 90) (.t 91))⟩,
  opI 93 (.pick (.t 84) (.t 92) (.c (.bool false)))]
def a2k : List AIns := [mvI 94 8,
  mvI 4 94]
def a2j : List AIns := [mvI 95 8,
  opI 96 (.bin .add (.t 95) (.c (.int .i64 1))),
  mvI 8 96]
def a2i : List AIns := [mvI 97 10,
  opI 98 (.bin .add (.t 97) (.c (.int .i64 1))),
  mvI 10 98]
def a2h : List AIns := [mvI 108 0,
  mvI 109 8,
  opI 110 (.slcs (.t 108) (some (.t 109)) none),
  mvI 111 1,
  ⟨some 112, none, .call a0R [(.t 110), (.t 111)]⟩,
  mvI 12 112]
def a2g : List AIns := [mvI 113 12,
  opI 114 (.bin .geq (.t 113) (.c (.int .i64 0)))]
def a2f : List AIns := [mvI 115 12,
  mvI 116 8,
  opI 117 (.bin .add (.t 115) (.t 116)),
  mvI 4 117]
def a2e : List AIns := [opI 4 (.mv (.c (.int .i64 (-1))))]
def a2d : List AIns := [mvI 133 0,
  mvI 134 8,
  opI 135 (.slcs (.t 133) (some (.t 134)) none),
  mvI 136 1,
  ⟨some 137, none, .call a1k [(.t 135), (.t 136)]⟩,
  mvI 13 137]
def a2c : List AIns := [mvI 138 13,
  opI 139 (.bin .lss (.t 138) (.c (.int .i64 0)))]
def a2b : List AIns := [opI 4 (.mv (.c (.int .i64 (-1))))]
def a2a : List AIns := [mvI 140 8,
  mvI 141 13,
  opI 142 (.bin .add (.t 140) (.t 141)),
  mvI 4 142]
def a2F : ACode := .seq (.seq (rgI a2r) (.cond (.t 59) (.skip) (.exit 1))) (.block 2 (.seq (.seq (rgI a2q) (.cond (.t 64) (.seq (rgI a2p) (.seq (.seq (rgI a2o) (.cond (.t 73) (.seq (rgI a2n) (.ret)) (.skip))) (rgI a2m))) (.skip))) (.seq (.seq (rgI a2l) (.cond (.t 93) (.seq (rgI a2k) (.ret)) (.skip))) (.seq (rgI a2j) (.seq (rgI a2i) (.seq (.bad) (.cond (.t 107) (.seq (rgI a2h) (.seq (.seq (rgI a2g) (.cond (.t 114) (.seq (rgI a2f) (.ret)) (.skip))) (.seq (rgI a2e) (.ret)))) (.seq (.bad) (.cond (.t 132) (.seq (rgI a2d) (.seq (.seq (rgI a2c) (.cond (.t 139) (.seq (rgI a2b) (.ret)) (.skip))) (.seq (rgI a2a) (.ret)))) (.skip))))))))))
def a1Z : List AIns := [opI 4 (.mv (.c (.int .i64 (-1))))]
def a3h : ACode := .seq (rgI a0z) (.seq (rgI a0y) (.seq (.block 0 (.seq (rgI a0x) (.cond (.t 16) (.seq (rgI a0Z) (.ret)) (.seq (rgI a0Y) (.cond (.t 24) (.seq (rgI a0X) (.ret)) (.seq (rgI a2E) (.cond (.t 31) (.seq (rgI a2D) (.ret)) (.seq (.bad) (.cond (.t 36) (.seq (rgI a2C) (.ret)) (.skip)))))))))) (.seq (rgI a2B) (.seq (rgI a2v) (.seq (rgI a2u) (.seq (rgI a2t) (.seq (rgI a2s) (.seq (.block 1 (.loop a2F)) (.seq (rgI a1Z) (.ret))))))))))
theorem a1a : fchk Pr (fun _ _ => false) Tryd.f76 = some (a3h, [.tmp 4], 143) := by kernel_rfl
theorem a1b : Pr.funcs[a0B]? = some Tryd.f76 := Tryd.func76
def b1Z : List AIns := [opI 2 (.mv (.c (.nil)))]
def a7D : List AIns := [mvI 3 0,
  opI 4 (.len (.t 3)),
  opI 5 (.bin .gtr (.t 4) (.c (.int .i64 0))),
  mvI 6 5,
  ⟨some 7, some (6, true), .p (.mv (.t 0))⟩,
  ⟨some 8, some (6, true), .p (.mv (.t 0))⟩,
  ⟨some 9, some (6, true), .p (.len (.t 8))⟩,
  ⟨some 10, some (6, true), .p (.bin .sub (.t 9) (.c (.int .i64 1)))⟩,
  ⟨some 11, some (6, true), .p (.idxp 1 (.t 7) (.t 10))⟩,
  ⟨some 12, some (6, true), .p (.load none (.t 11))⟩,
  ⟨some 13, some (6, true), .p (.bin .eql (.t 12) (.c (.int .u32 0)))⟩,
  opI 14 (.pick (.t 6) (.t 13) (.c (.bool false)))]
def b1Y : List AIns := [mvI 15 0,
  mvI 16 0,
  opI 17 (.len (.t 16)),
  opI 18 (.bin .sub (.t 17) (.c (.int .i64 1))),
  opI 19 (.slc 1 (.t 15) none (some (.t 18)) none),
  mvI 0 19]
def b7p : ACode := .seq (.seq (rgI a7D) (.cond (.t 14) (.skip) (.exit 0))) (.block 1 (rgI b1Y))
def a7C : List AIns := [mvI 20 0,
  mvI 2 20]
def b9X : ACode := .seq (rgI b1Z) (.seq (.block 0 (.loop b7p)) (.seq (rgI a7C) (.ret)))
theorem b7o : fchk Pr (fun _ _ => false) Tryd.f77 = some (b9X, [.tmp 2], 21) := by kernel_rfl
theorem b7q : Pr.funcs[a0F]? = some Tryd.f77 := Tryd.func77
def b2y : List AIns := [opI 2 (.mv (.c (.int .i64 0)))]
def b2x : List AIns := [mvI 3 0,
  ⟨some 4, none, .call a0F [(.t 3)]⟩,
  mvI 0 4]
def b2w : List AIns := [mvI 5 0,
  opI 6 (.len (.t 5)),
  opI 7 (.bin .eql (.t 6) (.c (.int .i64 0)))]
def b2v : List AIns := [opI 2 (.mv (.c (.int .i64 0)))]
def b2u : List AIns := [mvI 8 0,
  opI 9 (.len (.t 8)),
  opI 10 (.bin .sub (.t 9) (.c (.int .i64 1))),
  opI 11 (.bin .mul (.c (.int .i64 32)) (.t 10)),
  mvI 12 0,
  mvI 13 0,
  opI 14 (.len (.t 13)),
  opI 15 (.bin .sub (.t 14) (.c (.int .i64 1))),
  opI 16 (.idxp 1 (.t 12) (.t 15)),
  opI 17 (.load none (.t 16)),
  ⟨some 18, none, .call a0O [(.t 17)]⟩,
  opI 19 (.bin .add (.t 11) (.t 18)),
  mvI 2 19]
def c0e : ACode := .seq (rgI b2y) (.seq (rgI b2x) (.seq (.seq (rgI b2w) (.cond (.t 7) (.seq (rgI b2v) (.ret)) (.skip))) (.seq (rgI b2u) (.ret))))
theorem b7w : fchk Pr (fun _ _ => false) Tryd.f83 = some (c0e, [.tmp 2], 20) := by kernel_rfl
theorem b7x : Pr.funcs[a9r]? = some Tryd.f83 := Tryd.func83
def b2j : List AIns := [opI 2 (.mv (.c (.nil)))]
def b2i : List AIns := [mvI 3 0,
  ⟨some 4, none, .call a0F [(.t 3)]⟩,
  ⟨some 5, none, .e (.app 1 4 false (.c (.nil)) (.t 4))⟩,
  mvI 2 5]
def b9Z : ACode := .seq (rgI b2j) (.seq (rgI b2i) (.ret))
theorem b7u : fchk Pr (fun _ _ => false) Tryd.f84 = some (b9Z, [.tmp 2], 6) := by kernel_rfl
theorem b7v : Pr.funcs[a9q]? = some Tryd.f84 := Tryd.func84
def b0e : List AIns := [opI 4 (.mv (.c (.nil))),
  opI 5 (.mv (.c (.int .u32 0)))]
def b0d : List AIns := [mvI 9 0,
  opI 10 (.len (.t 9)),
  ⟨some 11, none, .e (.mksl 1 4 (.int .u32 0) (.t 10) (.t 10))⟩,
  mvI 6 11]
def b0c : List AIns := [opI 7 (.mv (.c (.int .u64 0)))]
def b0b : List AIns := [mvI 12 0,
  opI 13 (.len (.t 12)),
  opI 14 (.bin .sub (.t 13) (.c (.int .i64 1))),
  mvI 8 14]
def a6k : List AIns := [mvI 15 8,
  opI 16 (.bin .geq (.t 15) (.c (.int .i64 0)))]
def b0a : List AIns := [mvI 19 7,
  opI 20 (.bin .shl (.t 19) (.c (.int .u64 32))),
  mvI 21 0,
  mvI 22 8,
  opI 23 (.idxp 1 (.t 21) (.t 22)),
  opI 24 (.load none (.t 23)),
  opI 25 (.conv .u64 (.t 24)),
  opI 26 (.bin .or (.t 20) (.t 25)),
  mvI 7 26]
def a9Z : List AIns := [mvI 27 6,
  mvI 28 8,
  mvI 29 7,
  mvI 30 1,
  opI 31 (.conv .u64 (.t 30)),
  opI 32 (.bin .quo (.t 29) (.t 31)),
  opI 33 (.conv .u32 (.t 32)),
  opI 34 (.idxp 1 (.t 27) (.t 28)),
  ⟨none, none, .e (.store 1 (.t 34) (.t 33))⟩]
def a9Y : List AIns := [mvI 35 7,
  mvI 36 1,
  opI 37 (.conv .u64 (.t 36)),
  opI 38 (.bin .rem (.t 35) (.t 37)),
  mvI 7 38]
def a9X : List AIns := [mvI 17 8,
  opI 18 (.bin .sub (.t 17) (.c (.int .i64 1))),
  mvI 8 18]
def b6e : ACode := .seq (.seq (rgI a6k) (.cond (.t 16) (.skip) (.exit 0))) (.seq (.block 1 (.seq (rgI b0a) (.seq (rgI a9Z) (rgI a9Y)))) (rgI a9X))
def a9W : List AIns := [mvI 39 6,
  ⟨some 40, none, .call a0F [(.t 39)]⟩,
  mvI 41 7,
  opI 42 (.conv .u32 (.t 41)),
  mvI 4 40,
  mvI 5 42]
def b7r : ACode := .seq (rgI b0e) (.seq (rgI b0d) (.seq (rgI b0c) (.seq (.seq (rgI b0b) (.block 0 (.loop b6e))) (.seq (rgI a9W) (.ret)))))
theorem b6d : fchk Pr (fun _ _ => false) Tryd.f85 = some (b7r, [.tmp 4, .tmp 5], 43) := by kernel_rfl
theorem b6f : Pr.funcs[a7W]? = some Tryd.f85 := Tryd.func85
def a3V : List AIns := [opI 2 (.mv (.c (.int .i64 0)))]
def a3U : List AIns := [mvI 3 0,
  opI 4 (.bin .geq (.t 3) (.c (.int .u32 65536)))]
def a3T : List AIns := [mvI 5 0,
  opI 6 (.bin .shr (.t 5) (.c (.int .u64 16))),
  mvI 0 6]
def a3S : List AIns := [opI 2 (.mv (.c (.int .i64 16)))]
def a1Q : List AIns := [mvI 7 0,
  opI 8 (.bin .geq (.t 7) (.c (.int .u32 256)))]
def a1P : List AIns := [mvI 9 0,
  opI 10 (.bin .shr (.t 9) (.c (.int .u64 8))),
  mvI 0 10]
def a1O : List AIns := [mvI 11 2,
  opI 12 (.bin .add (.t 11) (.c (.int .i64 8))),
  mvI 2 12]
def a1j : List AIns := [mvI 13 2,
  mvI 14 0,
  opI 15 (.conv .u8 (.t 14)),
  opI 16 (.idxs (.c (.str c3m)) (.t 15)),
  opI 17 (.conv .i64 (.t 16)),
  opI 18 (.bin .add (.t 13) (.t 17)),
  mvI 2 18]
def a9c : ACode := .seq (rgI a3V) (.seq (.seq (rgI a3U) (.cond (.t 4) (.seq (rgI a3T) (rgI a3S)) (.skip))) (.seq (.seq (rgI a1Q) (.cond (.t 8) (.seq (rgI a1P) (rgI a1O)) (.skip))) (.seq (rgI a1j) (.ret))))
theorem a8r : fchk Pr (fun _ _ => false) Tryd.f94 = some (a9c, [.tmp 2], 19) := by kernel_rfl
theorem a8s : Pr.funcs[a0O]? = some Tryd.f94 := Tryd.func94
end Go.Abs

/- The abstract code of the functions, printed by gen.py; the kernel checks it against the translation. -/
import Derived.Test.YtmbjamifiadncaaDoorNum
set_option maxRecDepth 100000
noncomputable section
namespace Go.Abs
open Go.Proofs
/-! trammellaw27.BookNames -/
def law27_BookNames_r0 : List AIns := [⟨some 0, none, .p (.mv (.c (.bool false)))⟩]
def law27_BookNames_r1 : List AIns := [⟨some 5, none, .call F_book_Read [(.c (.str ⟨#[108, 97, 116, 116, 105, 99, 101, 32, 90, 10]⟩))]⟩,
  ⟨some 4, none, .p (.mv (.t 5))⟩,
  ⟨some 6, none, .p (.ext (.t 4) 0)⟩,
  ⟨some 7, none, .p (.ext (.t 4) 1)⟩,
  ⟨some 8, none, .p (.ext (.t 4) 2)⟩,
  ⟨some 1, none, .p (.mv (.t 6))⟩,
  ⟨some 2, none, .p (.mv (.t 7))⟩,
  ⟨some 3, none, .p (.mv (.t 8))⟩]
def law27_BookNames_r2 : List AIns := [⟨some 9, none, .p (.mv (.t 2))⟩,
  ⟨some 10, none, .p (.bin .eql (.t 9) (.c (.int .i64 1)))⟩,
  ⟨some 11, none, .p (.mv (.t 10))⟩,
  ⟨some 12, some (11, true), .p (.mv (.t 3))⟩,
  ⟨some 13, some (11, true), .p (.bin .eql (.t 12) (.c (.int .i64 270)))⟩,
  ⟨some 14, none, .p (.pick (.t 11) (.t 13) (.c (.bool false)))⟩,
  ⟨some 15, none, .p (.mv (.t 14))⟩,
  ⟨some 16, none, .p (.pick (.t 15) (.c (.bool true)) (.c (.bool false)))⟩,
  ⟨some 17, none, .p (.mv (.t 16))⟩,
  ⟨some 18, none, .p (.pick (.t 17) (.c (.bool true)) (.c (.bool false)))⟩,
  ⟨some 19, none, .p (.mv (.t 18))⟩,
  ⟨some 20, none, .p (.pick (.t 19) (.c (.bool true)) (.c (.bool false)))⟩,
  ⟨some 21, none, .p (.mv (.t 20))⟩,
  ⟨some 22, none, .p (.pick (.t 21) (.c (.bool true)) (.c (.bool false)))⟩,
  ⟨some 23, none, .p (.mv (.t 22))⟩,
  ⟨some 24, none, .p (.pick (.t 23) (.c (.bool true)) (.c (.bool false)))⟩,
  ⟨some 0, none, .p (.mv (.t 24))⟩]
def law27_BookNames_c : ACode := .seq (.region law27_BookNames_r0 false) (.seq (.region law27_BookNames_r1 false) (.seq (.region law27_BookNames_r2 false) (.ret)))
theorem law27_BookNames_ok : fchk Pr (fun _ _ => false) Tryd.f3 = some (law27_BookNames_c, [.tmp 0], 25) := by kernel_rfl
theorem law27_BookNames_fn : Pr.funcs[F_law27_BookNames]? = some Tryd.f3 := Tryd.func3
/-! book.Read -/
def book_Read_r0 : List AIns := [⟨some 2, none, .p (.mv (.c (.lit (.pointer none))))⟩,
  ⟨some 3, none, .p (.mv (.c (.int .i64 0)))⟩,
  ⟨some 4, none, .p (.mv (.c (.int .i64 0)))⟩]
def book_Read_r1 : List AIns := [⟨some 14, none, .p (.mv (.t 0))⟩,
  ⟨some 15, none, .p (.lens (.t 14))⟩,
  ⟨some 16, none, .p (.bin .gtr (.t 15) (.c (.int .i64 262144)))⟩]
def book_Read_r2 : List AIns := [⟨some 2, none, .p (.mv (.c (.lit (.pointer none))))⟩,
  ⟨some 3, none, .p (.mv (.c (.int .i64 0)))⟩,
  ⟨some 4, none, .p (.mv (.c (.int .i64 2)))⟩]
def book_Read_r3 : List AIns := [⟨some 17, none, .call F_book_New []⟩,
  ⟨some 18, none, .p (.bld [.lit (.pointer none), .lit .nilFunc, .str ⟨#[]⟩, .nil] [(0, 1, (.t 17))])⟩,
  ⟨some 19, none, .e (.box 4 (.t 18))⟩,
  ⟨some 5, none, .p (.mv (.t 19))⟩]
def book_Read_r4 : List AIns := [⟨some 20, none, .p (.mv (.t 5))⟩,
  ⟨some 21, none, .p (.mv (.t 5))⟩,
  ⟨some 22, none, .p (.mkbf F_book_reader_outside [(.t 21)])⟩,
  ⟨some 23, none, .p (.fldp (.t 20) 0)⟩,
  ⟨some 24, none, .p (.fldp (.t 23) 1)⟩,
  ⟨none, none, .e (.store 1 (.t 24) (.t 22))⟩]
def book_Read_r5 : List AIns := [⟨some 6, none, .p (.mv (.c (.int .i64 0)))⟩]
def book_Read_r6 : List AIns := [⟨some 25, none, .p (.mv (.t 0))⟩,
  ⟨some 7, none, .p (.mv (.t 25))⟩]
def book_Read_r7 : List AIns := [⟨some 26, none, .p (.mv (.t 7))⟩,
  ⟨some 27, none, .p (.bin .neq (.t 26) (.c (.str ⟨#[]⟩)))⟩]
def book_Read_r8 : List AIns := [⟨some 29, none, .p (.mv (.t 7))⟩,
  ⟨some 30, none, .call F_strings_Cut [(.t 29), (.c (.str ⟨#[10]⟩))]⟩,
  ⟨some 28, none, .p (.mv (.t 30))⟩,
  ⟨some 31, none, .p (.ext (.t 28) 0)⟩,
  ⟨some 32, none, .p (.ext (.t 28) 1)⟩,
  ⟨some 33, none, .p (.ext (.t 28) 2)⟩,
  ⟨some 8, none, .p (.mv (.t 31))⟩,
  ⟨some 9, none, .p (.mv (.t 32))⟩,
  ⟨some 10, none, .p (.mv (.t 33))⟩]
def book_Read_r9 : List AIns := [⟨some 34, none, .p (.mv (.t 9))⟩,
  ⟨some 7, none, .p (.mv (.t 34))⟩]
def book_Read_r10 : List AIns := [⟨some 35, none, .p (.mv (.t 6))⟩,
  ⟨some 36, none, .p (.bin .add (.t 35) (.c (.int .i64 1)))⟩,
  ⟨some 6, none, .p (.mv (.t 36))⟩]
def book_Read_r11 : List AIns := [⟨some 37, none, .p (.mv (.t 8))⟩,
  ⟨some 38, none, .p (.bin .eql (.t 37) (.c (.str ⟨#[]⟩)))⟩,
  ⟨some 39, none, .p (.mv (.t 38))⟩,
  ⟨some 40, some (39, false), .p (.mv (.t 8))⟩,
  ⟨some 41, some (39, false), .p (.idxs (.t 40) (.c (.int .i64 0)))⟩,
  ⟨some 42, some (39, false), .p (.bin .eql (.t 41) (.c (.int .u8 35)))⟩,
  ⟨some 43, none, .p (.pick (.t 39) (.c (.bool true)) (.t 42))⟩]
def book_Read_r12 : List AIns := [⟨some 44, none, .p (.mv (.t 5))⟩,
  ⟨some 45, none, .p (.fldp (.t 44) 0)⟩,
  ⟨some 46, none, .p (.fldp (.t 45) 1)⟩,
  ⟨some 47, none, .p (.load none (.t 46))⟩,
  ⟨some 48, none, .p (.mv (.t 8))⟩,
  ⟨some 49, none, .callv (.t 47) [(.t 48)]⟩,
  ⟨some 11, none, .p (.mv (.t 49))⟩]
def book_Read_r13 : List AIns := [⟨some 50, none, .p (.mv (.t 11))⟩,
  ⟨some 51, none, .p (.bin .neq (.t 50) (.c (.int .i64 0)))⟩]
def book_Read_r14 : List AIns := [⟨some 52, none, .p (.mv (.t 6))⟩,
  ⟨some 53, none, .p (.mv (.t 11))⟩,
  ⟨some 2, none, .p (.mv (.c (.lit (.pointer none))))⟩,
  ⟨some 3, none, .p (.mv (.t 52))⟩,
  ⟨some 4, none, .p (.mv (.t 53))⟩]
def book_Read_l0 : ACode := .seq (.seq (.region book_Read_r7 false) (.cond (.t 27) (.skip) (.exit 0))) (.block 1 (.seq (.region book_Read_r8 false) (.seq (.region book_Read_r9 false) (.seq (.region book_Read_r10 false) (.seq (.seq (.region book_Read_r11 false) (.cond (.t 43) (.exit 1) (.skip))) (.seq (.region book_Read_r12 false) (.seq (.region book_Read_r13 false) (.cond (.t 51) (.seq (.region book_Read_r14 false) (.ret)) (.skip)))))))))
def book_Read_r15 : List AIns := [⟨some 54, none, .p (.mv (.t 5))⟩,
  ⟨some 55, none, .p (.fldp (.t 54) 0)⟩,
  ⟨some 56, none, .p (.fldp (.t 55) 2)⟩,
  ⟨some 57, none, .p (.load none (.t 56))⟩,
  ⟨some 58, none, .p (.bin .neq (.t 57) (.c (.str ⟨#[]⟩)))⟩]
def book_Read_r16 : List AIns := [⟨some 74, none, .p (.mv (.t 13))⟩,
  ⟨some 75, none, .p (.un .not (.t 74))⟩]
def book_Read_r17 : List AIns := [⟨some 76, none, .p (.mv (.t 6))⟩,
  ⟨some 77, none, .p (.bin .add (.t 76) (.c (.int .i64 1)))⟩,
  ⟨some 2, none, .p (.mv (.c (.lit (.pointer none))))⟩,
  ⟨some 3, none, .p (.mv (.t 77))⟩,
  ⟨some 4, none, .p (.mv (.c (.int .i64 4)))⟩]
def book_Read_r18 : List AIns := [⟨some 78, none, .p (.mv (.t 5))⟩,
  ⟨some 79, none, .p (.fldp (.t 78) 0)⟩,
  ⟨some 80, none, .p (.fldp (.t 79) 0)⟩,
  ⟨some 81, none, .p (.load none (.t 80))⟩,
  ⟨some 2, none, .p (.mv (.t 81))⟩,
  ⟨some 3, none, .p (.mv (.c (.int .i64 0)))⟩,
  ⟨some 4, none, .p (.mv (.c (.int .i64 0)))⟩]
def book_Read_c : ACode := .seq (.region book_Read_r0 false) (.seq (.seq (.region book_Read_r1 false) (.cond (.t 16) (.seq (.region book_Read_r2 false) (.ret)) (.skip))) (.seq (.region book_Read_r3 false) (.seq (.region book_Read_r4 false) (.seq (.region book_Read_r5 false) (.seq (.seq (.region book_Read_r6 false) (.block 0 (.loop book_Read_l0))) (.seq (.seq (.region book_Read_r15 false) (.cond (.t 58) (.seq (.bad) (.seq (.region book_Read_r16 false) (.cond (.t 75) (.seq (.region book_Read_r17 false) (.ret)) (.skip)))) (.skip))) (.seq (.region book_Read_r18 false) (.ret))))))))
theorem book_Read_ok : fchk Pr (fun _ _ => false) Tryd.f4 = some (book_Read_c, [.tmp 2, .tmp 3, .tmp 4], 82) := by kernel_rfl
theorem book_Read_fn : Pr.funcs[F_book_Read]? = some Tryd.f4 := Tryd.func4
/-! book.New -/
def book_New_r0 : List AIns := [⟨some 0, none, .p (.mv (.c (.lit (.pointer none))))⟩]
def book_New_c : ACode := .seq (.region book_New_r0 false) (.seq (.bad) (.ret))
theorem book_New_ok : fchk Pr (fun _ _ => false) Tryd.f5 = some (book_New_c, [.tmp 0], 4) := by kernel_rfl
theorem book_New_fn : Pr.funcs[F_book_New]? = some Tryd.f5 := Tryd.func5
/-! (*book.reader).outside -/
def book_reader_outside_r0 : List AIns := [⟨some 4, none, .p (.mv (.c (.int .i64 0)))⟩]
def book_reader_outside_r1 : List AIns := [⟨some 9, none, .p (.mv (.t 1))⟩,
  ⟨some 10, none, .call F_strings_CutPrefix [(.t 9), (.c (.str ⟨#[108, 97, 116, 116, 105, 99, 101, 32]⟩))]⟩,
  ⟨some 8, none, .p (.mv (.t 10))⟩,
  ⟨some 11, none, .p (.ext (.t 8) 0)⟩,
  ⟨some 12, none, .p (.ext (.t 8) 1)⟩,
  ⟨some 5, none, .p (.mv (.t 11))⟩,
  ⟨some 6, none, .p (.mv (.t 12))⟩]
def book_reader_outside_r2 : List AIns := [⟨some 13, none, .p (.mv (.t 6))⟩,
  ⟨some 14, none, .p (.un .not (.t 13))⟩]
def book_reader_outside_r3 : List AIns := [⟨some 4, none, .p (.mv (.c (.int .i64 4)))⟩]
def book_reader_outside_r4 : List AIns := [⟨some 15, none, .p (.mv (.t 0))⟩,
  ⟨some 16, none, .p (.fldp (.t 15) 0)⟩,
  ⟨some 17, none, .p (.fldp (.t 16) 0)⟩,
  ⟨some 18, none, .p (.load none (.t 17))⟩,
  ⟨some 19, none, .p (.mv (.t 5))⟩,
  ⟨some 20, none, .call F_book_Book_room [(.t 18), (.t 19)]⟩,
  ⟨some 7, none, .p (.mv (.t 20))⟩]
def book_reader_outside_r5 : List AIns := [⟨some 21, none, .p (.mv (.t 7))⟩,
  ⟨some 22, none, .p (.bin .neq (.t 21) (.c (.int .i64 0)))⟩]
def book_reader_outside_r6 : List AIns := [⟨some 23, none, .p (.mv (.t 7))⟩,
  ⟨some 4, none, .p (.mv (.t 23))⟩]
def book_reader_outside_r7 : List AIns := [⟨some 24, none, .p (.mv (.t 0))⟩,
  ⟨some 25, none, .p (.mv (.t 0))⟩,
  ⟨some 26, none, .p (.mv (.t 5))⟩,
  ⟨some 27, none, .p (.fldp (.t 24) 0)⟩,
  ⟨some 28, none, .p (.fldp (.t 27) 2)⟩,
  ⟨none, none, .e (.store 1 (.t 28) (.t 26))⟩,
  ⟨some 29, none, .p (.fldp (.t 25) 0)⟩,
  ⟨some 30, none, .p (.fldp (.t 29) 3)⟩,
  ⟨none, none, .e (.store 1 (.t 30) (.c (.nil)))⟩]
def book_reader_outside_r8 : List AIns := [⟨some 31, none, .p (.mv (.t 0))⟩,
  ⟨some 32, none, .p (.mv (.t 0))⟩,
  ⟨some 33, none, .p (.mkbf F_book_reader_inside [(.t 32)])⟩,
  ⟨some 34, none, .p (.fldp (.t 31) 0)⟩,
  ⟨some 35, none, .p (.fldp (.t 34) 1)⟩,
  ⟨none, none, .e (.store 1 (.t 35) (.t 33))⟩]
def book_reader_outside_r9 : List AIns := [⟨some 4, none, .p (.mv (.c (.int .i64 0)))⟩]
def book_reader_outside_c : ACode := .seq (.region book_reader_outside_r0 false) (.seq (.region book_reader_outside_r1 false) (.seq (.seq (.region book_reader_outside_r2 false) (.cond (.t 14) (.seq (.region book_reader_outside_r3 false) (.ret)) (.skip))) (.seq (.seq (.region book_reader_outside_r4 false) (.seq (.region book_reader_outside_r5 false) (.cond (.t 22) (.seq (.region book_reader_outside_r6 false) (.ret)) (.skip)))) (.seq (.region book_reader_outside_r7 false) (.seq (.region book_reader_outside_r8 false) (.seq (.region book_reader_outside_r9 false) (.ret)))))))
theorem book_reader_outside_ok : fchk Pr (fun _ _ => false) Tryd.f6 = some (book_reader_outside_c, [.tmp 4], 36) := by kernel_rfl
theorem book_reader_outside_fn : Pr.funcs[F_book_reader_outside]? = some Tryd.f6 := Tryd.func6
/-! strings.Cut -/
def strings_Cut_r0 : List AIns := [⟨some 4, none, .p (.mv (.c (.str ⟨#[]⟩)))⟩,
  ⟨some 5, none, .p (.mv (.c (.str ⟨#[]⟩)))⟩,
  ⟨some 6, none, .p (.mv (.c (.bool false)))⟩]
def strings_Cut_r1 : List AIns := [⟨some 7, none, .p (.mv (.t 0))⟩,
  ⟨some 8, none, .p (.mv (.t 1))⟩,
  ⟨some 9, none, .call F_internal_stringslite_Cut [(.t 7), (.t 8)]⟩,
  ⟨some 10, none, .p (.ext (.t 9) 0)⟩,
  ⟨some 11, none, .p (.ext (.t 9) 1)⟩,
  ⟨some 12, none, .p (.ext (.t 9) 2)⟩,
  ⟨some 4, none, .p (.mv (.t 10))⟩,
  ⟨some 5, none, .p (.mv (.t 11))⟩,
  ⟨some 6, none, .p (.mv (.t 12))⟩]
def strings_Cut_c : ACode := .seq (.region strings_Cut_r0 false) (.seq (.region strings_Cut_r1 false) (.ret))
theorem strings_Cut_ok : fchk Pr (fun _ _ => false) Tryd.f7 = some (strings_Cut_c, [.tmp 4, .tmp 5, .tmp 6], 13) := by kernel_rfl
theorem strings_Cut_fn : Pr.funcs[F_strings_Cut]? = some Tryd.f7 := Tryd.func7
/-! strings.CutPrefix -/
def strings_CutPrefix_r0 : List AIns := [⟨some 4, none, .p (.mv (.c (.str ⟨#[]⟩)))⟩,
  ⟨some 5, none, .p (.mv (.c (.bool false)))⟩]
def strings_CutPrefix_r1 : List AIns := [⟨some 6, none, .p (.mv (.t 0))⟩,
  ⟨some 7, none, .p (.mv (.t 1))⟩,
  ⟨some 8, none, .call F_internal_stringslite_CutPrefix [(.t 6), (.t 7)]⟩,
  ⟨some 9, none, .p (.ext (.t 8) 0)⟩,
  ⟨some 10, none, .p (.ext (.t 8) 1)⟩,
  ⟨some 4, none, .p (.mv (.t 9))⟩,
  ⟨some 5, none, .p (.mv (.t 10))⟩]
def strings_CutPrefix_c : ACode := .seq (.region strings_CutPrefix_r0 false) (.seq (.region strings_CutPrefix_r1 false) (.ret))
theorem strings_CutPrefix_ok : fchk Pr (fun _ _ => false) Tryd.f8 = some (strings_CutPrefix_c, [.tmp 4, .tmp 5], 11) := by kernel_rfl
theorem strings_CutPrefix_fn : Pr.funcs[F_strings_CutPrefix]? = some Tryd.f8 := Tryd.func8
/-! (*book.Book).room -/
def book_Book_room_r0 : List AIns := [⟨some 4, none, .p (.mv (.c (.int .i64 0)))⟩]
def book_Book_room_r1 : List AIns := [⟨some 7, none, .p (.mv (.t 1))⟩,
  ⟨some 8, none, .call F_book_named [(.t 7)]⟩,
  ⟨some 9, none, .p (.un .not (.t 8))⟩]
def book_Book_room_r2 : List AIns := [⟨some 4, none, .p (.mv (.c (.int .i64 270)))⟩]
def book_Book_room_r3 : List AIns := [⟨some 19, none, .p (.mv (.t 6))⟩]
def book_Book_room_r4 : List AIns := [⟨some 4, none, .p (.mv (.c (.int .i64 271)))⟩]
def book_Book_room_r5 : List AIns := [⟨some 4, none, .p (.mv (.c (.int .i64 2)))⟩]
def book_Book_room_r6 : List AIns := [⟨some 4, none, .p (.mv (.c (.int .i64 0)))⟩]
def book_Book_room_c : ACode := .seq (.region book_Book_room_r0 false) (.seq (.seq (.region book_Book_room_r1 false) (.cond (.t 9) (.seq (.region book_Book_room_r2 false) (.ret)) (.skip))) (.seq (.seq (.bad) (.seq (.region book_Book_room_r3 false) (.cond (.t 19) (.seq (.region book_Book_room_r4 false) (.ret)) (.skip)))) (.seq (.seq (.bad) (.cond (.t 25) (.seq (.region book_Book_room_r5 false) (.ret)) (.skip))) (.seq (.region book_Book_room_r6 false) (.ret)))))
theorem book_Book_room_ok : fchk Pr (fun _ _ => false) Tryd.f9 = some (book_Book_room_c, [.tmp 4], 26) := by kernel_rfl
theorem book_Book_room_fn : Pr.funcs[F_book_Book_room]? = some Tryd.f9 := Tryd.func9
/-! (*book.reader).inside -/
def book_reader_inside_r0 : List AIns := [⟨some 4, none, .p (.mv (.c (.int .i64 0)))⟩]
def book_reader_inside_r1 : List AIns := [⟨some 13, none, .p (.mv (.t 1))⟩,
  ⟨some 14, none, .p (.bin .eql (.t 13) (.c (.str ⟨#[101, 110, 100]⟩)))⟩]
def book_reader_inside_r2 : List AIns := [⟨some 15, none, .p (.mv (.t 0))⟩,
  ⟨some 16, none, .p (.mv (.t 0))⟩,
  ⟨some 17, none, .p (.mkbf F_book_reader_outside [(.t 16)])⟩,
  ⟨some 18, none, .p (.fldp (.t 15) 0)⟩,
  ⟨some 19, none, .p (.fldp (.t 18) 1)⟩,
  ⟨none, none, .e (.store 1 (.t 19) (.t 17))⟩]
def book_reader_inside_r3 : List AIns := [⟨some 20, none, .p (.mv (.t 0))⟩,
  ⟨some 21, none, .p (.fldp (.t 20) 0)⟩,
  ⟨some 22, none, .p (.fldp (.t 21) 0)⟩,
  ⟨some 23, none, .p (.load none (.t 22))⟩,
  ⟨some 24, none, .p (.mv (.t 0))⟩,
  ⟨some 25, none, .p (.fldp (.t 24) 0)⟩,
  ⟨some 26, none, .p (.fldp (.t 25) 2)⟩,
  ⟨some 27, none, .p (.load none (.t 26))⟩,
  ⟨some 28, none, .p (.mv (.t 0))⟩,
  ⟨some 29, none, .p (.fldp (.t 28) 0)⟩,
  ⟨some 30, none, .p (.fldp (.t 29) 3)⟩,
  ⟨some 31, none, .p (.load none (.t 30))⟩,
  ⟨some 32, none, .call F_book_Book_put [(.t 23), (.t 27), (.t 31)]⟩,
  ⟨some 4, none, .p (.mv (.t 32))⟩]
def book_reader_inside_r4 : List AIns := [⟨some 34, none, .p (.mv (.t 1))⟩,
  ⟨some 35, none, .call F_strings_CutPrefix [(.t 34), (.c (.str ⟨#[32]⟩))]⟩,
  ⟨some 33, none, .p (.mv (.t 35))⟩,
  ⟨some 36, none, .p (.ext (.t 33) 0)⟩,
  ⟨some 37, none, .p (.ext (.t 33) 1)⟩,
  ⟨some 5, none, .p (.mv (.t 36))⟩,
  ⟨some 6, none, .p (.mv (.t 37))⟩]
def book_reader_inside_r5 : List AIns := [⟨some 38, none, .p (.mv (.t 6))⟩,
  ⟨some 39, none, .p (.un .not (.t 38))⟩]
def book_reader_inside_r6 : List AIns := [⟨some 4, none, .p (.mv (.c (.int .i64 4)))⟩]
def book_reader_inside_r7 : List AIns := [⟨some 40, none, .e (.bsl 2 [])⟩,
  ⟨some 7, none, .p (.mv (.t 40))⟩]
def book_reader_inside_r8 : List AIns := [⟨some 41, none, .p (.mv (.t 5))⟩,
  ⟨some 42, none, .call F_strings_Split [(.t 41), (.c (.str ⟨#[32]⟩))]⟩,
  ⟨some 43, none, .p (.len (.t 42))⟩,
  ⟨some 44, none, .p (.mv (.c (.int .i64 0)))⟩]
def book_reader_inside_r9 : List AIns := [⟨some 45, none, .p (.bin .lss (.t 44) (.t 43))⟩]
def book_reader_inside_r10 : List AIns := [⟨some 46, none, .p (.idxp 1 (.t 42) (.t 44))⟩,
  ⟨some 47, none, .p (.load none (.t 46))⟩,
  ⟨some 9, none, .p (.mv (.t 47))⟩]
def book_reader_inside_r11 : List AIns := [⟨some 49, none, .p (.mv (.t 9))⟩,
  ⟨some 50, none, .call F_zint_Read [(.t 49)]⟩,
  ⟨some 48, none, .p (.mv (.t 50))⟩,
  ⟨some 51, none, .p (.ext (.t 48) 0)⟩,
  ⟨some 52, none, .p (.ext (.t 48) 1)⟩,
  ⟨some 53, none, .p (.ext (.t 48) 2)⟩,
  ⟨some 10, none, .e (.box 2 (.c (.agg [.bool false, .nil])))⟩,
  ⟨none, none, .e (.store 2 (.t 10) (.t 51))⟩,
  ⟨some 11, none, .p (.mv (.t 52))⟩,
  ⟨some 12, none, .p (.mv (.t 53))⟩]
def book_reader_inside_r12 : List AIns := [⟨some 54, none, .p (.mv (.t 12))⟩,
  ⟨some 55, none, .p (.bin .neq (.t 54) (.c (.int .i64 0)))⟩]
def book_reader_inside_r13 : List AIns := [⟨some 4, none, .p (.mv (.c (.int .i64 4)))⟩]
def book_reader_inside_r14 : List AIns := [⟨some 56, none, .p (.mv (.t 7))⟩,
  ⟨some 57, none, .p (.load (some 2) (.t 10))⟩,
  ⟨some 58, none, .e (.bsl 2 [(.t 57)])⟩,
  ⟨some 59, none, .e (.app 2 32 false (.t 56) (.t 58))⟩,
  ⟨some 7, none, .p (.mv (.t 59))⟩]
def book_reader_inside_r15 : List AIns := [⟨some 60, none, .p (.bin .add (.t 44) (.c (.int .i64 1)))⟩,
  ⟨some 44, none, .p (.mv (.t 60))⟩]
def book_reader_inside_l0 : ACode := .seq (.region book_reader_inside_r9 false) (.seq (.cond (.t 45) (.skip) (.exit 0)) (.seq (.block 1 (.seq (.region book_reader_inside_r10 false) (.seq (.region book_reader_inside_r11 false) (.seq (.seq (.region book_reader_inside_r12 false) (.cond (.t 55) (.seq (.region book_reader_inside_r13 false) (.ret)) (.skip))) (.region book_reader_inside_r14 false))))) (.region book_reader_inside_r15 false)))
def book_reader_inside_r16 : List AIns := [⟨some 61, none, .p (.mv (.t 0))⟩,
  ⟨some 62, none, .p (.mv (.t 0))⟩,
  ⟨some 63, none, .p (.fldp (.t 62) 0)⟩,
  ⟨some 64, none, .p (.fldp (.t 63) 3)⟩,
  ⟨some 65, none, .p (.load none (.t 64))⟩,
  ⟨some 66, none, .p (.mv (.t 7))⟩,
  ⟨some 67, none, .e (.bsl 1 [(.t 66)])⟩,
  ⟨some 68, none, .e (.app 1 24 false (.t 65) (.t 67))⟩,
  ⟨some 69, none, .p (.fldp (.t 61) 0)⟩,
  ⟨some 70, none, .p (.fldp (.t 69) 3)⟩,
  ⟨none, none, .e (.store 1 (.t 70) (.t 68))⟩]
def book_reader_inside_r17 : List AIns := [⟨some 4, none, .p (.mv (.c (.int .i64 0)))⟩]
def book_reader_inside_c : ACode := .seq (.region book_reader_inside_r0 false) (.seq (.seq (.region book_reader_inside_r1 false) (.cond (.t 14) (.seq (.region book_reader_inside_r2 false) (.seq (.region book_reader_inside_r3 true) (.ret))) (.skip))) (.seq (.region book_reader_inside_r4 false) (.seq (.seq (.region book_reader_inside_r5 false) (.cond (.t 39) (.seq (.region book_reader_inside_r6 false) (.ret)) (.skip))) (.seq (.region book_reader_inside_r7 false) (.seq (.seq (.region book_reader_inside_r8 false) (.block 0 (.loop book_reader_inside_l0))) (.seq (.region book_reader_inside_r16 false) (.seq (.region book_reader_inside_r17 false) (.ret))))))))
theorem book_reader_inside_ok : fchk Pr (fun _ _ => false) Tryd.f10 = some (book_reader_inside_c, [.tmp 4], 71) := by kernel_rfl
theorem book_reader_inside_fn : Pr.funcs[F_book_reader_inside]? = some Tryd.f10 := Tryd.func10
/-! internal/stringslite.Cut -/
def internal_stringslite_Cut_r0 : List AIns := [⟨some 4, none, .p (.mv (.c (.str ⟨#[]⟩)))⟩,
  ⟨some 5, none, .p (.mv (.c (.str ⟨#[]⟩)))⟩,
  ⟨some 6, none, .p (.mv (.c (.bool false)))⟩]
def internal_stringslite_Cut_r1 : List AIns := [⟨some 8, none, .p (.mv (.t 0))⟩,
  ⟨some 9, none, .p (.mv (.t 1))⟩,
  ⟨some 10, none, .call F_internal_stringslite_Index [(.t 8), (.t 9)]⟩,
  ⟨some 7, none, .p (.mv (.t 10))⟩]
def internal_stringslite_Cut_r2 : List AIns := [⟨some 11, none, .p (.mv (.t 7))⟩,
  ⟨some 12, none, .p (.bin .geq (.t 11) (.c (.int .i64 0)))⟩]
def internal_stringslite_Cut_r3 : List AIns := [⟨some 13, none, .p (.mv (.t 0))⟩,
  ⟨some 14, none, .p (.mv (.t 7))⟩,
  ⟨some 15, none, .p (.slcs (.t 13) none (some (.t 14)))⟩,
  ⟨some 16, none, .p (.mv (.t 0))⟩,
  ⟨some 17, none, .p (.mv (.t 7))⟩,
  ⟨some 18, none, .p (.mv (.t 1))⟩,
  ⟨some 19, none, .p (.lens (.t 18))⟩,
  ⟨some 20, none, .p (.bin .add (.t 17) (.t 19))⟩,
  ⟨some 21, none, .p (.slcs (.t 16) (some (.t 20)) none)⟩,
  ⟨some 4, none, .p (.mv (.t 15))⟩,
  ⟨some 5, none, .p (.mv (.t 21))⟩,
  ⟨some 6, none, .p (.mv (.c (.bool true)))⟩]
def internal_stringslite_Cut_r4 : List AIns := [⟨some 22, none, .p (.mv (.t 0))⟩,
  ⟨some 4, none, .p (.mv (.t 22))⟩,
  ⟨some 5, none, .p (.mv (.c (.str ⟨#[]⟩)))⟩,
  ⟨some 6, none, .p (.mv (.c (.bool false)))⟩]
def internal_stringslite_Cut_c : ACode := .seq (.region internal_stringslite_Cut_r0 false) (.seq (.seq (.region internal_stringslite_Cut_r1 false) (.seq (.region internal_stringslite_Cut_r2 false) (.cond (.t 12) (.seq (.region internal_stringslite_Cut_r3 true) (.ret)) (.skip)))) (.seq (.region internal_stringslite_Cut_r4 false) (.ret)))
theorem internal_stringslite_Cut_ok : fchk Pr (fun _ _ => false) Tryd.f11 = some (internal_stringslite_Cut_c, [.tmp 4, .tmp 5, .tmp 6], 23) := by kernel_rfl
theorem internal_stringslite_Cut_fn : Pr.funcs[F_internal_stringslite_Cut]? = some Tryd.f11 := Tryd.func11
/-! internal/stringslite.CutPrefix -/
def internal_stringslite_CutPrefix_r0 : List AIns := [⟨some 4, none, .p (.mv (.c (.str ⟨#[]⟩)))⟩,
  ⟨some 5, none, .p (.mv (.c (.bool false)))⟩]
def internal_stringslite_CutPrefix_r1 : List AIns := [⟨some 6, none, .p (.mv (.t 0))⟩,
  ⟨some 7, none, .p (.mv (.t 1))⟩,
  ⟨some 8, none, .call F_internal_stringslite_HasPrefix [(.t 6), (.t 7)]⟩,
  ⟨some 9, none, .p (.un .not (.t 8))⟩]
def internal_stringslite_CutPrefix_r2 : List AIns := [⟨some 10, none, .p (.mv (.t 0))⟩,
  ⟨some 4, none, .p (.mv (.t 10))⟩,
  ⟨some 5, none, .p (.mv (.c (.bool false)))⟩]
def internal_stringslite_CutPrefix_r3 : List AIns := [⟨some 11, none, .p (.mv (.t 0))⟩,
  ⟨some 12, none, .p (.mv (.t 1))⟩,
  ⟨some 13, none, .p (.lens (.t 12))⟩,
  ⟨some 14, none, .p (.slcs (.t 11) (some (.t 13)) none)⟩,
  ⟨some 4, none, .p (.mv (.t 14))⟩,
  ⟨some 5, none, .p (.mv (.c (.bool true)))⟩]
def internal_stringslite_CutPrefix_c : ACode := .seq (.region internal_stringslite_CutPrefix_r0 false) (.seq (.seq (.region internal_stringslite_CutPrefix_r1 false) (.cond (.t 9) (.seq (.region internal_stringslite_CutPrefix_r2 false) (.ret)) (.skip))) (.seq (.region internal_stringslite_CutPrefix_r3 false) (.ret)))
theorem internal_stringslite_CutPrefix_ok : fchk Pr (fun _ _ => false) Tryd.f12 = some (internal_stringslite_CutPrefix_c, [.tmp 4, .tmp 5], 15) := by kernel_rfl
theorem internal_stringslite_CutPrefix_fn : Pr.funcs[F_internal_stringslite_CutPrefix]? = some Tryd.f12 := Tryd.func12
/-! book.named -/
def book_named_r0 : List AIns := [⟨some 2, none, .p (.mv (.c (.bool false)))⟩]
def book_named_r1 : List AIns := [⟨some 5, none, .p (.mv (.t 0))⟩,
  ⟨some 6, none, .p (.lens (.t 5))⟩,
  ⟨some 7, none, .p (.bin .lss (.t 6) (.c (.int .i64 1)))⟩,
  ⟨some 8, none, .p (.mv (.t 7))⟩,
  ⟨some 9, some (8, false), .p (.mv (.t 0))⟩,
  ⟨some 10, some (8, false), .p (.lens (.t 9))⟩,
  ⟨some 11, some (8, false), .p (.bin .gtr (.t 10) (.c (.int .i64 32)))⟩,
  ⟨some 12, none, .p (.pick (.t 8) (.c (.bool true)) (.t 11))⟩,
  ⟨some 13, none, .p (.mv (.t 12))⟩,
  ⟨some 14, some (13, false), .p (.mv (.t 0))⟩,
  ⟨some 15, some (13, false), .p (.idxs (.t 14) (.c (.int .i64 0)))⟩,
  ⟨some 16, some (13, false), .p (.bin .lss (.t 15) (.c (.int .u8 97)))⟩,
  ⟨some 17, none, .p (.pick (.t 13) (.c (.bool true)) (.t 16))⟩,
  ⟨some 18, none, .p (.mv (.t 17))⟩,
  ⟨some 19, some (18, false), .p (.mv (.t 0))⟩,
  ⟨some 20, some (18, false), .p (.idxs (.t 19) (.c (.int .i64 0)))⟩,
  ⟨some 21, some (18, false), .p (.bin .gtr (.t 20) (.c (.int .u8 122)))⟩,
  ⟨some 22, none, .p (.pick (.t 18) (.c (.bool true)) (.t 21))⟩]
def book_named_r2 : List AIns := [⟨some 2, none, .p (.mv (.c (.bool false)))⟩]
def book_named_r3 : List AIns := [⟨some 23, none, .p (.mv (.t 0))⟩,
  ⟨some 24, none, .p (.lens (.t 23))⟩,
  ⟨some 25, none, .p (.mv (.c (.int .i64 0)))⟩]
def book_named_r4 : List AIns := [⟨some 26, none, .p (.bin .lss (.t 25) (.t 24))⟩]
def book_named_r5 : List AIns := [⟨some 27, none, .p (.mv (.t 25))⟩,
  ⟨some 3, none, .p (.mv (.t 27))⟩]
def book_named_r6 : List AIns := [⟨some 28, none, .p (.mv (.t 0))⟩,
  ⟨some 29, none, .p (.mv (.t 3))⟩,
  ⟨some 30, none, .p (.idxs (.t 28) (.t 29))⟩,
  ⟨some 4, none, .p (.mv (.t 30))⟩]
def book_named_r7 : List AIns := [⟨some 31, none, .p (.mv (.t 4))⟩,
  ⟨some 32, none, .p (.bin .leq (.c (.int .u8 97)) (.t 31))⟩,
  ⟨some 33, none, .p (.mv (.t 32))⟩,
  ⟨some 34, some (33, true), .p (.mv (.t 4))⟩,
  ⟨some 35, some (33, true), .p (.bin .leq (.t 34) (.c (.int .u8 122)))⟩,
  ⟨some 36, none, .p (.pick (.t 33) (.t 35) (.c (.bool false)))⟩,
  ⟨some 37, none, .p (.mv (.t 36))⟩,
  ⟨some 38, some (37, false), .p (.mv (.t 4))⟩,
  ⟨some 39, some (37, false), .p (.bin .leq (.c (.int .u8 48)) (.t 38))⟩,
  ⟨some 40, some (37, false), .p (.mv (.t 39))⟩,
  ⟨some 41, some (40, true), .p (.mv (.t 4))⟩,
  ⟨some 42, some (40, true), .p (.bin .leq (.t 41) (.c (.int .u8 57)))⟩,
  ⟨some 43, some (37, false), .p (.pick (.t 40) (.t 42) (.c (.bool false)))⟩,
  ⟨some 44, none, .p (.pick (.t 37) (.c (.bool true)) (.t 43))⟩,
  ⟨some 45, none, .p (.mv (.t 44))⟩,
  ⟨some 46, some (45, false), .p (.mv (.t 4))⟩,
  ⟨some 47, some (45, false), .p (.bin .eql (.t 46) (.c (.int .u8 95)))⟩,
  ⟨some 48, none, .p (.pick (.t 45) (.c (.bool true)) (.t 47))⟩,
  ⟨some 49, none, .p (.mv (.t 48))⟩,
  ⟨some 50, some (49, false), .p (.mv (.t 4))⟩,
  ⟨some 51, some (49, false), .p (.bin .eql (.t 50) (.c (.int .u8 45)))⟩,
  ⟨some 52, none, .p (.pick (.t 49) (.c (.bool true)) (.t 51))⟩,
  ⟨some 53, none, .p (.un .not (.t 52))⟩]
def book_named_r8 : List AIns := [⟨some 2, none, .p (.mv (.c (.bool false)))⟩]
def book_named_r9 : List AIns := [⟨some 54, none, .p (.bin .add (.t 25) (.c (.int .i64 1)))⟩,
  ⟨some 25, none, .p (.mv (.t 54))⟩]
def book_named_l0 : ACode := .seq (.region book_named_r4 false) (.seq (.cond (.t 26) (.skip) (.exit 0)) (.seq (.block 1 (.seq (.region book_named_r5 false) (.seq (.region book_named_r6 false) (.seq (.region book_named_r7 false) (.cond (.t 53) (.seq (.region book_named_r8 false) (.ret)) (.skip)))))) (.region book_named_r9 false)))
def book_named_r10 : List AIns := [⟨some 2, none, .p (.mv (.c (.bool true)))⟩]
def book_named_c : ACode := .seq (.region book_named_r0 false) (.seq (.seq (.region book_named_r1 false) (.cond (.t 22) (.seq (.region book_named_r2 false) (.ret)) (.skip))) (.seq (.seq (.region book_named_r3 false) (.block 0 (.loop book_named_l0))) (.seq (.region book_named_r10 false) (.ret))))
theorem book_named_ok : fchk Pr (fun _ _ => false) Tryd.f13 = some (book_named_c, [.tmp 2], 55) := by kernel_rfl
theorem book_named_fn : Pr.funcs[F_book_named]? = some Tryd.f13 := Tryd.func13
/-! (*book.Book).put -/
def book_Book_put_r0 : List AIns := [⟨some 6, none, .p (.mv (.c (.int .i64 0)))⟩]
def book_Book_put_r1 : List AIns := [⟨some 8, none, .p (.mv (.t 2))⟩,
  ⟨some 9, none, .call F_gso_Valid [(.t 8)]⟩,
  ⟨some 7, none, .p (.mv (.t 9))⟩]
def book_Book_put_r2 : List AIns := [⟨some 10, none, .p (.mv (.t 7))⟩,
  ⟨some 11, none, .p (.bin .neq (.t 10) (.c (.int .i64 0)))⟩]
def book_Book_put_r3 : List AIns := [⟨some 12, none, .p (.mv (.t 7))⟩,
  ⟨some 6, none, .p (.mv (.t 12))⟩]
def book_Book_put_r4 : List AIns := [⟨some 6, none, .p (.mv (.c (.int .i64 0)))⟩]
def book_Book_put_c : ACode := .seq (.region book_Book_put_r0 false) (.seq (.seq (.region book_Book_put_r1 false) (.seq (.region book_Book_put_r2 false) (.cond (.t 11) (.seq (.region book_Book_put_r3 false) (.ret)) (.skip)))) (.seq (.bad) (.seq (.region book_Book_put_r4 false) (.ret))))
theorem book_Book_put_ok : fchk Pr (fun _ _ => false) Tryd.f14 = some (book_Book_put_c, [.tmp 6], 20) := by kernel_rfl
theorem book_Book_put_fn : Pr.funcs[F_book_Book_put]? = some Tryd.f14 := Tryd.func14
/-! strings.Split -/
def strings_Split_r0 : List AIns := [⟨some 4, none, .p (.mv (.c (.nil)))⟩]
def strings_Split_r1 : List AIns := [⟨some 5, none, .p (.mv (.t 0))⟩,
  ⟨some 6, none, .p (.mv (.t 1))⟩,
  ⟨some 7, none, .call F_strings_genSplit [(.t 5), (.t 6), (.c (.int .i64 0)), (.c (.int .i64 (-1)))]⟩,
  ⟨some 4, none, .p (.mv (.t 7))⟩]
def strings_Split_c : ACode := .seq (.region strings_Split_r0 false) (.seq (.region strings_Split_r1 false) (.ret))
theorem strings_Split_ok : fchk Pr (fun _ _ => false) Tryd.f15 = some (strings_Split_c, [.tmp 4], 8) := by kernel_rfl
theorem strings_Split_fn : Pr.funcs[F_strings_Split]? = some Tryd.f15 := Tryd.func15
/-! zint.Read -/
def zint_Read_r0 : List AIns := [⟨some 2, none, .e (.box 2 (.c (.agg [.bool false, .nil])))⟩,
  ⟨some 3, none, .p (.mv (.c (.int .i64 0)))⟩,
  ⟨some 4, none, .p (.mv (.c (.int .i64 0)))⟩]
def zint_Read_r1 : List AIns := [⟨some 11, none, .p (.mv (.t 0))⟩,
  ⟨some 12, none, .p (.lens (.t 11))⟩,
  ⟨some 13, none, .p (.bin .gtr (.t 12) (.c (.int .i64 65536)))⟩]
def zint_Read_r2 : List AIns := [⟨some 14, none, .p (.bld [.bool false, .nil] [])⟩,
  ⟨none, none, .e (.store 2 (.t 2) (.t 14))⟩,
  ⟨some 3, none, .p (.mv (.c (.int .i64 0)))⟩,
  ⟨some 4, none, .p (.mv (.c (.int .i64 2)))⟩]
def zint_Read_r3 : List AIns := [⟨some 5, none, .p (.mv (.c (.int .i64 0)))⟩]
def zint_Read_r4 : List AIns := [⟨some 15, none, .p (.mv (.t 0))⟩,
  ⟨some 16, none, .p (.lens (.t 15))⟩,
  ⟨some 17, none, .p (.bin .gtr (.t 16) (.c (.int .i64 0)))⟩,
  ⟨some 18, none, .p (.mv (.t 17))⟩,
  ⟨some 19, some (18, true), .p (.mv (.t 0))⟩,
  ⟨some 20, some (18, true), .p (.idxs (.t 19) (.c (.int .i64 0)))⟩,
  ⟨some 21, some (18, true), .p (.bin .eql (.t 20) (.c (.int .u8 45)))⟩,
  ⟨some 22, none, .p (.pick (.t 18) (.t 21) (.c (.bool false)))⟩]
def zint_Read_r5 : List AIns := [⟨some 5, none, .p (.mv (.c (.int .i64 1)))⟩]
def zint_Read_r6 : List AIns := [⟨some 23, none, .p (.mv (.t 5))⟩,
  ⟨some 24, none, .p (.bin .eql (.t 23) (.c (.int .i64 1)))⟩,
  ⟨some 25, none, .p (.mv (.t 24))⟩,
  ⟨some 26, some (25, true), .p (.mv (.t 0))⟩,
  ⟨some 27, some (25, true), .p (.lens (.t 26))⟩,
  ⟨some 28, some (25, true), .p (.bin .gtr (.t 27) (.c (.int .i64 1)))⟩,
  ⟨some 29, none, .p (.pick (.t 25) (.t 28) (.c (.bool false)))⟩,
  ⟨some 30, none, .p (.mv (.t 29))⟩,
  ⟨some 31, some (30, true), .p (.mv (.t 0))⟩,
  ⟨some 32, some (30, true), .p (.idxs (.t 31) (.c (.int .i64 1)))⟩,
  ⟨some 33, some (30, true), .p (.bin .eql (.t 32) (.c (.int .u8 48)))⟩,
  ⟨some 34, none, .p (.pick (.t 30) (.t 33) (.c (.bool false)))⟩]
def zint_Read_r7 : List AIns := [⟨some 35, none, .p (.bld [.bool false, .nil] [])⟩,
  ⟨none, none, .e (.store 2 (.t 2) (.t 35))⟩,
  ⟨some 3, none, .p (.mv (.c (.int .i64 1)))⟩,
  ⟨some 4, none, .p (.mv (.c (.int .i64 4)))⟩]
def zint_Read_r8 : List AIns := [⟨some 36, none, .p (.mv (.t 5))⟩,
  ⟨some 6, none, .p (.mv (.t 36))⟩]
def zint_Read_r9 : List AIns := [⟨some 37, none, .p (.mv (.t 6))⟩,
  ⟨some 38, none, .p (.mv (.t 0))⟩,
  ⟨some 39, none, .p (.lens (.t 38))⟩,
  ⟨some 40, none, .p (.bin .lss (.t 37) (.t 39))⟩]
def zint_Read_r10 : List AIns := [⟨some 43, none, .p (.mv (.t 0))⟩,
  ⟨some 44, none, .p (.mv (.t 6))⟩,
  ⟨some 45, none, .p (.idxs (.t 43) (.t 44))⟩,
  ⟨some 46, none, .p (.bin .lss (.t 45) (.c (.int .u8 48)))⟩,
  ⟨some 47, none, .p (.mv (.t 46))⟩,
  ⟨some 48, some (47, false), .p (.mv (.t 0))⟩,
  ⟨some 49, some (47, false), .p (.mv (.t 6))⟩,
  ⟨some 50, some (47, false), .p (.idxs (.t 48) (.t 49))⟩,
  ⟨some 51, some (47, false), .p (.bin .gtr (.t 50) (.c (.int .u8 57)))⟩,
  ⟨some 52, none, .p (.pick (.t 47) (.c (.bool true)) (.t 51))⟩,
  ⟨some 53, none, .p (.mv (.t 52))⟩,
  ⟨some 54, some (53, false), .p (.mv (.t 6))⟩,
  ⟨some 55, some (53, false), .p (.mv (.t 5))⟩,
  ⟨some 56, some (53, false), .p (.bin .add (.t 55) (.c (.int .i64 1)))⟩,
  ⟨some 57, some (53, false), .p (.bin .eql (.t 54) (.t 56))⟩,
  ⟨some 58, some (53, false), .p (.mv (.t 57))⟩,
  ⟨some 59, some (58, true), .p (.mv (.t 0))⟩,
  ⟨some 60, some (58, true), .p (.mv (.t 5))⟩,
  ⟨some 61, some (58, true), .p (.idxs (.t 59) (.t 60))⟩,
  ⟨some 62, some (58, true), .p (.bin .eql (.t 61) (.c (.int .u8 48)))⟩,
  ⟨some 63, some (53, false), .p (.pick (.t 58) (.t 62) (.c (.bool false)))⟩,
  ⟨some 64, none, .p (.pick (.t 53) (.c (.bool true)) (.t 63))⟩]
def zint_Read_r11 : List AIns := [⟨some 65, none, .p (.bld [.bool false, .nil] [])⟩,
  ⟨some 66, none, .p (.mv (.t 6))⟩,
  ⟨none, none, .e (.store 2 (.t 2) (.t 65))⟩,
  ⟨some 3, none, .p (.mv (.t 66))⟩,
  ⟨some 4, none, .p (.mv (.c (.int .i64 4)))⟩]
def zint_Read_r12 : List AIns := [⟨some 41, none, .p (.mv (.t 6))⟩,
  ⟨some 42, none, .p (.bin .add (.t 41) (.c (.int .i64 1)))⟩,
  ⟨some 6, none, .p (.mv (.t 42))⟩]
def zint_Read_l0 : ACode := .seq (.seq (.region zint_Read_r9 false) (.cond (.t 40) (.skip) (.exit 0))) (.seq (.block 1 (.seq (.region zint_Read_r10 false) (.cond (.t 64) (.seq (.region zint_Read_r11 false) (.ret)) (.skip)))) (.region zint_Read_r12 false))
def zint_Read_r13 : List AIns := [⟨some 67, none, .p (.mv (.t 5))⟩,
  ⟨some 68, none, .p (.mv (.t 0))⟩,
  ⟨some 69, none, .p (.lens (.t 68))⟩,
  ⟨some 70, none, .p (.bin .eql (.t 67) (.t 69))⟩]
def zint_Read_r14 : List AIns := [⟨some 71, none, .p (.bld [.bool false, .nil] [])⟩,
  ⟨some 72, none, .p (.mv (.t 5))⟩,
  ⟨none, none, .e (.store 2 (.t 2) (.t 71))⟩,
  ⟨some 3, none, .p (.mv (.t 72))⟩,
  ⟨some 4, none, .p (.mv (.c (.int .i64 4)))⟩]
def zint_Read_r15 : List AIns := [⟨some 7, none, .p (.mv (.c (.nil)))⟩]
def zint_Read_r16 : List AIns := [⟨some 73, none, .p (.mv (.t 5))⟩,
  ⟨some 8, none, .p (.mv (.t 73))⟩]
def zint_Read_r17 : List AIns := [⟨some 74, none, .p (.mv (.t 8))⟩,
  ⟨some 75, none, .p (.mv (.t 0))⟩,
  ⟨some 76, none, .p (.lens (.t 75))⟩,
  ⟨some 77, none, .p (.bin .lss (.t 74) (.t 76))⟩]
def zint_Read_r18 : List AIns := [⟨some 78, none, .p (.mv (.t 0))⟩,
  ⟨some 79, none, .p (.lens (.t 78))⟩,
  ⟨some 80, none, .p (.mv (.t 8))⟩,
  ⟨some 81, none, .p (.bin .sub (.t 79) (.t 80))⟩,
  ⟨some 82, none, .p (.mnx false (.c (.int .i64 9)) (.t 81))⟩,
  ⟨some 9, none, .p (.mv (.t 82))⟩]
def zint_Read_r19 : List AIns := [⟨some 10, none, .p (.mv (.c (.int .u32 0)))⟩]
def zint_Read_r20 : List AIns := [⟨some 83, none, .p (.mv (.t 9))⟩,
  ⟨some 84, none, .p (.mv (.c (.int .i64 0)))⟩]
def zint_Read_r21 : List AIns := [⟨some 85, none, .p (.bin .lss (.t 84) (.t 83))⟩]
def zint_Read_r22 : List AIns := [⟨some 86, none, .p (.mv (.t 10))⟩,
  ⟨some 87, none, .p (.bin .mul (.c (.int .u32 10)) (.t 86))⟩,
  ⟨some 88, none, .p (.mv (.t 0))⟩,
  ⟨some 89, none, .p (.mv (.t 8))⟩,
  ⟨some 90, none, .p (.idxs (.t 88) (.t 89))⟩,
  ⟨some 91, none, .p (.bin .sub (.t 90) (.c (.int .u8 48)))⟩,
  ⟨some 92, none, .p (.conv .u32 (.t 91))⟩,
  ⟨some 93, none, .p (.bin .add (.t 87) (.t 92))⟩,
  ⟨some 10, none, .p (.mv (.t 93))⟩]
def zint_Read_r23 : List AIns := [⟨some 94, none, .p (.mv (.t 8))⟩,
  ⟨some 95, none, .p (.bin .add (.t 94) (.c (.int .i64 1)))⟩,
  ⟨some 8, none, .p (.mv (.t 95))⟩]
def zint_Read_r24 : List AIns := [⟨some 96, none, .p (.bin .add (.t 84) (.c (.int .i64 1)))⟩,
  ⟨some 84, none, .p (.mv (.t 96))⟩]
def zint_Read_l2 : ACode := .seq (.region zint_Read_r21 false) (.seq (.cond (.t 85) (.skip) (.exit 4)) (.seq (.block 5 (.seq (.region zint_Read_r22 false) (.region zint_Read_r23 false))) (.region zint_Read_r24 false)))
def zint_Read_r25 : List AIns := [⟨some 97, none, .p (.mv (.t 7))⟩,
  ⟨some 98, none, .p (.mv (.t 9))⟩,
  ⟨some 99, none, .call F_zint_nines [(.t 98)]⟩,
  ⟨some 100, none, .e (.bsl 1 [(.t 99)])⟩,
  ⟨some 101, none, .call F_nat_Mul [(.t 97), (.t 100)]⟩,
  ⟨some 102, none, .p (.mv (.t 10))⟩,
  ⟨some 103, none, .e (.bsl 1 [(.t 102)])⟩,
  ⟨some 104, none, .call F_nat_Add [(.t 101), (.t 103)]⟩,
  ⟨some 7, none, .p (.mv (.t 104))⟩]
def zint_Read_l1 : ACode := .seq (.seq (.region zint_Read_r17 false) (.cond (.t 77) (.skip) (.exit 2))) (.block 3 (.seq (.region zint_Read_r18 false) (.seq (.region zint_Read_r19 false) (.seq (.seq (.region zint_Read_r20 false) (.block 4 (.loop zint_Read_l2))) (.region zint_Read_r25 false)))))
def zint_Read_r26 : List AIns := [⟨some 105, none, .p (.mv (.t 5))⟩,
  ⟨some 106, none, .p (.bin .eql (.t 105) (.c (.int .i64 1)))⟩,
  ⟨some 107, none, .p (.mv (.t 7))⟩,
  ⟨some 108, none, .call F_zint_made [(.t 106), (.t 107)]⟩,
  ⟨none, none, .e (.store 2 (.t 2) (.t 108))⟩,
  ⟨some 3, none, .p (.mv (.c (.int .i64 0)))⟩,
  ⟨some 4, none, .p (.mv (.c (.int .i64 0)))⟩]
def zint_Read_c : ACode := .seq (.region zint_Read_r0 false) (.seq (.seq (.region zint_Read_r1 false) (.cond (.t 13) (.seq (.region zint_Read_r2 false) (.ret)) (.skip))) (.seq (.region zint_Read_r3 false) (.seq (.seq (.region zint_Read_r4 false) (.cond (.t 22) (.region zint_Read_r5 false) (.skip))) (.seq (.seq (.region zint_Read_r6 false) (.cond (.t 34) (.seq (.region zint_Read_r7 false) (.ret)) (.skip))) (.seq (.seq (.region zint_Read_r8 false) (.block 0 (.loop zint_Read_l0))) (.seq (.seq (.region zint_Read_r13 false) (.cond (.t 70) (.seq (.region zint_Read_r14 false) (.ret)) (.skip))) (.seq (.region zint_Read_r15 false) (.seq (.seq (.region zint_Read_r16 false) (.block 2 (.loop zint_Read_l1))) (.seq (.region zint_Read_r26 false) (.ret))))))))))
theorem zint_Read_ok : fchk Pr (fun _ _ => false) Tryd.f16 = some (zint_Read_c, [.cell 2 (some 2), .tmp 3, .tmp 4], 109) := by kernel_rfl
theorem zint_Read_fn : Pr.funcs[F_zint_Read]? = some Tryd.f16 := Tryd.func16
/-! internal/stringslite.Index -/
def internal_stringslite_Index_r0 : List AIns := [⟨some 4, none, .p (.mv (.c (.int .i64 0)))⟩]
def internal_stringslite_Index_r1 : List AIns := [⟨some 14, none, .p (.mv (.t 1))⟩,
  ⟨some 15, none, .p (.lens (.t 14))⟩,
  ⟨some 5, none, .p (.mv (.t 15))⟩]
def internal_stringslite_Index_r2 : List AIns := [⟨some 17, none, .p (.mv (.t 5))⟩,
  ⟨some 18, none, .p (.bin .eql (.t 17) (.c (.int .i64 0)))⟩,
  ⟨some 19, none, .p (.mv (.t 18))⟩,
  ⟨some 20, some (19, false), .p (.mv (.t 1))⟩,
  ⟨some 21, some (19, false), .p (.mv (.t 0))⟩,
  ⟨some 22, some (19, false), .p (.bin .eql (.t 20) (.t 21))⟩,
  ⟨some 23, none, .p (.pick (.t 19) (.c (.bool true)) (.t 22))⟩,
  ⟨some 16, none, .p (.mv (.t 23))⟩]
def internal_stringslite_Index_r3 : List AIns := [⟨some 4, none, .p (.mv (.c (.int .i64 0)))⟩]
def internal_stringslite_Index_r4 : List AIns := [⟨some 25, none, .p (.mv (.t 5))⟩,
  ⟨some 26, none, .p (.bin .eql (.t 25) (.c (.int .i64 1)))⟩,
  ⟨some 24, none, .p (.mv (.t 26))⟩]
def internal_stringslite_Index_r5 : List AIns := [⟨some 27, none, .p (.mv (.t 0))⟩,
  ⟨some 28, none, .p (.mv (.t 1))⟩,
  ⟨some 29, none, .p (.idxs (.t 28) (.c (.int .i64 0)))⟩,
  ⟨some 30, none, .call F_internal_stringslite_IndexByte [(.t 27), (.t 29)]⟩,
  ⟨some 4, none, .p (.mv (.t 30))⟩]
def internal_stringslite_Index_r6 : List AIns := [⟨some 32, none, .p (.mv (.t 5))⟩,
  ⟨some 33, none, .p (.mv (.t 0))⟩,
  ⟨some 34, none, .p (.lens (.t 33))⟩,
  ⟨some 35, none, .p (.bin .geq (.t 32) (.t 34))⟩,
  ⟨some 31, none, .p (.mv (.t 35))⟩]
def internal_stringslite_Index_r7 : List AIns := [⟨some 4, none, .p (.mv (.c (.int .i64 (-1))))⟩]
def internal_stringslite_Index_r8 : List AIns := [⟨some 45, none, .p (.mv (.t 0))⟩,
  ⟨some 46, none, .p (.mv (.t 1))⟩,
  ⟨some 47, none, .call F_internal_bytealg_IndexString [(.t 45), (.t 46)]⟩,
  ⟨some 4, none, .p (.mv (.t 47))⟩]
def internal_stringslite_Index_r9 : List AIns := [⟨some 48, none, .p (.mv (.t 1))⟩,
  ⟨some 49, none, .p (.idxs (.t 48) (.c (.int .i64 0)))⟩,
  ⟨some 6, none, .p (.mv (.t 49))⟩]
def internal_stringslite_Index_r10 : List AIns := [⟨some 50, none, .p (.mv (.t 1))⟩,
  ⟨some 51, none, .p (.idxs (.t 50) (.c (.int .i64 1)))⟩,
  ⟨some 7, none, .p (.mv (.t 51))⟩]
def internal_stringslite_Index_r11 : List AIns := [⟨some 8, none, .p (.mv (.c (.int .i64 0)))⟩]
def internal_stringslite_Index_r12 : List AIns := [⟨some 52, none, .p (.mv (.t 0))⟩,
  ⟨some 53, none, .p (.lens (.t 52))⟩,
  ⟨some 54, none, .p (.mv (.t 5))⟩,
  ⟨some 55, none, .p (.bin .sub (.t 53) (.t 54))⟩,
  ⟨some 56, none, .p (.bin .add (.t 55) (.c (.int .i64 1)))⟩,
  ⟨some 9, none, .p (.mv (.t 56))⟩]
def internal_stringslite_Index_r13 : List AIns := [⟨some 10, none, .p (.mv (.c (.int .i64 0)))⟩]
def internal_stringslite_Index_r14 : List AIns := [⟨some 57, none, .p (.mv (.t 8))⟩,
  ⟨some 58, none, .p (.mv (.t 9))⟩,
  ⟨some 59, none, .p (.bin .lss (.t 57) (.t 58))⟩]
def internal_stringslite_Index_r15 : List AIns := [⟨some 60, none, .p (.mv (.t 0))⟩,
  ⟨some 61, none, .p (.mv (.t 8))⟩,
  ⟨some 62, none, .p (.idxs (.t 60) (.t 61))⟩,
  ⟨some 63, none, .p (.mv (.t 6))⟩,
  ⟨some 64, none, .p (.bin .neq (.t 62) (.t 63))⟩]
def internal_stringslite_Index_r16 : List AIns := [⟨some 65, none, .p (.mv (.t 0))⟩,
  ⟨some 66, none, .p (.mv (.t 8))⟩,
  ⟨some 67, none, .p (.bin .add (.t 66) (.c (.int .i64 1)))⟩,
  ⟨some 68, none, .p (.mv (.t 9))⟩,
  ⟨some 69, none, .p (.slcs (.t 65) (some (.t 67)) (some (.t 68)))⟩,
  ⟨some 70, none, .p (.mv (.t 6))⟩,
  ⟨some 71, none, .call F_internal_stringslite_IndexByte [(.t 69), (.t 70)]⟩,
  ⟨some 11, none, .p (.mv (.t 71))⟩]
def internal_stringslite_Index_r17 : List AIns := [⟨some 72, none, .p (.mv (.t 11))⟩,
  ⟨some 73, none, .p (.bin .lss (.t 72) (.c (.int .i64 0)))⟩]
def internal_stringslite_Index_r18 : List AIns := [⟨some 4, none, .p (.mv (.c (.int .i64 (-1))))⟩]
def internal_stringslite_Index_r19 : List AIns := [⟨some 74, none, .p (.mv (.t 8))⟩,
  ⟨some 75, none, .p (.mv (.t 11))⟩,
  ⟨some 76, none, .p (.bin .add (.t 75) (.c (.int .i64 1)))⟩,
  ⟨some 77, none, .p (.bin .add (.t 74) (.t 76))⟩,
  ⟨some 8, none, .p (.mv (.t 77))⟩]
def internal_stringslite_Index_r20 : List AIns := [⟨some 78, none, .p (.mv (.t 0))⟩,
  ⟨some 79, none, .p (.mv (.t 8))⟩,
  ⟨some 80, none, .p (.bin .add (.t 79) (.c (.int .i64 1)))⟩,
  ⟨some 81, none, .p (.idxs (.t 78) (.t 80))⟩,
  ⟨some 82, none, .p (.mv (.t 7))⟩,
  ⟨some 83, none, .p (.bin .eql (.t 81) (.t 82))⟩,
  ⟨some 84, none, .p (.mv (.t 83))⟩,
  ⟨some 85, some (84, true), .p (.mv (.t 0))⟩,
  ⟨some 86, some (84, true), .p (.mv (.t 8))⟩,
  ⟨some 87, some (84, true), .p (.mv (.t 8))⟩,
  ⟨some 88, some (84, true), .p (.mv (.t 5))⟩,
  ⟨some 89, some (84, true), .p (.bin .add (.t 87) (.t 88))⟩,
  ⟨some 90, some (84, true), .p (.slcs (.t 85) (some (.t 86)) (some (.t 89)))⟩,
  ⟨some 91, some (84, true), .p (.mv (.t 1))⟩,
  ⟨some 92, some (84, true), .p (.bin .eql (.t 90) (.t 91))⟩,
  ⟨some 93, none, .p (.pick (.t 84) (.t 92) (.c (.bool false)))⟩]
def internal_stringslite_Index_r21 : List AIns := [⟨some 94, none, .p (.mv (.t 8))⟩,
  ⟨some 4, none, .p (.mv (.t 94))⟩]
def internal_stringslite_Index_r22 : List AIns := [⟨some 95, none, .p (.mv (.t 8))⟩,
  ⟨some 96, none, .p (.bin .add (.t 95) (.c (.int .i64 1)))⟩,
  ⟨some 8, none, .p (.mv (.t 96))⟩]
def internal_stringslite_Index_r23 : List AIns := [⟨some 97, none, .p (.mv (.t 10))⟩,
  ⟨some 98, none, .p (.bin .add (.t 97) (.c (.int .i64 1)))⟩,
  ⟨some 10, none, .p (.mv (.t 98))⟩]
def internal_stringslite_Index_r24 : List AIns := [⟨some 108, none, .p (.mv (.t 0))⟩,
  ⟨some 109, none, .p (.mv (.t 8))⟩,
  ⟨some 110, none, .p (.slcs (.t 108) (some (.t 109)) none)⟩,
  ⟨some 111, none, .p (.mv (.t 1))⟩,
  ⟨some 112, none, .call F_internal_bytealg_IndexString [(.t 110), (.t 111)]⟩,
  ⟨some 12, none, .p (.mv (.t 112))⟩]
def internal_stringslite_Index_r25 : List AIns := [⟨some 113, none, .p (.mv (.t 12))⟩,
  ⟨some 114, none, .p (.bin .geq (.t 113) (.c (.int .i64 0)))⟩]
def internal_stringslite_Index_r26 : List AIns := [⟨some 115, none, .p (.mv (.t 12))⟩,
  ⟨some 116, none, .p (.mv (.t 8))⟩,
  ⟨some 117, none, .p (.bin .add (.t 115) (.t 116))⟩,
  ⟨some 4, none, .p (.mv (.t 117))⟩]
def internal_stringslite_Index_r27 : List AIns := [⟨some 4, none, .p (.mv (.c (.int .i64 (-1))))⟩]
def internal_stringslite_Index_r28 : List AIns := [⟨some 133, none, .p (.mv (.t 0))⟩,
  ⟨some 134, none, .p (.mv (.t 8))⟩,
  ⟨some 135, none, .p (.slcs (.t 133) (some (.t 134)) none)⟩,
  ⟨some 136, none, .p (.mv (.t 1))⟩,
  ⟨some 137, none, .call F_internal_bytealg_IndexRabinKarp_string [(.t 135), (.t 136)]⟩,
  ⟨some 13, none, .p (.mv (.t 137))⟩]
def internal_stringslite_Index_r29 : List AIns := [⟨some 138, none, .p (.mv (.t 13))⟩,
  ⟨some 139, none, .p (.bin .lss (.t 138) (.c (.int .i64 0)))⟩]
def internal_stringslite_Index_r30 : List AIns := [⟨some 4, none, .p (.mv (.c (.int .i64 (-1))))⟩]
def internal_stringslite_Index_r31 : List AIns := [⟨some 140, none, .p (.mv (.t 8))⟩,
  ⟨some 141, none, .p (.mv (.t 13))⟩,
  ⟨some 142, none, .p (.bin .add (.t 140) (.t 141))⟩,
  ⟨some 4, none, .p (.mv (.t 142))⟩]
def internal_stringslite_Index_l0 : ACode := .seq (.seq (.region internal_stringslite_Index_r14 false) (.cond (.t 59) (.skip) (.exit 1))) (.block 2 (.seq (.seq (.region internal_stringslite_Index_r15 false) (.cond (.t 64) (.seq (.region internal_stringslite_Index_r16 false) (.seq (.seq (.region internal_stringslite_Index_r17 false) (.cond (.t 73) (.seq (.region internal_stringslite_Index_r18 false) (.ret)) (.skip))) (.region internal_stringslite_Index_r19 false))) (.skip))) (.seq (.seq (.region internal_stringslite_Index_r20 false) (.cond (.t 93) (.seq (.region internal_stringslite_Index_r21 false) (.ret)) (.skip))) (.seq (.region internal_stringslite_Index_r22 false) (.seq (.region internal_stringslite_Index_r23 false) (.seq (.bad) (.cond (.t 107) (.seq (.region internal_stringslite_Index_r24 false) (.seq (.seq (.region internal_stringslite_Index_r25 false) (.cond (.t 114) (.seq (.region internal_stringslite_Index_r26 false) (.ret)) (.skip))) (.seq (.region internal_stringslite_Index_r27 false) (.ret)))) (.seq (.bad) (.cond (.t 132) (.seq (.region internal_stringslite_Index_r28 false) (.seq (.seq (.region internal_stringslite_Index_r29 false) (.cond (.t 139) (.seq (.region internal_stringslite_Index_r30 false) (.ret)) (.skip))) (.seq (.region internal_stringslite_Index_r31 false) (.ret)))) (.skip))))))))))
def internal_stringslite_Index_r32 : List AIns := [⟨some 4, none, .p (.mv (.c (.int .i64 (-1))))⟩]
def internal_stringslite_Index_c : ACode := .seq (.region internal_stringslite_Index_r0 false) (.seq (.region internal_stringslite_Index_r1 false) (.seq (.block 0 (.seq (.region internal_stringslite_Index_r2 false) (.cond (.t 16) (.seq (.region internal_stringslite_Index_r3 false) (.ret)) (.seq (.region internal_stringslite_Index_r4 false) (.cond (.t 24) (.seq (.region internal_stringslite_Index_r5 false) (.ret)) (.seq (.region internal_stringslite_Index_r6 false) (.cond (.t 31) (.seq (.region internal_stringslite_Index_r7 false) (.ret)) (.seq (.bad) (.cond (.t 36) (.seq (.region internal_stringslite_Index_r8 false) (.ret)) (.skip)))))))))) (.seq (.region internal_stringslite_Index_r9 false) (.seq (.region internal_stringslite_Index_r10 false) (.seq (.region internal_stringslite_Index_r11 false) (.seq (.region internal_stringslite_Index_r12 false) (.seq (.region internal_stringslite_Index_r13 false) (.seq (.block 1 (.loop internal_stringslite_Index_l0)) (.seq (.region internal_stringslite_Index_r32 false) (.ret))))))))))
theorem internal_stringslite_Index_ok : fchk Pr (fun _ _ => false) Tryd.f17 = some (internal_stringslite_Index_c, [.tmp 4], 143) := by kernel_rfl
theorem internal_stringslite_Index_fn : Pr.funcs[F_internal_stringslite_Index]? = some Tryd.f17 := Tryd.func17
/-! internal/stringslite.HasPrefix -/
def internal_stringslite_HasPrefix_r0 : List AIns := [⟨some 4, none, .p (.mv (.c (.bool false)))⟩]
def internal_stringslite_HasPrefix_r1 : List AIns := [⟨some 5, none, .p (.mv (.t 0))⟩,
  ⟨some 6, none, .p (.lens (.t 5))⟩,
  ⟨some 7, none, .p (.mv (.t 1))⟩,
  ⟨some 8, none, .p (.lens (.t 7))⟩,
  ⟨some 9, none, .p (.bin .geq (.t 6) (.t 8))⟩,
  ⟨some 10, none, .p (.mv (.t 9))⟩,
  ⟨some 11, some (10, true), .p (.mv (.t 0))⟩,
  ⟨some 12, some (10, true), .p (.mv (.t 1))⟩,
  ⟨some 13, some (10, true), .p (.lens (.t 12))⟩,
  ⟨some 14, some (10, true), .p (.slcs (.t 11) none (some (.t 13)))⟩,
  ⟨some 15, some (10, true), .p (.mv (.t 1))⟩,
  ⟨some 16, some (10, true), .p (.bin .eql (.t 14) (.t 15))⟩,
  ⟨some 17, none, .p (.pick (.t 10) (.t 16) (.c (.bool false)))⟩,
  ⟨some 4, none, .p (.mv (.t 17))⟩]
def internal_stringslite_HasPrefix_c : ACode := .seq (.region internal_stringslite_HasPrefix_r0 false) (.seq (.region internal_stringslite_HasPrefix_r1 false) (.ret))
theorem internal_stringslite_HasPrefix_ok : fchk Pr (fun _ _ => false) Tryd.f18 = some (internal_stringslite_HasPrefix_c, [.tmp 4], 18) := by kernel_rfl
theorem internal_stringslite_HasPrefix_fn : Pr.funcs[F_internal_stringslite_HasPrefix]? = some Tryd.f18 := Tryd.func18
/-! gso.Valid -/
def gso_Valid_r0 : List AIns := [⟨some 2, none, .p (.mv (.c (.int .i64 0)))⟩]
def gso_Valid_r1 : List AIns := [⟨some 6, none, .p (.mv (.t 0))⟩,
  ⟨some 7, none, .call F_gso_of [(.t 6), (.c (.bool true))]⟩,
  ⟨some 5, none, .p (.mv (.t 7))⟩,
  ⟨some 8, none, .p (.ext (.t 5) 0)⟩,
  ⟨some 9, none, .p (.ext (.t 5) 1)⟩,
  ⟨some 3, none, .e (.box 2 (.c (.agg [.nil, .nil])))⟩,
  ⟨none, none, .e (.store 2 (.t 3) (.t 8))⟩,
  ⟨some 4, none, .p (.mv (.t 9))⟩]
def gso_Valid_r2 : List AIns := [⟨some 10, none, .p (.mv (.t 4))⟩,
  ⟨some 2, none, .p (.mv (.t 10))⟩]
def gso_Valid_c : ACode := .seq (.region gso_Valid_r0 false) (.seq (.region gso_Valid_r1 false) (.seq (.region gso_Valid_r2 false) (.ret)))
theorem gso_Valid_ok : fchk Pr (fun _ _ => false) Tryd.f19 = some (gso_Valid_c, [.tmp 2], 11) := by kernel_rfl
theorem gso_Valid_fn : Pr.funcs[F_gso_Valid]? = some Tryd.f19 := Tryd.func19
/-! mat.Form -/
def mat_Form_r0 : List AIns := [⟨some 2, none, .p (.mv (.c (.nil)))⟩]
def mat_Form_r1 : List AIns := [⟨some 3, none, .p (.mv (.t 0))⟩,
  ⟨some 4, none, .call F_mat_each_V_V [(.t 3), (.c (.fn F_mat_Form_1 []))]⟩,
  ⟨some 2, none, .p (.mv (.t 4))⟩]
def mat_Form_c : ACode := .seq (.region mat_Form_r0 false) (.seq (.region mat_Form_r1 false) (.ret))
theorem mat_Form_ok : fchk Pr (fun _ _ => false) Tryd.f20 = some (mat_Form_c, [.tmp 2], 5) := by kernel_rfl
theorem mat_Form_fn : Pr.funcs[F_mat_Form]? = some Tryd.f20 := Tryd.func20
/-! strings.genSplit -/
def strings_genSplit_r0 : List AIns := [⟨some 8, none, .p (.mv (.c (.nil)))⟩]
def strings_genSplit_r1 : List AIns := [⟨some 12, none, .p (.mv (.t 3))⟩,
  ⟨some 13, none, .p (.bin .eql (.t 12) (.c (.int .i64 0)))⟩]
def strings_genSplit_r2 : List AIns := [⟨some 8, none, .p (.mv (.c (.nil)))⟩]
def strings_genSplit_r3 : List AIns := [⟨some 14, none, .p (.mv (.t 1))⟩,
  ⟨some 15, none, .p (.bin .eql (.t 14) (.c (.str ⟨#[]⟩)))⟩]
def strings_genSplit_r4 : List AIns := [⟨some 16, none, .p (.mv (.t 0))⟩,
  ⟨some 17, none, .p (.mv (.t 3))⟩,
  ⟨some 18, none, .call F_strings_explode [(.t 16), (.t 17)]⟩,
  ⟨some 8, none, .p (.mv (.t 18))⟩]
def strings_genSplit_r5 : List AIns := [⟨some 19, none, .p (.mv (.t 3))⟩,
  ⟨some 20, none, .p (.bin .lss (.t 19) (.c (.int .i64 0)))⟩]
def strings_genSplit_r6 : List AIns := [⟨some 21, none, .p (.mv (.t 0))⟩,
  ⟨some 22, none, .p (.mv (.t 1))⟩,
  ⟨some 23, none, .call F_strings_Count [(.t 21), (.t 22)]⟩,
  ⟨some 24, none, .p (.bin .add (.t 23) (.c (.int .i64 1)))⟩,
  ⟨some 3, none, .p (.mv (.t 24))⟩]
def strings_genSplit_r7 : List AIns := [⟨some 25, none, .p (.mv (.t 3))⟩,
  ⟨some 26, none, .p (.mv (.t 0))⟩,
  ⟨some 27, none, .p (.lens (.t 26))⟩,
  ⟨some 28, none, .p (.bin .add (.t 27) (.c (.int .i64 1)))⟩,
  ⟨some 29, none, .p (.mnx false (.t 25) (.t 28))⟩,
  ⟨some 3, none, .p (.mv (.t 29))⟩]
def strings_genSplit_r8 : List AIns := [⟨some 30, none, .p (.mv (.t 3))⟩,
  ⟨some 31, none, .e (.mksl 1 16 (.str ⟨#[]⟩) (.t 30) (.t 30))⟩,
  ⟨some 9, none, .p (.mv (.t 31))⟩]
def strings_genSplit_r9 : List AIns := [⟨some 32, none, .p (.mv (.t 3))⟩,
  ⟨some 33, none, .p (.bin .sub (.t 32) (.c (.int .i64 1)))⟩,
  ⟨some 3, none, .p (.mv (.t 33))⟩]
def strings_genSplit_r10 : List AIns := [⟨some 10, none, .p (.mv (.c (.int .i64 0)))⟩]
def strings_genSplit_r11 : List AIns := [⟨some 34, none, .p (.mv (.t 10))⟩,
  ⟨some 35, none, .p (.mv (.t 3))⟩,
  ⟨some 36, none, .p (.bin .lss (.t 34) (.t 35))⟩]
def strings_genSplit_r12 : List AIns := [⟨some 37, none, .p (.mv (.t 0))⟩,
  ⟨some 38, none, .p (.mv (.t 1))⟩,
  ⟨some 39, none, .call F_strings_Index [(.t 37), (.t 38)]⟩,
  ⟨some 11, none, .p (.mv (.t 39))⟩]
def strings_genSplit_r13 : List AIns := [⟨some 40, none, .p (.mv (.t 11))⟩,
  ⟨some 41, none, .p (.bin .lss (.t 40) (.c (.int .i64 0)))⟩]
def strings_genSplit_r14 : List AIns := [⟨some 42, none, .p (.mv (.t 9))⟩,
  ⟨some 43, none, .p (.mv (.t 10))⟩,
  ⟨some 44, none, .p (.mv (.t 0))⟩,
  ⟨some 45, none, .p (.mv (.t 11))⟩,
  ⟨some 46, none, .p (.mv (.t 2))⟩,
  ⟨some 47, none, .p (.bin .add (.t 45) (.t 46))⟩,
  ⟨some 48, none, .p (.slcs (.t 44) none (some (.t 47)))⟩,
  ⟨some 49, none, .p (.idxp 1 (.t 42) (.t 43))⟩,
  ⟨none, none, .e (.store 1 (.t 49) (.t 48))⟩]
def strings_genSplit_r15 : List AIns := [⟨some 50, none, .p (.mv (.t 0))⟩,
  ⟨some 51, none, .p (.mv (.t 11))⟩,
  ⟨some 52, none, .p (.mv (.t 1))⟩,
  ⟨some 53, none, .p (.lens (.t 52))⟩,
  ⟨some 54, none, .p (.bin .add (.t 51) (.t 53))⟩,
  ⟨some 55, none, .p (.slcs (.t 50) (some (.t 54)) none)⟩,
  ⟨some 0, none, .p (.mv (.t 55))⟩]
def strings_genSplit_r16 : List AIns := [⟨some 56, none, .p (.mv (.t 10))⟩,
  ⟨some 57, none, .p (.bin .add (.t 56) (.c (.int .i64 1)))⟩,
  ⟨some 10, none, .p (.mv (.t 57))⟩]
def strings_genSplit_l0 : ACode := .seq (.seq (.region strings_genSplit_r11 false) (.cond (.t 36) (.skip) (.exit 0))) (.block 1 (.seq (.region strings_genSplit_r12 false) (.seq (.seq (.region strings_genSplit_r13 false) (.cond (.t 41) (.exit 0) (.skip))) (.seq (.region strings_genSplit_r14 false) (.seq (.region strings_genSplit_r15 false) (.region strings_genSplit_r16 false))))))
def strings_genSplit_r17 : List AIns := [⟨some 58, none, .p (.mv (.t 9))⟩,
  ⟨some 59, none, .p (.mv (.t 10))⟩,
  ⟨some 60, none, .p (.mv (.t 0))⟩,
  ⟨some 61, none, .p (.idxp 1 (.t 58) (.t 59))⟩,
  ⟨none, none, .e (.store 1 (.t 61) (.t 60))⟩]
def strings_genSplit_r18 : List AIns := [⟨some 62, none, .p (.mv (.t 9))⟩,
  ⟨some 63, none, .p (.mv (.t 10))⟩,
  ⟨some 64, none, .p (.bin .add (.t 63) (.c (.int .i64 1)))⟩,
  ⟨some 65, none, .p (.slc 1 (.t 62) none (some (.t 64)) none)⟩,
  ⟨some 8, none, .p (.mv (.t 65))⟩]
def strings_genSplit_c : ACode := .seq (.region strings_genSplit_r0 false) (.seq (.seq (.region strings_genSplit_r1 false) (.cond (.t 13) (.seq (.region strings_genSplit_r2 false) (.ret)) (.skip))) (.seq (.seq (.region strings_genSplit_r3 false) (.cond (.t 15) (.seq (.region strings_genSplit_r4 false) (.ret)) (.skip))) (.seq (.seq (.region strings_genSplit_r5 false) (.cond (.t 20) (.region strings_genSplit_r6 false) (.skip))) (.seq (.region strings_genSplit_r7 false) (.seq (.region strings_genSplit_r8 false) (.seq (.region strings_genSplit_r9 false) (.seq (.region strings_genSplit_r10 false) (.seq (.block 0 (.loop strings_genSplit_l0)) (.seq (.region strings_genSplit_r17 false) (.seq (.region strings_genSplit_r18 false) (.ret)))))))))))
theorem strings_genSplit_ok : fchk Pr (fun _ _ => false) Tryd.f21 = some (strings_genSplit_c, [.tmp 8], 66) := by kernel_rfl
theorem strings_genSplit_fn : Pr.funcs[F_strings_genSplit]? = some Tryd.f21 := Tryd.func21
/-! nat.Add -/
def nat_Add_r0 : List AIns := [⟨some 4, none, .p (.mv (.c (.nil)))⟩]
def nat_Add_r1 : List AIns := [⟨some 8, none, .p (.mv (.t 0))⟩,
  ⟨some 9, none, .p (.len (.t 8))⟩,
  ⟨some 10, none, .p (.mv (.t 1))⟩,
  ⟨some 11, none, .p (.len (.t 10))⟩,
  ⟨some 12, none, .p (.bin .lss (.t 9) (.t 11))⟩]
def nat_Add_r2 : List AIns := [⟨some 13, none, .p (.mv (.t 1))⟩,
  ⟨some 14, none, .p (.mv (.t 0))⟩,
  ⟨some 0, none, .p (.mv (.t 13))⟩,
  ⟨some 1, none, .p (.mv (.t 14))⟩]
def nat_Add_r3 : List AIns := [⟨some 15, none, .p (.mv (.t 0))⟩,
  ⟨some 16, none, .p (.len (.t 15))⟩,
  ⟨some 17, none, .p (.bin .add (.t 16) (.c (.int .i64 1)))⟩,
  ⟨some 18, none, .e (.mksl 1 4 (.int .u32 0) (.t 17) (.t 17))⟩,
  ⟨some 5, none, .p (.mv (.t 18))⟩]
def nat_Add_r4 : List AIns := [⟨some 6, none, .p (.mv (.c (.int .u64 0)))⟩]
def nat_Add_r5 : List AIns := [⟨some 19, none, .p (.mv (.t 0))⟩,
  ⟨some 20, none, .p (.len (.t 19))⟩,
  ⟨some 21, none, .p (.mv (.c (.int .i64 0)))⟩]
def nat_Add_r6 : List AIns := [⟨some 22, none, .p (.bin .lss (.t 21) (.t 20))⟩]
def nat_Add_r7 : List AIns := [⟨some 23, none, .p (.mv (.t 21))⟩,
  ⟨some 7, none, .p (.mv (.t 23))⟩]
def nat_Add_r8 : List AIns := [⟨some 24, none, .p (.mv (.t 6))⟩,
  ⟨some 25, none, .p (.mv (.t 0))⟩,
  ⟨some 26, none, .p (.mv (.t 7))⟩,
  ⟨some 27, none, .p (.idxp 1 (.t 25) (.t 26))⟩,
  ⟨some 28, none, .p (.load none (.t 27))⟩,
  ⟨some 29, none, .p (.conv .u64 (.t 28))⟩,
  ⟨some 30, none, .p (.bin .add (.t 24) (.t 29))⟩,
  ⟨some 6, none, .p (.mv (.t 30))⟩]
def nat_Add_r9 : List AIns := [⟨some 31, none, .p (.mv (.t 7))⟩,
  ⟨some 32, none, .p (.mv (.t 1))⟩,
  ⟨some 33, none, .p (.len (.t 32))⟩,
  ⟨some 34, none, .p (.bin .lss (.t 31) (.t 33))⟩]
def nat_Add_r10 : List AIns := [⟨some 35, none, .p (.mv (.t 6))⟩,
  ⟨some 36, none, .p (.mv (.t 1))⟩,
  ⟨some 37, none, .p (.mv (.t 7))⟩,
  ⟨some 38, none, .p (.idxp 1 (.t 36) (.t 37))⟩,
  ⟨some 39, none, .p (.load none (.t 38))⟩,
  ⟨some 40, none, .p (.conv .u64 (.t 39))⟩,
  ⟨some 41, none, .p (.bin .add (.t 35) (.t 40))⟩,
  ⟨some 6, none, .p (.mv (.t 41))⟩]
def nat_Add_r11 : List AIns := [⟨some 42, none, .p (.mv (.t 5))⟩,
  ⟨some 43, none, .p (.mv (.t 7))⟩,
  ⟨some 44, none, .p (.mv (.t 6))⟩,
  ⟨some 45, none, .p (.conv .u32 (.t 44))⟩,
  ⟨some 46, none, .p (.idxp 1 (.t 42) (.t 43))⟩,
  ⟨none, none, .e (.store 1 (.t 46) (.t 45))⟩]
def nat_Add_r12 : List AIns := [⟨some 47, none, .p (.mv (.t 6))⟩,
  ⟨some 48, none, .p (.bin .shr (.t 47) (.c (.int .u64 32)))⟩,
  ⟨some 6, none, .p (.mv (.t 48))⟩]
def nat_Add_r13 : List AIns := [⟨some 49, none, .p (.bin .add (.t 21) (.c (.int .i64 1)))⟩,
  ⟨some 21, none, .p (.mv (.t 49))⟩]
def nat_Add_l0 : ACode := .seq (.region nat_Add_r6 false) (.seq (.cond (.t 22) (.skip) (.exit 0)) (.seq (.block 1 (.seq (.region nat_Add_r7 false) (.seq (.region nat_Add_r8 false) (.seq (.seq (.region nat_Add_r9 false) (.cond (.t 34) (.region nat_Add_r10 false) (.skip))) (.seq (.region nat_Add_r11 false) (.region nat_Add_r12 false)))))) (.region nat_Add_r13 false)))
def nat_Add_r14 : List AIns := [⟨some 50, none, .p (.mv (.t 5))⟩,
  ⟨some 51, none, .p (.mv (.t 0))⟩,
  ⟨some 52, none, .p (.len (.t 51))⟩,
  ⟨some 53, none, .p (.mv (.t 6))⟩,
  ⟨some 54, none, .p (.conv .u32 (.t 53))⟩,
  ⟨some 55, none, .p (.idxp 1 (.t 50) (.t 52))⟩,
  ⟨none, none, .e (.store 1 (.t 55) (.t 54))⟩]
def nat_Add_r15 : List AIns := [⟨some 56, none, .p (.mv (.t 5))⟩,
  ⟨some 57, none, .call F_nat_trim [(.t 56)]⟩,
  ⟨some 4, none, .p (.mv (.t 57))⟩]
def nat_Add_c : ACode := .seq (.region nat_Add_r0 false) (.seq (.seq (.region nat_Add_r1 false) (.cond (.t 12) (.region nat_Add_r2 false) (.skip))) (.seq (.region nat_Add_r3 false) (.seq (.region nat_Add_r4 false) (.seq (.seq (.region nat_Add_r5 false) (.block 0 (.loop nat_Add_l0))) (.seq (.region nat_Add_r14 false) (.seq (.region nat_Add_r15 false) (.ret)))))))
theorem nat_Add_ok : fchk Pr (fun _ _ => false) Tryd.f22 = some (nat_Add_c, [.tmp 4], 58) := by kernel_rfl
theorem nat_Add_fn : Pr.funcs[F_nat_Add]? = some Tryd.f22 := Tryd.func22
/-! nat.Mul -/
def nat_Mul_r0 : List AIns := [⟨some 4, none, .p (.mv (.c (.nil)))⟩]
def nat_Mul_r1 : List AIns := [⟨some 9, none, .p (.mv (.t 0))⟩,
  ⟨some 10, none, .call F_nat_trim [(.t 9)]⟩,
  ⟨some 11, none, .p (.mv (.t 1))⟩,
  ⟨some 12, none, .call F_nat_trim [(.t 11)]⟩,
  ⟨some 0, none, .p (.mv (.t 10))⟩,
  ⟨some 1, none, .p (.mv (.t 12))⟩]
def nat_Mul_r2 : List AIns := [⟨some 13, none, .p (.mv (.t 0))⟩,
  ⟨some 14, none, .p (.len (.t 13))⟩,
  ⟨some 15, none, .p (.mv (.t 1))⟩,
  ⟨some 16, none, .p (.len (.t 15))⟩,
  ⟨some 17, none, .p (.bin .add (.t 14) (.t 16))⟩,
  ⟨some 18, none, .e (.mksl 1 4 (.int .u32 0) (.t 17) (.t 17))⟩,
  ⟨some 5, none, .p (.mv (.t 18))⟩]
def nat_Mul_r3 : List AIns := [⟨some 19, none, .p (.mv (.t 0))⟩,
  ⟨some 20, none, .p (.len (.t 19))⟩,
  ⟨some 21, none, .p (.mv (.c (.int .i64 0)))⟩]
def nat_Mul_r4 : List AIns := [⟨some 22, none, .p (.bin .lss (.t 21) (.t 20))⟩]
def nat_Mul_r5 : List AIns := [⟨some 23, none, .p (.mv (.t 21))⟩,
  ⟨some 6, none, .p (.mv (.t 23))⟩]
def nat_Mul_r6 : List AIns := [⟨some 7, none, .p (.mv (.c (.int .u64 0)))⟩]
def nat_Mul_r7 : List AIns := [⟨some 24, none, .p (.mv (.t 1))⟩,
  ⟨some 25, none, .p (.len (.t 24))⟩,
  ⟨some 26, none, .p (.mv (.c (.int .i64 0)))⟩]
def nat_Mul_r8 : List AIns := [⟨some 27, none, .p (.bin .lss (.t 26) (.t 25))⟩]
def nat_Mul_r9 : List AIns := [⟨some 28, none, .p (.mv (.t 26))⟩,
  ⟨some 8, none, .p (.mv (.t 28))⟩]
def nat_Mul_r10 : List AIns := [⟨some 29, none, .p (.mv (.t 7))⟩,
  ⟨some 30, none, .p (.mv (.t 0))⟩,
  ⟨some 31, none, .p (.mv (.t 6))⟩,
  ⟨some 32, none, .p (.idxp 1 (.t 30) (.t 31))⟩,
  ⟨some 33, none, .p (.load none (.t 32))⟩,
  ⟨some 34, none, .p (.conv .u64 (.t 33))⟩,
  ⟨some 35, none, .p (.mv (.t 1))⟩,
  ⟨some 36, none, .p (.mv (.t 8))⟩,
  ⟨some 37, none, .p (.idxp 1 (.t 35) (.t 36))⟩,
  ⟨some 38, none, .p (.load none (.t 37))⟩,
  ⟨some 39, none, .p (.conv .u64 (.t 38))⟩,
  ⟨some 40, none, .p (.bin .mul (.t 34) (.t 39))⟩,
  ⟨some 41, none, .p (.mv (.t 5))⟩,
  ⟨some 42, none, .p (.mv (.t 6))⟩,
  ⟨some 43, none, .p (.mv (.t 8))⟩,
  ⟨some 44, none, .p (.bin .add (.t 42) (.t 43))⟩,
  ⟨some 45, none, .p (.idxp 1 (.t 41) (.t 44))⟩,
  ⟨some 46, none, .p (.load none (.t 45))⟩,
  ⟨some 47, none, .p (.conv .u64 (.t 46))⟩,
  ⟨some 48, none, .p (.bin .add (.t 40) (.t 47))⟩,
  ⟨some 49, none, .p (.bin .add (.t 29) (.t 48))⟩,
  ⟨some 7, none, .p (.mv (.t 49))⟩]
def nat_Mul_r11 : List AIns := [⟨some 50, none, .p (.mv (.t 5))⟩,
  ⟨some 51, none, .p (.mv (.t 6))⟩,
  ⟨some 52, none, .p (.mv (.t 8))⟩,
  ⟨some 53, none, .p (.bin .add (.t 51) (.t 52))⟩,
  ⟨some 54, none, .p (.mv (.t 7))⟩,
  ⟨some 55, none, .p (.conv .u32 (.t 54))⟩,
  ⟨some 56, none, .p (.idxp 1 (.t 50) (.t 53))⟩,
  ⟨none, none, .e (.store 1 (.t 56) (.t 55))⟩]
def nat_Mul_r12 : List AIns := [⟨some 57, none, .p (.mv (.t 7))⟩,
  ⟨some 58, none, .p (.bin .shr (.t 57) (.c (.int .u64 32)))⟩,
  ⟨some 7, none, .p (.mv (.t 58))⟩]
def nat_Mul_r13 : List AIns := [⟨some 59, none, .p (.bin .add (.t 26) (.c (.int .i64 1)))⟩,
  ⟨some 26, none, .p (.mv (.t 59))⟩]
def nat_Mul_l1 : ACode := .seq (.region nat_Mul_r8 false) (.seq (.cond (.t 27) (.skip) (.exit 2)) (.seq (.block 3 (.seq (.region nat_Mul_r9 false) (.seq (.region nat_Mul_r10 true) (.seq (.region nat_Mul_r11 false) (.region nat_Mul_r12 false))))) (.region nat_Mul_r13 false)))
def nat_Mul_r14 : List AIns := [⟨some 60, none, .p (.mv (.t 5))⟩,
  ⟨some 61, none, .p (.mv (.t 6))⟩,
  ⟨some 62, none, .p (.mv (.t 1))⟩,
  ⟨some 63, none, .p (.len (.t 62))⟩,
  ⟨some 64, none, .p (.bin .add (.t 61) (.t 63))⟩,
  ⟨some 65, none, .p (.mv (.t 7))⟩,
  ⟨some 66, none, .p (.conv .u32 (.t 65))⟩,
  ⟨some 67, none, .p (.idxp 1 (.t 60) (.t 64))⟩,
  ⟨none, none, .e (.store 1 (.t 67) (.t 66))⟩]
def nat_Mul_r15 : List AIns := [⟨some 68, none, .p (.bin .add (.t 21) (.c (.int .i64 1)))⟩,
  ⟨some 21, none, .p (.mv (.t 68))⟩]
def nat_Mul_l0 : ACode := .seq (.region nat_Mul_r4 false) (.seq (.cond (.t 22) (.skip) (.exit 0)) (.seq (.block 1 (.seq (.region nat_Mul_r5 false) (.seq (.region nat_Mul_r6 false) (.seq (.seq (.region nat_Mul_r7 false) (.block 2 (.loop nat_Mul_l1))) (.region nat_Mul_r14 false))))) (.region nat_Mul_r15 false)))
def nat_Mul_r16 : List AIns := [⟨some 69, none, .p (.mv (.t 5))⟩,
  ⟨some 70, none, .call F_nat_trim [(.t 69)]⟩,
  ⟨some 4, none, .p (.mv (.t 70))⟩]
def nat_Mul_c : ACode := .seq (.region nat_Mul_r0 false) (.seq (.region nat_Mul_r1 false) (.seq (.region nat_Mul_r2 false) (.seq (.seq (.region nat_Mul_r3 false) (.block 0 (.loop nat_Mul_l0))) (.seq (.region nat_Mul_r16 false) (.ret)))))
theorem nat_Mul_ok : fchk Pr (fun _ _ => false) Tryd.f23 = some (nat_Mul_c, [.tmp 4], 71) := by kernel_rfl
theorem nat_Mul_fn : Pr.funcs[F_nat_Mul]? = some Tryd.f23 := Tryd.func23
/-! zint.nines -/
def zint_nines_r0 : List AIns := [⟨some 2, none, .p (.mv (.c (.int .u32 0)))⟩]
def zint_nines_c : ACode := .seq (.region zint_nines_r0 false) (.seq (.bad) (.ret))
theorem zint_nines_ok : fchk Pr (fun _ _ => false) Tryd.f24 = some (zint_nines_c, [.tmp 2], 6) := by kernel_rfl
theorem zint_nines_fn : Pr.funcs[F_zint_nines]? = some Tryd.f24 := Tryd.func24
/-! zint.made -/
def zint_made_r0 : List AIns := [⟨some 4, none, .e (.box 2 (.c (.agg [.bool false, .nil])))⟩]
def zint_made_r1 : List AIns := [⟨some 7, none, .p (.mv (.t 1))⟩,
  ⟨some 8, none, .p (.len (.t 7))⟩,
  ⟨some 5, none, .p (.mv (.t 8))⟩]
def zint_made_r2 : List AIns := [⟨some 9, none, .p (.mv (.t 5))⟩,
  ⟨some 10, none, .p (.bin .gtr (.t 9) (.c (.int .i64 0)))⟩,
  ⟨some 11, none, .p (.mv (.t 10))⟩,
  ⟨some 12, some (11, true), .p (.mv (.t 1))⟩,
  ⟨some 13, some (11, true), .p (.mv (.t 5))⟩,
  ⟨some 14, some (11, true), .p (.bin .sub (.t 13) (.c (.int .i64 1)))⟩,
  ⟨some 15, some (11, true), .p (.idxp 1 (.t 12) (.t 14))⟩,
  ⟨some 16, some (11, true), .p (.load none (.t 15))⟩,
  ⟨some 17, some (11, true), .p (.bin .eql (.t 16) (.c (.int .u32 0)))⟩,
  ⟨some 18, none, .p (.pick (.t 11) (.t 17) (.c (.bool false)))⟩]
def zint_made_r3 : List AIns := [⟨some 19, none, .p (.mv (.t 5))⟩,
  ⟨some 20, none, .p (.bin .sub (.t 19) (.c (.int .i64 1)))⟩,
  ⟨some 5, none, .p (.mv (.t 20))⟩]
def zint_made_l0 : ACode := .seq (.seq (.region zint_made_r2 false) (.cond (.t 18) (.skip) (.exit 0))) (.block 1 (.region zint_made_r3 false))
def zint_made_r4 : List AIns := [⟨some 21, none, .p (.mv (.t 5))⟩,
  ⟨some 22, none, .p (.bin .eql (.t 21) (.c (.int .i64 0)))⟩]
def zint_made_r5 : List AIns := [⟨some 23, none, .p (.bld [.bool false, .nil] [])⟩,
  ⟨none, none, .e (.store 2 (.t 4) (.t 23))⟩]
def zint_made_r6 : List AIns := [⟨some 24, none, .p (.mv (.t 5))⟩,
  ⟨some 25, none, .e (.mksl 1 4 (.int .u32 0) (.t 24) (.t 24))⟩,
  ⟨some 6, none, .p (.mv (.t 25))⟩]
def zint_made_r7 : List AIns := [⟨some 26, none, .p (.mv (.t 6))⟩,
  ⟨some 27, none, .p (.mv (.t 1))⟩,
  ⟨some 28, none, .e (.cpy 1 (.t 26) (.t 27))⟩]
def zint_made_r8 : List AIns := [⟨some 29, none, .p (.mv (.t 0))⟩,
  ⟨some 30, none, .p (.mv (.t 6))⟩,
  ⟨some 31, none, .p (.bld [.bool false, .nil] [(0, 1, (.t 29)), (1, 1, (.t 30))])⟩,
  ⟨none, none, .e (.store 2 (.t 4) (.t 31))⟩]
def zint_made_c : ACode := .seq (.region zint_made_r0 false) (.seq (.region zint_made_r1 false) (.seq (.block 0 (.loop zint_made_l0)) (.seq (.seq (.region zint_made_r4 false) (.cond (.t 22) (.seq (.region zint_made_r5 false) (.ret)) (.skip))) (.seq (.region zint_made_r6 false) (.seq (.region zint_made_r7 false) (.seq (.region zint_made_r8 false) (.ret)))))))
theorem zint_made_ok : fchk Pr (fun _ _ => false) Tryd.f25 = some (zint_made_c, [.cell 4 (some 2)], 32) := by kernel_rfl
theorem zint_made_fn : Pr.funcs[F_zint_made]? = some Tryd.f25 := Tryd.func25
/-! internal/stringslite.IndexByte -/
def internal_stringslite_IndexByte_r0 : List AIns := [⟨some 4, none, .p (.mv (.c (.int .i64 0)))⟩]
def internal_stringslite_IndexByte_r1 : List AIns := [⟨some 5, none, .p (.mv (.t 0))⟩,
  ⟨some 6, none, .p (.mv (.t 1))⟩,
  ⟨some 7, none, .call F_internal_bytealg_IndexByteString [(.t 5), (.t 6)]⟩,
  ⟨some 4, none, .p (.mv (.t 7))⟩]
def internal_stringslite_IndexByte_c : ACode := .seq (.region internal_stringslite_IndexByte_r0 false) (.seq (.region internal_stringslite_IndexByte_r1 false) (.ret))
theorem internal_stringslite_IndexByte_ok : fchk Pr (fun _ _ => false) Tryd.f26 = some (internal_stringslite_IndexByte_c, [.tmp 4], 8) := by kernel_rfl
theorem internal_stringslite_IndexByte_fn : Pr.funcs[F_internal_stringslite_IndexByte]? = some Tryd.f26 := Tryd.func26
/-! gso.of -/
def gso_of_r0 : List AIns := [⟨some 4, none, .e (.box 2 (.c (.agg [.nil, .nil])))⟩,
  ⟨some 5, none, .p (.mv (.c (.int .i64 0)))⟩]
def gso_of_r1 : List AIns := [⟨some 9, none, .p (.mv (.t 0))⟩,
  ⟨some 10, none, .p (.mv (.t 1))⟩,
  ⟨some 11, none, .call F_gso_shaped [(.t 9), (.t 10)]⟩,
  ⟨some 6, none, .p (.mv (.t 11))⟩]
def gso_of_r2 : List AIns := [⟨some 12, none, .p (.mv (.t 6))⟩,
  ⟨some 13, none, .p (.bin .neq (.t 12) (.c (.int .i64 0)))⟩]
def gso_of_r3 : List AIns := [⟨some 14, none, .p (.bld [.nil, .nil] [])⟩,
  ⟨some 15, none, .p (.mv (.t 6))⟩,
  ⟨none, none, .e (.store 2 (.t 4) (.t 14))⟩,
  ⟨some 5, none, .p (.mv (.t 15))⟩]
def gso_of_r4 : List AIns := [⟨some 17, none, .p (.mv (.t 0))⟩,
  ⟨some 18, none, .call F_gso_built [(.t 17)]⟩,
  ⟨some 16, none, .p (.mv (.t 18))⟩,
  ⟨some 19, none, .p (.ext (.t 16) 0)⟩,
  ⟨some 20, none, .p (.ext (.t 16) 1)⟩,
  ⟨some 7, none, .e (.box 2 (.c (.agg [.nil, .nil])))⟩,
  ⟨none, none, .e (.store 2 (.t 7) (.t 19))⟩,
  ⟨some 8, none, .p (.mv (.t 20))⟩]
def gso_of_r5 : List AIns := [⟨some 21, none, .p (.mv (.t 8))⟩,
  ⟨some 22, none, .p (.un .not (.t 21))⟩]
def gso_of_r6 : List AIns := [⟨some 23, none, .p (.bld [.nil, .nil] [])⟩,
  ⟨none, none, .e (.store 2 (.t 4) (.t 23))⟩,
  ⟨some 5, none, .p (.mv (.c (.int .i64 50)))⟩]
def gso_of_r7 : List AIns := [⟨some 24, none, .p (.load (some 2) (.t 7))⟩,
  ⟨none, none, .e (.store 2 (.t 4) (.t 24))⟩,
  ⟨some 5, none, .p (.mv (.c (.int .i64 0)))⟩]
def gso_of_c : ACode := .seq (.region gso_of_r0 false) (.seq (.seq (.region gso_of_r1 false) (.seq (.region gso_of_r2 false) (.cond (.t 13) (.seq (.region gso_of_r3 false) (.ret)) (.skip)))) (.seq (.region gso_of_r4 false) (.seq (.seq (.region gso_of_r5 false) (.cond (.t 22) (.seq (.region gso_of_r6 false) (.ret)) (.skip))) (.seq (.region gso_of_r7 false) (.ret)))))
theorem gso_of_ok : fchk Pr (fun _ _ => false) Tryd.f30 = some (gso_of_c, [.cell 4 (some 2), .tmp 5], 25) := by kernel_rfl
theorem gso_of_fn : Pr.funcs[F_gso_of]? = some Tryd.f30 := Tryd.func30
/-! mat.each[[]api.Int,[]api.Int] -/
def mat_each_V_V_r0 : List AIns := [⟨some 4, none, .p (.mv (.c (.nil)))⟩]
def mat_each_V_V_r1 : List AIns := [⟨some 8, none, .p (.mv (.t 0))⟩,
  ⟨some 9, none, .p (.len (.t 8))⟩,
  ⟨some 10, none, .e (.mksl 1 24 (.nil) (.c (.int .i64 0)) (.t 9))⟩,
  ⟨some 5, none, .p (.mv (.t 10))⟩]
def mat_each_V_V_r2 : List AIns := [⟨some 11, none, .p (.mv (.t 0))⟩,
  ⟨some 12, none, .p (.len (.t 11))⟩,
  ⟨some 13, none, .p (.mv (.c (.int .i64 0)))⟩]
def mat_each_V_V_r3 : List AIns := [⟨some 14, none, .p (.bin .lss (.t 13) (.t 12))⟩]
def mat_each_V_V_r4 : List AIns := [⟨some 15, none, .p (.idxp 1 (.t 11) (.t 13))⟩,
  ⟨some 16, none, .p (.load none (.t 15))⟩,
  ⟨some 7, none, .p (.mv (.t 16))⟩]
def mat_each_V_V_r5 : List AIns := [⟨some 17, none, .p (.mv (.t 5))⟩,
  ⟨some 18, none, .p (.mv (.t 1))⟩,
  ⟨some 19, none, .p (.mv (.t 7))⟩,
  ⟨some 20, none, .callv (.t 18) [(.t 19)]⟩,
  ⟨some 21, none, .e (.bsl 1 [(.t 20)])⟩,
  ⟨some 22, none, .e (.app 1 24 false (.t 17) (.t 21))⟩,
  ⟨some 5, none, .p (.mv (.t 22))⟩]
def mat_each_V_V_r6 : List AIns := [⟨some 23, none, .p (.bin .add (.t 13) (.c (.int .i64 1)))⟩,
  ⟨some 13, none, .p (.mv (.t 23))⟩]
def mat_each_V_V_l0 : ACode := .seq (.region mat_each_V_V_r3 false) (.seq (.cond (.t 14) (.skip) (.exit 0)) (.seq (.block 1 (.seq (.region mat_each_V_V_r4 false) (.region mat_each_V_V_r5 false))) (.region mat_each_V_V_r6 false)))
def mat_each_V_V_r7 : List AIns := [⟨some 24, none, .p (.mv (.t 5))⟩,
  ⟨some 4, none, .p (.mv (.t 24))⟩]
def mat_each_V_V_c : ACode := .seq (.region mat_each_V_V_r0 false) (.seq (.region mat_each_V_V_r1 false) (.seq (.seq (.region mat_each_V_V_r2 false) (.block 0 (.loop mat_each_V_V_l0))) (.seq (.region mat_each_V_V_r7 false) (.ret))))
theorem mat_each_V_V_ok : fchk Pr (fun _ _ => false) Tryd.f31 = some (mat_each_V_V_c, [.tmp 4], 25) := by kernel_rfl
theorem mat_each_V_V_fn : Pr.funcs[F_mat_each_V_V]? = some Tryd.f31 := Tryd.func31
/-! mat.Form$1 -/
def mat_Form_1_r0 : List AIns := [⟨some 2, none, .p (.mv (.c (.nil)))⟩]
def mat_Form_1_r1 : List AIns := [⟨some 3, none, .p (.mv (.t 0))⟩,
  ⟨some 4, none, .call F_mat_each_I_I [(.t 3), (.c (.fn F_zint_Form []))]⟩,
  ⟨some 2, none, .p (.mv (.t 4))⟩]
def mat_Form_1_c : ACode := .seq (.region mat_Form_1_r0 false) (.seq (.region mat_Form_1_r1 false) (.ret))
theorem mat_Form_1_ok : fchk Pr (fun _ _ => false) Tryd.f32 = some (mat_Form_1_c, [.tmp 2], 5) := by kernel_rfl
theorem mat_Form_1_fn : Pr.funcs[F_mat_Form_1]? = some Tryd.f32 := Tryd.func32
/-! mat.each[api.Int,api.Int] -/
def mat_each_I_I_r0 : List AIns := [⟨some 4, none, .p (.mv (.c (.nil)))⟩]
def mat_each_I_I_r1 : List AIns := [⟨some 8, none, .p (.mv (.t 0))⟩,
  ⟨some 9, none, .p (.len (.t 8))⟩,
  ⟨some 10, none, .e (.mksl 2 32 (.agg [.bool false, .nil]) (.c (.int .i64 0)) (.t 9))⟩,
  ⟨some 5, none, .p (.mv (.t 10))⟩]
def mat_each_I_I_r2 : List AIns := [⟨some 11, none, .p (.mv (.t 0))⟩,
  ⟨some 12, none, .p (.len (.t 11))⟩,
  ⟨some 13, none, .p (.mv (.c (.int .i64 0)))⟩]
def mat_each_I_I_r3 : List AIns := [⟨some 14, none, .p (.bin .lss (.t 13) (.t 12))⟩]
def mat_each_I_I_r4 : List AIns := [⟨some 15, none, .p (.idxp 2 (.t 11) (.t 13))⟩,
  ⟨some 16, none, .p (.load (some 2) (.t 15))⟩,
  ⟨some 7, none, .e (.box 2 (.c (.agg [.bool false, .nil])))⟩,
  ⟨none, none, .e (.store 2 (.t 7) (.t 16))⟩]
def mat_each_I_I_r5 : List AIns := [⟨some 17, none, .p (.mv (.t 5))⟩,
  ⟨some 18, none, .p (.mv (.t 1))⟩,
  ⟨some 19, none, .p (.load (some 2) (.t 7))⟩,
  ⟨some 20, none, .callv (.t 18) [(.t 19)]⟩,
  ⟨some 21, none, .e (.bsl 2 [(.t 20)])⟩,
  ⟨some 22, none, .e (.app 2 32 false (.t 17) (.t 21))⟩,
  ⟨some 5, none, .p (.mv (.t 22))⟩]
def mat_each_I_I_r6 : List AIns := [⟨some 23, none, .p (.bin .add (.t 13) (.c (.int .i64 1)))⟩,
  ⟨some 13, none, .p (.mv (.t 23))⟩]
def mat_each_I_I_l0 : ACode := .seq (.region mat_each_I_I_r3 false) (.seq (.cond (.t 14) (.skip) (.exit 0)) (.seq (.block 1 (.seq (.region mat_each_I_I_r4 false) (.region mat_each_I_I_r5 false))) (.region mat_each_I_I_r6 false)))
def mat_each_I_I_r7 : List AIns := [⟨some 24, none, .p (.mv (.t 5))⟩,
  ⟨some 4, none, .p (.mv (.t 24))⟩]
def mat_each_I_I_c : ACode := .seq (.region mat_each_I_I_r0 false) (.seq (.region mat_each_I_I_r1 false) (.seq (.seq (.region mat_each_I_I_r2 false) (.block 0 (.loop mat_each_I_I_l0))) (.seq (.region mat_each_I_I_r7 false) (.ret))))
theorem mat_each_I_I_ok : fchk Pr (fun _ _ => false) Tryd.f33 = some (mat_each_I_I_c, [.tmp 4], 25) := by kernel_rfl
theorem mat_each_I_I_fn : Pr.funcs[F_mat_each_I_I]? = some Tryd.f33 := Tryd.func33
/-! zint.Form -/
def zint_Form_r0 : List AIns := [⟨some 1, none, .e (.box 2 (.t 0))⟩,
  ⟨some 2, none, .e (.box 2 (.c (.agg [.bool false, .nil])))⟩]
def zint_Form_r1 : List AIns := [⟨some 3, none, .p (.fldp (.t 1) 0)⟩,
  ⟨some 4, none, .p (.load none (.t 3))⟩,
  ⟨some 5, none, .p (.fldp (.t 1) 1)⟩,
  ⟨some 6, none, .p (.load none (.t 5))⟩,
  ⟨some 7, none, .call F_zint_made [(.t 4), (.t 6)]⟩,
  ⟨none, none, .e (.store 2 (.t 2) (.t 7))⟩]
def zint_Form_c : ACode := .seq (.region zint_Form_r0 false) (.seq (.region zint_Form_r1 false) (.ret))
theorem zint_Form_ok : fchk Pr (fun _ _ => false) Tryd.f34 = some (zint_Form_c, [.cell 2 (some 2)], 8) := by kernel_rfl
theorem zint_Form_fn : Pr.funcs[F_zint_Form]? = some Tryd.f34 := Tryd.func34
/-! strings.explode -/
def strings_explode_r0 : List AIns := [⟨some 4, none, .p (.mv (.c (.nil)))⟩]
def strings_explode_r1 : List AIns := [⟨some 10, none, .p (.mv (.t 0))⟩,
  ⟨some 11, none, .call F_unicode_utf8_RuneCountInString [(.t 10)]⟩,
  ⟨some 5, none, .p (.mv (.t 11))⟩]
def strings_explode_r2 : List AIns := [⟨some 12, none, .p (.mv (.t 1))⟩,
  ⟨some 13, none, .p (.bin .lss (.t 12) (.c (.int .i64 0)))⟩,
  ⟨some 14, none, .p (.mv (.t 13))⟩,
  ⟨some 15, some (14, false), .p (.mv (.t 1))⟩,
  ⟨some 16, some (14, false), .p (.mv (.t 5))⟩,
  ⟨some 17, some (14, false), .p (.bin .gtr (.t 15) (.t 16))⟩,
  ⟨some 18, none, .p (.pick (.t 14) (.c (.bool true)) (.t 17))⟩]
def strings_explode_r3 : List AIns := [⟨some 19, none, .p (.mv (.t 5))⟩,
  ⟨some 1, none, .p (.mv (.t 19))⟩]
def strings_explode_r4 : List AIns := [⟨some 20, none, .p (.mv (.t 1))⟩,
  ⟨some 21, none, .e (.mksl 1 16 (.str ⟨#[]⟩) (.t 20) (.t 20))⟩,
  ⟨some 6, none, .p (.mv (.t 21))⟩]
def strings_explode_r5 : List AIns := [⟨some 7, none, .p (.mv (.c (.int .i64 0)))⟩]
def strings_explode_r6 : List AIns := [⟨some 22, none, .p (.mv (.t 7))⟩,
  ⟨some 23, none, .p (.mv (.t 1))⟩,
  ⟨some 24, none, .p (.bin .sub (.t 23) (.c (.int .i64 1)))⟩,
  ⟨some 25, none, .p (.bin .lss (.t 22) (.t 24))⟩]
def strings_explode_r7 : List AIns := [⟨some 29, none, .p (.mv (.t 0))⟩,
  ⟨some 30, none, .call F_unicode_utf8_DecodeRuneInString [(.t 29)]⟩,
  ⟨some 28, none, .p (.mv (.t 30))⟩,
  ⟨some 31, none, .p (.ext (.t 28) 0)⟩,
  ⟨some 32, none, .p (.ext (.t 28) 1)⟩,
  ⟨some 8, none, .p (.mv (.t 31))⟩,
  ⟨some 9, none, .p (.mv (.t 32))⟩]
def strings_explode_r8 : List AIns := [⟨some 33, none, .p (.mv (.t 6))⟩,
  ⟨some 34, none, .p (.mv (.t 7))⟩,
  ⟨some 35, none, .p (.mv (.t 0))⟩,
  ⟨some 36, none, .p (.mv (.t 9))⟩,
  ⟨some 37, none, .p (.slcs (.t 35) none (some (.t 36)))⟩,
  ⟨some 38, none, .p (.idxp 1 (.t 33) (.t 34))⟩,
  ⟨none, none, .e (.store 1 (.t 38) (.t 37))⟩]
def strings_explode_r9 : List AIns := [⟨some 39, none, .p (.mv (.t 0))⟩,
  ⟨some 40, none, .p (.mv (.t 9))⟩,
  ⟨some 41, none, .p (.slcs (.t 39) (some (.t 40)) none)⟩,
  ⟨some 0, none, .p (.mv (.t 41))⟩]
def strings_explode_r10 : List AIns := [⟨some 26, none, .p (.mv (.t 7))⟩,
  ⟨some 27, none, .p (.bin .add (.t 26) (.c (.int .i64 1)))⟩,
  ⟨some 7, none, .p (.mv (.t 27))⟩]
def strings_explode_l0 : ACode := .seq (.seq (.region strings_explode_r6 false) (.cond (.t 25) (.skip) (.exit 0))) (.seq (.block 1 (.seq (.region strings_explode_r7 false) (.seq (.region strings_explode_r8 false) (.region strings_explode_r9 false)))) (.region strings_explode_r10 false))
def strings_explode_r11 : List AIns := [⟨some 42, none, .p (.mv (.t 1))⟩,
  ⟨some 43, none, .p (.bin .gtr (.t 42) (.c (.int .i64 0)))⟩]
def strings_explode_r12 : List AIns := [⟨some 44, none, .p (.mv (.t 6))⟩,
  ⟨some 45, none, .p (.mv (.t 1))⟩,
  ⟨some 46, none, .p (.bin .sub (.t 45) (.c (.int .i64 1)))⟩,
  ⟨some 47, none, .p (.mv (.t 0))⟩,
  ⟨some 48, none, .p (.idxp 1 (.t 44) (.t 46))⟩,
  ⟨none, none, .e (.store 1 (.t 48) (.t 47))⟩]
def strings_explode_r13 : List AIns := [⟨some 49, none, .p (.mv (.t 6))⟩,
  ⟨some 4, none, .p (.mv (.t 49))⟩]
def strings_explode_c : ACode := .seq (.region strings_explode_r0 false) (.seq (.region strings_explode_r1 false) (.seq (.seq (.region strings_explode_r2 false) (.cond (.t 18) (.region strings_explode_r3 false) (.skip))) (.seq (.region strings_explode_r4 false) (.seq (.seq (.region strings_explode_r5 false) (.block 0 (.loop strings_explode_l0))) (.seq (.seq (.region strings_explode_r11 false) (.cond (.t 43) (.region strings_explode_r12 false) (.skip))) (.seq (.region strings_explode_r13 false) (.ret)))))))
theorem strings_explode_ok : fchk Pr (fun _ _ => false) Tryd.f35 = some (strings_explode_c, [.tmp 4], 50) := by kernel_rfl
theorem strings_explode_fn : Pr.funcs[F_strings_explode]? = some Tryd.f35 := Tryd.func35
/-! strings.Count -/
def strings_Count_r0 : List AIns := [⟨some 4, none, .p (.mv (.c (.int .i64 0)))⟩]
def strings_Count_r1 : List AIns := [⟨some 7, none, .p (.mv (.t 1))⟩,
  ⟨some 8, none, .p (.lens (.t 7))⟩,
  ⟨some 9, none, .p (.bin .eql (.t 8) (.c (.int .i64 0)))⟩]
def strings_Count_r2 : List AIns := [⟨some 10, none, .p (.mv (.t 0))⟩,
  ⟨some 11, none, .call F_unicode_utf8_RuneCountInString [(.t 10)]⟩,
  ⟨some 12, none, .p (.bin .add (.t 11) (.c (.int .i64 1)))⟩,
  ⟨some 4, none, .p (.mv (.t 12))⟩]
def strings_Count_r3 : List AIns := [⟨some 13, none, .p (.mv (.t 1))⟩,
  ⟨some 14, none, .p (.lens (.t 13))⟩,
  ⟨some 15, none, .p (.bin .eql (.t 14) (.c (.int .i64 1)))⟩]
def strings_Count_r4 : List AIns := [⟨some 16, none, .p (.mv (.t 0))⟩,
  ⟨some 17, none, .p (.mv (.t 1))⟩,
  ⟨some 18, none, .p (.idxs (.t 17) (.c (.int .i64 0)))⟩,
  ⟨some 19, none, .call F_internal_bytealg_CountString [(.t 16), (.t 18)]⟩,
  ⟨some 4, none, .p (.mv (.t 19))⟩]
def strings_Count_r5 : List AIns := [⟨some 5, none, .p (.mv (.c (.int .i64 0)))⟩]
def strings_Count_r6 : List AIns := [⟨some 20, none, .p (.mv (.t 0))⟩,
  ⟨some 21, none, .p (.mv (.t 1))⟩,
  ⟨some 22, none, .call F_strings_Index [(.t 20), (.t 21)]⟩,
  ⟨some 6, none, .p (.mv (.t 22))⟩]
def strings_Count_r7 : List AIns := [⟨some 23, none, .p (.mv (.t 6))⟩,
  ⟨some 24, none, .p (.bin .eql (.t 23) (.c (.int .i64 (-1))))⟩]
def strings_Count_r8 : List AIns := [⟨some 25, none, .p (.mv (.t 5))⟩,
  ⟨some 4, none, .p (.mv (.t 25))⟩]
def strings_Count_r9 : List AIns := [⟨some 26, none, .p (.mv (.t 5))⟩,
  ⟨some 27, none, .p (.bin .add (.t 26) (.c (.int .i64 1)))⟩,
  ⟨some 5, none, .p (.mv (.t 27))⟩]
def strings_Count_r10 : List AIns := [⟨some 28, none, .p (.mv (.t 0))⟩,
  ⟨some 29, none, .p (.mv (.t 6))⟩,
  ⟨some 30, none, .p (.mv (.t 1))⟩,
  ⟨some 31, none, .p (.lens (.t 30))⟩,
  ⟨some 32, none, .p (.bin .add (.t 29) (.t 31))⟩,
  ⟨some 33, none, .p (.slcs (.t 28) (some (.t 32)) none)⟩,
  ⟨some 0, none, .p (.mv (.t 33))⟩]
def strings_Count_l0 : ACode := .block 1 (.seq (.region strings_Count_r6 false) (.seq (.seq (.region strings_Count_r7 false) (.cond (.t 24) (.seq (.region strings_Count_r8 false) (.ret)) (.skip))) (.seq (.region strings_Count_r9 false) (.region strings_Count_r10 false))))
def strings_Count_c : ACode := .seq (.region strings_Count_r0 false) (.seq (.seq (.region strings_Count_r1 false) (.cond (.t 9) (.seq (.region strings_Count_r2 false) (.ret)) (.skip))) (.seq (.seq (.region strings_Count_r3 false) (.cond (.t 15) (.seq (.region strings_Count_r4 false) (.ret)) (.skip))) (.seq (.region strings_Count_r5 false) (.block 0 (.loop strings_Count_l0)))))
theorem strings_Count_ok : fchk Pr (fun _ _ => false) Tryd.f36 = some (strings_Count_c, [.tmp 4], 34) := by kernel_rfl
theorem strings_Count_fn : Pr.funcs[F_strings_Count]? = some Tryd.f36 := Tryd.func36
/-! strings.Index -/
def strings_Index_r0 : List AIns := [⟨some 4, none, .p (.mv (.c (.int .i64 0)))⟩]
def strings_Index_r1 : List AIns := [⟨some 5, none, .p (.mv (.t 0))⟩,
  ⟨some 6, none, .p (.mv (.t 1))⟩,
  ⟨some 7, none, .call F_internal_stringslite_Index [(.t 5), (.t 6)]⟩,
  ⟨some 4, none, .p (.mv (.t 7))⟩]
def strings_Index_c : ACode := .seq (.region strings_Index_r0 false) (.seq (.region strings_Index_r1 false) (.ret))
theorem strings_Index_ok : fchk Pr (fun _ _ => false) Tryd.f37 = some (strings_Index_c, [.tmp 4], 8) := by kernel_rfl
theorem strings_Index_fn : Pr.funcs[F_strings_Index]? = some Tryd.f37 := Tryd.func37
/-! nat.trim -/
def nat_trim_r0 : List AIns := [⟨some 2, none, .p (.mv (.c (.nil)))⟩]
def nat_trim_r1 : List AIns := [⟨some 3, none, .p (.mv (.t 0))⟩,
  ⟨some 4, none, .p (.len (.t 3))⟩,
  ⟨some 5, none, .p (.bin .gtr (.t 4) (.c (.int .i64 0)))⟩,
  ⟨some 6, none, .p (.mv (.t 5))⟩,
  ⟨some 7, some (6, true), .p (.mv (.t 0))⟩,
  ⟨some 8, some (6, true), .p (.mv (.t 0))⟩,
  ⟨some 9, some (6, true), .p (.len (.t 8))⟩,
  ⟨some 10, some (6, true), .p (.bin .sub (.t 9) (.c (.int .i64 1)))⟩,
  ⟨some 11, some (6, true), .p (.idxp 1 (.t 7) (.t 10))⟩,
  ⟨some 12, some (6, true), .p (.load none (.t 11))⟩,
  ⟨some 13, some (6, true), .p (.bin .eql (.t 12) (.c (.int .u32 0)))⟩,
  ⟨some 14, none, .p (.pick (.t 6) (.t 13) (.c (.bool false)))⟩]
def nat_trim_r2 : List AIns := [⟨some 15, none, .p (.mv (.t 0))⟩,
  ⟨some 16, none, .p (.mv (.t 0))⟩,
  ⟨some 17, none, .p (.len (.t 16))⟩,
  ⟨some 18, none, .p (.bin .sub (.t 17) (.c (.int .i64 1)))⟩,
  ⟨some 19, none, .p (.slc 1 (.t 15) none (some (.t 18)) none)⟩,
  ⟨some 0, none, .p (.mv (.t 19))⟩]
def nat_trim_l0 : ACode := .seq (.seq (.region nat_trim_r1 false) (.cond (.t 14) (.skip) (.exit 0))) (.block 1 (.region nat_trim_r2 false))
def nat_trim_r3 : List AIns := [⟨some 20, none, .p (.mv (.t 0))⟩,
  ⟨some 2, none, .p (.mv (.t 20))⟩]
def nat_trim_c : ACode := .seq (.region nat_trim_r0 false) (.seq (.block 0 (.loop nat_trim_l0)) (.seq (.region nat_trim_r3 false) (.ret)))
theorem nat_trim_ok : fchk Pr (fun _ _ => false) Tryd.f38 = some (nat_trim_c, [.tmp 2], 21) := by kernel_rfl
theorem nat_trim_fn : Pr.funcs[F_nat_trim]? = some Tryd.f38 := Tryd.func38
/-! gso.shaped -/
def gso_shaped_r0 : List AIns := [⟨some 4, none, .p (.mv (.c (.int .i64 0)))⟩]
def gso_shaped_r1 : List AIns := [⟨some 11, none, .p (.mv (.t 0))⟩,
  ⟨some 12, none, .p (.len (.t 11))⟩,
  ⟨some 13, none, .p (.bin .gtr (.t 12) (.c (.int .i64 12)))⟩,
  ⟨some 14, none, .p (.mv (.t 13))⟩,
  ⟨some 15, some (14, false), .p (.mv (.t 1))⟩,
  ⟨some 16, some (14, false), .p (.mv (.t 15))⟩,
  ⟨some 17, some (16, true), .p (.mv (.t 0))⟩,
  ⟨some 18, some (16, true), .call F_mat_Bits [(.t 17)]⟩,
  ⟨some 19, some (16, true), .p (.bin .gtr (.t 18) (.c (.int .i64 256)))⟩,
  ⟨some 20, some (14, false), .p (.pick (.t 16) (.t 19) (.c (.bool false)))⟩,
  ⟨some 21, none, .p (.pick (.t 14) (.c (.bool true)) (.t 20))⟩,
  ⟨some 5, none, .p (.mv (.t 21))⟩]
def gso_shaped_r2 : List AIns := [⟨some 22, none, .p (.mv (.t 0))⟩,
  ⟨some 23, none, .p (.len (.t 22))⟩,
  ⟨some 24, none, .p (.mv (.c (.int .i64 0)))⟩]
def gso_shaped_r3 : List AIns := [⟨some 25, none, .p (.bin .lss (.t 24) (.t 23))⟩]
def gso_shaped_r4 : List AIns := [⟨some 26, none, .p (.idxp 1 (.t 22) (.t 24))⟩,
  ⟨some 27, none, .p (.load none (.t 26))⟩,
  ⟨some 7, none, .p (.mv (.t 27))⟩]
def gso_shaped_r5 : List AIns := [⟨some 28, none, .p (.mv (.t 5))⟩,
  ⟨some 29, none, .p (.mv (.t 28))⟩,
  ⟨some 30, some (29, false), .p (.mv (.t 7))⟩,
  ⟨some 31, some (29, false), .p (.len (.t 30))⟩,
  ⟨some 32, some (29, false), .p (.bin .gtr (.t 31) (.c (.int .i64 12)))⟩,
  ⟨some 33, none, .p (.pick (.t 29) (.c (.bool true)) (.t 32))⟩,
  ⟨some 5, none, .p (.mv (.t 33))⟩]
def gso_shaped_r6 : List AIns := [⟨some 34, none, .p (.bin .add (.t 24) (.c (.int .i64 1)))⟩,
  ⟨some 24, none, .p (.mv (.t 34))⟩]
def gso_shaped_l0 : ACode := .seq (.region gso_shaped_r3 false) (.seq (.cond (.t 25) (.skip) (.exit 0)) (.seq (.block 1 (.seq (.region gso_shaped_r4 false) (.region gso_shaped_r5 false))) (.region gso_shaped_r6 false)))
def gso_shaped_r7 : List AIns := [⟨some 35, none, .p (.mv (.t 5))⟩]
def gso_shaped_r8 : List AIns := [⟨some 4, none, .p (.mv (.c (.int .i64 40)))⟩]
def gso_shaped_r9 : List AIns := [⟨some 36, none, .p (.mv (.t 0))⟩,
  ⟨some 37, none, .p (.len (.t 36))⟩,
  ⟨some 38, none, .p (.bin .eql (.t 37) (.c (.int .i64 0)))⟩]
def gso_shaped_r10 : List AIns := [⟨some 4, none, .p (.mv (.c (.int .i64 41)))⟩]
def gso_shaped_r11 : List AIns := [⟨some 40, none, .p (.mv (.t 0))⟩,
  ⟨some 41, none, .call F_mat_Shape [(.t 40)]⟩,
  ⟨some 39, none, .p (.mv (.t 41))⟩,
  ⟨some 42, none, .p (.ext (.t 39) 0)⟩,
  ⟨some 43, none, .p (.ext (.t 39) 1)⟩,
  ⟨some 44, none, .p (.ext (.t 39) 2)⟩,
  ⟨some 8, none, .p (.mv (.t 42))⟩,
  ⟨some 9, none, .p (.mv (.t 43))⟩,
  ⟨some 10, none, .p (.mv (.t 44))⟩]
def gso_shaped_r12 : List AIns := [⟨some 45, none, .p (.mv (.t 10))⟩,
  ⟨some 4, none, .p (.mv (.t 45))⟩]
def gso_shaped_c : ACode := .seq (.region gso_shaped_r0 false) (.seq (.region gso_shaped_r1 false) (.seq (.seq (.region gso_shaped_r2 false) (.block 0 (.loop gso_shaped_l0))) (.seq (.seq (.region gso_shaped_r7 false) (.cond (.t 35) (.seq (.region gso_shaped_r8 false) (.ret)) (.skip))) (.seq (.seq (.region gso_shaped_r9 false) (.cond (.t 38) (.seq (.region gso_shaped_r10 false) (.ret)) (.skip))) (.seq (.region gso_shaped_r11 false) (.seq (.region gso_shaped_r12 false) (.ret)))))))
theorem gso_shaped_ok : fchk Pr (fun _ _ => false) Tryd.f41 = some (gso_shaped_c, [.tmp 4], 46) := by kernel_rfl
theorem gso_shaped_fn : Pr.funcs[F_gso_shaped]? = some Tryd.f41 := Tryd.func41
/-! gso.built -/
def gso_built_r0 : List AIns := [⟨some 2, none, .e (.box 2 (.c (.agg [.nil, .nil])))⟩,
  ⟨some 3, none, .p (.mv (.c (.bool false)))⟩]
def gso_built_r1 : List AIns := [⟨some 12, none, .call F_zint_Of [(.c (.int .i64 1))]⟩,
  ⟨some 13, none, .e (.bsl 2 [(.t 12)])⟩,
  ⟨some 14, none, .p (.bld [.nil, .nil] [(0, 1, (.t 13))])⟩,
  ⟨some 4, none, .e (.box 2 (.c (.agg [.nil, .nil])))⟩,
  ⟨none, none, .e (.store 2 (.t 4) (.t 14))⟩]
def gso_built_r2 : List AIns := [⟨some 15, none, .p (.mv (.t 0))⟩,
  ⟨some 16, none, .p (.len (.t 15))⟩,
  ⟨some 17, none, .p (.mv (.c (.int .i64 0)))⟩]
def gso_built_r3 : List AIns := [⟨some 18, none, .p (.bin .lss (.t 17) (.t 16))⟩]
def gso_built_r4 : List AIns := [⟨some 19, none, .p (.mv (.t 17))⟩,
  ⟨some 5, none, .p (.mv (.t 19))⟩]
def gso_built_r5 : List AIns := [⟨some 20, none, .p (.mv (.t 5))⟩,
  ⟨some 21, none, .p (.bin .add (.t 20) (.c (.int .i64 1)))⟩,
  ⟨some 22, none, .e (.mksl 2 32 (.agg [.bool false, .nil]) (.c (.int .i64 0)) (.t 21))⟩,
  ⟨some 6, none, .p (.mv (.t 22))⟩]
def gso_built_r6 : List AIns := [⟨some 7, none, .p (.mv (.c (.int .i64 0)))⟩]
def gso_built_r7 : List AIns := [⟨some 23, none, .p (.mv (.t 7))⟩,
  ⟨some 24, none, .p (.mv (.t 5))⟩,
  ⟨some 25, none, .p (.bin .leq (.t 23) (.t 24))⟩]
def gso_built_r8 : List AIns := [⟨some 29, none, .p (.mv (.t 0))⟩,
  ⟨some 30, none, .p (.mv (.t 5))⟩,
  ⟨some 31, none, .p (.idxp 1 (.t 29) (.t 30))⟩,
  ⟨some 32, none, .p (.load none (.t 31))⟩,
  ⟨some 33, none, .p (.mv (.t 0))⟩,
  ⟨some 34, none, .p (.mv (.t 7))⟩,
  ⟨some 35, none, .p (.idxp 1 (.t 33) (.t 34))⟩,
  ⟨some 36, none, .p (.load none (.t 35))⟩,
  ⟨some 37, none, .call F_mat_Dot [(.t 32), (.t 36)]⟩,
  ⟨some 28, none, .p (.mv (.t 37))⟩,
  ⟨some 38, none, .p (.ext (.t 28) 0)⟩,
  ⟨some 39, none, .p (.ext (.t 28) 1)⟩,
  ⟨some 8, none, .e (.box 2 (.c (.agg [.bool false, .nil])))⟩,
  ⟨none, none, .e (.store 2 (.t 8) (.t 38))⟩,
  ⟨some 9, none, .p (.mv (.t 39))⟩]
def gso_built_r9 : List AIns := [⟨some 10, none, .p (.mv (.c (.int .i64 0)))⟩]
def gso_built_r10 : List AIns := [⟨some 40, none, .p (.mv (.t 10))⟩,
  ⟨some 41, none, .p (.mv (.t 7))⟩,
  ⟨some 42, none, .p (.bin .lss (.t 40) (.t 41))⟩]
def gso_built_r11 : List AIns := [⟨some 45, none, .p (.mv (.t 6))⟩,
  ⟨some 11, none, .p (.mv (.t 45))⟩]
def gso_built_r12 : List AIns := [⟨some 46, none, .p (.mv (.t 7))⟩,
  ⟨some 47, none, .p (.mv (.t 5))⟩,
  ⟨some 48, none, .p (.bin .lss (.t 46) (.t 47))⟩]
def gso_built_r13 : List AIns := [⟨some 49, none, .p (.fldp (.t 4) 1)⟩,
  ⟨some 50, none, .p (.load none (.t 49))⟩,
  ⟨some 51, none, .p (.mv (.t 7))⟩,
  ⟨some 52, none, .p (.idxp 1 (.t 50) (.t 51))⟩,
  ⟨some 53, none, .p (.load none (.t 52))⟩,
  ⟨some 11, none, .p (.mv (.t 53))⟩]
def gso_built_r14 : List AIns := [⟨some 54, none, .p (.fldp (.t 4) 0)⟩,
  ⟨some 55, none, .p (.load none (.t 54))⟩,
  ⟨some 56, none, .p (.mv (.t 10))⟩,
  ⟨some 57, none, .p (.bin .add (.t 56) (.c (.int .i64 1)))⟩,
  ⟨some 58, none, .p (.idxp 2 (.t 55) (.t 57))⟩,
  ⟨some 59, none, .p (.load (some 2) (.t 58))⟩,
  ⟨some 60, none, .p (.load (some 2) (.t 8))⟩,
  ⟨some 61, none, .call F_zint_Mul [(.t 59), (.t 60)]⟩,
  ⟨some 62, none, .p (.mv (.t 6))⟩,
  ⟨some 63, none, .p (.mv (.t 10))⟩,
  ⟨some 64, none, .p (.idxp 2 (.t 62) (.t 63))⟩,
  ⟨some 65, none, .p (.load (some 2) (.t 64))⟩,
  ⟨some 66, none, .p (.mv (.t 11))⟩,
  ⟨some 67, none, .p (.mv (.t 10))⟩,
  ⟨some 68, none, .p (.idxp 2 (.t 66) (.t 67))⟩,
  ⟨some 69, none, .p (.load (some 2) (.t 68))⟩,
  ⟨some 70, none, .call F_zint_Mul [(.t 65), (.t 69)]⟩,
  ⟨some 71, none, .call F_zint_Sub [(.t 61), (.t 70)]⟩,
  ⟨none, none, .e (.store 2 (.t 8) (.t 71))⟩]
def gso_built_r15 : List AIns := [⟨some 73, none, .p (.load (some 2) (.t 8))⟩,
  ⟨some 74, none, .p (.fldp (.t 4) 0)⟩,
  ⟨some 75, none, .p (.load none (.t 74))⟩,
  ⟨some 76, none, .p (.mv (.t 10))⟩,
  ⟨some 77, none, .p (.idxp 2 (.t 75) (.t 76))⟩,
  ⟨some 78, none, .p (.load (some 2) (.t 77))⟩,
  ⟨some 79, none, .call F_zint_Floor [(.t 73), (.t 78)]⟩,
  ⟨some 72, none, .p (.mv (.t 79))⟩,
  ⟨some 80, none, .p (.ext (.t 72) 0)⟩,
  ⟨some 81, none, .p (.ext (.t 72) 1)⟩,
  ⟨some 82, none, .p (.ext (.t 72) 2)⟩,
  ⟨none, none, .e (.store 2 (.t 8) (.t 80))⟩]
def gso_built_r16 : List AIns := [⟨some 43, none, .p (.mv (.t 10))⟩,
  ⟨some 44, none, .p (.bin .add (.t 43) (.c (.int .i64 1)))⟩,
  ⟨some 10, none, .p (.mv (.t 44))⟩]
def gso_built_l2 : ACode := .seq (.seq (.region gso_built_r10 false) (.cond (.t 42) (.skip) (.exit 4))) (.seq (.block 5 (.seq (.region gso_built_r11 false) (.seq (.seq (.region gso_built_r12 false) (.cond (.t 48) (.region gso_built_r13 false) (.skip))) (.seq (.region gso_built_r14 true) (.region gso_built_r15 true))))) (.region gso_built_r16 false))
def gso_built_r17 : List AIns := [⟨some 83, none, .p (.mv (.t 6))⟩,
  ⟨some 84, none, .p (.load (some 2) (.t 8))⟩,
  ⟨some 85, none, .e (.bsl 2 [(.t 84)])⟩,
  ⟨some 86, none, .e (.app 2 32 false (.t 83) (.t 85))⟩,
  ⟨some 6, none, .p (.mv (.t 86))⟩]
def gso_built_r18 : List AIns := [⟨some 26, none, .p (.mv (.t 7))⟩,
  ⟨some 27, none, .p (.bin .add (.t 26) (.c (.int .i64 1)))⟩,
  ⟨some 7, none, .p (.mv (.t 27))⟩]
def gso_built_l1 : ACode := .seq (.seq (.region gso_built_r7 false) (.cond (.t 25) (.skip) (.exit 2))) (.seq (.block 3 (.seq (.region gso_built_r8 true) (.seq (.seq (.region gso_built_r9 false) (.block 4 (.loop gso_built_l2))) (.region gso_built_r17 false)))) (.region gso_built_r18 false))
def gso_built_r19 : List AIns := [⟨some 87, none, .p (.mv (.t 6))⟩,
  ⟨some 88, none, .p (.mv (.t 5))⟩,
  ⟨some 89, none, .p (.idxp 2 (.t 87) (.t 88))⟩,
  ⟨some 90, none, .p (.load (some 2) (.t 89))⟩,
  ⟨some 91, none, .call F_zint_Sign [(.t 90)]⟩,
  ⟨some 92, none, .p (.bin .leq (.t 91) (.c (.int .i64 0)))⟩]
def gso_built_r20 : List AIns := [⟨some 93, none, .p (.bld [.nil, .nil] [])⟩,
  ⟨none, none, .e (.store 2 (.t 2) (.t 93))⟩,
  ⟨some 3, none, .p (.mv (.c (.bool false)))⟩]
def gso_built_r21 : List AIns := [⟨some 94, none, .p (.fldp (.t 4) 0)⟩,
  ⟨some 95, none, .p (.load none (.t 94))⟩,
  ⟨some 96, none, .p (.mv (.t 6))⟩,
  ⟨some 97, none, .p (.mv (.t 5))⟩,
  ⟨some 98, none, .p (.idxp 2 (.t 96) (.t 97))⟩,
  ⟨some 99, none, .p (.load (some 2) (.t 98))⟩,
  ⟨some 100, none, .e (.bsl 2 [(.t 99)])⟩,
  ⟨some 101, none, .e (.app 2 32 false (.t 95) (.t 100))⟩,
  ⟨some 102, none, .p (.fldp (.t 4) 0)⟩,
  ⟨none, none, .e (.store 1 (.t 102) (.t 101))⟩]
def gso_built_r22 : List AIns := [⟨some 103, none, .p (.fldp (.t 4) 1)⟩,
  ⟨some 104, none, .p (.load none (.t 103))⟩,
  ⟨some 105, none, .p (.mv (.t 6))⟩,
  ⟨some 106, none, .p (.mv (.t 5))⟩,
  ⟨some 107, none, .p (.mv (.t 5))⟩,
  ⟨some 108, none, .p (.slc 2 (.t 105) none (some (.t 106)) (some (.t 107)))⟩,
  ⟨some 109, none, .e (.bsl 1 [(.t 108)])⟩,
  ⟨some 110, none, .e (.app 1 24 false (.t 104) (.t 109))⟩,
  ⟨some 111, none, .p (.fldp (.t 4) 1)⟩,
  ⟨none, none, .e (.store 1 (.t 111) (.t 110))⟩]
def gso_built_r23 : List AIns := [⟨some 112, none, .p (.bin .add (.t 17) (.c (.int .i64 1)))⟩,
  ⟨some 17, none, .p (.mv (.t 112))⟩]
def gso_built_l0 : ACode := .seq (.region gso_built_r3 false) (.seq (.cond (.t 18) (.skip) (.exit 0)) (.seq (.block 1 (.seq (.region gso_built_r4 false) (.seq (.region gso_built_r5 false) (.seq (.seq (.region gso_built_r6 false) (.block 2 (.loop gso_built_l1))) (.seq (.seq (.region gso_built_r19 false) (.cond (.t 92) (.seq (.region gso_built_r20 false) (.ret)) (.skip))) (.seq (.region gso_built_r21 true) (.region gso_built_r22 true))))))) (.region gso_built_r23 false)))
def gso_built_r24 : List AIns := [⟨some 113, none, .p (.load (some 2) (.t 4))⟩,
  ⟨none, none, .e (.store 2 (.t 2) (.t 113))⟩,
  ⟨some 3, none, .p (.mv (.c (.bool true)))⟩]
def gso_built_c : ACode := .seq (.region gso_built_r0 false) (.seq (.region gso_built_r1 false) (.seq (.seq (.region gso_built_r2 false) (.block 0 (.loop gso_built_l0))) (.seq (.region gso_built_r24 false) (.ret))))
theorem gso_built_ok : fchk Pr (fun _ _ => false) Tryd.f42 = some (gso_built_c, [.cell 2 (some 2), .tmp 3], 114) := by kernel_rfl
theorem gso_built_fn : Pr.funcs[F_gso_built]? = some Tryd.f42 := Tryd.func42
/-! unicode/utf8.RuneCountInString -/
def unicode_utf8_RuneCountInString_r0 : List AIns := [⟨some 2, none, .p (.mv (.c (.int .i64 0)))⟩]
def unicode_utf8_RuneCountInString_r1 : List AIns := [⟨some 7, none, .p (.mv (.t 2))⟩,
  ⟨some 8, none, .p (.bin .add (.t 7) (.c (.int .i64 1)))⟩,
  ⟨some 2, none, .p (.mv (.t 8))⟩]
def unicode_utf8_RuneCountInString_l0 : ACode := .seq (.bad) (.seq (.cond (.t 6) (.skip) (.exit 0)) (.block 1 (.region unicode_utf8_RuneCountInString_r1 false)))
def unicode_utf8_RuneCountInString_r2 : List AIns := [⟨some 9, none, .p (.mv (.t 2))⟩,
  ⟨some 2, none, .p (.mv (.t 9))⟩]
def unicode_utf8_RuneCountInString_c : ACode := .seq (.region unicode_utf8_RuneCountInString_r0 false) (.seq (.seq (.bad) (.block 0 (.loop unicode_utf8_RuneCountInString_l0))) (.seq (.region unicode_utf8_RuneCountInString_r2 false) (.ret)))
theorem unicode_utf8_RuneCountInString_ok : fchk Pr (fun _ _ => false) Tryd.f43 = some (unicode_utf8_RuneCountInString_c, [.tmp 2], 10) := by kernel_rfl
theorem unicode_utf8_RuneCountInString_fn : Pr.funcs[F_unicode_utf8_RuneCountInString]? = some Tryd.f43 := Tryd.func43
/-! unicode/utf8.DecodeRuneInString -/
def unicode_utf8_DecodeRuneInString_r0 : List AIns := [⟨some 2, none, .p (.mv (.c (.int .i32 0)))⟩,
  ⟨some 3, none, .p (.mv (.c (.int .i64 0)))⟩]
def unicode_utf8_DecodeRuneInString_r1 : List AIns := [⟨some 4, none, .p (.mv (.t 0))⟩,
  ⟨some 5, none, .p (.bin .neq (.t 4) (.c (.str ⟨#[]⟩)))⟩,
  ⟨some 6, none, .p (.mv (.t 5))⟩,
  ⟨some 7, some (6, true), .p (.mv (.t 0))⟩,
  ⟨some 8, some (6, true), .p (.idxs (.t 7) (.c (.int .i64 0)))⟩,
  ⟨some 9, some (6, true), .p (.bin .lss (.t 8) (.c (.int .u8 128)))⟩,
  ⟨some 10, none, .p (.pick (.t 6) (.t 9) (.c (.bool false)))⟩]
def unicode_utf8_DecodeRuneInString_r2 : List AIns := [⟨some 11, none, .p (.mv (.t 0))⟩,
  ⟨some 12, none, .p (.idxs (.t 11) (.c (.int .i64 0)))⟩,
  ⟨some 13, none, .p (.conv .i32 (.t 12))⟩,
  ⟨some 2, none, .p (.mv (.t 13))⟩,
  ⟨some 3, none, .p (.mv (.c (.int .i64 1)))⟩]
def unicode_utf8_DecodeRuneInString_r3 : List AIns := [⟨some 15, none, .p (.mv (.t 0))⟩,
  ⟨some 16, none, .call F_unicode_utf8_decodeRuneInStringSlow [(.t 15)]⟩,
  ⟨some 14, none, .p (.mv (.t 16))⟩,
  ⟨some 17, none, .p (.ext (.t 14) 0)⟩,
  ⟨some 18, none, .p (.ext (.t 14) 1)⟩,
  ⟨some 2, none, .p (.mv (.t 17))⟩,
  ⟨some 3, none, .p (.mv (.t 18))⟩]
def unicode_utf8_DecodeRuneInString_c : ACode := .seq (.region unicode_utf8_DecodeRuneInString_r0 false) (.seq (.seq (.region unicode_utf8_DecodeRuneInString_r1 false) (.cond (.t 10) (.seq (.region unicode_utf8_DecodeRuneInString_r2 false) (.ret)) (.region unicode_utf8_DecodeRuneInString_r3 false))) (.ret))
theorem unicode_utf8_DecodeRuneInString_ok : fchk Pr (fun _ _ => false) Tryd.f44 = some (unicode_utf8_DecodeRuneInString_c, [.tmp 2, .tmp 3], 19) := by kernel_rfl
theorem unicode_utf8_DecodeRuneInString_fn : Pr.funcs[F_unicode_utf8_DecodeRuneInString]? = some Tryd.f44 := Tryd.func44
/-! mat.Bits -/
def mat_Bits_r0 : List AIns := [⟨some 2, none, .p (.mv (.c (.int .i64 0)))⟩]
def mat_Bits_r1 : List AIns := [⟨some 3, none, .p (.mv (.c (.int .i64 0)))⟩]
def mat_Bits_r2 : List AIns := [⟨some 8, none, .p (.mv (.t 0))⟩,
  ⟨some 9, none, .p (.len (.t 8))⟩,
  ⟨some 10, none, .p (.mv (.c (.int .i64 0)))⟩]
def mat_Bits_r3 : List AIns := [⟨some 11, none, .p (.bin .lss (.t 10) (.t 9))⟩]
def mat_Bits_r4 : List AIns := [⟨some 12, none, .p (.idxp 1 (.t 8) (.t 10))⟩,
  ⟨some 13, none, .p (.load none (.t 12))⟩,
  ⟨some 5, none, .p (.mv (.t 13))⟩]
def mat_Bits_r5 : List AIns := [⟨some 14, none, .p (.mv (.t 5))⟩,
  ⟨some 15, none, .p (.len (.t 14))⟩,
  ⟨some 16, none, .p (.mv (.c (.int .i64 0)))⟩]
def mat_Bits_r6 : List AIns := [⟨some 17, none, .p (.bin .lss (.t 16) (.t 15))⟩]
def mat_Bits_r7 : List AIns := [⟨some 18, none, .p (.idxp 2 (.t 14) (.t 16))⟩,
  ⟨some 19, none, .p (.load (some 2) (.t 18))⟩,
  ⟨some 7, none, .e (.box 2 (.c (.agg [.bool false, .nil])))⟩,
  ⟨none, none, .e (.store 2 (.t 7) (.t 19))⟩]
def mat_Bits_r8 : List AIns := [⟨some 20, none, .p (.mv (.t 3))⟩,
  ⟨some 21, none, .p (.load (some 2) (.t 7))⟩,
  ⟨some 22, none, .call F_zint_Bits [(.t 21)]⟩,
  ⟨some 23, none, .p (.mnx true (.t 20) (.t 22))⟩,
  ⟨some 3, none, .p (.mv (.t 23))⟩]
def mat_Bits_r9 : List AIns := [⟨some 24, none, .p (.bin .add (.t 16) (.c (.int .i64 1)))⟩,
  ⟨some 16, none, .p (.mv (.t 24))⟩]
def mat_Bits_l1 : ACode := .seq (.region mat_Bits_r6 false) (.seq (.cond (.t 17) (.skip) (.exit 2)) (.seq (.block 3 (.seq (.region mat_Bits_r7 false) (.region mat_Bits_r8 false))) (.region mat_Bits_r9 false)))
def mat_Bits_r10 : List AIns := [⟨some 25, none, .p (.bin .add (.t 10) (.c (.int .i64 1)))⟩,
  ⟨some 10, none, .p (.mv (.t 25))⟩]
def mat_Bits_l0 : ACode := .seq (.region mat_Bits_r3 false) (.seq (.cond (.t 11) (.skip) (.exit 0)) (.seq (.block 1 (.seq (.region mat_Bits_r4 false) (.seq (.region mat_Bits_r5 false) (.block 2 (.loop mat_Bits_l1))))) (.region mat_Bits_r10 false)))
def mat_Bits_r11 : List AIns := [⟨some 26, none, .p (.mv (.t 3))⟩,
  ⟨some 2, none, .p (.mv (.t 26))⟩]
def mat_Bits_c : ACode := .seq (.region mat_Bits_r0 false) (.seq (.region mat_Bits_r1 false) (.seq (.seq (.region mat_Bits_r2 false) (.block 0 (.loop mat_Bits_l0))) (.seq (.region mat_Bits_r11 false) (.ret))))
theorem mat_Bits_ok : fchk Pr (fun _ _ => false) Tryd.f46 = some (mat_Bits_c, [.tmp 2], 27) := by kernel_rfl
theorem mat_Bits_fn : Pr.funcs[F_mat_Bits]? = some Tryd.f46 := Tryd.func46
/-! mat.Shape -/
def mat_Shape_r0 : List AIns := [⟨some 2, none, .p (.mv (.c (.int .i64 0)))⟩,
  ⟨some 3, none, .p (.mv (.c (.int .i64 0)))⟩,
  ⟨some 4, none, .p (.mv (.c (.int .i64 0)))⟩]
def mat_Shape_r1 : List AIns := [⟨some 7, none, .p (.mv (.t 0))⟩,
  ⟨some 8, none, .p (.len (.t 7))⟩,
  ⟨some 9, none, .p (.bin .eql (.t 8) (.c (.int .i64 0)))⟩]
def mat_Shape_r2 : List AIns := [⟨some 2, none, .p (.mv (.c (.int .i64 0)))⟩,
  ⟨some 3, none, .p (.mv (.c (.int .i64 0)))⟩,
  ⟨some 4, none, .p (.mv (.c (.int .i64 0)))⟩]
def mat_Shape_r3 : List AIns := [⟨some 10, none, .p (.mv (.t 0))⟩,
  ⟨some 11, none, .p (.len (.t 10))⟩,
  ⟨some 12, none, .p (.mv (.c (.int .i64 0)))⟩]
def mat_Shape_r4 : List AIns := [⟨some 13, none, .p (.bin .lss (.t 12) (.t 11))⟩]
def mat_Shape_r5 : List AIns := [⟨some 14, none, .p (.idxp 1 (.t 10) (.t 12))⟩,
  ⟨some 15, none, .p (.load none (.t 14))⟩,
  ⟨some 6, none, .p (.mv (.t 15))⟩]
def mat_Shape_r6 : List AIns := [⟨some 16, none, .p (.mv (.t 6))⟩,
  ⟨some 17, none, .p (.len (.t 16))⟩,
  ⟨some 18, none, .p (.mv (.t 0))⟩,
  ⟨some 19, none, .p (.idxp 1 (.t 18) (.c (.int .i64 0)))⟩,
  ⟨some 20, none, .p (.load none (.t 19))⟩,
  ⟨some 21, none, .p (.len (.t 20))⟩,
  ⟨some 22, none, .p (.bin .neq (.t 17) (.t 21))⟩]
def mat_Shape_r7 : List AIns := [⟨some 2, none, .p (.mv (.c (.int .i64 0)))⟩,
  ⟨some 3, none, .p (.mv (.c (.int .i64 0)))⟩,
  ⟨some 4, none, .p (.mv (.c (.int .i64 8)))⟩]
def mat_Shape_r8 : List AIns := [⟨some 23, none, .p (.bin .add (.t 12) (.c (.int .i64 1)))⟩,
  ⟨some 12, none, .p (.mv (.t 23))⟩]
def mat_Shape_l0 : ACode := .seq (.region mat_Shape_r4 false) (.seq (.cond (.t 13) (.skip) (.exit 0)) (.seq (.block 1 (.seq (.region mat_Shape_r5 false) (.seq (.region mat_Shape_r6 false) (.cond (.t 22) (.seq (.region mat_Shape_r7 false) (.ret)) (.skip))))) (.region mat_Shape_r8 false)))
def mat_Shape_r9 : List AIns := [⟨some 24, none, .p (.mv (.t 0))⟩,
  ⟨some 25, none, .p (.len (.t 24))⟩,
  ⟨some 26, none, .p (.mv (.t 0))⟩,
  ⟨some 27, none, .p (.idxp 1 (.t 26) (.c (.int .i64 0)))⟩,
  ⟨some 28, none, .p (.load none (.t 27))⟩,
  ⟨some 29, none, .p (.len (.t 28))⟩,
  ⟨some 2, none, .p (.mv (.t 25))⟩,
  ⟨some 3, none, .p (.mv (.t 29))⟩,
  ⟨some 4, none, .p (.mv (.c (.int .i64 0)))⟩]
def mat_Shape_c : ACode := .seq (.region mat_Shape_r0 false) (.seq (.seq (.region mat_Shape_r1 false) (.cond (.t 9) (.seq (.region mat_Shape_r2 false) (.ret)) (.skip))) (.seq (.seq (.region mat_Shape_r3 false) (.block 0 (.loop mat_Shape_l0))) (.seq (.region mat_Shape_r9 true) (.ret))))
theorem mat_Shape_ok : fchk Pr (fun _ _ => false) Tryd.f47 = some (mat_Shape_c, [.tmp 2, .tmp 3, .tmp 4], 30) := by kernel_rfl
theorem mat_Shape_fn : Pr.funcs[F_mat_Shape]? = some Tryd.f47 := Tryd.func47
/-! zint.Of -/
def zint_Of_r0 : List AIns := [⟨some 2, none, .e (.box 2 (.c (.agg [.bool false, .nil])))⟩]
def zint_Of_r1 : List AIns := [⟨some 4, none, .p (.mv (.t 0))⟩,
  ⟨some 5, none, .p (.conv .u64 (.t 4))⟩,
  ⟨some 3, none, .p (.mv (.t 5))⟩]
def zint_Of_r2 : List AIns := [⟨some 6, none, .p (.mv (.t 0))⟩,
  ⟨some 7, none, .p (.bin .lss (.t 6) (.c (.int .i64 0)))⟩]
def zint_Of_r3 : List AIns := [⟨some 8, none, .p (.mv (.t 3))⟩,
  ⟨some 9, none, .p (.un .neg (.t 8))⟩,
  ⟨some 3, none, .p (.mv (.t 9))⟩]
def zint_Of_r4 : List AIns := [⟨some 10, none, .p (.mv (.t 0))⟩,
  ⟨some 11, none, .p (.bin .lss (.t 10) (.c (.int .i64 0)))⟩,
  ⟨some 12, none, .p (.mv (.t 3))⟩,
  ⟨some 13, none, .p (.conv .u32 (.t 12))⟩,
  ⟨some 14, none, .p (.mv (.t 3))⟩,
  ⟨some 15, none, .p (.bin .shr (.t 14) (.c (.int .u64 32)))⟩,
  ⟨some 16, none, .p (.conv .u32 (.t 15))⟩,
  ⟨some 17, none, .e (.bsl 1 [(.t 13), (.t 16)])⟩,
  ⟨some 18, none, .call F_zint_made [(.t 11), (.t 17)]⟩,
  ⟨none, none, .e (.store 2 (.t 2) (.t 18))⟩]
def zint_Of_c : ACode := .seq (.region zint_Of_r0 false) (.seq (.region zint_Of_r1 false) (.seq (.seq (.region zint_Of_r2 false) (.cond (.t 7) (.region zint_Of_r3 false) (.skip))) (.seq (.region zint_Of_r4 false) (.ret))))
theorem zint_Of_ok : fchk Pr (fun _ _ => false) Tryd.f48 = some (zint_Of_c, [.cell 2 (some 2)], 19) := by kernel_rfl
theorem zint_Of_fn : Pr.funcs[F_zint_Of]? = some Tryd.f48 := Tryd.func48
/-! mat.Dot -/
def mat_Dot_r0 : List AIns := [⟨some 4, none, .e (.box 2 (.c (.agg [.bool false, .nil])))⟩,
  ⟨some 5, none, .p (.mv (.c (.int .i64 0)))⟩]
def mat_Dot_r1 : List AIns := [⟨some 6, none, .p (.mv (.t 0))⟩,
  ⟨some 7, none, .p (.len (.t 6))⟩,
  ⟨some 8, none, .p (.mv (.t 1))⟩,
  ⟨some 9, none, .p (.len (.t 8))⟩,
  ⟨some 10, none, .p (.bin .neq (.t 7) (.t 9))⟩]
def mat_Dot_r2 : List AIns := [⟨some 11, none, .p (.bld [.bool false, .nil] [])⟩,
  ⟨none, none, .e (.store 2 (.t 4) (.t 11))⟩,
  ⟨some 5, none, .p (.mv (.c (.int .i64 8)))⟩]
def mat_Dot_r3 : List AIns := [⟨some 12, none, .p (.mv (.t 0))⟩,
  ⟨some 13, none, .p (.mv (.t 1))⟩,
  ⟨some 14, none, .call F_mat_dot [(.t 12), (.t 13)]⟩,
  ⟨none, none, .e (.store 2 (.t 4) (.t 14))⟩,
  ⟨some 5, none, .p (.mv (.c (.int .i64 0)))⟩]
def mat_Dot_c : ACode := .seq (.region mat_Dot_r0 false) (.seq (.seq (.region mat_Dot_r1 false) (.cond (.t 10) (.seq (.region mat_Dot_r2 false) (.ret)) (.skip))) (.seq (.region mat_Dot_r3 false) (.ret)))
theorem mat_Dot_ok : fchk Pr (fun _ _ => false) Tryd.f49 = some (mat_Dot_c, [.cell 4 (some 2), .tmp 5], 15) := by kernel_rfl
theorem mat_Dot_fn : Pr.funcs[F_mat_Dot]? = some Tryd.f49 := Tryd.func49
/-! zint.Sub -/
def zint_Sub_r0 : List AIns := [⟨some 2, none, .e (.box 2 (.t 0))⟩,
  ⟨some 3, none, .e (.box 2 (.t 1))⟩,
  ⟨some 4, none, .e (.box 2 (.c (.agg [.bool false, .nil])))⟩]
def zint_Sub_r1 : List AIns := [⟨some 5, none, .p (.load (some 2) (.t 2))⟩,
  ⟨some 6, none, .p (.load (some 2) (.t 3))⟩,
  ⟨some 7, none, .call F_zint_Neg [(.t 6)]⟩,
  ⟨some 8, none, .call F_zint_Add [(.t 5), (.t 7)]⟩,
  ⟨none, none, .e (.store 2 (.t 4) (.t 8))⟩]
def zint_Sub_c : ACode := .seq (.region zint_Sub_r0 false) (.seq (.region zint_Sub_r1 true) (.ret))
theorem zint_Sub_ok : fchk Pr (fun _ _ => false) Tryd.f50 = some (zint_Sub_c, [.cell 4 (some 2)], 9) := by kernel_rfl
theorem zint_Sub_fn : Pr.funcs[F_zint_Sub]? = some Tryd.f50 := Tryd.func50
/-! zint.Mul -/
def zint_Mul_r0 : List AIns := [⟨some 2, none, .e (.box 2 (.t 0))⟩,
  ⟨some 3, none, .e (.box 2 (.t 1))⟩,
  ⟨some 4, none, .e (.box 2 (.c (.agg [.bool false, .nil])))⟩]
def zint_Mul_r1 : List AIns := [⟨some 5, none, .p (.fldp (.t 2) 0)⟩,
  ⟨some 6, none, .p (.load none (.t 5))⟩,
  ⟨some 7, none, .p (.fldp (.t 3) 0)⟩,
  ⟨some 8, none, .p (.load none (.t 7))⟩,
  ⟨some 9, none, .p (.beq true (.t 6) (.t 8))⟩,
  ⟨some 10, none, .p (.fldp (.t 2) 1)⟩,
  ⟨some 11, none, .p (.load none (.t 10))⟩,
  ⟨some 12, none, .p (.fldp (.t 3) 1)⟩,
  ⟨some 13, none, .p (.load none (.t 12))⟩,
  ⟨some 14, none, .call F_nat_Mul [(.t 11), (.t 13)]⟩,
  ⟨some 15, none, .call F_zint_made [(.t 9), (.t 14)]⟩,
  ⟨none, none, .e (.store 2 (.t 4) (.t 15))⟩]
def zint_Mul_c : ACode := .seq (.region zint_Mul_r0 false) (.seq (.region zint_Mul_r1 true) (.ret))
theorem zint_Mul_ok : fchk Pr (fun _ _ => false) Tryd.f51 = some (zint_Mul_c, [.cell 4 (some 2)], 16) := by kernel_rfl
theorem zint_Mul_fn : Pr.funcs[F_zint_Mul]? = some Tryd.f51 := Tryd.func51
/-! zint.Floor -/
def zint_Floor_r0 : List AIns := [⟨some 2, none, .e (.box 2 (.t 0))⟩,
  ⟨some 3, none, .e (.box 2 (.t 1))⟩,
  ⟨some 4, none, .e (.box 2 (.c (.agg [.bool false, .nil])))⟩,
  ⟨some 5, none, .e (.box 2 (.c (.agg [.bool false, .nil])))⟩,
  ⟨some 6, none, .p (.mv (.c (.int .i64 0)))⟩]
def zint_Floor_r1 : List AIns := [⟨some 13, none, .p (.fldp (.t 2) 1)⟩,
  ⟨some 14, none, .p (.load none (.t 13))⟩,
  ⟨some 15, none, .p (.fldp (.t 3) 1)⟩,
  ⟨some 16, none, .p (.load none (.t 15))⟩,
  ⟨some 17, none, .call F_nat_Div [(.t 14), (.t 16)]⟩,
  ⟨some 12, none, .p (.mv (.t 17))⟩,
  ⟨some 18, none, .p (.ext (.t 12) 0)⟩,
  ⟨some 19, none, .p (.ext (.t 12) 1)⟩,
  ⟨some 20, none, .p (.ext (.t 12) 2)⟩,
  ⟨some 7, none, .p (.mv (.t 18))⟩,
  ⟨some 8, none, .p (.mv (.t 19))⟩,
  ⟨some 9, none, .p (.mv (.t 20))⟩]
def zint_Floor_r2 : List AIns := [⟨some 21, none, .p (.mv (.t 9))⟩,
  ⟨some 22, none, .p (.bin .neq (.t 21) (.c (.int .i64 0)))⟩]
def zint_Floor_r3 : List AIns := [⟨some 23, none, .p (.bld [.bool false, .nil] [])⟩,
  ⟨some 24, none, .p (.bld [.bool false, .nil] [])⟩,
  ⟨none, none, .e (.store 2 (.t 4) (.t 23))⟩,
  ⟨none, none, .e (.store 2 (.t 5) (.t 24))⟩,
  ⟨some 6, none, .p (.mv (.c (.int .i64 11)))⟩]
def zint_Floor_r4 : List AIns := [⟨some 25, none, .p (.fldp (.t 2) 0)⟩,
  ⟨some 26, none, .p (.load none (.t 25))⟩,
  ⟨some 27, none, .p (.fldp (.t 3) 0)⟩,
  ⟨some 28, none, .p (.load none (.t 27))⟩,
  ⟨some 29, none, .p (.beq true (.t 26) (.t 28))⟩,
  ⟨some 30, none, .p (.mv (.t 7))⟩,
  ⟨some 31, none, .call F_zint_made [(.t 29), (.t 30)]⟩,
  ⟨some 32, none, .p (.fldp (.t 2) 0)⟩,
  ⟨some 33, none, .p (.load none (.t 32))⟩,
  ⟨some 34, none, .p (.mv (.t 8))⟩,
  ⟨some 35, none, .call F_zint_made [(.t 33), (.t 34)]⟩]
def zint_Floor_r4a : List AIns := [⟨some 10, none, .e (.box 2 (.c (.agg [.bool false, .nil])))⟩,
  ⟨some 11, none, .e (.box 2 (.c (.agg [.bool false, .nil])))⟩,
  ⟨none, none, .e (.store 2 (.t 10) (.t 31))⟩,
  ⟨none, none, .e (.store 2 (.t 11) (.t 35))⟩]
def zint_Floor_r4b : List AIns := [⟨some 11, none, .e (.box 2 (.c (.agg [.bool false, .nil])))⟩,
  ⟨some 10, none, .e (.box 2 (.c (.agg [.bool false, .nil])))⟩,
  ⟨none, none, .e (.store 2 (.t 10) (.t 31))⟩,
  ⟨none, none, .e (.store 2 (.t 11) (.t 35))⟩]
def zint_Floor_r5 : List AIns := [⟨some 36, none, .p (.load (some 2) (.t 11))⟩,
  ⟨some 37, none, .call F_zint_Sign [(.t 36)]⟩,
  ⟨some 38, none, .p (.bin .neq (.t 37) (.c (.int .i64 0)))⟩,
  ⟨some 39, none, .p (.mv (.t 38))⟩,
  ⟨some 40, some (39, true), .p (.load (some 2) (.t 11))⟩,
  ⟨some 41, some (39, true), .call F_zint_Sign [(.t 40)]⟩,
  ⟨some 42, some (39, true), .p (.load (some 2) (.t 3))⟩,
  ⟨some 43, some (39, true), .call F_zint_Sign [(.t 42)]⟩,
  ⟨some 44, some (39, true), .p (.bin .neq (.t 41) (.t 43))⟩,
  ⟨some 45, none, .p (.pick (.t 39) (.t 44) (.c (.bool false)))⟩]
def zint_Floor_r6 : List AIns := [⟨some 46, none, .p (.load (some 2) (.t 10))⟩,
  ⟨some 47, none, .call F_zint_Of [(.c (.int .i64 1))]⟩,
  ⟨some 48, none, .call F_zint_Sub [(.t 46), (.t 47)]⟩,
  ⟨some 49, none, .p (.load (some 2) (.t 11))⟩,
  ⟨some 50, none, .p (.load (some 2) (.t 3))⟩,
  ⟨some 51, none, .call F_zint_Add [(.t 49), (.t 50)]⟩,
  ⟨none, none, .e (.store 2 (.t 10) (.t 48))⟩,
  ⟨none, none, .e (.store 2 (.t 11) (.t 51))⟩]
def zint_Floor_r7 : List AIns := [⟨some 52, none, .p (.load (some 2) (.t 10))⟩,
  ⟨some 53, none, .p (.load (some 2) (.t 11))⟩,
  ⟨none, none, .e (.store 2 (.t 4) (.t 52))⟩,
  ⟨none, none, .e (.store 2 (.t 5) (.t 53))⟩,
  ⟨some 6, none, .p (.mv (.c (.int .i64 0)))⟩]
def zint_Floor_r7a : List AIns := []
def zint_Floor_r7b : List AIns := []
def zint_Floor_c : ACode := .seq (.region zint_Floor_r0 false) (.seq (.region zint_Floor_r1 false) (.seq (.seq (.region zint_Floor_r2 false) (.cond (.t 22) (.seq (.region zint_Floor_r3 false) (.ret)) (.skip))) (.seq (.regionX zint_Floor_r4 zint_Floor_r4a zint_Floor_r4b []) (.seq (.seq (.region zint_Floor_r5 true) (.cond (.t 45) (.region zint_Floor_r6 true) (.skip))) (.seq (.regionX zint_Floor_r7 zint_Floor_r7a zint_Floor_r7b [(11, 4)]) (.ret))))))
theorem zint_Floor_ok : fchk Pr (fun _ _ => false) Tryd.f52 = some (zint_Floor_c, [.cell 4 (some 2), .cell 5 (some 2), .tmp 6], 54) := by kernel_rfl
theorem zint_Floor_fn : Pr.funcs[F_zint_Floor]? = some Tryd.f52 := Tryd.func52
/-! zint.Sign -/
def zint_Sign_r0 : List AIns := [⟨some 1, none, .e (.box 2 (.t 0))⟩,
  ⟨some 2, none, .p (.mv (.c (.int .i64 0)))⟩]
def zint_Sign_r1 : List AIns := [⟨some 4, none, .p (.fldp (.t 1) 1)⟩,
  ⟨some 5, none, .p (.load none (.t 4))⟩,
  ⟨some 6, none, .call F_nat_Bits [(.t 5)]⟩,
  ⟨some 7, none, .p (.bin .eql (.t 6) (.c (.int .i64 0)))⟩,
  ⟨some 3, none, .p (.mv (.t 7))⟩]
def zint_Sign_r2 : List AIns := [⟨some 2, none, .p (.mv (.c (.int .i64 0)))⟩]
def zint_Sign_r3 : List AIns := [⟨some 9, none, .p (.fldp (.t 1) 0)⟩,
  ⟨some 10, none, .p (.load none (.t 9))⟩,
  ⟨some 8, none, .p (.mv (.t 10))⟩]
def zint_Sign_r4 : List AIns := [⟨some 2, none, .p (.mv (.c (.int .i64 (-1))))⟩]
def zint_Sign_r5 : List AIns := [⟨some 2, none, .p (.mv (.c (.int .i64 1)))⟩]
def zint_Sign_c : ACode := .seq (.region zint_Sign_r0 false) (.seq (.block 0 (.seq (.region zint_Sign_r1 false) (.cond (.t 3) (.seq (.region zint_Sign_r2 false) (.ret)) (.seq (.region zint_Sign_r3 false) (.cond (.t 8) (.seq (.region zint_Sign_r4 false) (.ret)) (.skip)))))) (.seq (.region zint_Sign_r5 false) (.ret)))
theorem zint_Sign_ok : fchk Pr (fun _ _ => false) Tryd.f53 = some (zint_Sign_c, [.tmp 2], 11) := by kernel_rfl
theorem zint_Sign_fn : Pr.funcs[F_zint_Sign]? = some Tryd.f53 := Tryd.func53
/-! unicode/utf8.decodeRuneInStringSlow -/
def unicode_utf8_decodeRuneInStringSlow_r0 : List AIns := [⟨some 2, none, .p (.mv (.c (.int .i32 0)))⟩,
  ⟨some 3, none, .p (.mv (.c (.int .i64 0)))⟩]
def unicode_utf8_decodeRuneInStringSlow_r1 : List AIns := [⟨some 13, none, .p (.mv (.t 0))⟩,
  ⟨some 14, none, .p (.lens (.t 13))⟩,
  ⟨some 4, none, .p (.mv (.t 14))⟩]
def unicode_utf8_decodeRuneInStringSlow_r2 : List AIns := [⟨some 15, none, .p (.mv (.t 4))⟩,
  ⟨some 16, none, .p (.bin .lss (.t 15) (.c (.int .i64 1)))⟩]
def unicode_utf8_decodeRuneInStringSlow_r3 : List AIns := [⟨some 2, none, .p (.mv (.c (.int .i32 65533)))⟩,
  ⟨some 3, none, .p (.mv (.c (.int .i64 0)))⟩]
def unicode_utf8_decodeRuneInStringSlow_r4 : List AIns := [⟨some 17, none, .p (.mv (.t 0))⟩,
  ⟨some 18, none, .p (.idxs (.t 17) (.c (.int .i64 0)))⟩,
  ⟨some 5, none, .p (.mv (.t 18))⟩]
def unicode_utf8_decodeRuneInStringSlow_r5 : List AIns := [⟨some 22, none, .p (.mv (.t 6))⟩,
  ⟨some 23, none, .p (.bin .geq (.t 22) (.c (.int .u8 240)))⟩]
def unicode_utf8_decodeRuneInStringSlow_r6 : List AIns := [⟨some 24, none, .p (.mv (.t 6))⟩,
  ⟨some 25, none, .p (.conv .i32 (.t 24))⟩,
  ⟨some 26, none, .p (.bin .shl (.t 25) (.c (.int .u64 31)))⟩,
  ⟨some 27, none, .p (.bin .shr (.t 26) (.c (.int .u64 31)))⟩,
  ⟨some 7, none, .p (.mv (.t 27))⟩]
def unicode_utf8_decodeRuneInStringSlow_r7 : List AIns := [⟨some 28, none, .p (.mv (.t 0))⟩,
  ⟨some 29, none, .p (.idxs (.t 28) (.c (.int .i64 0)))⟩,
  ⟨some 30, none, .p (.conv .i32 (.t 29))⟩,
  ⟨some 31, none, .p (.mv (.t 7))⟩,
  ⟨some 32, none, .p (.bin .andNot (.t 30) (.t 31))⟩,
  ⟨some 33, none, .p (.mv (.t 7))⟩,
  ⟨some 34, none, .p (.bin .and (.c (.int .i32 65533)) (.t 33))⟩,
  ⟨some 35, none, .p (.bin .or (.t 32) (.t 34))⟩,
  ⟨some 2, none, .p (.mv (.t 35))⟩,
  ⟨some 3, none, .p (.mv (.c (.int .i64 1)))⟩]
def unicode_utf8_decodeRuneInStringSlow_r8 : List AIns := [⟨some 36, none, .p (.mv (.t 6))⟩,
  ⟨some 37, none, .p (.bin .and (.t 36) (.c (.int .u8 7)))⟩,
  ⟨some 38, none, .p (.conv .i64 (.t 37))⟩,
  ⟨some 8, none, .p (.mv (.t 38))⟩]
def unicode_utf8_decodeRuneInStringSlow_r9 : List AIns := [⟨some 43, none, .p (.mv (.t 4))⟩,
  ⟨some 44, none, .p (.mv (.t 8))⟩,
  ⟨some 45, none, .p (.bin .lss (.t 43) (.t 44))⟩]
def unicode_utf8_decodeRuneInStringSlow_r10 : List AIns := [⟨some 2, none, .p (.mv (.c (.int .i32 65533)))⟩,
  ⟨some 3, none, .p (.mv (.c (.int .i64 1)))⟩]
def unicode_utf8_decodeRuneInStringSlow_r11 : List AIns := [⟨some 46, none, .p (.mv (.t 0))⟩,
  ⟨some 47, none, .p (.idxs (.t 46) (.c (.int .i64 1)))⟩,
  ⟨some 10, none, .p (.mv (.t 47))⟩]
def unicode_utf8_decodeRuneInStringSlow_r12 : List AIns := [⟨some 48, none, .p (.mv (.t 10))⟩,
  ⟨some 49, none, .p (.fldp (.t 9) 0)⟩,
  ⟨some 50, none, .p (.load none (.t 49))⟩,
  ⟨some 51, none, .p (.bin .lss (.t 48) (.t 50))⟩,
  ⟨some 52, none, .p (.mv (.t 51))⟩,
  ⟨some 53, some (52, false), .p (.fldp (.t 9) 1)⟩,
  ⟨some 54, some (52, false), .p (.load none (.t 53))⟩,
  ⟨some 55, some (52, false), .p (.mv (.t 10))⟩,
  ⟨some 56, some (52, false), .p (.bin .lss (.t 54) (.t 55))⟩,
  ⟨some 57, none, .p (.pick (.t 52) (.c (.bool true)) (.t 56))⟩]
def unicode_utf8_decodeRuneInStringSlow_r13 : List AIns := [⟨some 2, none, .p (.mv (.c (.int .i32 65533)))⟩,
  ⟨some 3, none, .p (.mv (.c (.int .i64 1)))⟩]
def unicode_utf8_decodeRuneInStringSlow_r14 : List AIns := [⟨some 58, none, .p (.mv (.t 8))⟩,
  ⟨some 59, none, .p (.bin .leq (.t 58) (.c (.int .i64 2)))⟩]
def unicode_utf8_decodeRuneInStringSlow_r15 : List AIns := [⟨some 60, none, .p (.mv (.t 5))⟩,
  ⟨some 61, none, .p (.bin .and (.t 60) (.c (.int .u8 31)))⟩,
  ⟨some 62, none, .p (.conv .i32 (.t 61))⟩,
  ⟨some 63, none, .p (.bin .shl (.t 62) (.c (.int .u64 6)))⟩,
  ⟨some 64, none, .p (.mv (.t 10))⟩,
  ⟨some 65, none, .p (.bin .and (.t 64) (.c (.int .u8 63)))⟩,
  ⟨some 66, none, .p (.conv .i32 (.t 65))⟩,
  ⟨some 67, none, .p (.bin .or (.t 63) (.t 66))⟩,
  ⟨some 2, none, .p (.mv (.t 67))⟩,
  ⟨some 3, none, .p (.mv (.c (.int .i64 2)))⟩]
def unicode_utf8_decodeRuneInStringSlow_r16 : List AIns := [⟨some 68, none, .p (.mv (.t 0))⟩,
  ⟨some 69, none, .p (.idxs (.t 68) (.c (.int .i64 2)))⟩,
  ⟨some 11, none, .p (.mv (.t 69))⟩]
def unicode_utf8_decodeRuneInStringSlow_r17 : List AIns := [⟨some 70, none, .p (.mv (.t 11))⟩,
  ⟨some 71, none, .p (.bin .lss (.t 70) (.c (.int .u8 128)))⟩,
  ⟨some 72, none, .p (.mv (.t 71))⟩,
  ⟨some 73, some (72, false), .p (.mv (.t 11))⟩,
  ⟨some 74, some (72, false), .p (.bin .lss (.c (.int .u8 191)) (.t 73))⟩,
  ⟨some 75, none, .p (.pick (.t 72) (.c (.bool true)) (.t 74))⟩]
def unicode_utf8_decodeRuneInStringSlow_r18 : List AIns := [⟨some 2, none, .p (.mv (.c (.int .i32 65533)))⟩,
  ⟨some 3, none, .p (.mv (.c (.int .i64 1)))⟩]
def unicode_utf8_decodeRuneInStringSlow_r19 : List AIns := [⟨some 76, none, .p (.mv (.t 8))⟩,
  ⟨some 77, none, .p (.bin .leq (.t 76) (.c (.int .i64 3)))⟩]
def unicode_utf8_decodeRuneInStringSlow_r20 : List AIns := [⟨some 78, none, .p (.mv (.t 5))⟩,
  ⟨some 79, none, .p (.bin .and (.t 78) (.c (.int .u8 15)))⟩,
  ⟨some 80, none, .p (.conv .i32 (.t 79))⟩,
  ⟨some 81, none, .p (.bin .shl (.t 80) (.c (.int .u64 12)))⟩,
  ⟨some 82, none, .p (.mv (.t 10))⟩,
  ⟨some 83, none, .p (.bin .and (.t 82) (.c (.int .u8 63)))⟩,
  ⟨some 84, none, .p (.conv .i32 (.t 83))⟩,
  ⟨some 85, none, .p (.bin .shl (.t 84) (.c (.int .u64 6)))⟩,
  ⟨some 86, none, .p (.bin .or (.t 81) (.t 85))⟩,
  ⟨some 87, none, .p (.mv (.t 11))⟩,
  ⟨some 88, none, .p (.bin .and (.t 87) (.c (.int .u8 63)))⟩,
  ⟨some 89, none, .p (.conv .i32 (.t 88))⟩,
  ⟨some 90, none, .p (.bin .or (.t 86) (.t 89))⟩,
  ⟨some 2, none, .p (.mv (.t 90))⟩,
  ⟨some 3, none, .p (.mv (.c (.int .i64 3)))⟩]
def unicode_utf8_decodeRuneInStringSlow_r21 : List AIns := [⟨some 91, none, .p (.mv (.t 0))⟩,
  ⟨some 92, none, .p (.idxs (.t 91) (.c (.int .i64 3)))⟩,
  ⟨some 12, none, .p (.mv (.t 92))⟩]
def unicode_utf8_decodeRuneInStringSlow_r22 : List AIns := [⟨some 93, none, .p (.mv (.t 12))⟩,
  ⟨some 94, none, .p (.bin .lss (.t 93) (.c (.int .u8 128)))⟩,
  ⟨some 95, none, .p (.mv (.t 94))⟩,
  ⟨some 96, some (95, false), .p (.mv (.t 12))⟩,
  ⟨some 97, some (95, false), .p (.bin .lss (.c (.int .u8 191)) (.t 96))⟩,
  ⟨some 98, none, .p (.pick (.t 95) (.c (.bool true)) (.t 97))⟩]
def unicode_utf8_decodeRuneInStringSlow_r23 : List AIns := [⟨some 2, none, .p (.mv (.c (.int .i32 65533)))⟩,
  ⟨some 3, none, .p (.mv (.c (.int .i64 1)))⟩]
def unicode_utf8_decodeRuneInStringSlow_r24 : List AIns := [⟨some 99, none, .p (.mv (.t 5))⟩,
  ⟨some 100, none, .p (.bin .and (.t 99) (.c (.int .u8 7)))⟩,
  ⟨some 101, none, .p (.conv .i32 (.t 100))⟩,
  ⟨some 102, none, .p (.bin .shl (.t 101) (.c (.int .u64 18)))⟩,
  ⟨some 103, none, .p (.mv (.t 10))⟩,
  ⟨some 104, none, .p (.bin .and (.t 103) (.c (.int .u8 63)))⟩,
  ⟨some 105, none, .p (.conv .i32 (.t 104))⟩,
  ⟨some 106, none, .p (.bin .shl (.t 105) (.c (.int .u64 12)))⟩,
  ⟨some 107, none, .p (.bin .or (.t 102) (.t 106))⟩,
  ⟨some 108, none, .p (.mv (.t 11))⟩,
  ⟨some 109, none, .p (.bin .and (.t 108) (.c (.int .u8 63)))⟩,
  ⟨some 110, none, .p (.conv .i32 (.t 109))⟩,
  ⟨some 111, none, .p (.bin .shl (.t 110) (.c (.int .u64 6)))⟩,
  ⟨some 112, none, .p (.bin .or (.t 107) (.t 111))⟩,
  ⟨some 113, none, .p (.mv (.t 12))⟩,
  ⟨some 114, none, .p (.bin .and (.t 113) (.c (.int .u8 63)))⟩,
  ⟨some 115, none, .p (.conv .i32 (.t 114))⟩,
  ⟨some 116, none, .p (.bin .or (.t 112) (.t 115))⟩,
  ⟨some 2, none, .p (.mv (.t 116))⟩,
  ⟨some 3, none, .p (.mv (.c (.int .i64 4)))⟩]
def unicode_utf8_decodeRuneInStringSlow_c : ACode := .seq (.region unicode_utf8_decodeRuneInStringSlow_r0 false) (.seq (.region unicode_utf8_decodeRuneInStringSlow_r1 false) (.seq (.seq (.region unicode_utf8_decodeRuneInStringSlow_r2 false) (.cond (.t 16) (.seq (.region unicode_utf8_decodeRuneInStringSlow_r3 false) (.ret)) (.skip))) (.seq (.region unicode_utf8_decodeRuneInStringSlow_r4 false) (.seq (.bad) (.seq (.seq (.region unicode_utf8_decodeRuneInStringSlow_r5 false) (.cond (.t 23) (.seq (.region unicode_utf8_decodeRuneInStringSlow_r6 false) (.seq (.region unicode_utf8_decodeRuneInStringSlow_r7 false) (.ret))) (.skip))) (.seq (.region unicode_utf8_decodeRuneInStringSlow_r8 false) (.seq (.bad) (.seq (.seq (.region unicode_utf8_decodeRuneInStringSlow_r9 false) (.cond (.t 45) (.seq (.region unicode_utf8_decodeRuneInStringSlow_r10 false) (.ret)) (.skip))) (.seq (.region unicode_utf8_decodeRuneInStringSlow_r11 false) (.seq (.seq (.region unicode_utf8_decodeRuneInStringSlow_r12 false) (.cond (.t 57) (.seq (.region unicode_utf8_decodeRuneInStringSlow_r13 false) (.ret)) (.skip))) (.seq (.seq (.region unicode_utf8_decodeRuneInStringSlow_r14 false) (.cond (.t 59) (.seq (.region unicode_utf8_decodeRuneInStringSlow_r15 false) (.ret)) (.skip))) (.seq (.region unicode_utf8_decodeRuneInStringSlow_r16 false) (.seq (.seq (.region unicode_utf8_decodeRuneInStringSlow_r17 false) (.cond (.t 75) (.seq (.region unicode_utf8_decodeRuneInStringSlow_r18 false) (.ret)) (.skip))) (.seq (.seq (.region unicode_utf8_decodeRuneInStringSlow_r19 false) (.cond (.t 77) (.seq (.region unicode_utf8_decodeRuneInStringSlow_r20 false) (.ret)) (.skip))) (.seq (.region unicode_utf8_decodeRuneInStringSlow_r21 false) (.seq (.seq (.region unicode_utf8_decodeRuneInStringSlow_r22 false) (.cond (.t 98) (.seq (.region unicode_utf8_decodeRuneInStringSlow_r23 false) (.ret)) (.skip))) (.seq (.region unicode_utf8_decodeRuneInStringSlow_r24 false) (.ret))))))))))))))))))
theorem unicode_utf8_decodeRuneInStringSlow_ok : fchk Pr (fun _ _ => false) Tryd.f54 = some (unicode_utf8_decodeRuneInStringSlow_c, [.tmp 2, .tmp 3], 117) := by kernel_rfl
theorem unicode_utf8_decodeRuneInStringSlow_fn : Pr.funcs[F_unicode_utf8_decodeRuneInStringSlow]? = some Tryd.f54 := Tryd.func54
/-! zint.Bits -/
def zint_Bits_r0 : List AIns := [⟨some 1, none, .e (.box 2 (.t 0))⟩,
  ⟨some 2, none, .p (.mv (.c (.int .i64 0)))⟩]
def zint_Bits_r1 : List AIns := [⟨some 3, none, .p (.fldp (.t 1) 1)⟩,
  ⟨some 4, none, .p (.load none (.t 3))⟩,
  ⟨some 5, none, .call F_nat_Bits [(.t 4)]⟩,
  ⟨some 2, none, .p (.mv (.t 5))⟩]
def zint_Bits_c : ACode := .seq (.region zint_Bits_r0 false) (.seq (.region zint_Bits_r1 false) (.ret))
theorem zint_Bits_ok : fchk Pr (fun _ _ => false) Tryd.f55 = some (zint_Bits_c, [.tmp 2], 6) := by kernel_rfl
theorem zint_Bits_fn : Pr.funcs[F_zint_Bits]? = some Tryd.f55 := Tryd.func55
/-! mat.dot -/
def mat_dot_r0 : List AIns := [⟨some 4, none, .e (.box 2 (.c (.agg [.bool false, .nil])))⟩]
def mat_dot_r1 : List AIns := [⟨some 5, none, .e (.box 2 (.c (.agg [.bool false, .nil])))⟩]
def mat_dot_r2 : List AIns := [⟨some 7, none, .p (.mv (.t 0))⟩,
  ⟨some 8, none, .p (.len (.t 7))⟩,
  ⟨some 9, none, .p (.mv (.c (.int .i64 0)))⟩]
def mat_dot_r3 : List AIns := [⟨some 10, none, .p (.bin .lss (.t 9) (.t 8))⟩]
def mat_dot_r4 : List AIns := [⟨some 11, none, .p (.mv (.t 9))⟩,
  ⟨some 6, none, .p (.mv (.t 11))⟩]
def mat_dot_r5 : List AIns := [⟨some 12, none, .p (.load (some 2) (.t 5))⟩,
  ⟨some 13, none, .p (.mv (.t 0))⟩,
  ⟨some 14, none, .p (.mv (.t 6))⟩,
  ⟨some 15, none, .p (.idxp 2 (.t 13) (.t 14))⟩,
  ⟨some 16, none, .p (.load (some 2) (.t 15))⟩,
  ⟨some 17, none, .p (.mv (.t 1))⟩,
  ⟨some 18, none, .p (.mv (.t 6))⟩,
  ⟨some 19, none, .p (.idxp 2 (.t 17) (.t 18))⟩,
  ⟨some 20, none, .p (.load (some 2) (.t 19))⟩,
  ⟨some 21, none, .call F_zint_Mul [(.t 16), (.t 20)]⟩,
  ⟨some 22, none, .call F_zint_Add [(.t 12), (.t 21)]⟩,
  ⟨none, none, .e (.store 2 (.t 5) (.t 22))⟩]
def mat_dot_r6 : List AIns := [⟨some 23, none, .p (.bin .add (.t 9) (.c (.int .i64 1)))⟩,
  ⟨some 9, none, .p (.mv (.t 23))⟩]
def mat_dot_l0 : ACode := .seq (.region mat_dot_r3 false) (.seq (.cond (.t 10) (.skip) (.exit 0)) (.seq (.block 1 (.seq (.region mat_dot_r4 false) (.region mat_dot_r5 true))) (.region mat_dot_r6 false)))
def mat_dot_r7 : List AIns := [⟨some 24, none, .p (.load (some 2) (.t 5))⟩,
  ⟨none, none, .e (.store 2 (.t 4) (.t 24))⟩]
def mat_dot_c : ACode := .seq (.region mat_dot_r0 false) (.seq (.region mat_dot_r1 false) (.seq (.seq (.region mat_dot_r2 false) (.block 0 (.loop mat_dot_l0))) (.seq (.region mat_dot_r7 false) (.ret))))
theorem mat_dot_ok : fchk Pr (fun _ _ => false) Tryd.f56 = some (mat_dot_c, [.cell 4 (some 2)], 25) := by kernel_rfl
theorem mat_dot_fn : Pr.funcs[F_mat_dot]? = some Tryd.f56 := Tryd.func56
/-! zint.Add -/
def zint_Add_r0 : List AIns := [⟨some 2, none, .e (.box 2 (.t 0))⟩,
  ⟨some 3, none, .e (.box 2 (.t 1))⟩,
  ⟨some 4, none, .e (.box 2 (.c (.agg [.bool false, .nil])))⟩]
def zint_Add_r1 : List AIns := [⟨some 7, none, .p (.fldp (.t 2) 0)⟩,
  ⟨some 8, none, .p (.load none (.t 7))⟩,
  ⟨some 9, none, .p (.fldp (.t 3) 0)⟩,
  ⟨some 10, none, .p (.load none (.t 9))⟩,
  ⟨some 11, none, .p (.beq false (.t 8) (.t 10))⟩]
def zint_Add_r2 : List AIns := [⟨some 12, none, .p (.fldp (.t 2) 0)⟩,
  ⟨some 13, none, .p (.load none (.t 12))⟩,
  ⟨some 14, none, .p (.fldp (.t 2) 1)⟩,
  ⟨some 15, none, .p (.load none (.t 14))⟩,
  ⟨some 16, none, .p (.fldp (.t 3) 1)⟩,
  ⟨some 17, none, .p (.load none (.t 16))⟩,
  ⟨some 18, none, .call F_nat_Add [(.t 15), (.t 17)]⟩,
  ⟨some 19, none, .call F_zint_made [(.t 13), (.t 18)]⟩,
  ⟨none, none, .e (.store 2 (.t 4) (.t 19))⟩]
def zint_Add_r3 : List AIns := [⟨some 20, none, .p (.fldp (.t 2) 1)⟩,
  ⟨some 21, none, .p (.load none (.t 20))⟩,
  ⟨some 22, none, .p (.fldp (.t 3) 1)⟩,
  ⟨some 23, none, .p (.load none (.t 22))⟩,
  ⟨some 24, none, .call F_nat_Cmp [(.t 21), (.t 23)]⟩,
  ⟨some 25, none, .p (.bin .lss (.t 24) (.c (.int .i64 0)))⟩]
def zint_Add_r4 : List AIns := [⟨some 26, none, .p (.load (some 2) (.t 3))⟩,
  ⟨some 27, none, .p (.load (some 2) (.t 2))⟩,
  ⟨none, none, .e (.store 2 (.t 2) (.t 26))⟩,
  ⟨none, none, .e (.store 2 (.t 3) (.t 27))⟩]
def zint_Add_r5 : List AIns := [⟨some 29, none, .p (.fldp (.t 2) 1)⟩,
  ⟨some 30, none, .p (.load none (.t 29))⟩,
  ⟨some 31, none, .p (.fldp (.t 3) 1)⟩,
  ⟨some 32, none, .p (.load none (.t 31))⟩,
  ⟨some 33, none, .call F_nat_Sub [(.t 30), (.t 32)]⟩,
  ⟨some 28, none, .p (.mv (.t 33))⟩,
  ⟨some 34, none, .p (.ext (.t 28) 0)⟩,
  ⟨some 35, none, .p (.ext (.t 28) 1)⟩,
  ⟨some 5, none, .p (.mv (.t 34))⟩,
  ⟨some 6, none, .p (.mv (.t 35))⟩]
def zint_Add_r6 : List AIns := [⟨some 36, none, .p (.fldp (.t 2) 0)⟩,
  ⟨some 37, none, .p (.load none (.t 36))⟩,
  ⟨some 38, none, .p (.mv (.t 5))⟩,
  ⟨some 39, none, .call F_zint_made [(.t 37), (.t 38)]⟩,
  ⟨none, none, .e (.store 2 (.t 4) (.t 39))⟩]
def zint_Add_c : ACode := .seq (.region zint_Add_r0 false) (.seq (.seq (.region zint_Add_r1 false) (.cond (.t 11) (.seq (.region zint_Add_r2 true) (.ret)) (.skip))) (.seq (.seq (.region zint_Add_r3 false) (.cond (.t 25) (.region zint_Add_r4 false) (.skip))) (.seq (.region zint_Add_r5 false) (.seq (.region zint_Add_r6 false) (.ret)))))
theorem zint_Add_ok : fchk Pr (fun _ _ => false) Tryd.f57 = some (zint_Add_c, [.cell 4 (some 2)], 40) := by kernel_rfl
theorem zint_Add_fn : Pr.funcs[F_zint_Add]? = some Tryd.f57 := Tryd.func57
/-! zint.Neg -/
def zint_Neg_r0 : List AIns := [⟨some 1, none, .e (.box 2 (.t 0))⟩,
  ⟨some 2, none, .e (.box 2 (.c (.agg [.bool false, .nil])))⟩]
def zint_Neg_r1 : List AIns := [⟨some 3, none, .p (.fldp (.t 1) 0)⟩,
  ⟨some 4, none, .p (.load none (.t 3))⟩,
  ⟨some 5, none, .p (.un .not (.t 4))⟩,
  ⟨some 6, none, .p (.fldp (.t 1) 1)⟩,
  ⟨some 7, none, .p (.load none (.t 6))⟩,
  ⟨some 8, none, .call F_zint_made [(.t 5), (.t 7)]⟩,
  ⟨none, none, .e (.store 2 (.t 2) (.t 8))⟩]
def zint_Neg_c : ACode := .seq (.region zint_Neg_r0 false) (.seq (.region zint_Neg_r1 false) (.ret))
theorem zint_Neg_ok : fchk Pr (fun _ _ => false) Tryd.f58 = some (zint_Neg_c, [.cell 2 (some 2)], 9) := by kernel_rfl
theorem zint_Neg_fn : Pr.funcs[F_zint_Neg]? = some Tryd.f58 := Tryd.func58
/-! nat.Div -/
def nat_Div_r0 : List AIns := [⟨some 4, none, .p (.mv (.c (.nil)))⟩,
  ⟨some 5, none, .p (.mv (.c (.nil)))⟩,
  ⟨some 6, none, .p (.mv (.c (.int .i64 0)))⟩]
def nat_Div_r1 : List AIns := [⟨some 14, none, .p (.mv (.t 0))⟩,
  ⟨some 15, none, .call F_nat_trim [(.t 14)]⟩,
  ⟨some 16, none, .p (.mv (.t 1))⟩,
  ⟨some 17, none, .call F_nat_trim [(.t 16)]⟩,
  ⟨some 0, none, .p (.mv (.t 15))⟩,
  ⟨some 1, none, .p (.mv (.t 17))⟩]
def nat_Div_r2 : List AIns := [⟨some 19, none, .p (.mv (.t 1))⟩,
  ⟨some 20, none, .p (.len (.t 19))⟩,
  ⟨some 21, none, .p (.bin .eql (.t 20) (.c (.int .i64 0)))⟩,
  ⟨some 18, none, .p (.mv (.t 21))⟩]
def nat_Div_r3 : List AIns := [⟨some 4, none, .p (.mv (.c (.nil)))⟩,
  ⟨some 5, none, .p (.mv (.c (.nil)))⟩,
  ⟨some 6, none, .p (.mv (.c (.int .i64 11)))⟩]
def nat_Div_r4 : List AIns := [⟨some 23, none, .p (.mv (.t 0))⟩,
  ⟨some 24, none, .p (.mv (.t 1))⟩,
  ⟨some 25, none, .call F_nat_Cmp [(.t 23), (.t 24)]⟩,
  ⟨some 26, none, .p (.bin .lss (.t 25) (.c (.int .i64 0)))⟩,
  ⟨some 22, none, .p (.mv (.t 26))⟩]
def nat_Div_r5 : List AIns := [⟨some 27, none, .p (.mv (.t 0))⟩,
  ⟨some 28, none, .call F_nat_Norm [(.t 27)]⟩,
  ⟨some 4, none, .p (.mv (.c (.nil)))⟩,
  ⟨some 5, none, .p (.mv (.t 28))⟩,
  ⟨some 6, none, .p (.mv (.c (.int .i64 0)))⟩]
def nat_Div_r6 : List AIns := [⟨some 30, none, .p (.mv (.t 1))⟩,
  ⟨some 31, none, .p (.len (.t 30))⟩,
  ⟨some 32, none, .p (.bin .eql (.t 31) (.c (.int .i64 1)))⟩,
  ⟨some 29, none, .p (.mv (.t 32))⟩]
def nat_Div_r7 : List AIns := [⟨some 34, none, .p (.mv (.t 0))⟩,
  ⟨some 35, none, .p (.mv (.t 1))⟩,
  ⟨some 36, none, .p (.idxp 1 (.t 35) (.c (.int .i64 0)))⟩,
  ⟨some 37, none, .p (.load none (.t 36))⟩,
  ⟨some 38, none, .call F_nat_short [(.t 34), (.t 37)]⟩,
  ⟨some 33, none, .p (.mv (.t 38))⟩,
  ⟨some 39, none, .p (.ext (.t 33) 0)⟩,
  ⟨some 40, none, .p (.ext (.t 33) 1)⟩,
  ⟨some 7, none, .p (.mv (.t 39))⟩,
  ⟨some 8, none, .p (.mv (.t 40))⟩]
def nat_Div_r8 : List AIns := [⟨some 41, none, .p (.mv (.t 7))⟩,
  ⟨some 42, none, .p (.mv (.t 8))⟩,
  ⟨some 43, none, .e (.bsl 1 [(.t 42)])⟩,
  ⟨some 44, none, .call F_nat_trim [(.t 43)]⟩,
  ⟨some 4, none, .p (.mv (.t 41))⟩,
  ⟨some 5, none, .p (.mv (.t 44))⟩,
  ⟨some 6, none, .p (.mv (.c (.int .i64 0)))⟩]
def nat_Div_r9 : List AIns := [⟨some 45, none, .p (.mv (.t 1))⟩,
  ⟨some 46, none, .p (.mv (.t 1))⟩,
  ⟨some 47, none, .p (.len (.t 46))⟩,
  ⟨some 48, none, .p (.bin .sub (.t 47) (.c (.int .i64 1)))⟩,
  ⟨some 49, none, .p (.idxp 1 (.t 45) (.t 48))⟩,
  ⟨some 50, none, .p (.load none (.t 49))⟩,
  ⟨some 51, none, .call F_math_bits_LeadingZeros32 [(.t 50)]⟩,
  ⟨some 9, none, .p (.mv (.t 51))⟩]
def nat_Div_r10 : List AIns := [⟨some 52, none, .p (.mv (.t 1))⟩,
  ⟨some 53, none, .p (.mv (.t 9))⟩,
  ⟨some 54, none, .call F_nat_shl [(.t 52), (.t 53)]⟩,
  ⟨some 10, none, .p (.mv (.t 54))⟩]
def nat_Div_r11 : List AIns := [⟨some 55, none, .p (.mv (.t 0))⟩,
  ⟨some 56, none, .p (.mv (.t 9))⟩,
  ⟨some 57, none, .call F_nat_shl [(.t 55), (.t 56)]⟩,
  ⟨some 58, none, .e (.bsl 1 [(.c (.int .u32 0)), (.c (.int .u32 0))])⟩,
  ⟨some 59, none, .e (.app 1 4 false (.t 57) (.t 58))⟩,
  ⟨some 60, none, .p (.mv (.t 0))⟩,
  ⟨some 61, none, .p (.len (.t 60))⟩,
  ⟨some 62, none, .p (.bin .add (.t 61) (.c (.int .i64 1)))⟩,
  ⟨some 63, none, .p (.slc 1 (.t 59) none (some (.t 62)) none)⟩,
  ⟨some 11, none, .p (.mv (.t 63))⟩]
def nat_Div_r12 : List AIns := [⟨some 64, none, .p (.mv (.t 0))⟩,
  ⟨some 65, none, .p (.len (.t 64))⟩,
  ⟨some 66, none, .p (.mv (.t 1))⟩,
  ⟨some 67, none, .p (.len (.t 66))⟩,
  ⟨some 68, none, .p (.bin .sub (.t 65) (.t 67))⟩,
  ⟨some 69, none, .p (.bin .add (.t 68) (.c (.int .i64 1)))⟩,
  ⟨some 70, none, .e (.mksl 1 4 (.int .u32 0) (.t 69) (.t 69))⟩,
  ⟨some 12, none, .p (.mv (.t 70))⟩]
def nat_Div_r13 : List AIns := [⟨some 71, none, .p (.mv (.t 0))⟩,
  ⟨some 72, none, .p (.len (.t 71))⟩,
  ⟨some 73, none, .p (.mv (.t 1))⟩,
  ⟨some 74, none, .p (.len (.t 73))⟩,
  ⟨some 75, none, .p (.bin .sub (.t 72) (.t 74))⟩,
  ⟨some 13, none, .p (.mv (.t 75))⟩]
def nat_Div_r14 : List AIns := [⟨some 76, none, .p (.mv (.t 13))⟩,
  ⟨some 77, none, .p (.bin .geq (.t 76) (.c (.int .i64 0)))⟩]
def nat_Div_r15 : List AIns := [⟨some 80, none, .p (.mv (.t 12))⟩,
  ⟨some 81, none, .p (.mv (.t 13))⟩,
  ⟨some 82, none, .p (.mv (.t 11))⟩,
  ⟨some 83, none, .p (.mv (.t 13))⟩,
  ⟨some 84, none, .p (.mv (.t 13))⟩,
  ⟨some 85, none, .p (.mv (.t 10))⟩,
  ⟨some 86, none, .p (.len (.t 85))⟩,
  ⟨some 87, none, .p (.bin .add (.t 84) (.t 86))⟩,
  ⟨some 88, none, .p (.bin .add (.t 87) (.c (.int .i64 1)))⟩,
  ⟨some 89, none, .p (.slc 1 (.t 82) (some (.t 83)) (some (.t 88)) none)⟩,
  ⟨some 90, none, .p (.mv (.t 10))⟩,
  ⟨some 91, none, .call F_nat_digit [(.t 89), (.t 90)]⟩,
  ⟨some 92, none, .p (.idxp 1 (.t 80) (.t 81))⟩,
  ⟨none, none, .e (.store 1 (.t 92) (.t 91))⟩]
def nat_Div_r16 : List AIns := [⟨some 78, none, .p (.mv (.t 13))⟩,
  ⟨some 79, none, .p (.bin .sub (.t 78) (.c (.int .i64 1)))⟩,
  ⟨some 13, none, .p (.mv (.t 79))⟩]
def nat_Div_l0 : ACode := .seq (.seq (.region nat_Div_r14 false) (.cond (.t 77) (.skip) (.exit 1))) (.seq (.block 2 (.region nat_Div_r15 false)) (.region nat_Div_r16 false))
def nat_Div_r17 : List AIns := [⟨some 93, none, .p (.mv (.t 12))⟩,
  ⟨some 94, none, .call F_nat_trim [(.t 93)]⟩,
  ⟨some 95, none, .p (.mv (.t 11))⟩,
  ⟨some 96, none, .call F_nat_trim [(.t 95)]⟩,
  ⟨some 97, none, .p (.mv (.t 9))⟩,
  ⟨some 98, none, .call F_nat_shr [(.t 96), (.t 97)]⟩,
  ⟨some 4, none, .p (.mv (.t 94))⟩,
  ⟨some 5, none, .p (.mv (.t 98))⟩,
  ⟨some 6, none, .p (.mv (.c (.int .i64 0)))⟩]
def nat_Div_c : ACode := .seq (.region nat_Div_r0 false) (.seq (.region nat_Div_r1 false) (.seq (.block 0 (.seq (.region nat_Div_r2 false) (.cond (.t 18) (.seq (.region nat_Div_r3 false) (.ret)) (.seq (.region nat_Div_r4 false) (.cond (.t 22) (.seq (.region nat_Div_r5 false) (.ret)) (.seq (.region nat_Div_r6 false) (.cond (.t 29) (.seq (.region nat_Div_r7 false) (.seq (.region nat_Div_r8 false) (.ret))) (.skip)))))))) (.seq (.region nat_Div_r9 false) (.seq (.region nat_Div_r10 false) (.seq (.region nat_Div_r11 false) (.seq (.region nat_Div_r12 false) (.seq (.seq (.region nat_Div_r13 false) (.block 1 (.loop nat_Div_l0))) (.seq (.region nat_Div_r17 false) (.ret)))))))))
theorem nat_Div_ok : fchk Pr (fun _ _ => false) Tryd.f59 = some (nat_Div_c, [.tmp 4, .tmp 5, .tmp 6], 99) := by kernel_rfl
theorem nat_Div_fn : Pr.funcs[F_nat_Div]? = some Tryd.f59 := Tryd.func59
/-! nat.Bits -/
def nat_Bits_r0 : List AIns := [⟨some 2, none, .p (.mv (.c (.int .i64 0)))⟩]
def nat_Bits_r1 : List AIns := [⟨some 3, none, .p (.mv (.t 0))⟩,
  ⟨some 4, none, .call F_nat_trim [(.t 3)]⟩,
  ⟨some 0, none, .p (.mv (.t 4))⟩]
def nat_Bits_r2 : List AIns := [⟨some 5, none, .p (.mv (.t 0))⟩,
  ⟨some 6, none, .p (.len (.t 5))⟩,
  ⟨some 7, none, .p (.bin .eql (.t 6) (.c (.int .i64 0)))⟩]
def nat_Bits_r3 : List AIns := [⟨some 2, none, .p (.mv (.c (.int .i64 0)))⟩]
def nat_Bits_r4 : List AIns := [⟨some 8, none, .p (.mv (.t 0))⟩,
  ⟨some 9, none, .p (.len (.t 8))⟩,
  ⟨some 10, none, .p (.bin .sub (.t 9) (.c (.int .i64 1)))⟩,
  ⟨some 11, none, .p (.bin .mul (.c (.int .i64 32)) (.t 10))⟩,
  ⟨some 12, none, .p (.mv (.t 0))⟩,
  ⟨some 13, none, .p (.mv (.t 0))⟩,
  ⟨some 14, none, .p (.len (.t 13))⟩,
  ⟨some 15, none, .p (.bin .sub (.t 14) (.c (.int .i64 1)))⟩,
  ⟨some 16, none, .p (.idxp 1 (.t 12) (.t 15))⟩,
  ⟨some 17, none, .p (.load none (.t 16))⟩,
  ⟨some 18, none, .call F_math_bits_Len32 [(.t 17)]⟩,
  ⟨some 19, none, .p (.bin .add (.t 11) (.t 18))⟩,
  ⟨some 2, none, .p (.mv (.t 19))⟩]
def nat_Bits_c : ACode := .seq (.region nat_Bits_r0 false) (.seq (.region nat_Bits_r1 false) (.seq (.seq (.region nat_Bits_r2 false) (.cond (.t 7) (.seq (.region nat_Bits_r3 false) (.ret)) (.skip))) (.seq (.region nat_Bits_r4 false) (.ret))))
theorem nat_Bits_ok : fchk Pr (fun _ _ => false) Tryd.f60 = some (nat_Bits_c, [.tmp 2], 20) := by kernel_rfl
theorem nat_Bits_fn : Pr.funcs[F_nat_Bits]? = some Tryd.f60 := Tryd.func60
/-! nat.Cmp -/
def nat_Cmp_r0 : List AIns := [⟨some 4, none, .p (.mv (.c (.int .i64 0)))⟩]
def nat_Cmp_r1 : List AIns := [⟨some 6, none, .p (.mv (.t 0))⟩,
  ⟨some 7, none, .call F_nat_trim [(.t 6)]⟩,
  ⟨some 8, none, .p (.mv (.t 1))⟩,
  ⟨some 9, none, .call F_nat_trim [(.t 8)]⟩,
  ⟨some 0, none, .p (.mv (.t 7))⟩,
  ⟨some 1, none, .p (.mv (.t 9))⟩]
def nat_Cmp_r2 : List AIns := [⟨some 10, none, .p (.mv (.t 0))⟩,
  ⟨some 11, none, .p (.len (.t 10))⟩,
  ⟨some 12, none, .p (.mv (.t 1))⟩,
  ⟨some 13, none, .p (.len (.t 12))⟩,
  ⟨some 14, none, .p (.bin .neq (.t 11) (.t 13))⟩]
def nat_Cmp_r3 : List AIns := [⟨some 15, none, .p (.mv (.t 0))⟩,
  ⟨some 16, none, .p (.len (.t 15))⟩,
  ⟨some 17, none, .p (.mv (.t 1))⟩,
  ⟨some 18, none, .p (.len (.t 17))⟩,
  ⟨some 19, none, .p (.bin .lss (.t 16) (.t 18))⟩]
def nat_Cmp_r4 : List AIns := [⟨some 4, none, .p (.mv (.c (.int .i64 (-1))))⟩]
def nat_Cmp_r5 : List AIns := [⟨some 4, none, .p (.mv (.c (.int .i64 1)))⟩]
def nat_Cmp_r6 : List AIns := [⟨some 20, none, .p (.mv (.t 0))⟩,
  ⟨some 21, none, .p (.len (.t 20))⟩,
  ⟨some 22, none, .p (.bin .sub (.t 21) (.c (.int .i64 1)))⟩,
  ⟨some 5, none, .p (.mv (.t 22))⟩]
def nat_Cmp_r7 : List AIns := [⟨some 23, none, .p (.mv (.t 5))⟩,
  ⟨some 24, none, .p (.bin .geq (.t 23) (.c (.int .i64 0)))⟩]
def nat_Cmp_r8 : List AIns := [⟨some 27, none, .p (.mv (.t 0))⟩,
  ⟨some 28, none, .p (.mv (.t 5))⟩,
  ⟨some 29, none, .p (.idxp 1 (.t 27) (.t 28))⟩,
  ⟨some 30, none, .p (.load none (.t 29))⟩,
  ⟨some 31, none, .p (.mv (.t 1))⟩,
  ⟨some 32, none, .p (.mv (.t 5))⟩,
  ⟨some 33, none, .p (.idxp 1 (.t 31) (.t 32))⟩,
  ⟨some 34, none, .p (.load none (.t 33))⟩,
  ⟨some 35, none, .p (.bin .neq (.t 30) (.t 34))⟩]
def nat_Cmp_r9 : List AIns := [⟨some 36, none, .p (.mv (.t 0))⟩,
  ⟨some 37, none, .p (.mv (.t 5))⟩,
  ⟨some 38, none, .p (.idxp 1 (.t 36) (.t 37))⟩,
  ⟨some 39, none, .p (.load none (.t 38))⟩,
  ⟨some 40, none, .p (.mv (.t 1))⟩,
  ⟨some 41, none, .p (.mv (.t 5))⟩,
  ⟨some 42, none, .p (.idxp 1 (.t 40) (.t 41))⟩,
  ⟨some 43, none, .p (.load none (.t 42))⟩,
  ⟨some 44, none, .p (.bin .lss (.t 39) (.t 43))⟩]
def nat_Cmp_r10 : List AIns := [⟨some 4, none, .p (.mv (.c (.int .i64 (-1))))⟩]
def nat_Cmp_r11 : List AIns := [⟨some 4, none, .p (.mv (.c (.int .i64 1)))⟩]
def nat_Cmp_r12 : List AIns := [⟨some 25, none, .p (.mv (.t 5))⟩,
  ⟨some 26, none, .p (.bin .sub (.t 25) (.c (.int .i64 1)))⟩,
  ⟨some 5, none, .p (.mv (.t 26))⟩]
def nat_Cmp_l0 : ACode := .seq (.seq (.region nat_Cmp_r7 false) (.cond (.t 24) (.skip) (.exit 0))) (.seq (.block 1 (.seq (.region nat_Cmp_r8 true) (.cond (.t 35) (.seq (.seq (.region nat_Cmp_r9 true) (.cond (.t 44) (.seq (.region nat_Cmp_r10 false) (.ret)) (.skip))) (.seq (.region nat_Cmp_r11 false) (.ret))) (.skip)))) (.region nat_Cmp_r12 false))
def nat_Cmp_r13 : List AIns := [⟨some 4, none, .p (.mv (.c (.int .i64 0)))⟩]
def nat_Cmp_c : ACode := .seq (.region nat_Cmp_r0 false) (.seq (.region nat_Cmp_r1 false) (.seq (.seq (.region nat_Cmp_r2 false) (.cond (.t 14) (.seq (.seq (.region nat_Cmp_r3 false) (.cond (.t 19) (.seq (.region nat_Cmp_r4 false) (.ret)) (.skip))) (.seq (.region nat_Cmp_r5 false) (.ret))) (.skip))) (.seq (.seq (.region nat_Cmp_r6 false) (.block 0 (.loop nat_Cmp_l0))) (.seq (.region nat_Cmp_r13 false) (.ret)))))
theorem nat_Cmp_ok : fchk Pr (fun _ _ => false) Tryd.f61 = some (nat_Cmp_c, [.tmp 4], 45) := by kernel_rfl
theorem nat_Cmp_fn : Pr.funcs[F_nat_Cmp]? = some Tryd.f61 := Tryd.func61
/-! nat.Sub -/
def nat_Sub_r0 : List AIns := [⟨some 4, none, .p (.mv (.c (.nil)))⟩,
  ⟨some 5, none, .p (.mv (.c (.int .i64 0)))⟩]
def nat_Sub_r1 : List AIns := [⟨some 6, none, .p (.mv (.t 0))⟩,
  ⟨some 7, none, .p (.mv (.t 1))⟩,
  ⟨some 8, none, .call F_nat_Cmp [(.t 6), (.t 7)]⟩,
  ⟨some 9, none, .p (.bin .lss (.t 8) (.c (.int .i64 0)))⟩]
def nat_Sub_r2 : List AIns := [⟨some 4, none, .p (.mv (.c (.nil)))⟩,
  ⟨some 5, none, .p (.mv (.c (.int .i64 10)))⟩]
def nat_Sub_r3 : List AIns := [⟨some 10, none, .p (.mv (.t 0))⟩,
  ⟨some 11, none, .call F_nat_trim [(.t 10)]⟩,
  ⟨some 12, none, .p (.mv (.t 1))⟩,
  ⟨some 13, none, .call F_nat_trim [(.t 12)]⟩,
  ⟨some 14, none, .call F_nat_less [(.t 11), (.t 13)]⟩,
  ⟨some 4, none, .p (.mv (.t 14))⟩,
  ⟨some 5, none, .p (.mv (.c (.int .i64 0)))⟩]
def nat_Sub_c : ACode := .seq (.region nat_Sub_r0 false) (.seq (.seq (.region nat_Sub_r1 false) (.cond (.t 9) (.seq (.region nat_Sub_r2 false) (.ret)) (.skip))) (.seq (.region nat_Sub_r3 false) (.ret)))
theorem nat_Sub_ok : fchk Pr (fun _ _ => false) Tryd.f62 = some (nat_Sub_c, [.tmp 4, .tmp 5], 15) := by kernel_rfl
theorem nat_Sub_fn : Pr.funcs[F_nat_Sub]? = some Tryd.f62 := Tryd.func62
/-! nat.Norm -/
def nat_Norm_r0 : List AIns := [⟨some 2, none, .p (.mv (.c (.nil)))⟩]
def nat_Norm_r1 : List AIns := [⟨some 3, none, .p (.mv (.t 0))⟩,
  ⟨some 4, none, .call F_nat_trim [(.t 3)]⟩,
  ⟨some 5, none, .e (.app 1 4 false (.c (.nil)) (.t 4))⟩,
  ⟨some 2, none, .p (.mv (.t 5))⟩]
def nat_Norm_c : ACode := .seq (.region nat_Norm_r0 false) (.seq (.region nat_Norm_r1 false) (.ret))
theorem nat_Norm_ok : fchk Pr (fun _ _ => false) Tryd.f63 = some (nat_Norm_c, [.tmp 2], 6) := by kernel_rfl
theorem nat_Norm_fn : Pr.funcs[F_nat_Norm]? = some Tryd.f63 := Tryd.func63
end Go.Abs

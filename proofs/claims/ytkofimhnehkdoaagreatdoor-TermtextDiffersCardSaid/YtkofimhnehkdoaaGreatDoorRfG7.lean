/- A part of the proof: see the last text. -/
import Derived.Test.YtkofimhnehkdoaaGreatDoorRfG6
section
set_option linter.unusedSimpArgs false
set_option linter.unusedVariables false
set_option maxRecDepth 100000
namespace Go.Proofs.YtkofimhnehkdoaaGreatDoor.Rf
abbrev n_saturatelaw07_TermtextWrites : Nat := 5
abbrev n_saturatelaw07_TermtextBack : Nat := 6
abbrev n_saturatelaw07_TermtextDiffers : Nat := 7
abbrev n_saturatelaw07_lives : Nat := 15
abbrev n_termtext_Read : Nat := 16
abbrev n_saturateref06_Same : Nat := 18
abbrev n_termtext_Parse : Nat := 19
abbrev n_saturatelaw07_small : Nat := 21
abbrev n_saturateref07_Write : Nat := 22
abbrev n_saturateref05_Same : Nat := 23
abbrev n_termtext_Write : Nat := 24
abbrev n_termtext_Print : Nat := 25
abbrev n_saturateref05_Print : Nat := 26
abbrev n_saturateref07_Deep : Nat := 27
abbrev n_saturateref07_Valid : Nat := 28
abbrev n_saturateref06_Light : Nat := 40
abbrev n_termtext_Read_1 : Nat := 46
abbrev n_termtext_read : Nat := 47
abbrev n_saturateref04_Leaf : Nat := 50
abbrev n_saturateref07_plain : Nat := 51
abbrev n_saturateref04_Arity : Nat := 52
abbrev n_saturateref04_Width : Nat := 54
abbrev n_saturateref06_SameAll : Nat := 55
abbrev n_sexpr_Parse : Nat := 56
abbrev n_saturateref07_Notable : Nat := 58
abbrev n_saturateref02_Int : Nat := 59
abbrev n_saturateref02_Dec : Nat := 60
abbrev n_saturateref04_Name : Nat := 61
abbrev n_saturateref05_SameAll : Nat := 62
abbrev n_termtext_notable : Nat := 63
abbrev n_termtext_atom : Nat := 64
abbrev n_digits_Int : Nat := 65
abbrev n_digits_Dec : Nat := 66
abbrev n_opinfo_Name : Nat := 67
abbrev n_termtext_numerals : Nat := 68
abbrev n_sexpr_Print : Nat := 69
abbrev n_strings_Builder_WriteString : Nat := 85
abbrev n_strings_Builder_WriteByte : Nat := 86
abbrev n_strings_Builder_String : Nat := 87
abbrev n_saturateref06_count : Nat := 92
abbrev n_termtext_leaf : Nat := 95
abbrev n_termtext_must : Nat := 96
abbrev n_opinfo_Of : Nat := 97
abbrev n_opinfo_Leaf : Nat := 98
abbrev n_opinfo_Arity : Nat := 99
abbrev n_termtext_number : Nat := 100
abbrev n_opinfo_Width : Nat := 101
abbrev n_termtext_fail : Nat := 102
abbrev n_saturateref07_Name : Nat := 107
abbrev n_saturateref04_Is : Nat := 108
abbrev n_saturateref04_width : Nat := 110
abbrev n_saturateref04_leaf : Nat := 111
abbrev n_saturateref04_parts : Nat := 112
abbrev n_sexpr_all : Nat := 113
abbrev n_saturateref02_write : Nat := 116
abbrev n_term_Name : Nat := 117
abbrev n_strconv_Itoa : Nat := 118
abbrev n_strconv_FormatUint : Nat := 119
abbrev n_opinfo_known : Nat := 120
abbrev n_sexpr_write : Nat := 121
abbrev n_strings_Builder_copyCheck : Nat := 125
abbrev n_strings_Cut : Nat := 130
abbrev n_termtext_numeral : Nat := 131
abbrev n_termtext_constant : Nat := 132
abbrev n_strings_HasPrefix : Nat := 133
abbrev n_opinfo_inside : Nat := 134
abbrev n_opinfo_leaf : Nat := 135
abbrev n_opinfo_resized : Nat := 136
abbrev n_opinfo_agreed : Nat := 137
abbrev n_sexpr_all_1 : Nat := 139
abbrev n_sexpr_parser_skip : Nat := 140
abbrev n_sexpr_parser_expression : Nat := 141
abbrev n_internal_strconv_Itoa : Nat := 145
abbrev n_internal_strconv_FormatUint : Nat := 146
abbrev n_internal_abi_NoEscape : Nat := 156
abbrev n_internal_stringslite_Cut : Nat := 159
abbrev n_digits_Parse : Nat := 160
abbrev n_internal_stringslite_HasPrefix : Nat := 161
abbrev n_sexpr_plain : Nat := 163
abbrev n_sexpr_parser_fail : Nat := 164
abbrev n_internal_strconv_FormatInt : Nat := 165
abbrev n_internal_strconv_small : Nat := 166
abbrev n_internal_strconv_numDigits : Nat := 167
abbrev n_internal_strconv_formatBase10 : Nat := 168
abbrev n_internal_strconv_formatBits : Nat := 169
abbrev n_internal_stringslite_Index : Nat := 175
abbrev n_strings_CutPrefix : Nat := 176
abbrev n_digits_numeral : Nat := 177
abbrev n_strconv_ParseUint : Nat := 178
abbrev n_internal_strconv_log10Pow2 : Nat := 180
abbrev n_math_bits_Len64 : Nat := 181
abbrev n_internal_strconv_bool2_int : Nat := 182
abbrev n_internal_stringslite_IndexByte : Nat := 187
abbrev n_internal_bytealg_IndexString : Nat := 188
abbrev n_internal_bytealg_Cutover : Nat := 189
abbrev n_internal_bytealg_IndexRabinKarp_string : Nat := 190
abbrev n_internal_stringslite_CutPrefix : Nat := 191
abbrev n_strings_IndexByte : Nat := 192
abbrev n_internal_strconv_ParseUint : Nat := 193
abbrev n_strconv_toError : Nat := 194
abbrev n_internal_strconv_lower : Nat := 200
abbrev n_internal_strconv_underscoreOK : Nat := 201
abbrev n_strconv_syntaxError : Nat := 202
abbrev n_strconv_rangeError : Nat := 203
abbrev n_strconv_baseError : Nat := 204
abbrev n_strconv_bitSizeError : Nat := 205
abbrev n_internal_stringslite_Clone : Nat := 206
def smalls2 : List UInt8 := [48, 48, 48, 49, 48, 50, 48, 51, 48, 52, 48, 53, 48, 54, 48, 55, 48, 56, 48, 57, 49, 48, 49, 49, 49, 50, 49, 51, 49, 52, 49, 53, 49, 54, 49, 55, 49, 56, 49, 57, 50, 48, 50, 49, 50, 50, 50, 51, 50, 52, 50, 53, 50, 54, 50, 55, 50, 56, 50, 57, 51, 48, 51, 49, 51, 50, 51, 51, 51, 52, 51, 53, 51, 54, 51, 55, 51, 56, 51, 57, 52, 48, 52, 49, 52, 50, 52, 51, 52, 52, 52, 53, 52, 54, 52, 55, 52, 56, 52, 57, 53, 48, 53, 49, 53, 50, 53, 51, 53, 52, 53, 53, 53, 54, 53, 55, 53, 56, 53, 57, 54, 48, 54, 49, 54, 50, 54, 51, 54, 52, 54, 53, 54, 54, 54, 55, 54, 56, 54, 57, 55, 48, 55, 49, 55, 50, 55, 51, 55, 52, 55, 53, 55, 54, 55, 55, 55, 56, 55, 57, 56, 48, 56, 49, 56, 50, 56, 51, 56, 52, 56, 53, 56, 54, 56, 55, 56, 56, 56, 57, 57, 48, 57, 49, 57, 50, 57, 51, 57, 52, 57, 53, 57, 54, 57, 55, 57, 56, 57, 57]
def len8t : List UInt8 := [0, 1, 2, 2, 3, 3, 3, 3, 4, 4, 4, 4, 4, 4, 4, 4, 5, 5, 5, 5, 5, 5, 5, 5, 5, 5, 5, 5, 5, 5, 5, 5, 6, 6, 6, 6, 6, 6, 6, 6, 6, 6, 6, 6, 6, 6, 6, 6, 6, 6, 6, 6, 6, 6, 6, 6, 6, 6, 6, 6, 6, 6, 6, 6, 7, 7, 7, 7, 7, 7, 7, 7, 7, 7, 7, 7, 7, 7, 7, 7, 7, 7, 7, 7, 7, 7, 7, 7, 7, 7, 7, 7, 7, 7, 7, 7, 7, 7, 7, 7, 7, 7, 7, 7, 7, 7, 7, 7, 7, 7, 7, 7, 7, 7, 7, 7, 7, 7, 7, 7, 7, 7, 7, 7, 7, 7, 7, 7, 8, 8, 8, 8, 8, 8, 8, 8, 8, 8, 8, 8, 8, 8, 8, 8, 8, 8, 8, 8, 8, 8, 8, 8, 8, 8, 8, 8, 8, 8, 8, 8, 8, 8, 8, 8, 8, 8, 8, 8, 8, 8, 8, 8, 8, 8, 8, 8, 8, 8, 8, 8, 8, 8, 8, 8, 8, 8, 8, 8, 8, 8, 8, 8, 8, 8, 8, 8, 8, 8, 8, 8, 8, 8, 8, 8, 8, 8, 8, 8, 8, 8, 8, 8, 8, 8, 8, 8, 8, 8, 8, 8, 8, 8, 8, 8, 8, 8, 8, 8, 8, 8, 8, 8, 8, 8, 8, 8, 8, 8, 8, 8, 8, 8, 8, 8, 8, 8, 8, 8, 8, 8, 8, 8, 8, 8, 8, 8]
@[simp] abbrev oO (k : Nat) (x : IOp) : IOper := ⟨some k, x, none⟩
@[simp] abbrev oZ (x : IOp) : IOper := ⟨none, x, none⟩
@[simp] abbrev tU (k : Nat) : Opd := .t k false
@[simp] abbrev tV (k : Nat) : Opd := .t k true
def i_saturatelaw07_TermtextWrites : IFun := ⟨true, 1,
 .seq (.region [oO 1 (.box false (tV 0)),
 oO 2 (.mv (.c (.bool false)))] [1])
 (.seq (.seq (.region [oO 4 (.load (tU 1) (.loc 1) 5 true false),
 oO 5 (.call (.f n_saturatelaw07_small) [tV 4, .c (.int .i64 200)] false),
 oO 6 (.un .not (tU 5))] [1, 6])
 (.cond (tU 6)
 (.seq (.region [oO 7 (.call (.f n_saturatelaw07_lives) [] false),
 oO 2 (.mv (tV 7))] [2])
 (.ret))
 (.skip)))
 (.seq (.region [oO 8 (.load (tU 1) (.loc 1) 5 true false),
 oO 9 (.call (.f n_saturateref07_Write) [tV 8] false),
 oO 3 (.alloc false 0 [.str [], .list [] .nil]),
 oZ (.store (tU 3) (.loc 3) (tV 9) 2)] [1, 3])
 (.seq (.draw [oO 10 (.load (tU 1) (.loc 1) 5 true false),
 oO 11 (.call (.f n_termtext_Write) [tV 10] true),
 oO 12 (.load (tU 3) (.loc 3) 2 true false),
 oO 13 (.call (.f n_saturateref05_Same) [tV 11, tV 12] true),
 oO 14 (.mv (tV 13)),
 ⟨some 15, .load (tU 1) (.loc 1) 5 true false, (some (14, true))⟩,
 ⟨some 16, .call (.f n_termtext_Print) [tV 15] true, (some (14, true))⟩,
 ⟨some 17, .load (tU 3) (.loc 3) 2 true false, (some (14, true))⟩,
 ⟨some 18, .call (.f n_saturateref05_Print) [tV 17] true, (some (14, true))⟩,
 ⟨some 19, .bin .eql (tU 16) (tU 18), (some (14, true))⟩,
 oO 20 (.pick (tU 14) (tU 19) (.c (.bool false))),
 oO 21 (.mv (tV 20)),
 ⟨some 22, .call (.f n_saturatelaw07_lives) [] true, (some (21, true))⟩,
 oO 23 (.pick (tU 21) (tU 22) (.c (.bool false))),
 oO 2 (.mv (tV 23))] [0, 2, 1, 3, 4, 5, 7, 6, 8, 9, 10, 11, 12, 13, 14] [1, 3, 6, 8, 12] [2])
 (.ret)))),
 [.tmp 2], none, none, []⟩
def i_saturatelaw07_TermtextBack : IFun := ⟨true, 1,
 .seq (.region [oO 1 (.box false (tV 0)),
 oO 2 (.mv (.c (.bool false)))] [1])
 (.seq (.seq (.region [oO 7 (.load (tU 1) (.loc 1) 5 true false),
 oO 8 (.call (.f n_saturatelaw07_small) [tV 7, .c (.int .i64 200)] false),
 oO 9 (.un .not (tU 8)),
 oO 10 (.mv (tV 9)),
 ⟨some 11, .load (tU 1) (.loc 1) 5 true false, (some (10, false))⟩,
 ⟨some 12, .call (.f n_saturateref07_Deep) [tV 11, .c (.int .i64 60)] false, (some (10, false))⟩,
 oO 13 (.pick (tU 10) (.c (.bool true)) (tU 12)),
 oO 14 (.mv (tV 13)),
 ⟨some 15, .load (tU 1) (.loc 1) 5 true false, (some (14, false))⟩,
 ⟨some 16, .call (.f n_saturateref07_Valid) [tV 15] false, (some (14, false))⟩,
 ⟨some 17, .un .not (tU 16), (some (14, false))⟩,
 oO 18 (.pick (tU 14) (.c (.bool true)) (tU 17))] [1, 18])
 (.cond (tU 18)
 (.seq (.region [oO 19 (.call (.f n_saturatelaw07_lives) [] false),
 oO 2 (.mv (tV 19))] [2])
 (.ret))
 (.skip)))
 (.seq (.region [oO 21 (.load (tU 1) (.loc 1) 5 true false),
 oO 22 (.call (.f n_termtext_Write) [tV 21] false),
 oO 23 (.call (.f n_termtext_Read) [tV 22] false),
 oO 20 (.mv (tV 23)),
 oO 24 (.extract (tU 20) 0),
 oO 25 (.extract (tV 20) 1),
 oO 3 (.alloc false 0 [.int .i64 0, .int .i64 0, .int .u64 0, .str [], .list [] .nil]),
 oZ (.store (tU 3) (.loc 3) (tV 24) 5),
 oO 4 (.mv (tV 25))] [1, 3, 4])
 (.seq (.region [oO 27 (.load (tU 1) (.loc 1) 5 true false),
 oO 28 (.call (.f n_termtext_Print) [tV 27] false),
 oO 29 (.call (.f n_termtext_Parse) [tV 28] false),
 oO 26 (.mv (tV 29)),
 oO 30 (.extract (tU 26) 0),
 oO 31 (.extract (tV 26) 1),
 oO 5 (.alloc false 0 [.int .i64 0, .int .i64 0, .int .u64 0, .str [], .list [] .nil]),
 oZ (.store (tU 5) (.loc 5) (tV 30) 5),
 oO 6 (.mv (tV 31))] [1, 3, 4, 5, 6])
 (.seq (.region [oO 32 (.mv (tV 4)),
 oO 33 (.bin .eql (tU 32) (.c (.int .i64 0))),
 oO 34 (.mv (tV 33)),
 ⟨some 35, .mv (tV 6), (some (34, true))⟩,
 ⟨some 36, .bin .eql (tU 35) (.c (.int .i64 0)), (some (34, true))⟩,
 oO 37 (.pick (tU 34) (tU 36) (.c (.bool false))),
 oO 38 (.mv (tV 37)),
 ⟨some 39, .load (tU 3) (.loc 3) 5 true false, (some (38, true))⟩,
 ⟨some 40, .load (tU 1) (.loc 1) 5 true false, (some (38, true))⟩,
 ⟨some 41, .call (.f n_saturateref06_Same) [tV 39, tV 40] false, (some (38, true))⟩,
 oO 42 (.pick (tU 38) (tU 41) (.c (.bool false))),
 oO 43 (.mv (tV 42)),
 ⟨some 44, .load (tU 5) (.loc 5) 5 true false, (some (43, true))⟩,
 ⟨some 45, .load (tU 1) (.loc 1) 5 true false, (some (43, true))⟩,
 ⟨some 46, .call (.f n_saturateref06_Same) [tV 44, tV 45] false, (some (43, true))⟩,
 oO 47 (.pick (tU 43) (tU 46) (.c (.bool false))),
 oO 48 (.mv (tV 47)),
 ⟨some 49, .call (.f n_saturatelaw07_lives) [] false, (some (48, true))⟩,
 oO 50 (.pick (tU 48) (tU 49) (.c (.bool false))),
 oO 2 (.mv (tV 50))] [2])
 (.ret))))),
 [.tmp 2], none, none, []⟩
def i_saturatelaw07_TermtextDiffers : IFun := ⟨true, 2,
 .seq (.region [oO 2 (.box false (tV 0)),
 oO 3 (.box false (tV 1)),
 oO 4 (.mv (.c (.bool false)))] [2, 3])
 (.seq (.seq (.region [oO 5 (.load (tU 2) (.loc 2) 5 true false),
 oO 6 (.call (.f n_saturatelaw07_small) [tV 5, .c (.int .i64 200)] false),
 oO 7 (.un .not (tU 6)),
 oO 8 (.mv (tV 7)),
 ⟨some 9, .load (tU 3) (.loc 3) 5 true false, (some (8, false))⟩,
 ⟨some 10, .call (.f n_saturatelaw07_small) [tV 9, .c (.int .i64 200)] false, (some (8, false))⟩,
 ⟨some 11, .un .not (tU 10), (some (8, false))⟩,
 oO 12 (.pick (tU 8) (.c (.bool true)) (tU 11)),
 oO 13 (.mv (tV 12)),
 ⟨some 14, .load (tU 2) (.loc 2) 5 true false, (some (13, false))⟩,
 ⟨some 15, .call (.f n_saturateref07_Valid) [tV 14] false, (some (13, false))⟩,
 ⟨some 16, .un .not (tU 15), (some (13, false))⟩,
 oO 17 (.pick (tU 13) (.c (.bool true)) (tU 16)),
 oO 18 (.mv (tV 17)),
 ⟨some 19, .load (tU 3) (.loc 3) 5 true false, (some (18, false))⟩,
 ⟨some 20, .call (.f n_saturateref07_Valid) [tV 19] false, (some (18, false))⟩,
 ⟨some 21, .un .not (tU 20), (some (18, false))⟩,
 oO 22 (.pick (tU 18) (.c (.bool true)) (tU 21))] [2, 3, 22])
 (.cond (tU 22)
 (.seq (.region [oO 23 (.call (.f n_saturatelaw07_lives) [] false),
 oO 4 (.mv (tV 23))] [4])
 (.ret))
 (.skip)))
 (.seq (.draw [oO 24 (.load (tU 2) (.loc 2) 5 true false),
 oO 25 (.call (.f n_termtext_Print) [tV 24] true),
 oO 26 (.load (tU 3) (.loc 3) 5 true false),
 oO 27 (.call (.f n_termtext_Print) [tV 26] true),
 oO 28 (.bin .eql (tU 25) (tU 27)),
 oO 29 (.load (tU 2) (.loc 2) 5 true false),
 oO 30 (.load (tU 3) (.loc 3) 5 true false),
 oO 31 (.call (.f n_saturateref06_Same) [tV 29, tV 30] true),
 oO 32 (.eq false .bool (tU 28) (tU 31)),
 oO 33 (.mv (tV 32)),
 ⟨some 34, .call (.f n_saturatelaw07_lives) [] true, (some (33, true))⟩,
 oO 35 (.pick (tU 33) (tU 34) (.c (.bool false))),
 oO 4 (.mv (tV 35))] [0, 2, 5, 6, 1, 3, 4, 7, 8, 9, 10, 11, 12] [1, 3, 7, 10] [4])
 (.ret))),
 [.tmp 4], none, none, []⟩
def i_saturatelaw07_lives : IFun := ⟨true, 0,
 .seq (.region [oO 0 (.mv (.c (.bool false)))] [])
 (.seq (.region [oO 10 (.call (.f n_termtext_Parse) [.c (.str [40, 97, 100, 100, 32, 120, 58, 56, 41])] false),
 oO 9 (.mv (tV 10)),
 oO 11 (.extract (tU 9) 0),
 oO 12 (.extract (tV 9) 1),
 oO 1 (.alloc false 0 [.int .i64 0, .int .i64 0, .int .u64 0, .str [], .list [] .nil]),
 oZ (.store (tU 1) (.loc 1) (tV 11) 5),
 oO 2 (.mv (tV 12))] [2])
 (.seq (.region [oO 14 (.call (.f n_termtext_Parse) [.c (.str [40, 97, 100, 100, 32, 120, 58, 56, 32, 121, 58, 52, 41])] false),
 oO 13 (.mv (tV 14)),
 oO 15 (.extract (tU 13) 0),
 oO 16 (.extract (tV 13) 1),
 oO 3 (.alloc false 0 [.int .i64 0, .int .i64 0, .int .u64 0, .str [], .list [] .nil]),
 oZ (.store (tU 3) (.loc 3) (tV 15) 5),
 oO 4 (.mv (tV 16))] [2, 4])
 (.seq (.region [oO 18 (.call (.f n_termtext_Parse) [.c (.str [40, 97, 100, 100, 32, 88, 58, 56, 32, 49, 58, 56, 41])] false),
 oO 17 (.mv (tV 18)),
 oO 19 (.extract (tU 17) 0),
 oO 20 (.extract (tV 17) 1),
 oO 5 (.alloc false 0 [.int .i64 0, .int .i64 0, .int .u64 0, .str [], .list [] .nil]),
 oZ (.store (tU 5) (.loc 5) (tV 19) 5),
 oO 6 (.mv (tV 20))] [2, 4, 6])
 (.seq (.region [oO 22 (.call (.f n_termtext_Parse) [.c (.str [40, 101, 120, 116, 114, 97, 99, 116, 32, 52, 32, 52, 32, 120, 58, 56, 41])] false),
 oO 21 (.mv (tV 22)),
 oO 23 (.extract (tU 21) 0),
 oO 24 (.extract (tV 21) 1),
 oO 7 (.alloc false 0 [.int .i64 0, .int .i64 0, .int .u64 0, .str [], .list [] .nil]),
 oZ (.store (tU 7) (.loc 7) (tV 23) 5),
 oO 8 (.mv (tV 24))] [2, 4, 6, 7, 8])
 (.seq (.region [oO 25 (.mv (tV 2)),
 oO 26 (.bin .eql (tU 25) (.c (.int .i64 6))),
 oO 27 (.mv (tV 26)),
 ⟨some 28, .mv (tV 4), (some (27, true))⟩,
 ⟨some 29, .bin .eql (tU 28) (.c (.int .i64 3)), (some (27, true))⟩,
 oO 30 (.pick (tU 27) (tU 29) (.c (.bool false))),
 oO 31 (.mv (tV 30)),
 ⟨some 32, .mv (tV 6), (some (31, true))⟩,
 ⟨some 33, .bin .eql (tU 32) (.c (.int .i64 5)), (some (31, true))⟩,
 oO 34 (.pick (tU 31) (tU 33) (.c (.bool false))),
 oO 35 (.mv (tV 34)),
 ⟨some 36, .mv (tV 8), (some (35, true))⟩,
 ⟨some 37, .bin .eql (tU 36) (.c (.int .i64 0)), (some (35, true))⟩,
 oO 38 (.pick (tU 35) (tU 37) (.c (.bool false))),
 oO 39 (.mv (tV 38)),
 ⟨some 40, .faddr (tU 7) 1, (some (39, true))⟩,
 ⟨some 41, .load (tU 40) (.loc 7) 1 false false, (some (39, true))⟩,
 ⟨some 42, .bin .eql (tU 41) (.c (.int .i64 4)), (some (39, true))⟩,
 oO 43 (.pick (tU 39) (tU 42) (.c (.bool false))),
 oO 44 (.mv (tV 43)),
 ⟨some 45, .load (tU 7) (.loc 7) 5 true false, (some (44, true))⟩,
 ⟨some 46, .call (.f n_termtext_Print) [tV 45] false, (some (44, true))⟩,
 ⟨some 47, .bin .eql (tU 46) (.c (.str [40, 101, 120, 116, 114, 97, 99, 116, 32, 52, 32, 52, 32, 120, 58, 56, 41])), (some (44, true))⟩,
 oO 48 (.pick (tU 44) (tU 47) (.c (.bool false))),
 oO 0 (.mv (tV 48))] [0])
 (.ret)))))),
 [.tmp 0], none, none, []⟩
def i_termtext_Read : IFun := ⟨true, 1,
 .seq (.region [oO 1 (.box false (tV 0)),
 oO 2 (.alloc false 0 [.int .i64 0, .int .i64 0, .int .u64 0, .str [], .list [] .nil]),
 oO 3 (.alloc false 0 [.int .i64 0])] [1, 2, 3])
 (.skip),
 [.cell 2 5 true, .cell 3 1 false], none, some ⟨n_termtext_Read_1, [2, 3], 4,
 .seq (.region [oO 5 (.load (tU 1) (.loc 1) 2 true false),
 oO 6 (.call (.f n_termtext_read) [tV 5] false),
 oZ (.store (tU 2) (.loc 2) (tV 6) 5),
 oZ (.store (tU 3) (.loc 3) (.c (.int .i64 0)) 1)] [2, 3])
 (.ret)⟩, []⟩
def i_saturateref06_Same : IFun := ⟨true, 2,
 .seq (.region [oO 2 (.box false (tV 0)),
 oO 3 (.box false (tV 1)),
 oO 4 (.mv (.c (.bool false)))] [2, 3])
 (.seq (.region [oO 5 (.faddr (tU 2) 0),
 oO 6 (.load (tU 5) (.loc 2) 1 false false),
 oO 7 (.faddr (tU 3) 0),
 oO 8 (.load (tU 7) (.loc 3) 1 false false),
 oO 9 (.bin .eql (tU 6) (tU 8)),
 oO 10 (.mv (tV 9)),
 ⟨some 11, .faddr (tU 2) 1, (some (10, true))⟩,
 ⟨some 12, .load (tU 11) (.loc 2) 1 false false, (some (10, true))⟩,
 ⟨some 13, .faddr (tU 3) 1, (some (10, true))⟩,
 ⟨some 14, .load (tU 13) (.loc 3) 1 false false, (some (10, true))⟩,
 ⟨some 15, .bin .eql (tU 12) (tU 14), (some (10, true))⟩,
 oO 16 (.pick (tU 10) (tU 15) (.c (.bool false))),
 oO 17 (.mv (tV 16)),
 ⟨some 18, .faddr (tU 2) 2, (some (17, true))⟩,
 ⟨some 19, .load (tU 18) (.loc 2) 1 false false, (some (17, true))⟩,
 ⟨some 20, .faddr (tU 3) 2, (some (17, true))⟩,
 ⟨some 21, .load (tU 20) (.loc 3) 1 false false, (some (17, true))⟩,
 ⟨some 22, .bin .eql (tU 19) (tU 21), (some (17, true))⟩,
 oO 23 (.pick (tU 17) (tU 22) (.c (.bool false))),
 oO 24 (.mv (tV 23)),
 ⟨some 25, .faddr (tU 2) 3, (some (24, true))⟩,
 ⟨some 26, .load (tU 25) (.loc 2) 1 false false, (some (24, true))⟩,
 ⟨some 27, .faddr (tU 3) 3, (some (24, true))⟩,
 ⟨some 28, .load (tU 27) (.loc 3) 1 false false, (some (24, true))⟩,
 ⟨some 29, .bin .eql (tU 26) (tU 28), (some (24, true))⟩,
 oO 30 (.pick (tU 24) (tU 29) (.c (.bool false))),
 oO 31 (.mv (tV 30)),
 ⟨some 32, .faddr (tU 2) 4, (some (31, true))⟩,
 ⟨some 33, .load (tU 32) (.loc 2) 1 false false, (some (31, true))⟩,
 ⟨some 34, .faddr (tU 3) 4, (some (31, true))⟩,
 ⟨some 35, .load (tU 34) (.loc 3) 1 false false, (some (31, true))⟩,
 ⟨some 36, .call (.f n_saturateref06_SameAll) [tV 33, tV 35] false, (some (31, true))⟩,
 oO 37 (.pick (tU 31) (tU 36) (.c (.bool false))),
 oO 4 (.mv (tV 37))] [4])
 (.ret)),
 [.tmp 4], none, none, []⟩
def i_termtext_Parse : IFun := ⟨true, 1,
 .seq (.region [oO 2 (.alloc false 0 [.int .i64 0, .int .i64 0, .int .u64 0, .str [], .list [] .nil]),
 oO 3 (.mv (.c (.int .i64 0)))] [0, 2])
 (.seq (.region [oO 8 (.mv (tV 0)),
 oO 9 (.call (.f n_sexpr_Parse) [tV 8] false),
 oO 7 (.mv (tV 9)),
 oO 10 (.extract (tU 7) 0),
 oO 11 (.extract (tU 7) 1),
 oO 12 (.extract (tV 7) 2),
 oO 4 (.alloc false 0 [.str [], .list [] .nil]),
 oZ (.store (tU 4) (.loc 4) (tV 10) 2),
 oO 5 (.mv (tV 11)),
 oO 6 (.mv (tV 12))] [2, 4, 6])
 (.seq (.seq (.region [oO 13 (.mv (tU 6)),
 oO 14 (.bin .neq (tU 13) (.c (.int .i64 0)))] [2, 4, 6, 14])
 (.cond (tU 14)
 (.seq (.region [oO 15 (.build [.int .i64 0, .int .i64 0, .int .u64 0, .str [], .list [] .nil] []),
 oO 16 (.mv (tV 6)),
 oZ (.store (tU 2) (.loc 2) (tV 15) 5),
 oO 3 (.mv (tV 16))] [2, 3])
 (.ret))
 (.skip)))
 (.seq (.region [oO 17 (.load (tU 4) (.loc 4) 2 true false),
 oO 18 (.call (.f n_termtext_Read) [tV 17] false),
 oO 19 (.extract (tU 18) 0),
 oO 20 (.extract (tV 18) 1),
 oZ (.store (tU 2) (.loc 2) (tV 19) 5),
 oO 3 (.mv (tV 20))] [2, 3])
 (.ret)))),
 [.cell 2 5 true, .tmp 3], none, none, []⟩
def i_saturatelaw07_small : IFun := ⟨true, 2,
 .seq (.region [oO 2 (.box false (tV 0)),
 oO 4 (.mv (.c (.bool false)))] [1, 2])
 (.seq (.region [oO 8 (.load (tU 2) (.loc 2) 5 true false),
 oO 9 (.mv (tU 1)),
 oO 10 (.mv (tV 1)),
 oO 11 (.call (.f n_saturateref06_Light) [tV 8, tV 9, tV 10] false),
 oO 7 (.mv (tV 11)),
 oO 12 (.extract (tU 7) 0),
 oO 13 (.extract (tV 7) 1),
 oO 5 (.alloc false 0 [.int .i64 0, .int .i64 0, .int .u64 0, .str [], .list [] .nil]),
 oZ (.store (tU 5) (.loc 5) (tV 12) 5),
 oO 6 (.mv (tV 13))] [6])
 (.seq (.region [oO 14 (.mv (tV 6)),
 oO 4 (.mv (tV 14))] [4])
 (.ret))),
 [.tmp 4], none, none, []⟩
def l_saturateref07_Write_0 : ICode :=
 .seq (.seq (.region [oO 73 (.mv (tU 5)),
 oO 74 (.faddr (tU 1) 4),
 oO 75 (.load (tU 74) (.loc 1) 1 false false),
 oO 76 (.len (tU 75) .list),
 oO 77 (.bin .lss (tU 73) (tU 76))] [1, 2, 4, 5, 77])
 (.cond (tU 77)
 (.skip)
 (.exit 1)))
 (.seq (.block 2
 (.region [oO 80 (.mv (tV 4)),
 oO 81 (.faddr (tU 1) 4),
 oO 82 (.load (tU 81) (.loc 1) 1 false false),
 oO 83 (.mv (tU 5)),
 oO 84 (.iaddrL (tU 82) (tU 83) 5),
 oO 85 (.load (tU 84) .elem 5 true false),
 oO 86 (.call (.f n_saturateref07_Write) [tV 85] false),
 oO 87 (.bslice (.agg [.str [], .list [] .nil]) 0 1 [(0, .t 86 true)]),
 oO 88 (.append (tV 80) (tU 87) 2 0 40 false),
 oO 4 (.mv (tV 88))] [1, 2, 4, 5]))
 (.region [oO 78 (.mv (tV 5)),
 oO 79 (.bin .add (tU 78) (.c (.int .i64 1))),
 oO 5 (.mv (tV 79))] [1, 2, 4, 5]))
def i_saturateref07_Write : IFun := ⟨true, 1,
 .seq (.region [oO 1 (.box false (tV 0)),
 oO 2 (.alloc false 0 [.str [], .list [] .nil])] [1, 2])
 (.seq (.seq (.region [oO 6 (.load (tU 1) (.loc 1) 5 true false),
 oO 7 (.call (.f n_saturateref07_Notable) [tV 6] false),
 oO 8 (.un .not (tU 7))] [1, 2, 8])
 (.cond (tU 8)
 (.seq (.region [oO 9 (.build [.str [], .list [] .nil] [(0, 1, .c (.str [63]))]),
 oZ (.store (tU 2) (.loc 2) (tV 9) 2)] [2])
 (.ret))
 (.skip)))
 (.seq (.region [oO 10 (.faddr (tU 1) 1),
 oO 11 (.load (tU 10) (.loc 1) 1 false false),
 oO 12 (.call (.f n_saturateref02_Int) [tV 11] false),
 oO 13 (.bin .add (.c (.str [58])) (tU 12)),
 oO 3 (.mv (tV 13))] [1, 2, 3])
 (.seq (.seq (.region [oO 14 (.faddr (tU 1) 0),
 oO 15 (.load (tU 14) (.loc 1) 1 false false)] [1, 2, 3, 15])
 (.block 0
 (.seq (.region [oO 17 (.bin .eql (tU 15) (.c (.int .i64 1))),
 oO 16 (.mv (tV 17))] [1, 2, 3, 15, 16])
 (.cond (tU 16)
 (.seq (.region [oO 18 (.faddr (tU 1) 3),
 oO 19 (.load (tU 18) (.loc 1) 1 false false),
 oO 20 (.mv (tV 3)),
 oO 21 (.bin .add (tU 19) (tU 20)),
 oO 22 (.build [.str [], .list [] .nil] [(0, 1, .t 21 true)]),
 oZ (.store (tU 2) (.loc 2) (tV 22) 2)] [2])
 (.ret))
 (.seq (.region [oO 24 (.bin .eql (tU 15) (.c (.int .i64 24))),
 oO 23 (.mv (tV 24))] [1, 2, 3, 15, 23])
 (.cond (tU 23)
 (.seq (.region [oO 25 (.faddr (tU 1) 3),
 oO 26 (.load (tU 25) (.loc 1) 1 false false),
 oO 27 (.bin .add (.c (.str [63])) (tU 26)),
 oO 28 (.mv (tV 3)),
 oO 29 (.bin .add (tU 27) (tU 28)),
 oO 30 (.build [.str [], .list [] .nil] [(0, 1, .t 29 true)]),
 oZ (.store (tU 2) (.loc 2) (tV 30) 2)] [2])
 (.ret))
 (.seq (.region [oO 32 (.bin .eql (tU 15) (.c (.int .i64 25))),
 oO 31 (.mv (tV 32))] [1, 2, 3, 15, 31])
 (.cond (tU 31)
 (.seq (.region [oO 33 (.faddr (tU 1) 3),
 oO 34 (.load (tU 33) (.loc 1) 1 false false),
 oO 35 (.bin .add (.c (.str [35])) (tU 34)),
 oO 36 (.mv (tV 3)),
 oO 37 (.bin .add (tU 35) (tU 36)),
 oO 38 (.build [.str [], .list [] .nil] [(0, 1, .t 37 true)]),
 oZ (.store (tU 2) (.loc 2) (tV 38) 2)] [2])
 (.ret))
 (.seq (.region [oO 40 (.bin .eql (tU 15) (.c (.int .i64 2))),
 oO 39 (.mv (tV 40))] [1, 2, 3, 39])
 (.cond (tU 39)
 (.seq (.region [oO 41 (.faddr (tU 1) 2),
 oO 42 (.load (tU 41) (.loc 1) 1 false false),
 oO 43 (.call (.f n_saturateref02_Dec) [tV 42] false),
 oO 44 (.mv (tV 3)),
 oO 45 (.bin .add (tU 43) (tU 44)),
 oO 46 (.build [.str [], .list [] .nil] [(0, 1, .t 45 true)]),
 oZ (.store (tU 2) (.loc 2) (tV 46) 2)] [2])
 (.ret))
 (.skip)))))))))))
 (.seq (.region [oO 47 (.faddr (tU 1) 0),
 oO 48 (.load (tU 47) (.loc 1) 1 false false),
 oO 49 (.call (.f n_saturateref04_Name) [tV 48] false),
 oO 50 (.build [.str [], .list [] .nil] [(0, 1, .t 49 true)]),
 oO 51 (.bslice (.agg [.str [], .list [] .nil]) 0 1 [(0, .t 50 true)]),
 oO 4 (.mv (tV 51))] [1, 2, 4])
 (.seq (.seq (.region [oO 52 (.faddr (tU 1) 0),
 oO 53 (.load (tU 52) (.loc 1) 1 false false),
 oO 54 (.bin .eql (tU 53) (.c (.int .i64 21)))] [1, 2, 4, 54])
 (.cond (tU 54)
 (.region [oO 55 (.mv (tV 4)),
 oO 56 (.faddr (tU 1) 2),
 oO 57 (.load (tU 56) (.loc 1) 1 false false),
 oO 58 (.call (.f n_saturateref02_Dec) [tV 57] false),
 oO 59 (.build [.str [], .list [] .nil] [(0, 1, .t 58 true)]),
 oO 60 (.bslice (.agg [.str [], .list [] .nil]) 0 1 [(0, .t 59 true)]),
 oO 61 (.append (tV 55) (tU 60) 2 0 40 false),
 oO 4 (.mv (tV 61))] [1, 2, 4])
 (.skip)))
 (.seq (.seq (.region [oO 62 (.faddr (tU 1) 0),
 oO 63 (.load (tU 62) (.loc 1) 1 false false),
 oO 64 (.call (.f n_saturateref07_plain) [tV 63] false),
 oO 65 (.bin .gtr (tU 64) (.c (.int .i64 0)))] [1, 2, 4, 65])
 (.cond (tU 65)
 (.region [oO 66 (.mv (tV 4)),
 oO 67 (.faddr (tU 1) 1),
 oO 68 (.load (tU 67) (.loc 1) 1 false false),
 oO 69 (.call (.f n_saturateref02_Int) [tV 68] false),
 oO 70 (.build [.str [], .list [] .nil] [(0, 1, .t 69 true)]),
 oO 71 (.bslice (.agg [.str [], .list [] .nil]) 0 1 [(0, .t 70 true)]),
 oO 72 (.append (tV 66) (tU 71) 2 0 40 false),
 oO 4 (.mv (tV 72))] [1, 2, 4])
 (.skip)))
 (.seq (.seq (.region [oO 5 (.mv (.c (.int .i64 0)))] [1, 2, 4, 5])
 (.block 1
 (.loop l_saturateref07_Write_0)))
 (.seq (.region [oO 89 (.mv (tV 4)),
 oO 90 (.build [.str [], .list [] .nil] [(1, 1, .t 89 true)]),
 oZ (.store (tU 2) (.loc 2) (tV 90) 2)] [2])
 (.ret))))))))),
 [.cell 2 2 true], none, none, []⟩
def i_saturateref05_Same : IFun := ⟨true, 2,
 .seq (.region [oO 2 (.box false (tV 0)),
 oO 3 (.box false (tV 1)),
 oO 4 (.mv (.c (.bool false)))] [2, 3])
 (.seq (.region [oO 5 (.faddr (tU 2) 0),
 oO 6 (.load (tU 5) (.loc 2) 1 false false),
 oO 7 (.faddr (tU 3) 0),
 oO 8 (.load (tU 7) (.loc 3) 1 false false),
 oO 9 (.bin .eql (tU 6) (tU 8)),
 oO 10 (.mv (tV 9)),
 ⟨some 11, .faddr (tU 2) 1, (some (10, true))⟩,
 ⟨some 12, .load (tU 11) (.loc 2) 1 false false, (some (10, true))⟩,
 ⟨some 13, .faddr (tU 3) 1, (some (10, true))⟩,
 ⟨some 14, .load (tU 13) (.loc 3) 1 false false, (some (10, true))⟩,
 ⟨some 15, .call (.f n_saturateref05_SameAll) [tV 12, tV 14] false, (some (10, true))⟩,
 oO 16 (.pick (tU 10) (tU 15) (.c (.bool false))),
 oO 4 (.mv (tV 16))] [4])
 (.ret)),
 [.tmp 4], none, none, []⟩
def l_termtext_Write_0 : ICode :=
 .seq (.region [oO 79 (.bin .lss (tU 78) (tU 77))] [2, 4, 76, 77, 78, 79])
 (.seq (.cond (tU 79)
 (.skip)
 (.exit 1))
 (.seq (.block 2
 (.seq (.region [oO 80 (.iaddrL (tU 76) (tU 78) 5),
 oO 81 (.load (tU 80) .elem 5 true false),
 oO 6 (.alloc false 0 [.int .i64 0, .int .i64 0, .int .u64 0, .str [], .list [] .nil]),
 oZ (.store (tU 6) (.loc 6) (tV 81) 5)] [2, 4, 6, 76, 77, 78])
 (.region [oO 82 (.mv (tV 4)),
 oO 83 (.load (tU 6) (.loc 6) 5 true false),
 oO 84 (.call (.f n_termtext_Write) [tV 83] false),
 oO 85 (.bslice (.agg [.str [], .list [] .nil]) 0 1 [(0, .t 84 true)]),
 oO 86 (.append (tV 82) (tU 85) 2 0 40 false),
 oO 4 (.mv (tV 86))] [2, 4, 76, 77, 78])))
 (.region [oO 87 (.bin .add (tU 78) (.c (.int .i64 1))),
 oO 78 (.mv (tV 87))] [2, 4, 76, 77, 78])))
def i_termtext_Write : IFun := ⟨true, 1,
 .seq (.region [oO 1 (.box false (tV 0)),
 oO 2 (.alloc false 0 [.str [], .list [] .nil])] [1, 2])
 (.seq (.seq (.region [oO 7 (.load (tU 1) (.loc 1) 5 true false),
 oO 8 (.call (.f n_termtext_notable) [tV 7] false),
 oO 9 (.un .not (tU 8))] [1, 2, 9])
 (.cond (tU 9)
 (.seq (.region [oO 10 (.call (.f n_termtext_atom) [.c (.str [63])] false),
 oZ (.store (tU 2) (.loc 2) (tV 10) 2)] [2])
 (.ret))
 (.skip)))
 (.seq (.region [oO 11 (.faddr (tU 1) 1),
 oO 12 (.load (tU 11) (.loc 1) 1 false false),
 oO 13 (.call (.f n_digits_Int) [tV 12] false),
 oO 3 (.mv (tV 13))] [1, 2, 3])
 (.seq (.seq (.region [oO 14 (.faddr (tU 1) 0),
 oO 15 (.load (tU 14) (.loc 1) 1 false false)] [1, 2, 3, 15])
 (.block 0
 (.seq (.region [oO 17 (.bin .eql (tU 15) (.c (.int .i64 1))),
 oO 16 (.mv (tV 17))] [1, 2, 3, 15, 16])
 (.cond (tU 16)
 (.seq (.region [oO 18 (.faddr (tU 1) 3),
 oO 19 (.load (tU 18) (.loc 1) 1 false false),
 oO 20 (.bin .add (tU 19) (.c (.str [58]))),
 oO 21 (.mv (tV 3)),
 oO 22 (.bin .add (tU 20) (tU 21)),
 oO 23 (.call (.f n_termtext_atom) [tV 22] false),
 oZ (.store (tU 2) (.loc 2) (tV 23) 2)] [2])
 (.ret))
 (.seq (.region [oO 25 (.bin .eql (tU 15) (.c (.int .i64 24))),
 oO 24 (.mv (tV 25))] [1, 2, 3, 15, 24])
 (.cond (tU 24)
 (.seq (.region [oO 26 (.faddr (tU 1) 3),
 oO 27 (.load (tU 26) (.loc 1) 1 false false),
 oO 28 (.bin .add (.c (.str [63])) (tU 27)),
 oO 29 (.bin .add (tU 28) (.c (.str [58]))),
 oO 30 (.mv (tV 3)),
 oO 31 (.bin .add (tU 29) (tU 30)),
 oO 32 (.call (.f n_termtext_atom) [tV 31] false),
 oZ (.store (tU 2) (.loc 2) (tV 32) 2)] [2])
 (.ret))
 (.seq (.region [oO 34 (.bin .eql (tU 15) (.c (.int .i64 25))),
 oO 33 (.mv (tV 34))] [1, 2, 3, 15, 33])
 (.cond (tU 33)
 (.seq (.region [oO 35 (.faddr (tU 1) 3),
 oO 36 (.load (tU 35) (.loc 1) 1 false false),
 oO 37 (.bin .add (.c (.str [35])) (tU 36)),
 oO 38 (.bin .add (tU 37) (.c (.str [58]))),
 oO 39 (.mv (tV 3)),
 oO 40 (.bin .add (tU 38) (tU 39)),
 oO 41 (.call (.f n_termtext_atom) [tV 40] false),
 oZ (.store (tU 2) (.loc 2) (tV 41) 2)] [2])
 (.ret))
 (.seq (.region [oO 43 (.bin .eql (tU 15) (.c (.int .i64 2))),
 oO 42 (.mv (tV 43))] [1, 2, 3, 42])
 (.cond (tU 42)
 (.seq (.region [oO 44 (.faddr (tU 1) 2),
 oO 45 (.load (tU 44) (.loc 1) 1 false false),
 oO 46 (.call (.f n_digits_Dec) [tV 45] false),
 oO 47 (.bin .add (tU 46) (.c (.str [58]))),
 oO 48 (.mv (tV 3)),
 oO 49 (.bin .add (tU 47) (tU 48)),
 oO 50 (.call (.f n_termtext_atom) [tV 49] false),
 oZ (.store (tU 2) (.loc 2) (tV 50) 2)] [2])
 (.ret))
 (.skip)))))))))))
 (.seq (.region [oO 51 (.faddr (tU 1) 0),
 oO 52 (.load (tU 51) (.loc 1) 1 false false),
 oO 53 (.call (.f n_opinfo_Name) [tV 52] false),
 oO 54 (.call (.f n_termtext_atom) [tV 53] false),
 oO 55 (.bslice (.agg [.str [], .list [] .nil]) 0 1 [(0, .t 54 true)]),
 oO 4 (.mv (tV 55))] [1, 2, 3, 4])
 (.seq (.seq (.region [oO 56 (.faddr (tU 1) 0),
 oO 57 (.load (tU 56) (.loc 1) 1 false false),
 oO 58 (.bin .eql (tU 57) (.c (.int .i64 21)))] [1, 2, 3, 4, 58])
 (.cond (tU 58)
 (.region [oO 59 (.mv (tV 4)),
 oO 60 (.faddr (tU 1) 2),
 oO 61 (.load (tU 60) (.loc 1) 1 false false),
 oO 62 (.call (.f n_digits_Dec) [tV 61] false),
 oO 63 (.call (.f n_termtext_atom) [tV 62] false),
 oO 64 (.bslice (.agg [.str [], .list [] .nil]) 0 1 [(0, .t 63 true)]),
 oO 65 (.append (tV 59) (tU 64) 2 0 40 false),
 oO 4 (.mv (tV 65))] [1, 2, 3, 4])
 (.skip)))
 (.seq (.seq (.region [oO 66 (.faddr (tU 1) 0),
 oO 67 (.load (tU 66) (.loc 1) 1 false false),
 oO 68 (.call (.f n_termtext_numerals) [tV 67] false),
 oO 69 (.bin .gtr (tU 68) (.c (.int .i64 0)))] [1, 2, 3, 4, 69])
 (.cond (tU 69)
 (.region [oO 70 (.mv (tV 4)),
 oO 71 (.mv (tV 3)),
 oO 72 (.call (.f n_termtext_atom) [tV 71] false),
 oO 73 (.bslice (.agg [.str [], .list [] .nil]) 0 1 [(0, .t 72 true)]),
 oO 74 (.append (tV 70) (tU 73) 2 0 40 false),
 oO 4 (.mv (tV 74))] [1, 2, 4])
 (.skip)))
 (.seq (.seq (.region [oO 75 (.faddr (tU 1) 4),
 oO 76 (.load (tU 75) (.loc 1) 1 false false),
 oO 77 (.len (tU 76) .list),
 oO 78 (.mv (.c (.int .i64 0)))] [2, 4, 76, 77, 78])
 (.block 1
 (.loop l_termtext_Write_0)))
 (.seq (.region [oO 88 (.mv (tV 4)),
 oO 89 (.build [.str [], .list [] .nil] [(1, 1, .t 88 true)]),
 oZ (.store (tU 2) (.loc 2) (tV 89) 2)] [2])
 (.ret))))))))),
 [.cell 2 2 true], none, none, []⟩
def i_termtext_Print : IFun := ⟨true, 1,
 .seq (.region [oO 1 (.box false (tV 0)),
 oO 2 (.mv (.c (.str [])))] [1])
 (.seq (.region [oO 3 (.load (tU 1) (.loc 1) 5 true false),
 oO 4 (.call (.f n_termtext_Write) [tV 3] false),
 oO 5 (.call (.f n_sexpr_Print) [tV 4] false),
 oO 2 (.mv (tV 5))] [2])
 (.ret)),
 [.tmp 2], none, none, []⟩
def l_saturateref05_Print_0 : ICode :=
 .seq (.seq (.region [oO 10 (.mv (tU 4)),
 oO 11 (.faddr (tU 1) 1),
 oO 12 (.load (tU 11) (.loc 1) 1 false false),
 oO 13 (.len (tU 12) .list),
 oO 14 (.bin .lss (tU 10) (tU 13))] [1, 3, 4, 14])
 (.cond (tU 14)
 (.skip)
 (.exit 0)))
 (.seq (.block 1
 (.seq (.seq (.region [oO 17 (.mv (tU 4)),
 oO 18 (.bin .gtr (tU 17) (.c (.int .i64 0)))] [1, 3, 4, 18])
 (.cond (tU 18)
 (.region [oO 19 (.mv (tV 3)),
 oO 20 (.bin .add (tU 19) (.c (.str [32]))),
 oO 3 (.mv (tV 20))] [1, 3, 4])
 (.skip)))
 (.region [oO 21 (.mv (tV 3)),
 oO 22 (.faddr (tU 1) 1),
 oO 23 (.load (tU 22) (.loc 1) 1 false false),
 oO 24 (.mv (tU 4)),
 oO 25 (.iaddrL (tU 23) (tU 24) 2),
 oO 26 (.load (tU 25) .elem 2 true false),
 oO 27 (.call (.f n_saturateref05_Print) [tV 26] false),
 oO 28 (.bin .add (tU 21) (tU 27)),
 oO 3 (.mv (tV 28))] [1, 3, 4])))
 (.region [oO 15 (.mv (tV 4)),
 oO 16 (.bin .add (tU 15) (.c (.int .i64 1))),
 oO 4 (.mv (tV 16))] [1, 3, 4]))
def i_saturateref05_Print : IFun := ⟨true, 1,
 .seq (.region [oO 1 (.box false (tV 0)),
 oO 2 (.mv (.c (.str [])))] [1])
 (.seq (.seq (.region [oO 5 (.faddr (tU 1) 0),
 oO 6 (.load (tU 5) (.loc 1) 1 false false),
 oO 7 (.bin .neq (tU 6) (.c (.str [])))] [1, 7])
 (.cond (tU 7)
 (.seq (.region [oO 8 (.faddr (tU 1) 0),
 oO 9 (.load (tU 8) (.loc 1) 1 false false),
 oO 2 (.mv (tV 9))] [2])
 (.ret))
 (.skip)))
 (.seq (.region [oO 3 (.mv (.c (.str [40])))] [1, 3])
 (.seq (.seq (.region [oO 4 (.mv (.c (.int .i64 0)))] [1, 3, 4])
 (.block 0
 (.loop l_saturateref05_Print_0)))
 (.seq (.region [oO 29 (.mv (tV 3)),
 oO 30 (.bin .add (tU 29) (.c (.str [41]))),
 oO 2 (.mv (tV 30))] [2])
 (.ret))))),
 [.tmp 2], none, none, []⟩
def l_saturateref07_Deep_0 : ICode :=
 .seq (.seq (.region [oO 8 (.mv (tU 5)),
 oO 9 (.faddr (tU 2) 4),
 oO 10 (.load (tU 9) (.loc 2) 1 false false),
 oO 11 (.len (tU 10) .list),
 oO 12 (.bin .lss (tU 8) (tU 11))] [1, 2, 5, 12])
 (.cond (tU 12)
 (.skip)
 (.exit 0)))
 (.seq (.block 1
 (.seq (.region [oO 15 (.faddr (tU 2) 4),
 oO 16 (.load (tU 15) (.loc 2) 1 false false),
 oO 17 (.mv (tU 5)),
 oO 18 (.iaddrL (tU 16) (tU 17) 5),
 oO 19 (.load (tU 18) .elem 5 true false),
 oO 20 (.mv (tU 1)),
 oO 21 (.bin .sub (tU 20) (.c (.int .i64 1))),
 oO 22 (.call (.f n_saturateref07_Deep) [tV 19, tV 21] false)] [1, 2, 5, 22])
 (.cond (tU 22)
 (.seq (.region [oO 4 (.mv (.c (.bool true)))] [4])
 (.ret))
 (.skip))))
 (.region [oO 13 (.mv (tV 5)),
 oO 14 (.bin .add (tU 13) (.c (.int .i64 1))),
 oO 5 (.mv (tV 14))] [1, 2, 5]))
def i_saturateref07_Deep : IFun := ⟨true, 2,
 .seq (.region [oO 2 (.box false (tV 0)),
 oO 4 (.mv (.c (.bool false)))] [1, 2])
 (.seq (.seq (.region [oO 6 (.mv (tU 1)),
 oO 7 (.bin .lss (tU 6) (.c (.int .i64 1)))] [1, 2, 7])
 (.cond (tU 7)
 (.seq (.region [oO 4 (.mv (.c (.bool true)))] [4])
 (.ret))
 (.skip)))
 (.seq (.seq (.region [oO 5 (.mv (.c (.int .i64 0)))] [1, 2, 5])
 (.block 0
 (.loop l_saturateref07_Deep_0)))
 (.seq (.region [oO 4 (.mv (.c (.bool false)))] [4])
 (.ret)))),
 [.tmp 4], none, none, []⟩
def l_saturateref07_Valid_0 : ICode :=
 .seq (.seq (.region [oO 8 (.mv (tU 4)),
 oO 9 (.faddr (tU 1) 4),
 oO 10 (.load (tU 9) (.loc 1) 1 false false),
 oO 11 (.len (tU 10) .list),
 oO 12 (.bin .lss (tU 8) (tU 11))] [1, 3, 4, 12])
 (.cond (tU 12)
 (.skip)
 (.exit 0)))
 (.seq (.block 1
 (.seq (.seq (.region [oO 15 (.faddr (tU 1) 4),
 oO 16 (.load (tU 15) (.loc 1) 1 false false),
 oO 17 (.mv (tU 4)),
 oO 18 (.iaddrL (tU 16) (tU 17) 5),
 oO 19 (.load (tU 18) .elem 5 true false),
 oO 20 (.call (.f n_saturateref07_Valid) [tV 19] false),
 oO 21 (.un .not (tU 20))] [1, 3, 4, 21])
 (.cond (tU 21)
 (.seq (.region [oO 2 (.mv (.c (.bool false)))] [2])
 (.ret))
 (.skip)))
 (.region [oO 22 (.mv (tV 3)),
 oO 23 (.faddr (tU 1) 4),
 oO 24 (.load (tU 23) (.loc 1) 1 false false),
 oO 25 (.mv (tU 4)),
 oO 26 (.iaddrL (tU 24) (tU 25) 5),
 oO 27 (.faddr (tU 26) 1),
 oO 28 (.load (tU 27) .elem 1 false false),
 oO 29 (.bslice (.int .i64 0) 0 1 [(0, .t 28 true)]),
 oO 30 (.append (tV 22) (tU 29) 1 0 8 false),
 oO 3 (.mv (tV 30))] [1, 3, 4])))
 (.region [oO 13 (.mv (tV 4)),
 oO 14 (.bin .add (tU 13) (.c (.int .i64 1))),
 oO 4 (.mv (tV 14))] [1, 3, 4]))
def i_saturateref07_Valid : IFun := ⟨true, 1,
 .seq (.region [oO 1 (.box false (tV 0)),
 oO 2 (.mv (.c (.bool false)))] [1])
 (.seq (.region [oO 7 (.bslice (.int .i64 0) 0 0 []),
 oO 3 (.mv (tV 7))] [1, 3])
 (.seq (.seq (.region [oO 4 (.mv (.c (.int .i64 0)))] [1, 3, 4])
 (.block 0
 (.loop l_saturateref07_Valid_0)))
 (.seq (.region [oO 32 (.faddr (tU 1) 0),
 oO 33 (.load (tU 32) (.loc 1) 1 false false),
 oO 34 (.faddr (tU 1) 1),
 oO 35 (.load (tU 34) (.loc 1) 1 false false),
 oO 36 (.faddr (tU 1) 2),
 oO 37 (.load (tU 36) (.loc 1) 1 false false),
 oO 38 (.mv (tV 3)),
 oO 39 (.call (.f n_saturateref04_Width) [tV 33, tV 35, tV 37, tV 38] false),
 oO 31 (.mv (tV 39)),
 oO 40 (.extract (tU 31) 0),
 oO 41 (.extract (tV 31) 1),
 oO 5 (.mv (tV 40)),
 oO 6 (.mv (tV 41))] [1, 5, 6])
 (.seq (.region [oO 42 (.load (tU 1) (.loc 1) 5 true false),
 oO 43 (.call (.f n_saturateref07_Notable) [tV 42] false),
 oO 44 (.mv (tV 43)),
 ⟨some 45, .mv (tV 6), (some (44, true))⟩,
 ⟨some 46, .bin .eql (tU 45) (.c (.int .i64 0)), (some (44, true))⟩,
 oO 47 (.pick (tU 44) (tU 46) (.c (.bool false))),
 oO 48 (.mv (tV 47)),
 ⟨some 49, .mv (tV 5), (some (48, true))⟩,
 ⟨some 50, .faddr (tU 1) 1, (some (48, true))⟩,
 ⟨some 51, .load (tU 50) (.loc 1) 1 false false, (some (48, true))⟩,
 ⟨some 52, .bin .eql (tU 49) (tU 51), (some (48, true))⟩,
 oO 53 (.pick (tU 48) (tU 52) (.c (.bool false))),
 oO 2 (.mv (tV 53))] [2])
 (.ret))))),
 [.tmp 2], none, none, []⟩
def i_saturateref06_Light : IFun := ⟨true, 3,
 .seq (.region [oO 3 (.box false (tV 0)),
 oO 6 (.alloc false 0 [.int .i64 0, .int .i64 0, .int .u64 0, .str [], .list [] .nil]),
 oO 7 (.mv (.c (.bool false)))] [1, 2, 3, 6])
 (.seq (.seq (.region [oO 8 (.load (tU 3) (.loc 3) 5 true false),
 oO 9 (.mv (tV 1)),
 oO 10 (.mv (tV 2)),
 oO 11 (.call (.f n_saturateref06_count) [tV 8, tV 9, tV 10] false),
 oO 12 (.bin .lss (tU 11) (.c (.int .i64 0)))] [3, 6, 12])
 (.cond (tU 12)
 (.seq (.region [oO 13 (.build [.int .i64 0, .int .i64 0, .int .u64 0, .str [], .list [] .nil] []),
 oZ (.store (tU 6) (.loc 6) (tV 13) 5),
 oO 7 (.mv (.c (.bool false)))] [6, 7])
 (.ret))
 (.skip)))
 (.seq (.region [oO 14 (.load (tU 3) (.loc 3) 5 true false),
 oZ (.store (tU 6) (.loc 6) (tV 14) 5),
 oO 7 (.mv (.c (.bool true)))] [6, 7])
 (.ret))),
 [.cell 6 5 true, .tmp 7], none, none, []⟩
def i_termtext_Read_1 : IFun := ⟨false, 2,
 .block 0
 (.seq (.region [oO 7 (.eq false .iface (tU 5) (.c (.nili)))] [0, 1, 5, 7])
 (.cond (tU 7)
 (.region [oO 2 (.mv (tV 5))] [])
 (.seq (.region [oO 8 (.assert (tU 5) 78 (.agg [.int .i64 0]) true),
 oO 9 (.extract (tU 8) 1),
 oO 10 (.extract (tV 8) 0)] [0, 1, 5, 9, 10])
 (.cond (tU 9)
 (.seq (.region [oO 3 (.alloc false 0 [.int .i64 0]),
 oZ (.store (tU 3) (.loc 3) (tV 10) 1)] [0, 1, 3])
 (.draw [oO 11 (.build [.int .i64 0, .int .i64 0, .int .u64 0, .str [], .list [] .nil] []),
 oO 12 (.faddr (tU 3) 0),
 oO 13 (.load (tU 12) (.loc 3) 1 false false),
 oZ (.store (tU 0) .heap (tV 11) 5),
 oZ (.store (tU 1) .heap (tV 13) 1)] [0, 1, 2, 3, 4] [] []))
 (.seq (.region [oO 4 (.mv (tV 5))] [4])
 (.region [oO 6 (.mv (tV 4)),
 oZ (.panic (tU 6))] [])))))),
 [], some 5, none, []⟩
def l_termtext_read_0 : ICode :=
 .seq (.region [oO 78 (.bin .lss (tU 77) (tU 76))] [2, 3, 7, 8, 75, 76, 77, 78])
 (.seq (.cond (tU 78)
 (.skip)
 (.exit 0))
 (.seq (.block 1
 (.seq (.region [oO 79 (.iaddrL (tU 75) (tU 77) 2),
 oO 80 (.load (tU 79) .elem 2 true false),
 oO 10 (.alloc false 0 [.str [], .list [] .nil]),
 oZ (.store (tU 10) (.loc 10) (tV 80) 2)] [2, 3, 7, 8, 10, 75, 76, 77])
 (.seq (.region [oO 81 (.load (tU 10) (.loc 10) 2 true false),
 oO 82 (.call (.f n_termtext_read) [tV 81] false),
 oO 11 (.alloc false 0 [.int .i64 0, .int .i64 0, .int .u64 0, .str [], .list [] .nil]),
 oZ (.store (tU 11) (.loc 11) (tV 82) 5)] [2, 3, 7, 8, 11, 75, 76, 77])
 (.seq (.region [oO 83 (.faddr (tU 7) 4),
 oO 84 (.load (tU 83) (.loc 7) 1 false true),
 oO 85 (.load (tU 11) (.loc 11) 5 true false),
 oO 86 (.bslice (.agg [.int .i64 0, .int .i64 0, .int .u64 0, .str [], .list [] .nil]) 0 1 [(0, .t 85 true)]),
 oO 87 (.append (tV 84) (tU 86) 5 0 64 false),
 oO 88 (.faddr (tU 7) 4),
 oZ (.store (tU 88) (.loc 7) (tV 87) 1)] [2, 3, 7, 8, 11, 75, 76, 77])
 (.region [oO 89 (.mv (tV 8)),
 oO 90 (.faddr (tU 11) 1),
 oO 91 (.load (tU 90) (.loc 11) 1 false false),
 oO 92 (.bslice (.int .i64 0) 0 1 [(0, .t 91 true)]),
 oO 93 (.append (tV 89) (tU 92) 1 0 8 false),
 oO 8 (.mv (tV 93))] [2, 3, 7, 8, 75, 76, 77])))))
 (.region [oO 94 (.bin .add (tU 77) (.c (.int .i64 1))),
 oO 77 (.mv (tV 94))] [2, 3, 7, 8, 75, 76, 77])))
def i_termtext_read : IFun := ⟨true, 1,
 .seq (.region [oO 1 (.box false (tV 0)),
 oO 2 (.alloc false 0 [.int .i64 0, .int .i64 0, .int .u64 0, .str [], .list [] .nil])] [1, 2])
 (.seq (.seq (.region [oO 14 (.faddr (tU 1) 0),
 oO 15 (.load (tU 14) (.loc 1) 1 false false),
 oO 16 (.bin .neq (tU 15) (.c (.str [])))] [1, 2, 16])
 (.cond (tU 16)
 (.seq (.region [oO 17 (.faddr (tU 1) 0),
 oO 18 (.load (tU 17) (.loc 1) 1 false false),
 oO 19 (.call (.f n_termtext_leaf) [tV 18] false),
 oZ (.store (tU 2) (.loc 2) (tV 19) 5)] [2])
 (.ret))
 (.skip)))
 (.seq (.region [oO 20 (.faddr (tU 1) 1),
 oO 21 (.load (tU 20) (.loc 1) 1 false false),
 oO 22 (.len (tU 21) .list),
 oO 23 (.bin .gtr (tU 22) (.c (.int .i64 0))),
 oO 24 (.call (.f n_termtext_must) [tV 23, .c (.int .i64 6)] false)] [1, 2])
 (.seq (.region [oO 26 (.faddr (tU 1) 1),
 oO 27 (.load (tU 26) (.loc 1) 1 false false),
 oO 28 (.iaddrL (tU 27) (.c (.int .i64 0)) 2),
 oO 29 (.faddr (tU 28) 0),
 oO 30 (.load (tU 29) .elem 1 false false),
 oO 31 (.call (.f n_opinfo_Of) [tV 30] false),
 oO 25 (.mv (tV 31)),
 oO 32 (.extract (tU 25) 0),
 oO 33 (.extract (tV 25) 1),
 oO 3 (.mv (tV 32)),
 oO 4 (.mv (tV 33))] [1, 2, 3, 4])
 (.seq (.region [oO 34 (.mv (tV 4)),
 oO 35 (.mv (tV 34)),
 ⟨some 36, .mv (tU 3), (some (35, true))⟩,
 ⟨some 37, .call (.f n_opinfo_Leaf) [tV 36] false, (some (35, true))⟩,
 ⟨some 38, .un .not (tU 37), (some (35, true))⟩,
 oO 39 (.pick (tU 35) (tU 38) (.c (.bool false))),
 oO 40 (.call (.f n_termtext_must) [tV 39, .c (.int .i64 6)] false)] [1, 2, 3])
 (.seq (.region [oO 41 (.faddr (tU 1) 1),
 oO 42 (.load (tU 41) (.loc 1) 1 false false),
 oO 43 (.slcL (tU 42) (some (.c (.int .i64 1))) none 2),
 oO 5 (.mv (tV 43))] [2, 3, 5])
 (.seq (.region [oO 44 (.mv (tU 3)),
 oO 45 (.call (.f n_termtext_numerals) [tV 44] false),
 oO 6 (.mv (tV 45))] [2, 3, 5, 6])
 (.seq (.region [oO 46 (.mv (tU 5)),
 oO 47 (.len (tU 46) .list),
 oO 48 (.mv (tU 6)),
 oO 49 (.mv (tU 3)),
 oO 50 (.call (.f n_opinfo_Arity) [tV 49] false),
 oO 51 (.bin .add (tU 48) (tU 50)),
 oO 52 (.bin .eql (tU 47) (tU 51)),
 oO 53 (.call (.f n_termtext_must) [tV 52, .c (.int .i64 6)] false)] [2, 3, 5, 6])
 (.seq (.region [oO 54 (.mv (tU 3)),
 oO 55 (.build [.int .i64 0, .int .i64 0, .int .u64 0, .str [], .list [] .nil] [(0, 1, .t 54 true)]),
 oO 7 (.alloc false 0 [.int .i64 0, .int .i64 0, .int .u64 0, .str [], .list [] .nil]),
 oZ (.store (tU 7) (.loc 7) (tV 55) 5)] [2, 3, 5, 6, 7])
 (.seq (.seq (.region [oO 56 (.mv (tU 6)),
 oO 57 (.bin .eql (tU 56) (.c (.int .i64 2)))] [2, 3, 5, 6, 7, 57])
 (.cond (tU 57)
 (.region [oO 58 (.mv (tU 5)),
 oO 59 (.iaddrL (tU 58) (.c (.int .i64 0)) 2),
 oO 60 (.load (tU 59) .elem 2 true false),
 oO 61 (.call (.f n_termtext_number) [tV 60, .c (.int .u64 18446744073709551615)] false),
 oO 62 (.faddr (tU 7) 2),
 oZ (.store (tU 62) (.loc 7) (tV 61) 1)] [2, 3, 5, 6, 7])
 (.skip)))
 (.seq (.seq (.region [oO 63 (.mv (tU 6)),
 oO 64 (.bin .gtr (tU 63) (.c (.int .i64 0)))] [2, 3, 5, 6, 7, 64])
 (.cond (tU 64)
 (.region [oO 65 (.mv (tU 5)),
 oO 66 (.mv (tU 6)),
 oO 67 (.bin .sub (tU 66) (.c (.int .i64 1))),
 oO 68 (.iaddrL (tU 65) (tU 67) 2),
 oO 69 (.load (tU 68) .elem 2 true false),
 oO 70 (.call (.f n_termtext_number) [tV 69, .c (.int .u64 64)] false),
 oO 71 (.conv .i64 (tU 70)),
 oO 72 (.faddr (tU 7) 1),
 oZ (.store (tU 72) (.loc 7) (tV 71) 1)] [2, 3, 5, 6, 7])
 (.skip)))
 (.seq (.region [oO 8 (.mv (.c (.list [] .nil)))] [2, 3, 5, 6, 7, 8])
 (.seq (.seq (.region [oO 73 (.mv (tV 5)),
 oO 74 (.mv (tV 6)),
 oO 75 (.slcL (tU 73) (some (tU 74)) none 2),
 oO 76 (.len (tU 75) .list),
 oO 77 (.mv (.c (.int .i64 0)))] [2, 3, 7, 8, 75, 76, 77])
 (.block 0
 (.loop l_termtext_read_0)))
 (.seq (.region [oO 96 (.mv (tV 3)),
 oO 97 (.faddr (tU 7) 1),
 oO 98 (.load (tU 97) (.loc 7) 1 false false),
 oO 99 (.faddr (tU 7) 2),
 oO 100 (.load (tU 99) (.loc 7) 1 false false),
 oO 101 (.mv (tV 8)),
 oO 102 (.call (.f n_opinfo_Width) [tV 96, tV 98, tV 100, tV 101] false),
 oO 95 (.mv (tV 102)),
 oO 103 (.extract (tU 95) 0),
 oO 104 (.extract (tV 95) 1),
 oO 12 (.mv (tV 103)),
 oO 13 (.mv (tV 104))] [2, 7, 12, 13])
 (.seq (.region [oO 105 (.mv (tV 13)),
 oO 106 (.call (.f n_termtext_fail) [tV 105] false)] [2, 7, 12])
 (.seq (.region [oO 107 (.mv (tV 12)),
 oO 108 (.faddr (tU 7) 1),
 oZ (.store (tU 108) (.loc 7) (tV 107) 1)] [2, 7])
 (.seq (.region [oO 109 (.load (tU 7) (.loc 7) 5 true false),
 oZ (.store (tU 2) (.loc 2) (tV 109) 5)] [2])
 (.ret))))))))))))))))),
 [.cell 2 5 true], none, none, []⟩
def i_saturateref04_Leaf : IFun := ⟨true, 1,
 .seq (.region [oO 2 (.mv (.c (.bool false)))] [0])
 (.seq (.region [oO 3 (.mv (tV 0)),
 oO 4 (.bslice (.int .i64 0) 0 4 [(0, .c (.int .i64 1)), (1, .c (.int .i64 2)), (2, .c (.int .i64 24)), (3, .c (.int .i64 25))]),
 oO 5 (.call (.f n_saturateref04_Is) [tV 3, tV 4] false),
 oO 2 (.mv (tV 5))] [2])
 (.ret)),
 [.tmp 2], none, none, []⟩
def i_saturateref07_plain : IFun := ⟨true, 1,
 .seq (.region [oO 2 (.mv (.c (.int .i64 0)))] [0])
 (.seq (.seq (.region [oO 3 (.mv (tU 0)),
 oO 4 (.bin .eql (tU 3) (.c (.int .i64 21)))] [0, 4])
 (.cond (tU 4)
 (.seq (.region [oO 2 (.mv (.c (.int .i64 2)))] [2])
 (.ret))
 (.skip)))
 (.seq (.seq (.region [oO 5 (.mv (tU 0)),
 oO 6 (.bin .eql (tU 5) (.c (.int .i64 22))),
 oO 7 (.mv (tV 6)),
 ⟨some 8, .mv (tV 0), (some (7, false))⟩,
 ⟨some 9, .bin .eql (tU 8) (.c (.int .i64 23)), (some (7, false))⟩,
 oO 10 (.pick (tU 7) (.c (.bool true)) (tU 9))] [10])
 (.cond (tU 10)
 (.seq (.region [oO 2 (.mv (.c (.int .i64 1)))] [2])
 (.ret))
 (.skip)))
 (.seq (.region [oO 2 (.mv (.c (.int .i64 0)))] [2])
 (.ret)))),
 [.tmp 2], none, none, []⟩
def i_saturateref04_Arity : IFun := ⟨true, 1,
 .seq (.region [oO 2 (.mv (.c (.int .i64 0)))] [0])
 (.seq (.seq (.region [oO 3 (.mv (tU 0)),
 oO 4 (.bin .lss (tU 3) (.c (.int .i64 1))),
 oO 5 (.mv (tV 4)),
 ⟨some 6, .mv (tU 0), (some (5, false))⟩,
 ⟨some 7, .bin .gtr (tU 6) (.c (.int .i64 26)), (some (5, false))⟩,
 oO 8 (.pick (tU 5) (.c (.bool true)) (tU 7))] [0, 8])
 (.cond (tU 8)
 (.seq (.region [oO 2 (.mv (.c (.int .i64 (-1))))] [2])
 (.ret))
 (.skip)))
 (.seq (.seq (.region [oO 9 (.mv (tU 0)),
 oO 10 (.call (.f n_saturateref04_Leaf) [tV 9] false)] [0, 10])
 (.cond (tU 10)
 (.seq (.region [oO 2 (.mv (.c (.int .i64 0)))] [2])
 (.ret))
 (.skip)))
 (.seq (.seq (.region [oO 11 (.mv (tU 0)),
 oO 12 (.bslice (.int .i64 0) 0 6 [(0, .c (.int .i64 3)), (1, .c (.int .i64 4)), (2, .c (.int .i64 21)), (3, .c (.int .i64 22)), (4, .c (.int .i64 23)), (5, .c (.int .i64 26))]),
 oO 13 (.call (.f n_saturateref04_Is) [tV 11, tV 12] false)] [0, 13])
 (.cond (tU 13)
 (.seq (.region [oO 2 (.mv (.c (.int .i64 1)))] [2])
 (.ret))
 (.skip)))
 (.seq (.seq (.region [oO 14 (.mv (tV 0)),
 oO 15 (.bin .eql (tU 14) (.c (.int .i64 19)))] [15])
 (.cond (tU 15)
 (.seq (.region [oO 2 (.mv (.c (.int .i64 3)))] [2])
 (.ret))
 (.skip)))
 (.seq (.region [oO 2 (.mv (.c (.int .i64 2)))] [2])
 (.ret)))))),
 [.tmp 2], none, none, []⟩
def l_saturateref04_Width_0 : ICode :=
 .seq (.region [oO 24 (.bin .lss (tU 23) (tU 22))] [0, 1, 2, 3, 22, 23, 24])
 (.seq (.cond (tU 24)
 (.skip)
 (.exit 0))
 (.seq (.block 1
 (.seq (.region [oO 25 (.mv (tU 23)),
 oO 10 (.mv (tV 25))] [0, 1, 2, 3, 10, 22, 23])
 (.seq (.region [oO 26 (.mv (tU 3)),
 oO 27 (.mv (tV 10)),
 oO 28 (.iaddrL (tU 26) (tU 27) 1),
 oO 29 (.load (tU 28) .elem 1 false false),
 oO 30 (.call (.f n_saturateref04_width) [tV 29] false),
 oO 31 (.un .not (tU 30))] [0, 1, 2, 3, 22, 23, 31])
 (.cond (tU 31)
 (.seq (.region [oO 8 (.mv (.c (.int .i64 0))),
 oO 9 (.mv (.c (.int .i64 3)))] [8, 9])
 (.ret))
 (.skip)))))
 (.region [oO 32 (.bin .add (tU 23) (.c (.int .i64 1))),
 oO 23 (.mv (tV 32))] [0, 1, 2, 3, 22, 23])))
def i_saturateref04_Width : IFun := ⟨true, 4,
 .seq (.region [oO 8 (.mv (.c (.int .i64 0))),
 oO 9 (.mv (.c (.int .i64 0)))] [0, 1, 2, 3])
 (.seq (.seq (.region [oO 11 (.mv (tU 0)),
 oO 12 (.call (.f n_saturateref04_Arity) [tV 11] false),
 oO 13 (.bin .lss (tU 12) (.c (.int .i64 0))),
 oO 14 (.mv (tV 13)),
 ⟨some 15, .mv (tU 3), (some (14, false))⟩,
 ⟨some 16, .len (tU 15) .list, (some (14, false))⟩,
 ⟨some 17, .mv (tU 0), (some (14, false))⟩,
 ⟨some 18, .call (.f n_saturateref04_Arity) [tV 17] false, (some (14, false))⟩,
 ⟨some 19, .bin .neq (tU 16) (tU 18), (some (14, false))⟩,
 oO 20 (.pick (tU 14) (.c (.bool true)) (tU 19))] [0, 1, 2, 3, 20])
 (.cond (tU 20)
 (.seq (.region [oO 8 (.mv (.c (.int .i64 0))),
 oO 9 (.mv (.c (.int .i64 4)))] [8, 9])
 (.ret))
 (.skip)))
 (.seq (.seq (.region [oO 21 (.mv (tU 3)),
 oO 22 (.len (tU 21) .list),
 oO 23 (.mv (.c (.int .i64 0)))] [0, 1, 2, 3, 22, 23])
 (.block 0
 (.loop l_saturateref04_Width_0)))
 (.seq (.seq (.region [oO 33 (.mv (tU 0)),
 oO 34 (.call (.f n_saturateref04_Leaf) [tV 33] false)] [0, 1, 2, 3, 34])
 (.cond (tU 34)
 (.seq (.region [oO 35 (.mv (tV 0)),
 oO 36 (.mv (tV 1)),
 oO 37 (.mv (tV 2)),
 oO 38 (.call (.f n_saturateref04_leaf) [tV 35, tV 36, tV 37] false),
 oO 39 (.extract (tU 38) 0),
 oO 40 (.extract (tV 38) 1),
 oO 8 (.mv (tV 39)),
 oO 9 (.mv (tV 40))] [8, 9])
 (.ret))
 (.skip)))
 (.seq (.seq (.region [oO 41 (.mv (tU 0)),
 oO 42 (.bin .eql (tU 41) (.c (.int .i64 21))),
 oO 43 (.mv (tV 42)),
 ⟨some 44, .mv (tU 0), (some (43, false))⟩,
 ⟨some 45, .bin .eql (tU 44) (.c (.int .i64 22)), (some (43, false))⟩,
 oO 46 (.pick (tU 43) (.c (.bool true)) (tU 45)),
 oO 47 (.mv (tV 46)),
 ⟨some 48, .mv (tU 0), (some (47, false))⟩,
 ⟨some 49, .bin .eql (tU 48) (.c (.int .i64 23)), (some (47, false))⟩,
 oO 50 (.pick (tU 47) (.c (.bool true)) (tU 49))] [0, 1, 2, 3, 50])
 (.cond (tU 50)
 (.seq (.region [oO 51 (.mv (tV 0)),
 oO 52 (.mv (tV 1)),
 oO 53 (.mv (tV 2)),
 oO 54 (.mv (tV 3)),
 oO 55 (.iaddrL (tU 54) (.c (.int .i64 0)) 1),
 oO 56 (.load (tU 55) .elem 1 false false),
 oO 57 (.call (.f n_saturateref04_parts) [tV 51, tV 52, tV 53, tV 56] false),
 oO 58 (.extract (tU 57) 0),
 oO 59 (.extract (tV 57) 1),
 oO 8 (.mv (tV 58)),
 oO 9 (.mv (tV 59))] [8, 9])
 (.ret))
 (.skip)))
 (.seq (.seq (.region [oO 60 (.mv (tU 3)),
 oO 61 (.len (tU 60) .list),
 oO 62 (.bin .eql (tU 61) (.c (.int .i64 1)))] [0, 3, 62])
 (.cond (tU 62)
 (.seq (.region [oO 63 (.mv (tV 3)),
 oO 64 (.iaddrL (tU 63) (.c (.int .i64 0)) 1),
 oO 65 (.load (tU 64) .elem 1 false false),
 oO 8 (.mv (tV 65)),
 oO 9 (.mv (.c (.int .i64 0)))] [8, 9])
 (.ret))
 (.skip)))
 (.seq (.seq (.region [oO 66 (.mv (tU 0)),
 oO 67 (.bin .eql (tU 66) (.c (.int .i64 20)))] [0, 3, 67])
 (.cond (tU 67)
 (.seq (.seq (.draw [oO 68 (.mv (tU 3)),
 oO 69 (.iaddrL (tU 68) (.c (.int .i64 0)) 1),
 oO 70 (.load (tU 69) .elem 1 false false),
 oO 71 (.bin .lss (tU 70) (.c (.int .i64 1))),
 oO 72 (.mv (tV 71)),
 ⟨some 73, .mv (tU 3), (some (72, false))⟩,
 ⟨some 74, .iaddrL (tU 73) (.c (.int .i64 1)) 1, (some (72, false))⟩,
 ⟨some 75, .load (tU 74) .elem 1 false false, (some (72, false))⟩,
 ⟨some 76, .bin .lss (tU 75) (.c (.int .i64 1)), (some (72, false))⟩,
 oO 77 (.pick (tU 72) (.c (.bool true)) (tU 76)),
 oO 78 (.mv (tV 77)),
 ⟨some 79, .mv (tU 3), (some (78, false))⟩,
 ⟨some 80, .iaddrL (tU 79) (.c (.int .i64 0)) 1, (some (78, false))⟩,
 ⟨some 81, .load (tU 80) .elem 1 false false, (some (78, false))⟩,
 ⟨some 82, .mv (tU 3), (some (78, false))⟩,
 ⟨some 83, .iaddrL (tU 82) (.c (.int .i64 1)) 1, (some (78, false))⟩,
 ⟨some 84, .load (tU 83) .elem 1 false false, (some (78, false))⟩,
 ⟨some 85, .bin .add (tU 81) (tU 84), (some (78, false))⟩,
 ⟨some 86, .bin .gtr (tU 85) (.c (.int .i64 64)), (some (78, false))⟩,
 oO 87 (.pick (tU 78) (.c (.bool true)) (tU 86))] [0, 1, 2, 3, 4, 5, 6, 7, 8, 9, 10, 11, 12, 13, 14, 15, 16, 17, 18, 19] [] [3, 87])
 (.cond (tU 87)
 (.seq (.region [oO 8 (.mv (.c (.int .i64 0))),
 oO 9 (.mv (.c (.int .i64 3)))] [8, 9])
 (.ret))
 (.skip)))
 (.seq (.draw [oO 88 (.mv (tU 3)),
 oO 89 (.iaddrL (tU 88) (.c (.int .i64 0)) 1),
 oO 90 (.load (tU 89) .elem 1 false false),
 oO 91 (.mv (tU 3)),
 oO 92 (.iaddrL (tU 91) (.c (.int .i64 1)) 1),
 oO 93 (.load (tU 92) .elem 1 false false),
 oO 94 (.bin .add (tU 90) (tU 93)),
 oO 8 (.mv (tV 94)),
 oO 9 (.mv (.c (.int .i64 0)))] [0, 1, 2, 3, 4, 5, 6, 7, 8] [] [8, 9])
 (.ret)))
 (.skip)))
 (.seq (.seq (.region [oO 95 (.mv (tU 0)),
 oO 96 (.bin .eql (tU 95) (.c (.int .i64 19)))] [0, 3, 96])
 (.cond (tU 96)
 (.seq (.seq (.draw [oO 97 (.mv (tU 3)),
 oO 98 (.iaddrL (tU 97) (.c (.int .i64 0)) 1),
 oO 99 (.load (tU 98) .elem 1 false false),
 oO 100 (.bin .neq (tU 99) (.c (.int .i64 1))),
 oO 101 (.mv (tV 100)),
 ⟨some 102, .mv (tU 3), (some (101, false))⟩,
 ⟨some 103, .iaddrL (tU 102) (.c (.int .i64 1)) 1, (some (101, false))⟩,
 ⟨some 104, .load (tU 103) .elem 1 false false, (some (101, false))⟩,
 ⟨some 105, .mv (tU 3), (some (101, false))⟩,
 ⟨some 106, .iaddrL (tU 105) (.c (.int .i64 2)) 1, (some (101, false))⟩,
 ⟨some 107, .load (tU 106) .elem 1 false false, (some (101, false))⟩,
 ⟨some 108, .bin .neq (tU 104) (tU 107), (some (101, false))⟩,
 oO 109 (.pick (tU 101) (.c (.bool true)) (tU 108))] [0, 1, 2, 3, 4, 5, 6, 7, 8, 9, 10, 11, 12] [] [3, 109])
 (.cond (tU 109)
 (.seq (.region [oO 8 (.mv (.c (.int .i64 0))),
 oO 9 (.mv (.c (.int .i64 3)))] [8, 9])
 (.ret))
 (.skip)))
 (.seq (.region [oO 110 (.mv (tV 3)),
 oO 111 (.iaddrL (tU 110) (.c (.int .i64 1)) 1),
 oO 112 (.load (tU 111) .elem 1 false false),
 oO 8 (.mv (tV 112)),
 oO 9 (.mv (.c (.int .i64 0)))] [8, 9])
 (.ret)))
 (.skip)))
 (.seq (.seq (.draw [oO 113 (.mv (tU 3)),
 oO 114 (.iaddrL (tU 113) (.c (.int .i64 0)) 1),
 oO 115 (.load (tU 114) .elem 1 false false),
 oO 116 (.mv (tU 3)),
 oO 117 (.iaddrL (tU 116) (.c (.int .i64 1)) 1),
 oO 118 (.load (tU 117) .elem 1 false false),
 oO 119 (.bin .neq (tU 115) (tU 118))] [0, 1, 2, 3, 4, 5, 6] [] [0, 3, 119])
 (.cond (tU 119)
 (.seq (.region [oO 8 (.mv (.c (.int .i64 0))),
 oO 9 (.mv (.c (.int .i64 3)))] [8, 9])
 (.ret))
 (.skip)))
 (.seq (.seq (.region [oO 120 (.mv (tU 0)),
 oO 121 (.bin .eql (tU 120) (.c (.int .i64 16))),
 oO 122 (.mv (tV 121)),
 ⟨some 123, .mv (tU 0), (some (122, false))⟩,
 ⟨some 124, .bin .eql (tU 123) (.c (.int .i64 17)), (some (122, false))⟩,
 oO 125 (.pick (tU 122) (.c (.bool true)) (tU 124)),
 oO 126 (.mv (tV 125)),
 ⟨some 127, .mv (tV 0), (some (126, false))⟩,
 ⟨some 128, .bin .eql (tU 127) (.c (.int .i64 18)), (some (126, false))⟩,
 oO 129 (.pick (tU 126) (.c (.bool true)) (tU 128))] [3, 129])
 (.cond (tU 129)
 (.seq (.region [oO 8 (.mv (.c (.int .i64 1))),
 oO 9 (.mv (.c (.int .i64 0)))] [8, 9])
 (.ret))
 (.skip)))
 (.seq (.region [oO 130 (.mv (tV 3)),
 oO 131 (.iaddrL (tU 130) (.c (.int .i64 0)) 1),
 oO 132 (.load (tU 131) .elem 1 false false),
 oO 8 (.mv (tV 132)),
 oO 9 (.mv (.c (.int .i64 0)))] [8, 9])
 (.ret))))))))))),
 [.tmp 8, .tmp 9], none, none, []⟩
def l_saturateref06_SameAll_0 : ICode :=
 .seq (.seq (.region [oO 11 (.mv (tU 5)),
 oO 12 (.mv (tU 0)),
 oO 13 (.len (tU 12) .list),
 oO 14 (.bin .lss (tU 11) (tU 13))] [0, 1, 5, 14])
 (.cond (tU 14)
 (.skip)
 (.exit 0)))
 (.seq (.block 1
 (.seq (.draw [oO 17 (.mv (tU 0)),
 oO 18 (.mv (tU 5)),
 oO 19 (.iaddrL (tU 17) (tU 18) 5),
 oO 20 (.load (tU 19) .elem 5 true false),
 oO 21 (.mv (tU 1)),
 oO 22 (.mv (tU 5)),
 oO 23 (.iaddrL (tU 21) (tU 22) 5),
 oO 24 (.load (tU 23) .elem 5 true false),
 oO 25 (.call (.f n_saturateref06_Same) [tV 20, tV 24] true),
 oO 26 (.un .not (tU 25))] [0, 1, 2, 3, 4, 5, 6, 7, 8, 9] [8] [0, 1, 5, 26])
 (.cond (tU 26)
 (.seq (.region [oO 4 (.mv (.c (.bool false)))] [4])
 (.ret))
 (.skip))))
 (.region [oO 15 (.mv (tV 5)),
 oO 16 (.bin .add (tU 15) (.c (.int .i64 1))),
 oO 5 (.mv (tV 16))] [0, 1, 5]))
def i_saturateref06_SameAll : IFun := ⟨true, 2,
 .seq (.region [oO 4 (.mv (.c (.bool false)))] [0, 1])
 (.seq (.seq (.region [oO 6 (.mv (tU 0)),
 oO 7 (.len (tU 6) .list),
 oO 8 (.mv (tU 1)),
 oO 9 (.len (tU 8) .list),
 oO 10 (.bin .neq (tU 7) (tU 9))] [0, 1, 10])
 (.cond (tU 10)
 (.seq (.region [oO 4 (.mv (.c (.bool false)))] [4])
 (.ret))
 (.skip)))
 (.seq (.seq (.region [oO 5 (.mv (.c (.int .i64 0)))] [0, 1, 5])
 (.block 0
 (.loop l_saturateref06_SameAll_0)))
 (.seq (.region [oO 4 (.mv (.c (.bool true)))] [4])
 (.ret)))),
 [.tmp 4], none, none, []⟩
def i_sexpr_Parse : IFun := ⟨true, 1,
 .seq (.region [oO 2 (.alloc false 0 [.str [], .list [] .nil]),
 oO 3 (.mv (.c (.int .i64 0))),
 oO 4 (.mv (.c (.int .i64 0)))] [0, 2])
 (.seq (.region [oO 10 (.mv (tU 0)),
 oO 11 (.call (.f n_sexpr_all) [tV 10] false),
 oO 9 (.mv (tV 11)),
 oO 12 (.extract (tU 9) 0),
 oO 13 (.extract (tU 9) 1),
 oO 14 (.extract (tU 9) 2),
 oO 15 (.extract (tV 9) 3),
 oO 5 (.mv (tV 12)),
 oO 6 (.mv (tV 13)),
 oO 7 (.mv (tV 14)),
 oO 8 (.mv (tV 15))] [0, 2, 5, 6, 7, 8])
 (.seq (.block 0
 (.seq (.region [oO 17 (.mv (tU 8)),
 oO 18 (.bin .neq (tU 17) (.c (.int .i64 0))),
 oO 16 (.mv (tV 18))] [0, 2, 5, 6, 7, 8, 16])
 (.cond (tU 16)
 (.seq (.region [oO 19 (.build [.str [], .list [] .nil] []),
 oO 20 (.mv (tV 7)),
 oO 21 (.mv (tV 8)),
 oZ (.store (tU 2) (.loc 2) (tV 19) 2),
 oO 3 (.mv (tV 20)),
 oO 4 (.mv (tV 21))] [2, 3, 4])
 (.ret))
 (.seq (.region [oO 23 (.mv (tU 5)),
 oO 24 (.len (tU 23) .list),
 oO 25 (.bin .eql (tU 24) (.c (.int .i64 0))),
 oO 22 (.mv (tV 25))] [0, 2, 5, 6, 22])
 (.cond (tU 22)
 (.seq (.region [oO 26 (.build [.str [], .list [] .nil] []),
 oO 27 (.mv (tV 0)),
 oO 28 (.len (tU 27) .str),
 oZ (.store (tU 2) (.loc 2) (tV 26) 2),
 oO 3 (.mv (tV 28)),
 oO 4 (.mv (.c (.int .i64 6)))] [2, 3, 4])
 (.ret))
 (.seq (.region [oO 30 (.mv (tU 5)),
 oO 31 (.len (tU 30) .list),
 oO 32 (.bin .gtr (tU 31) (.c (.int .i64 1))),
 oO 29 (.mv (tV 32))] [2, 5, 6, 29])
 (.cond (tU 29)
 (.seq (.draw [oO 33 (.build [.str [], .list [] .nil] []),
 oO 34 (.mv (tV 6)),
 oO 35 (.iaddrL (tU 34) (.c (.int .i64 1)) 1),
 oO 36 (.load (tU 35) .elem 1 false false),
 oZ (.store (tU 2) (.loc 2) (tV 33) 2),
 oO 3 (.mv (tV 36)),
 oO 4 (.mv (.c (.int .i64 6)))] [0, 1, 2, 3, 4, 5, 6] [] [2, 3, 4])
 (.ret))
 (.skip))))))))
 (.seq (.region [oO 37 (.mv (tV 5)),
 oO 38 (.iaddrL (tU 37) (.c (.int .i64 0)) 2),
 oO 39 (.load (tU 38) .elem 2 true false),
 oZ (.store (tU 2) (.loc 2) (tV 39) 2),
 oO 3 (.mv (.c (.int .i64 0))),
 oO 4 (.mv (.c (.int .i64 0)))] [2, 3, 4])
 (.ret)))),
 [.cell 2 2 true, .tmp 3, .tmp 4], none, none, []⟩
def i_saturateref07_Notable : IFun := ⟨true, 1,
 .seq (.region [oO 1 (.box false (tV 0)),
 oO 2 (.mv (.c (.bool false)))] [1])
 (.seq (.seq (.region [oO 3 (.faddr (tU 1) 1),
 oO 4 (.load (tU 3) (.loc 1) 1 false false),
 oO 5 (.bin .lss (tU 4) (.c (.int .i64 0))),
 oO 6 (.mv (tV 5)),
 ⟨some 7, .faddr (tU 1) 1, (some (6, false))⟩,
 ⟨some 8, .load (tU 7) (.loc 1) 1 false false, (some (6, false))⟩,
 ⟨some 9, .bin .gtr (tU 8) (.c (.int .i64 64)), (some (6, false))⟩,
 oO 10 (.pick (tU 6) (.c (.bool true)) (tU 9))] [1, 10])
 (.cond (tU 10)
 (.seq (.region [oO 2 (.mv (.c (.bool false)))] [2])
 (.ret))
 (.skip)))
 (.seq (.seq (.region [oO 11 (.faddr (tU 1) 0),
 oO 12 (.load (tU 11) (.loc 1) 1 false false)] [1, 12])
 (.block 0
 (.seq (.seq (.region [oO 14 (.bin .eql (tU 12) (.c (.int .i64 1))),
 oO 13 (.mv (tV 14))] [1, 12, 13])
 (.cond (tU 13)
 (.skip)
 (.seq (.region [oO 15 (.bin .eql (tU 12) (.c (.int .i64 24))),
 oO 13 (.mv (tV 15))] [1, 12, 13])
 (.cond (tU 13)
 (.skip)
 (.region [oO 16 (.bin .eql (tU 12) (.c (.int .i64 25))),
 oO 13 (.mv (tV 16))] [1, 12, 13])))))
 (.cond (tU 13)
 (.seq (.region [oO 17 (.faddr (tU 1) 3),
 oO 18 (.load (tU 17) (.loc 1) 1 false false),
 oO 19 (.call (.f n_saturateref07_Name) [tV 18] false),
 oO 20 (.mv (tV 19)),
 ⟨some 21, .faddr (tU 1) 2, (some (20, true))⟩,
 ⟨some 22, .load (tU 21) (.loc 1) 1 false false, (some (20, true))⟩,
 ⟨some 23, .bin .eql (tU 22) (.c (.int .u64 0)), (some (20, true))⟩,
 oO 24 (.pick (tU 20) (tU 23) (.c (.bool false))),
 oO 25 (.mv (tV 24)),
 ⟨some 26, .faddr (tU 1) 4, (some (25, true))⟩,
 ⟨some 27, .load (tU 26) (.loc 1) 1 false false, (some (25, true))⟩,
 ⟨some 28, .len (tU 27) .list, (some (25, true))⟩,
 ⟨some 29, .bin .eql (tU 28) (.c (.int .i64 0)), (some (25, true))⟩,
 oO 30 (.pick (tU 25) (tU 29) (.c (.bool false))),
 oO 2 (.mv (tV 30))] [2])
 (.ret))
 (.seq (.region [oO 32 (.bin .eql (tU 12) (.c (.int .i64 2))),
 oO 31 (.mv (tV 32))] [1, 31])
 (.cond (tU 31)
 (.seq (.region [oO 33 (.faddr (tU 1) 3),
 oO 34 (.load (tU 33) (.loc 1) 1 false false),
 oO 35 (.bin .eql (tU 34) (.c (.str []))),
 oO 36 (.mv (tV 35)),
 ⟨some 37, .faddr (tU 1) 4, (some (36, true))⟩,
 ⟨some 38, .load (tU 37) (.loc 1) 1 false false, (some (36, true))⟩,
 ⟨some 39, .len (tU 38) .list, (some (36, true))⟩,
 ⟨some 40, .bin .eql (tU 39) (.c (.int .i64 0)), (some (36, true))⟩,
 oO 41 (.pick (tU 36) (tU 40) (.c (.bool false))),
 oO 2 (.mv (tV 41))] [2])
 (.ret))
 (.skip)))))))
 (.seq (.draw [oO 42 (.faddr (tU 1) 3),
 oO 43 (.load (tU 42) (.loc 1) 1 false false),
 oO 44 (.bin .eql (tU 43) (.c (.str []))),
 oO 45 (.mv (tV 44)),
 ⟨some 46, .faddr (tU 1) 2, (some (45, true))⟩,
 ⟨some 47, .load (tU 46) (.loc 1) 1 false false, (some (45, true))⟩,
 ⟨some 48, .bin .eql (tU 47) (.c (.int .u64 0)), (some (45, true))⟩,
 ⟨some 49, .mv (tV 48), (some (45, true))⟩,
 ⟨some 50, .faddr (tU 1) 0, (some (49, false))⟩,
 ⟨some 51, .load (tU 50) (.loc 1) 1 false false, (some (49, false))⟩,
 ⟨some 52, .bin .eql (tU 51) (.c (.int .i64 21)), (some (49, false))⟩,
 ⟨some 53, .pick (tU 49) (.c (.bool true)) (tU 52), (some (45, true))⟩,
 oO 54 (.pick (tU 45) (tU 53) (.c (.bool false))),
 oO 55 (.mv (tV 54)),
 ⟨some 56, .faddr (tU 1) 4, (some (55, true))⟩,
 ⟨some 57, .load (tU 56) (.loc 1) 1 false false, (some (55, true))⟩,
 ⟨some 58, .len (tU 57) .list, (some (55, true))⟩,
 ⟨some 59, .bin .gtr (tU 58) (.c (.int .i64 0)), (some (55, true))⟩,
 oO 60 (.pick (tU 55) (tU 59) (.c (.bool false))),
 oO 61 (.mv (tV 60)),
 ⟨some 62, .faddr (tU 1) 4, (some (61, true))⟩,
 ⟨some 63, .load (tU 62) (.loc 1) 1 false false, (some (61, true))⟩,
 ⟨some 64, .len (tU 63) .list, (some (61, true))⟩,
 ⟨some 65, .faddr (tU 1) 0, (some (61, true))⟩,
 ⟨some 66, .load (tU 65) (.loc 1) 1 false false, (some (61, true))⟩,
 ⟨some 67, .call (.f n_saturateref04_Arity) [tV 66] true, (some (61, true))⟩,
 ⟨some 68, .bin .eql (tU 64) (tU 67), (some (61, true))⟩,
 oO 69 (.pick (tU 61) (tU 68) (.c (.bool false))),
 oO 2 (.mv (tV 69))] [0, 1, 2, 3, 4, 5, 6, 7, 8, 9, 10, 11, 12, 13, 14, 15, 16, 17, 18, 19, 20, 21, 22, 23, 24, 25, 26, 27, 28] [25] [2])
 (.ret)))),
 [.tmp 2], none, none, []⟩
def i_saturateref02_Int : IFun := ⟨true, 1,
 .seq (.region [oO 2 (.mv (.c (.str [])))] [0])
 (.seq (.seq (.region [oO 3 (.mv (tU 0)),
 oO 4 (.bin .geq (tU 3) (.c (.int .i64 0)))] [0, 4])
 (.cond (tU 4)
 (.seq (.region [oO 5 (.mv (tV 0)),
 oO 6 (.conv .u64 (tU 5)),
 oO 7 (.call (.f n_saturateref02_Dec) [tV 6] false),
 oO 2 (.mv (tV 7))] [2])
 (.ret))
 (.skip)))
 (.seq (.region [oO 8 (.mv (tV 0)),
 oO 9 (.bin .add (tU 8) (.c (.int .i64 1))),
 oO 10 (.un .neg (tU 9)),
 oO 11 (.conv .u64 (tU 10)),
 oO 12 (.bin .add (tU 11) (.c (.int .u64 1))),
 oO 13 (.call (.f n_saturateref02_Dec) [tV 12] false),
 oO 14 (.bin .add (.c (.str [45])) (tU 13)),
 oO 2 (.mv (tV 14))] [2])
 (.ret))),
 [.tmp 2], none, none, []⟩
def i_saturateref02_Dec : IFun := ⟨true, 1,
 .seq (.region [oO 2 (.mv (.c (.str [])))] [0])
 (.seq (.region [oO 3 (.mv (tV 0)),
 oO 4 (.call (.f n_saturateref02_write) [tV 3, .c (.int .u64 10)] false),
 oO 2 (.mv (tV 4))] [2])
 (.ret)),
 [.tmp 2], none, none, []⟩
def i_saturateref04_Name : IFun := ⟨true, 1,
 .seq (.region [oO 2 (.mv (.c (.str [])))] [0])
 (.seq (.region [oO 4 (.bslice (.str []) 0 27 [(0, .c (.str [])), (1, .c (.str [118, 97, 114])), (2, .c (.str [99, 111, 110, 115, 116])), (3, .c (.str [110, 111, 116])), (4, .c (.str [110, 101, 103])), (5, .c (.str [97, 110, 100])), (6, .c (.str [111, 114])), (7, .c (.str [120, 111, 114])), (8, .c (.str [97, 100, 100])), (9, .c (.str [115, 117, 98])), (10, .c (.str [109, 117, 108])), (11, .c (.str [117, 100, 105, 118])), (12, .c (.str [117, 114, 101, 109])), (13, .c (.str [115, 104, 108])), (14, .c (.str [108, 115, 104, 114])), (15, .c (.str [97, 115, 104, 114])), (16, .c (.str [101, 113])), (17, .c (.str [117, 108, 116])), (18, .c (.str [115, 108, 116])), (19, .c (.str [105, 116, 101])), (20, .c (.str [99, 111, 110, 99, 97, 116])), (21, .c (.str [101, 120, 116, 114, 97, 99, 116])), (22, .c (.str [122, 101, 120, 116])), (23, .c (.str [115, 101, 120, 116])), (24, .c (.str [104, 111, 108, 101])), (25, .c (.str [110, 117, 109])), (26, .c (.str [101, 118, 97, 108]))]),
 oO 3 (.mv (tV 4))] [0, 3])
 (.seq (.seq (.region [oO 5 (.mv (tU 0)),
 oO 6 (.bin .lss (tU 5) (.c (.int .i64 1))),
 oO 7 (.mv (tV 6)),
 ⟨some 8, .mv (tU 0), (some (7, false))⟩,
 ⟨some 9, .bin .gtr (tU 8) (.c (.int .i64 26)), (some (7, false))⟩,
 oO 10 (.pick (tU 7) (.c (.bool true)) (tU 9))] [0, 3, 10])
 (.cond (tU 10)
 (.seq (.region [oO 2 (.mv (.c (.str [])))] [2])
 (.ret))
 (.skip)))
 (.seq (.region [oO 11 (.mv (tV 3)),
 oO 12 (.mv (tV 0)),
 oO 13 (.iaddrL (tU 11) (tU 12) 1),
 oO 14 (.load (tU 13) .elem 1 false false),
 oO 2 (.mv (tV 14))] [2])
 (.ret)))),
 [.tmp 2], none, none, []⟩
def l_saturateref05_SameAll_0 : ICode :=
 .seq (.seq (.region [oO 11 (.mv (tU 5)),
 oO 12 (.mv (tU 0)),
 oO 13 (.len (tU 12) .list),
 oO 14 (.bin .lss (tU 11) (tU 13))] [0, 1, 5, 14])
 (.cond (tU 14)
 (.skip)
 (.exit 0)))
 (.seq (.block 1
 (.seq (.draw [oO 17 (.mv (tU 0)),
 oO 18 (.mv (tU 5)),
 oO 19 (.iaddrL (tU 17) (tU 18) 2),
 oO 20 (.load (tU 19) .elem 2 true false),
 oO 21 (.mv (tU 1)),
 oO 22 (.mv (tU 5)),
 oO 23 (.iaddrL (tU 21) (tU 22) 2),
 oO 24 (.load (tU 23) .elem 2 true false),
 oO 25 (.call (.f n_saturateref05_Same) [tV 20, tV 24] true),
 oO 26 (.un .not (tU 25))] [0, 1, 2, 3, 4, 5, 6, 7, 8, 9] [8] [0, 1, 5, 26])
 (.cond (tU 26)
 (.seq (.region [oO 4 (.mv (.c (.bool false)))] [4])
 (.ret))
 (.skip))))
 (.region [oO 15 (.mv (tV 5)),
 oO 16 (.bin .add (tU 15) (.c (.int .i64 1))),
 oO 5 (.mv (tV 16))] [0, 1, 5]))
def i_saturateref05_SameAll : IFun := ⟨true, 2,
 .seq (.region [oO 4 (.mv (.c (.bool false)))] [0, 1])
 (.seq (.seq (.region [oO 6 (.mv (tU 0)),
 oO 7 (.len (tU 6) .list),
 oO 8 (.mv (tU 1)),
 oO 9 (.len (tU 8) .list),
 oO 10 (.bin .neq (tU 7) (tU 9))] [0, 1, 10])
 (.cond (tU 10)
 (.seq (.region [oO 4 (.mv (.c (.bool false)))] [4])
 (.ret))
 (.skip)))
 (.seq (.seq (.region [oO 5 (.mv (.c (.int .i64 0)))] [0, 1, 5])
 (.block 0
 (.loop l_saturateref05_SameAll_0)))
 (.seq (.region [oO 4 (.mv (.c (.bool true)))] [4])
 (.ret)))),
 [.tmp 4], none, none, []⟩
def i_termtext_notable : IFun := ⟨true, 1,
 .seq (.region [oO 1 (.box false (tV 0)),
 oO 2 (.mv (.c (.bool false)))] [1])
 (.seq (.seq (.draw [oO 3 (.faddr (tU 1) 1),
 oO 4 (.load (tU 3) (.loc 1) 1 false false),
 oO 5 (.bin .lss (tU 4) (.c (.int .i64 0))),
 oO 6 (.mv (tV 5)),
 ⟨some 7, .faddr (tU 1) 1, (some (6, false))⟩,
 ⟨some 8, .load (tU 7) (.loc 1) 1 false false, (some (6, false))⟩,
 ⟨some 9, .bin .gtr (tU 8) (.c (.int .i64 64)), (some (6, false))⟩,
 oO 10 (.pick (tU 6) (.c (.bool true)) (tU 9)),
 oO 11 (.mv (tV 10)),
 ⟨some 12, .faddr (tU 1) 4, (some (11, false))⟩,
 ⟨some 13, .load (tU 12) (.loc 1) 1 false false, (some (11, false))⟩,
 ⟨some 14, .len (tU 13) .list, (some (11, false))⟩,
 ⟨some 15, .faddr (tU 1) 0, (some (11, false))⟩,
 ⟨some 16, .load (tU 15) (.loc 1) 1 false false, (some (11, false))⟩,
 ⟨some 17, .call (.f n_opinfo_Arity) [tV 16] true, (some (11, false))⟩,
 ⟨some 18, .bin .neq (tU 14) (tU 17), (some (11, false))⟩,
 oO 19 (.pick (tU 11) (.c (.bool true)) (tU 18))] [0, 1, 2, 3, 4, 5, 6, 7, 8, 9, 10, 11, 12, 13, 14, 15, 16] [14] [1, 19])
 (.cond (tU 19)
 (.seq (.region [oO 2 (.mv (.c (.bool false)))] [2])
 (.ret))
 (.skip)))
 (.seq (.seq (.region [oO 20 (.faddr (tU 1) 0),
 oO 21 (.load (tU 20) (.loc 1) 1 false false)] [1, 21])
 (.block 0
 (.seq (.seq (.region [oO 23 (.bin .eql (tU 21) (.c (.int .i64 1))),
 oO 22 (.mv (tV 23))] [1, 21, 22])
 (.cond (tU 22)
 (.skip)
 (.seq (.region [oO 24 (.bin .eql (tU 21) (.c (.int .i64 24))),
 oO 22 (.mv (tV 24))] [1, 21, 22])
 (.cond (tU 22)
 (.skip)
 (.region [oO 25 (.bin .eql (tU 21) (.c (.int .i64 25))),
 oO 22 (.mv (tV 25))] [1, 21, 22])))))
 (.cond (tU 22)
 (.seq (.region [oO 26 (.faddr (tU 1) 3),
 oO 27 (.load (tU 26) (.loc 1) 1 false false),
 oO 28 (.call (.f n_term_Name) [tV 27] false),
 oO 29 (.mv (tV 28)),
 ⟨some 30, .faddr (tU 1) 2, (some (29, true))⟩,
 ⟨some 31, .load (tU 30) (.loc 1) 1 false false, (some (29, true))⟩,
 ⟨some 32, .bin .eql (tU 31) (.c (.int .u64 0)), (some (29, true))⟩,
 oO 33 (.pick (tU 29) (tU 32) (.c (.bool false))),
 oO 2 (.mv (tV 33))] [2])
 (.ret))
 (.seq (.seq (.region [oO 35 (.bin .eql (tU 21) (.c (.int .i64 2))),
 oO 34 (.mv (tV 35))] [1, 21, 34])
 (.cond (tU 34)
 (.skip)
 (.region [oO 36 (.bin .eql (tU 21) (.c (.int .i64 21))),
 oO 34 (.mv (tV 36))] [1, 34])))
 (.cond (tU 34)
 (.seq (.region [oO 37 (.faddr (tU 1) 3),
 oO 38 (.load (tU 37) (.loc 1) 1 false false),
 oO 39 (.bin .eql (tU 38) (.c (.str []))),
 oO 2 (.mv (tV 39))] [2])
 (.ret))
 (.skip)))))))
 (.seq (.region [oO 40 (.faddr (tU 1) 3),
 oO 41 (.load (tU 40) (.loc 1) 1 false false),
 oO 42 (.bin .eql (tU 41) (.c (.str []))),
 oO 43 (.mv (tV 42)),
 ⟨some 44, .faddr (tU 1) 2, (some (43, true))⟩,
 ⟨some 45, .load (tU 44) (.loc 1) 1 false false, (some (43, true))⟩,
 ⟨some 46, .bin .eql (tU 45) (.c (.int .u64 0)), (some (43, true))⟩,
 oO 47 (.pick (tU 43) (tU 46) (.c (.bool false))),
 oO 2 (.mv (tV 47))] [2])
 (.ret)))),
 [.tmp 2], none, none, []⟩
def i_termtext_atom : IFun := ⟨true, 1,
 .seq (.region [oO 2 (.alloc false 0 [.str [], .list [] .nil])] [0, 2])
 (.seq (.region [oO 3 (.mv (tV 0)),
 oO 4 (.build [.str [], .list [] .nil] [(0, 1, .t 3 true)]),
 oZ (.store (tU 2) (.loc 2) (tV 4) 2)] [2])
 (.ret)),
 [.cell 2 2 true], none, none, []⟩
def i_digits_Int : IFun := ⟨true, 1,
 .seq (.region [oO 2 (.mv (.c (.str [])))] [0])
 (.seq (.region [oO 3 (.mv (tV 0)),
 oO 4 (.call (.f n_strconv_Itoa) [tV 3] false),
 oO 2 (.mv (tV 4))] [2])
 (.ret)),
 [.tmp 2], none, none, []⟩
def i_digits_Dec : IFun := ⟨true, 1,
 .seq (.region [oO 2 (.mv (.c (.str [])))] [0])
 (.seq (.region [oO 3 (.mv (tV 0)),
 oO 4 (.call (.f n_strconv_FormatUint) [tV 3, .c (.int .i64 10)] false),
 oO 2 (.mv (tV 4))] [2])
 (.ret)),
 [.tmp 2], none, none, []⟩
def i_opinfo_Name : IFun := ⟨true, 1,
 .seq (.region [oO 2 (.mv (.c (.str [])))] [0])
 (.seq (.seq (.region [oO 3 (.mv (tU 0)),
 oO 4 (.call (.f n_opinfo_known) [tV 3] false),
 oO 5 (.un .not (tU 4))] [0, 5])
 (.cond (tU 5)
 (.seq (.region [oO 2 (.mv (.c (.str [])))] [2])
 (.ret))
 (.skip)))
 (.seq (.region [oO 6 (.mv (tV 0)),
 oO 7 (.iaddrA (.g 0) (tU 6) 27 1),
 oO 8 (.load (tU 7) .heap 1 false false),
 oO 2 (.mv (tV 8))] [2])
 (.ret))),
 [.tmp 2], none, none, []⟩
def i_termtext_numerals : IFun := ⟨true, 1,
 .seq (.region [oO 2 (.mv (.c (.int .i64 0)))] [0])
 (.seq (.seq (.region [oO 3 (.mv (tV 0))] [3])
 (.block 0
 (.seq (.region [oO 5 (.bin .eql (tU 3) (.c (.int .i64 21))),
 oO 4 (.mv (tV 5))] [3, 4])
 (.cond (tU 4)
 (.seq (.region [oO 2 (.mv (.c (.int .i64 2)))] [2])
 (.ret))
 (.seq (.seq (.region [oO 7 (.bin .eql (tU 3) (.c (.int .i64 22))),
 oO 6 (.mv (tV 7))] [3, 6])
 (.cond (tU 6)
 (.skip)
 (.region [oO 8 (.bin .eql (tU 3) (.c (.int .i64 23))),
 oO 6 (.mv (tV 8))] [6])))
 (.cond (tU 6)
 (.seq (.region [oO 2 (.mv (.c (.int .i64 1)))] [2])
 (.ret))
 (.skip)))))))
 (.seq (.region [oO 2 (.mv (.c (.int .i64 0)))] [2])
 (.ret))),
 [.tmp 2], none, none, []⟩
def i_sexpr_Print : IFun := ⟨true, 1,
 .seq (.region [oO 1 (.box false (tV 0)),
 oO 2 (.mv (.c (.str [])))] [1])
 (.seq (.region [oO 3 (.alloc true 110 [.nilp, .list [] .nil])] [1, 3])
 (.seq (.region [oO 4 (.load (tU 1) (.loc 1) 2 true false),
 oO 5 (.call (.f n_sexpr_write) [tU 3, tV 4] false)] [3])
 (.seq (.region [oO 6 (.call (.f n_strings_Builder_String) [tV 3] false),
 oO 2 (.mv (tV 6))] [2])
 (.ret)))),
 [.tmp 2], none, none, []⟩
def i_strings_Builder_WriteString : IFun := ⟨false, 2,
 .seq (.region [oO 4 (.mv (.c (.int .i64 0))),
 oO 5 (.mv (.c (.nili)))] [0, 1])
 (.seq (.region [oO 6 (.mv (tU 0)),
 oO 7 (.call (.f n_strings_Builder_copyCheck) [tV 6] false)] [0, 1])
 (.seq (.region [oO 8 (.mv (tU 0)),
 oO 9 (.mv (tV 0)),
 oO 10 (.nilchk (tU 9)),
 oO 11 (.faddr (tU 10) 1),
 oO 12 (.load (tU 11) .heap 1 false true),
 oO 13 (.mv (tU 1)),
 oO 14 (.append (tV 12) (tU 13) 1 5 1 false),
 oO 15 (.nilchk (tU 8)),
 oO 16 (.faddr (tU 15) 1),
 oZ (.store (tU 16) .heap (tV 14) 1)] [1])
 (.seq (.region [oO 17 (.mv (tV 1)),
 oO 18 (.len (tU 17) .str),
 oO 4 (.mv (tV 18)),
 oO 5 (.mv (.c (.nili)))] [4, 5])
 (.ret)))),
 [.tmp 4, .tmp 5], none, none, []⟩
def i_strings_Builder_WriteByte : IFun := ⟨false, 2,
 .seq (.region [oO 4 (.mv (.c (.nili)))] [0, 1])
 (.seq (.region [oO 5 (.mv (tU 0)),
 oO 6 (.call (.f n_strings_Builder_copyCheck) [tV 5] false)] [0, 1])
 (.seq (.region [oO 7 (.mv (tU 0)),
 oO 8 (.mv (tV 0)),
 oO 9 (.nilchk (tU 8)),
 oO 10 (.faddr (tU 9) 1),
 oO 11 (.load (tU 10) .heap 1 false true),
 oO 12 (.mv (tV 1)),
 oO 13 (.bslice (.int .u8 0) 5 1 [(0, .t 12 true)]),
 oO 14 (.append (tV 11) (tU 13) 1 5 1 false),
 oO 15 (.nilchk (tU 7)),
 oO 16 (.faddr (tU 15) 1),
 oZ (.store (tU 16) .heap (tV 14) 1)] [])
 (.seq (.region [oO 4 (.mv (.c (.nili)))] [4])
 (.ret)))),
 [.tmp 4], none, none, []⟩
def i_strings_Builder_String : IFun := ⟨false, 1,
 .seq (.region [oO 2 (.mv (.c (.str [])))] [0])
 (.seq (.draw [oO 3 (.mv (tU 0)),
 oO 4 (.nilchk (tU 3)),
 oO 5 (.faddr (tU 4) 1),
 oO 6 (.load (tU 5) .heap 1 false false),
 oO 7 (.sdata (tU 6) 5),
 oO 8 (.mv (tU 0)),
 oO 9 (.nilchk (tU 8)),
 oO 10 (.faddr (tU 9) 1),
 oO 11 (.load (tU 10) .heap 1 false false),
 oO 12 (.len (tU 11) .list),
 oO 13 (.ustr (tU 7) (tU 12) 5),
 oO 2 (.mv (tV 13))] [0, 1, 2, 3, 4, 5, 6, 7, 8, 9, 10, 11] [] [2])
 (.ret)),
 [.tmp 2], none, none, []⟩
def l_saturateref06_count_0 : ICode :=
 .seq (.seq (.region [oO 16 (.mv (tU 7)),
 oO 17 (.faddr (tU 3) 4),
 oO 18 (.load (tU 17) (.loc 3) 1 false false),
 oO 19 (.len (tU 18) .list),
 oO 20 (.bin .lss (tU 16) (tU 19)),
 oO 21 (.mv (tV 20)),
 ⟨some 22, .mv (tU 2), (some (21, true))⟩,
 ⟨some 23, .bin .geq (tU 22) (.c (.int .i64 0)), (some (21, true))⟩,
 oO 24 (.pick (tU 21) (tU 23) (.c (.bool false)))] [1, 2, 3, 7, 24])
 (.cond (tU 24)
 (.skip)
 (.exit 0)))
 (.seq (.block 1
 (.region [oO 27 (.faddr (tU 3) 4),
 oO 28 (.load (tU 27) (.loc 3) 1 false false),
 oO 29 (.mv (tU 7)),
 oO 30 (.iaddrL (tU 28) (tU 29) 5),
 oO 31 (.load (tU 30) .elem 5 true false),
 oO 32 (.mv (tU 1)),
 oO 33 (.bin .sub (tU 32) (.c (.int .i64 1))),
 oO 34 (.mv (tV 2)),
 oO 35 (.call (.f n_saturateref06_count) [tV 31, tV 33, tV 34] false),
 oO 2 (.mv (tV 35))] [1, 2, 3, 7]))
 (.region [oO 25 (.mv (tV 7)),
 oO 26 (.bin .add (tU 25) (.c (.int .i64 1))),
 oO 7 (.mv (tV 26))] [1, 2, 3, 7]))
def i_saturateref06_count : IFun := ⟨true, 3,
 .seq (.region [oO 3 (.box false (tV 0)),
 oO 6 (.mv (.c (.int .i64 0)))] [1, 2, 3])
 (.seq (.seq (.region [oO 8 (.mv (tU 1)),
 oO 9 (.bin .lss (tU 8) (.c (.int .i64 1))),
 oO 10 (.mv (tV 9)),
 ⟨some 11, .mv (tU 2), (some (10, false))⟩,
 ⟨some 12, .bin .lss (tU 11) (.c (.int .i64 1)), (some (10, false))⟩,
 oO 13 (.pick (tU 10) (.c (.bool true)) (tU 12))] [1, 2, 3, 13])
 (.cond (tU 13)
 (.seq (.region [oO 6 (.mv (.c (.int .i64 (-1))))] [6])
 (.ret))
 (.skip)))
 (.seq (.region [oO 14 (.mv (tV 2)),
 oO 15 (.bin .sub (tU 14) (.c (.int .i64 1))),
 oO 2 (.mv (tV 15))] [1, 2, 3])
 (.seq (.seq (.region [oO 7 (.mv (.c (.int .i64 0)))] [1, 2, 3, 7])
 (.block 0
 (.loop l_saturateref06_count_0)))
 (.seq (.region [oO 36 (.mv (tV 2)),
 oO 6 (.mv (tV 36))] [6])
 (.ret))))),
 [.tmp 6], none, none, []⟩
def i_termtext_leaf : IFun := ⟨true, 1,
 .seq (.region [oO 2 (.alloc false 0 [.int .i64 0, .int .i64 0, .int .u64 0, .str [], .list [] .nil])] [0, 2])
 (.seq (.region [oO 10 (.mv (tU 0)),
 oO 11 (.call (.f n_strings_Cut) [tV 10, .c (.str [58])] false),
 oO 9 (.mv (tV 11)),
 oO 12 (.extract (tU 9) 0),
 oO 13 (.extract (tU 9) 1),
 oO 14 (.extract (tV 9) 2),
 oO 3 (.mv (tV 12)),
 oO 4 (.mv (tV 13)),
 oO 5 (.mv (tV 14))] [0, 2, 3, 4, 5])
 (.seq (.region [oO 16 (.mv (tV 4)),
 oO 17 (.call (.f n_termtext_numeral) [tV 16] false),
 oO 15 (.mv (tV 17)),
 oO 18 (.extract (tU 15) 0),
 oO 19 (.extract (tV 15) 1),
 oO 6 (.mv (tV 18)),
 oO 7 (.mv (tV 19))] [0, 2, 3, 5, 6, 7])
 (.seq (.region [oO 20 (.mv (tV 5)),
 oO 21 (.mv (tV 20)),
 ⟨some 22, .mv (tU 7), (some (21, true))⟩,
 ⟨some 23, .bin .neq (tU 22) (.c (.int .i64 6)), (some (21, true))⟩,
 oO 24 (.pick (tU 21) (tU 23) (.c (.bool false))),
 oO 25 (.call (.f n_termtext_must) [tV 24, .c (.int .i64 6)] false)] [0, 2, 3, 6, 7])
 (.seq (.seq (.region [oO 26 (.mv (tU 0)),
 oO 27 (.idxS (tU 26) (.c (.int .i64 0))),
 oO 28 (.bin .geq (tU 27) (.c (.int .u8 48))),
 oO 29 (.mv (tV 28)),
 ⟨some 30, .mv (tV 0), (some (29, true))⟩,
 ⟨some 31, .idxS (tU 30) (.c (.int .i64 0)), (some (29, true))⟩,
 ⟨some 32, .bin .leq (tU 31) (.c (.int .u8 57)), (some (29, true))⟩,
 oO 33 (.pick (tU 29) (tU 32) (.c (.bool false)))] [2, 3, 6, 7, 33])
 (.cond (tU 33)
 (.seq (.region [oO 34 (.mv (tV 3)),
 oO 35 (.mv (tV 6)),
 oO 36 (.mv (tV 7)),
 oO 37 (.call (.f n_termtext_constant) [tV 34, tV 35, tV 36] false),
 oZ (.store (tU 2) (.loc 2) (tV 37) 5)] [2])
 (.ret))
 (.skip)))
 (.seq (.region [oO 38 (.mv (tU 3)),
 oO 39 (.build [.int .i64 0, .int .i64 0, .int .u64 0, .str [], .list [] .nil] [(0, 1, .c (.int .i64 1)), (3, 1, .t 38 true)]),
 oO 8 (.alloc false 0 [.int .i64 0, .int .i64 0, .int .u64 0, .str [], .list [] .nil]),
 oZ (.store (tU 8) (.loc 8) (tV 39) 5)] [2, 3, 6, 7, 8])
 (.seq (.seq (.region [oO 40 (.mv (tU 3)),
 oO 41 (.call (.f n_strings_HasPrefix) [tV 40, .c (.str [63])] false),
 oO 42 (.mv (tV 41)),
 ⟨some 43, .mv (tU 3), (some (42, false))⟩,
 ⟨some 44, .call (.f n_strings_HasPrefix) [tV 43, .c (.str [35])] false, (some (42, false))⟩,
 oO 45 (.pick (tU 42) (.c (.bool true)) (tU 44))] [2, 3, 6, 7, 8, 45])
 (.cond (tU 45)
 (.seq (.region [oO 46 (.faddr (tU 8) 0),
 oZ (.store (tU 46) (.loc 8) (.c (.int .i64 24)) 1)] [2, 3, 6, 7, 8])
 (.seq (.seq (.region [oO 47 (.mv (tU 3)),
 oO 48 (.idxS (tU 47) (.c (.int .i64 0))),
 oO 49 (.bin .eql (tU 48) (.c (.int .u8 35)))] [2, 3, 6, 7, 8, 49])
 (.cond (tU 49)
 (.region [oO 50 (.faddr (tU 8) 0),
 oZ (.store (tU 50) (.loc 8) (.c (.int .i64 25)) 1)] [2, 3, 6, 7, 8])
 (.skip)))
 (.region [oO 51 (.mv (tV 3)),
 oO 52 (.slcS (tU 51) (some (.c (.int .i64 1))) none),
 oO 53 (.faddr (tU 8) 3),
 oZ (.store (tU 53) (.loc 8) (tV 52) 1)] [2, 6, 7, 8])))
 (.skip)))
 (.seq (.region [oO 54 (.faddr (tU 8) 3),
 oO 55 (.load (tU 54) (.loc 8) 1 false false),
 oO 56 (.call (.f n_term_Name) [tV 55] false),
 oO 57 (.call (.f n_termtext_must) [tV 56, .c (.int .i64 5)] false)] [2, 6, 7, 8])
 (.seq (.region [oO 58 (.mv (tV 7)),
 oO 59 (.bin .eql (tU 58) (.c (.int .i64 0))),
 oO 60 (.mv (tV 59)),
 ⟨some 61, .mv (tU 6), (some (60, true))⟩,
 ⟨some 62, .bin .leq (tU 61) (.c (.int .u64 64)), (some (60, true))⟩,
 oO 63 (.pick (tU 60) (tU 62) (.c (.bool false))),
 oO 64 (.call (.f n_termtext_must) [tV 63, .c (.int .i64 2)] false)] [2, 6, 8])
 (.seq (.region [oO 65 (.mv (tV 6)),
 oO 66 (.conv .i64 (tU 65)),
 oO 67 (.faddr (tU 8) 1),
 oZ (.store (tU 67) (.loc 8) (tV 66) 1)] [2, 8])
 (.seq (.region [oO 68 (.load (tU 8) (.loc 8) 5 true false),
 oZ (.store (tU 2) (.loc 2) (tV 68) 5)] [2])
 (.ret))))))))))),
 [.cell 2 5 true], none, none, []⟩
def i_termtext_must : IFun := ⟨true, 2,
 .seq (.region [oO 4 (.mv (tV 0)),
 oO 5 (.un .not (tU 4))] [1, 5])
 (.cond (tU 5)
 (.region [oO 6 (.mv (tV 1)),
 oO 7 (.build [.int .i64 0] [(0, 1, .t 6 true)]),
 oO 8 (.mkiface 78 (tV 7)),
 oZ (.panic (tU 8))] [])
 (.skip)),
 [], none, none, []⟩
def l_opinfo_Of_0 : ICode :=
 .seq (.seq (.region [oO 5 (.mv (tU 4)),
 oO 6 (.bin .leq (tU 5) (.c (.int .i64 26)))] [0, 4, 6])
 (.cond (tU 6)
 (.skip)
 (.exit 0)))
 (.seq (.block 1
 (.seq (.region [oO 9 (.mv (tU 4)),
 oO 10 (.iaddrA (.g 0) (tU 9) 27 1),
 oO 11 (.load (tU 10) .heap 1 false false),
 oO 12 (.mv (tU 0)),
 oO 13 (.bin .eql (tU 11) (tU 12))] [0, 4, 13])
 (.cond (tU 13)
 (.seq (.region [oO 14 (.mv (tV 4)),
 oO 2 (.mv (tV 14)),
 oO 3 (.mv (.c (.bool true)))] [2, 3])
 (.ret))
 (.skip))))
 (.region [oO 7 (.mv (tV 4)),
 oO 8 (.bin .add (tU 7) (.c (.int .i64 1))),
 oO 4 (.mv (tV 8))] [0, 4]))
def i_opinfo_Of : IFun := ⟨true, 1,
 .seq (.region [oO 2 (.mv (.c (.int .i64 0))),
 oO 3 (.mv (.c (.bool false)))] [0])
 (.seq (.seq (.region [oO 4 (.mv (.c (.int .i64 1)))] [0, 4])
 (.block 0
 (.loop l_opinfo_Of_0)))
 (.seq (.region [oO 2 (.mv (.c (.int .i64 0))),
 oO 3 (.mv (.c (.bool false)))] [2, 3])
 (.ret))),
 [.tmp 2, .tmp 3], none, none, []⟩
def i_opinfo_Leaf : IFun := ⟨true, 1,
 .seq (.region [oO 2 (.mv (.c (.bool false)))] [0])
 (.seq (.region [oO 3 (.mv (tV 0)),
 oO 4 (.call (.f n_opinfo_Arity) [tV 3] false),
 oO 5 (.bin .eql (tU 4) (.c (.int .i64 0))),
 oO 2 (.mv (tV 5))] [2])
 (.ret)),
 [.tmp 2], none, none, []⟩
def i_opinfo_Arity : IFun := ⟨true, 1,
 .seq (.region [oO 2 (.mv (.c (.int .i64 0)))] [0])
 (.seq (.region [oO 3 (.mv (.c (.int .i64 0)))] [0, 3])
 (.seq (.seq (.region [oO 4 (.mv (tV 0))] [3, 4])
 (.block 0
 (.seq (.block 4
 (.seq (.block 3
 (.seq (.block 2
 (.seq (.block 1
 (.seq (.seq (.seq (.region [oO 6 (.bin .eql (tU 4) (.c (.int .i64 19))),
 oO 5 (.mv (tV 6))] [3, 4, 5])
 (.cond (tU 5)
 (.exit 1)
 (.skip)))
 (.seq (.seq (.seq (.region [oO 8 (.bin .eql (tU 4) (.c (.int .i64 5))),
 oO 7 (.mv (tV 8))] [3, 4, 7])
 (.cond (tU 7)
 (.skip)
 (.seq (.region [oO 9 (.bin .eql (tU 4) (.c (.int .i64 6))),
 oO 7 (.mv (tV 9))] [3, 4, 7])
 (.cond (tU 7)
 (.skip)
 (.seq (.region [oO 10 (.bin .eql (tU 4) (.c (.int .i64 7))),
 oO 7 (.mv (tV 10))] [3, 4, 7])
 (.cond (tU 7)
 (.skip)
 (.seq (.region [oO 11 (.bin .eql (tU 4) (.c (.int .i64 8))),
 oO 7 (.mv (tV 11))] [3, 4, 7])
 (.cond (tU 7)
 (.skip)
 (.seq (.region [oO 12 (.bin .eql (tU 4) (.c (.int .i64 9))),
 oO 7 (.mv (tV 12))] [3, 4, 7])
 (.cond (tU 7)
 (.skip)
 (.seq (.region [oO 13 (.bin .eql (tU 4) (.c (.int .i64 10))),
 oO 7 (.mv (tV 13))] [3, 4, 7])
 (.cond (tU 7)
 (.skip)
 (.seq (.region [oO 14 (.bin .eql (tU 4) (.c (.int .i64 11))),
 oO 7 (.mv (tV 14))] [3, 4, 7])
 (.cond (tU 7)
 (.skip)
 (.seq (.region [oO 15 (.bin .eql (tU 4) (.c (.int .i64 12))),
 oO 7 (.mv (tV 15))] [3, 4, 7])
 (.cond (tU 7)
 (.skip)
 (.seq (.region [oO 16 (.bin .eql (tU 4) (.c (.int .i64 13))),
 oO 7 (.mv (tV 16))] [3, 4, 7])
 (.cond (tU 7)
 (.skip)
 (.seq (.region [oO 17 (.bin .eql (tU 4) (.c (.int .i64 14))),
 oO 7 (.mv (tV 17))] [3, 4, 7])
 (.cond (tU 7)
 (.skip)
 (.seq (.region [oO 18 (.bin .eql (tU 4) (.c (.int .i64 15))),
 oO 7 (.mv (tV 18))] [3, 4, 7])
 (.cond (tU 7)
 (.skip)
 (.seq (.region [oO 19 (.bin .eql (tU 4) (.c (.int .i64 16))),
 oO 7 (.mv (tV 19))] [3, 4, 7])
 (.cond (tU 7)
 (.skip)
 (.seq (.region [oO 20 (.bin .eql (tU 4) (.c (.int .i64 17))),
 oO 7 (.mv (tV 20))] [3, 4, 7])
 (.cond (tU 7)
 (.skip)
 (.seq (.region [oO 21 (.bin .eql (tU 4) (.c (.int .i64 18))),
 oO 7 (.mv (tV 21))] [3, 4, 7])
 (.cond (tU 7)
 (.skip)
 (.region [oO 22 (.bin .eql (tU 4) (.c (.int .i64 20))),
 oO 7 (.mv (tV 22))] [3, 4, 7])))))))))))))))))))))))))))))
 (.cond (tU 7)
 (.exit 2)
 (.skip)))
 (.seq (.seq (.seq (.region [oO 24 (.bin .eql (tU 4) (.c (.int .i64 3))),
 oO 23 (.mv (tV 24))] [3, 4, 23])
 (.cond (tU 23)
 (.skip)
 (.seq (.region [oO 25 (.bin .eql (tU 4) (.c (.int .i64 4))),
 oO 23 (.mv (tV 25))] [3, 4, 23])
 (.cond (tU 23)
 (.skip)
 (.seq (.region [oO 26 (.bin .eql (tU 4) (.c (.int .i64 21))),
 oO 23 (.mv (tV 26))] [3, 4, 23])
 (.cond (tU 23)
 (.skip)
 (.seq (.region [oO 27 (.bin .eql (tU 4) (.c (.int .i64 22))),
 oO 23 (.mv (tV 27))] [3, 4, 23])
 (.cond (tU 23)
 (.skip)
 (.seq (.region [oO 28 (.bin .eql (tU 4) (.c (.int .i64 23))),
 oO 23 (.mv (tV 28))] [3, 4, 23])
 (.cond (tU 23)
 (.skip)
 (.region [oO 29 (.bin .eql (tU 4) (.c (.int .i64 26))),
 oO 23 (.mv (tV 29))] [3, 4, 23])))))))))))
 (.cond (tU 23)
 (.exit 3)
 (.skip)))
 (.seq (.seq (.region [oO 31 (.bin .eql (tU 4) (.c (.int .i64 1))),
 oO 30 (.mv (tV 31))] [3, 4, 30])
 (.cond (tU 30)
 (.skip)
 (.seq (.region [oO 32 (.bin .eql (tU 4) (.c (.int .i64 2))),
 oO 30 (.mv (tV 32))] [3, 4, 30])
 (.cond (tU 30)
 (.skip)
 (.seq (.region [oO 33 (.bin .eql (tU 4) (.c (.int .i64 24))),
 oO 30 (.mv (tV 33))] [3, 4, 30])
 (.cond (tU 30)
 (.skip)
 (.region [oO 34 (.bin .eql (tU 4) (.c (.int .i64 25))),
 oO 30 (.mv (tV 34))] [3, 30])))))))
 (.cond (tU 30)
 (.exit 4)
 (.skip))))))
 (.exit 0)))
 (.region [oO 35 (.mv (tV 3)),
 oO 36 (.bin .add (tU 35) (.c (.int .i64 1))),
 oO 3 (.mv (tV 36))] [3])))
 (.region [oO 37 (.mv (tV 3)),
 oO 38 (.bin .add (tU 37) (.c (.int .i64 1))),
 oO 3 (.mv (tV 38))] [3])))
 (.region [oO 39 (.mv (tV 3)),
 oO 40 (.bin .add (tU 39) (.c (.int .i64 1))),
 oO 3 (.mv (tV 40))] [3])))
 (.seq (.seq (.region [oO 41 (.mv (tV 3)),
 oO 2 (.mv (tV 41))] [2])
 (.ret))
 (.exit 0)))))
 (.seq (.region [oO 2 (.mv (.c (.int .i64 (-1))))] [2])
 (.ret)))),
 [.tmp 2], none, none, []⟩
def i_termtext_number : IFun := ⟨true, 2,
 .seq (.region [oO 2 (.box false (tV 0)),
 oO 4 (.mv (.c (.int .u64 0)))] [1, 2])
 (.seq (.region [oO 7 (.faddr (tU 2) 0),
 oO 8 (.load (tU 7) (.loc 2) 1 false false),
 oO 9 (.bin .neq (tU 8) (.c (.str []))),
 oO 10 (.call (.f n_termtext_must) [tV 9, .c (.int .i64 6)] false)] [1, 2])
 (.seq (.region [oO 12 (.faddr (tU 2) 0),
 oO 13 (.load (tU 12) (.loc 2) 1 false false),
 oO 14 (.call (.f n_termtext_numeral) [tV 13] false),
 oO 11 (.mv (tV 14)),
 oO 15 (.extract (tU 11) 0),
 oO 16 (.extract (tV 11) 1),
 oO 5 (.mv (tV 15)),
 oO 6 (.mv (tV 16))] [1, 5, 6])
 (.seq (.region [oO 17 (.mv (tU 6)),
 oO 18 (.bin .neq (tU 17) (.c (.int .i64 6))),
 oO 19 (.call (.f n_termtext_must) [tV 18, .c (.int .i64 6)] false)] [1, 5, 6])
 (.seq (.region [oO 20 (.mv (tV 6)),
 oO 21 (.bin .eql (tU 20) (.c (.int .i64 0))),
 oO 22 (.mv (tV 21)),
 ⟨some 23, .mv (tU 5), (some (22, true))⟩,
 ⟨some 24, .mv (tV 1), (some (22, true))⟩,
 ⟨some 25, .bin .leq (tU 23) (tU 24), (some (22, true))⟩,
 oO 26 (.pick (tU 22) (tU 25) (.c (.bool false))),
 oO 27 (.call (.f n_termtext_must) [tV 26, .c (.int .i64 2)] false)] [5])
 (.seq (.region [oO 28 (.mv (tV 5)),
 oO 4 (.mv (tV 28))] [4])
 (.ret)))))),
 [.tmp 4], none, none, []⟩
def l_opinfo_Width_0 : ICode :=
 .seq (.region [oO 25 (.bin .lss (tU 24) (tU 23))] [0, 1, 2, 3, 22, 23, 24, 25])
 (.seq (.cond (tU 25)
 (.skip)
 (.exit 0))
 (.seq (.block 1
 (.seq (.region [oO 26 (.iaddrL (tU 22) (tU 24) 1),
 oO 27 (.load (tU 26) .elem 1 false false),
 oO 11 (.mv (tV 27))] [0, 1, 2, 3, 11, 22, 23, 24])
 (.seq (.region [oO 28 (.mv (tV 11)),
 oO 29 (.call (.f n_opinfo_inside) [tV 28] false),
 oO 30 (.un .not (tU 29))] [0, 1, 2, 3, 22, 23, 24, 30])
 (.cond (tU 30)
 (.seq (.region [oO 8 (.mv (.c (.int .i64 0))),
 oO 9 (.mv (.c (.int .i64 3)))] [8, 9])
 (.ret))
 (.skip)))))
 (.region [oO 31 (.bin .add (tU 24) (.c (.int .i64 1))),
 oO 24 (.mv (tV 31))] [0, 1, 2, 3, 22, 23, 24])))
def i_opinfo_Width : IFun := ⟨true, 4,
 .seq (.region [oO 8 (.mv (.c (.int .i64 0))),
 oO 9 (.mv (.c (.int .i64 0)))] [0, 1, 2, 3])
 (.seq (.seq (.region [oO 12 (.mv (tU 0)),
 oO 13 (.call (.f n_opinfo_known) [tV 12] false),
 oO 14 (.un .not (tU 13)),
 oO 15 (.mv (tV 14)),
 ⟨some 16, .mv (tU 3), (some (15, false))⟩,
 ⟨some 17, .len (tU 16) .list, (some (15, false))⟩,
 ⟨some 18, .mv (tU 0), (some (15, false))⟩,
 ⟨some 19, .call (.f n_opinfo_Arity) [tV 18] false, (some (15, false))⟩,
 ⟨some 20, .bin .neq (tU 17) (tU 19), (some (15, false))⟩,
 oO 21 (.pick (tU 15) (.c (.bool true)) (tU 20))] [0, 1, 2, 3, 21])
 (.cond (tU 21)
 (.seq (.region [oO 8 (.mv (.c (.int .i64 0))),
 oO 9 (.mv (.c (.int .i64 4)))] [8, 9])
 (.ret))
 (.skip)))
 (.seq (.seq (.region [oO 22 (.mv (tU 3)),
 oO 23 (.len (tU 22) .list),
 oO 24 (.mv (.c (.int .i64 0)))] [0, 1, 2, 3, 22, 23, 24])
 (.block 0
 (.loop l_opinfo_Width_0)))
 (.seq (.seq (.region [oO 32 (.mv (tU 0))] [0, 1, 2, 3, 32])
 (.block 2
 (.seq (.seq (.region [oO 34 (.bin .eql (tU 32) (.c (.int .i64 1))),
 oO 33 (.mv (tV 34))] [0, 1, 2, 3, 32, 33])
 (.cond (tU 33)
 (.skip)
 (.seq (.region [oO 35 (.bin .eql (tU 32) (.c (.int .i64 2))),
 oO 33 (.mv (tV 35))] [0, 1, 2, 3, 32, 33])
 (.cond (tU 33)
 (.skip)
 (.seq (.region [oO 36 (.bin .eql (tU 32) (.c (.int .i64 24))),
 oO 33 (.mv (tV 36))] [0, 1, 2, 3, 32, 33])
 (.cond (tU 33)
 (.skip)
 (.region [oO 37 (.bin .eql (tU 32) (.c (.int .i64 25))),
 oO 33 (.mv (tV 37))] [0, 1, 2, 3, 32, 33])))))))
 (.cond (tU 33)
 (.seq (.region [oO 38 (.mv (tV 0)),
 oO 39 (.mv (tV 1)),
 oO 40 (.mv (tV 2)),
 oO 41 (.call (.f n_opinfo_leaf) [tV 38, tV 39, tV 40] false),
 oO 42 (.extract (tU 41) 0),
 oO 43 (.extract (tV 41) 1),
 oO 8 (.mv (tV 42)),
 oO 9 (.mv (tV 43))] [8, 9])
 (.ret))
 (.seq (.seq (.region [oO 45 (.bin .eql (tU 32) (.c (.int .i64 3))),
 oO 44 (.mv (tV 45))] [0, 1, 2, 3, 32, 44])
 (.cond (tU 44)
 (.skip)
 (.seq (.region [oO 46 (.bin .eql (tU 32) (.c (.int .i64 4))),
 oO 44 (.mv (tV 46))] [0, 1, 2, 3, 32, 44])
 (.cond (tU 44)
 (.skip)
 (.region [oO 47 (.bin .eql (tU 32) (.c (.int .i64 26))),
 oO 44 (.mv (tV 47))] [0, 1, 2, 3, 32, 44])))))
 (.cond (tU 44)
 (.seq (.region [oO 48 (.mv (tV 3)),
 oO 49 (.iaddrL (tU 48) (.c (.int .i64 0)) 1),
 oO 50 (.load (tU 49) .elem 1 false false),
 oO 8 (.mv (tV 50)),
 oO 9 (.mv (.c (.int .i64 0)))] [8, 9])
 (.ret))
 (.seq (.seq (.region [oO 52 (.bin .eql (tU 32) (.c (.int .i64 21))),
 oO 51 (.mv (tV 52))] [0, 1, 2, 3, 32, 51])
 (.cond (tU 51)
 (.skip)
 (.seq (.region [oO 53 (.bin .eql (tU 32) (.c (.int .i64 22))),
 oO 51 (.mv (tV 53))] [0, 1, 2, 3, 32, 51])
 (.cond (tU 51)
 (.skip)
 (.region [oO 54 (.bin .eql (tU 32) (.c (.int .i64 23))),
 oO 51 (.mv (tV 54))] [0, 1, 2, 3, 32, 51])))))
 (.cond (tU 51)
 (.seq (.region [oO 55 (.mv (tV 0)),
 oO 56 (.mv (tV 1)),
 oO 57 (.mv (tV 2)),
 oO 58 (.mv (tV 3)),
 oO 59 (.iaddrL (tU 58) (.c (.int .i64 0)) 1),
 oO 60 (.load (tU 59) .elem 1 false false),
 oO 61 (.call (.f n_opinfo_resized) [tV 55, tV 56, tV 57, tV 60] false),
 oO 62 (.extract (tU 61) 0),
 oO 63 (.extract (tV 61) 1),
 oO 8 (.mv (tV 62)),
 oO 9 (.mv (tV 63))] [8, 9])
 (.ret))
 (.seq (.region [oO 65 (.bin .eql (tU 32) (.c (.int .i64 19))),
 oO 64 (.mv (tV 65))] [3, 32, 64])
 (.cond (tU 64)
 (.seq (.draw [oO 66 (.mv (tU 3)),
 oO 67 (.iaddrL (tU 66) (.c (.int .i64 0)) 1),
 oO 68 (.load (tU 67) .elem 1 false false),
 oO 69 (.bin .eql (tU 68) (.c (.int .i64 1))),
 oO 70 (.mv (tV 69)),
 ⟨some 71, .mv (tU 3), (some (70, true))⟩,
 ⟨some 72, .iaddrL (tU 71) (.c (.int .i64 1)) 1, (some (70, true))⟩,
 ⟨some 73, .load (tU 72) .elem 1 false false, (some (70, true))⟩,
 ⟨some 74, .mv (tU 3), (some (70, true))⟩,
 ⟨some 75, .iaddrL (tU 74) (.c (.int .i64 2)) 1, (some (70, true))⟩,
 ⟨some 76, .load (tU 75) .elem 1 false false, (some (70, true))⟩,
 ⟨some 77, .bin .eql (tU 73) (tU 76), (some (70, true))⟩,
 oO 78 (.pick (tU 70) (tU 77) (.c (.bool false))),
 oO 79 (.mv (tU 3)),
 oO 80 (.iaddrL (tU 79) (.c (.int .i64 1)) 1),
 oO 81 (.load (tU 80) .elem 1 false false),
 oO 82 (.call (.f n_opinfo_agreed) [tV 78, tV 81] true),
 oO 83 (.extract (tU 82) 0),
 oO 84 (.extract (tU 82) 1),
 oO 8 (.mv (tV 83)),
 oO 9 (.mv (tV 84))] [0, 1, 2, 3, 4, 5, 6, 7, 8, 9, 10, 11, 12, 13, 14, 15, 16, 17, 18, 19, 20] [16] [8, 9])
 (.ret))
 (.seq (.region [oO 86 (.bin .eql (tU 32) (.c (.int .i64 20))),
 oO 85 (.mv (tV 86))] [3, 32, 85])
 (.cond (tU 85)
 (.seq (.draw [oO 87 (.mv (tU 3)),
 oO 88 (.iaddrL (tU 87) (.c (.int .i64 0)) 1),
 oO 89 (.load (tU 88) .elem 1 false false),
 oO 90 (.bin .geq (tU 89) (.c (.int .i64 1))),
 oO 91 (.mv (tV 90)),
 ⟨some 92, .mv (tU 3), (some (91, true))⟩,
 ⟨some 93, .iaddrL (tU 92) (.c (.int .i64 1)) 1, (some (91, true))⟩,
 ⟨some 94, .load (tU 93) .elem 1 false false, (some (91, true))⟩,
 ⟨some 95, .bin .geq (tU 94) (.c (.int .i64 1)), (some (91, true))⟩,
 oO 96 (.pick (tU 91) (tU 95) (.c (.bool false))),
 oO 97 (.mv (tV 96)),
 ⟨some 98, .mv (tU 3), (some (97, true))⟩,
 ⟨some 99, .iaddrL (tU 98) (.c (.int .i64 0)) 1, (some (97, true))⟩,
 ⟨some 100, .load (tU 99) .elem 1 false false, (some (97, true))⟩,
 ⟨some 101, .mv (tU 3), (some (97, true))⟩,
 ⟨some 102, .iaddrL (tU 101) (.c (.int .i64 1)) 1, (some (97, true))⟩,
 ⟨some 103, .load (tU 102) .elem 1 false false, (some (97, true))⟩,
 ⟨some 104, .bin .add (tU 100) (tU 103), (some (97, true))⟩,
 ⟨some 105, .bin .leq (tU 104) (.c (.int .i64 64)), (some (97, true))⟩,
 oO 106 (.pick (tU 97) (tU 105) (.c (.bool false))),
 oO 107 (.mv (tU 3)),
 oO 108 (.iaddrL (tU 107) (.c (.int .i64 0)) 1),
 oO 109 (.load (tU 108) .elem 1 false false),
 oO 110 (.mv (tU 3)),
 oO 111 (.iaddrL (tU 110) (.c (.int .i64 1)) 1),
 oO 112 (.load (tU 111) .elem 1 false false),
 oO 113 (.bin .add (tU 109) (tU 112)),
 oO 114 (.call (.f n_opinfo_agreed) [tV 106, tV 113] true),
 oO 115 (.extract (tU 114) 0),
 oO 116 (.extract (tU 114) 1),
 oO 8 (.mv (tV 115)),
 oO 9 (.mv (tV 116))] [0, 1, 2, 3, 4, 5, 6, 7, 8, 9, 10, 11, 12, 13, 14, 15, 16, 17, 18, 19, 20, 21, 22, 23, 24, 25, 26, 27, 28, 29, 30, 31] [27] [8, 9])
 (.ret))
 (.seq (.seq (.region [oO 118 (.bin .eql (tU 32) (.c (.int .i64 16))),
 oO 117 (.mv (tV 118))] [3, 32, 117])
 (.cond (tU 117)
 (.skip)
 (.seq (.region [oO 119 (.bin .eql (tU 32) (.c (.int .i64 17))),
 oO 117 (.mv (tV 119))] [3, 32, 117])
 (.cond (tU 117)
 (.skip)
 (.region [oO 120 (.bin .eql (tU 32) (.c (.int .i64 18))),
 oO 117 (.mv (tV 120))] [3, 117])))))
 (.cond (tU 117)
 (.seq (.draw [oO 121 (.mv (tU 3)),
 oO 122 (.iaddrL (tU 121) (.c (.int .i64 0)) 1),
 oO 123 (.load (tU 122) .elem 1 false false),
 oO 124 (.mv (tU 3)),
 oO 125 (.iaddrL (tU 124) (.c (.int .i64 1)) 1),
 oO 126 (.load (tU 125) .elem 1 false false),
 oO 127 (.bin .eql (tU 123) (tU 126)),
 oO 128 (.call (.f n_opinfo_agreed) [tV 127, .c (.int .i64 1)] true),
 oO 129 (.extract (tU 128) 0),
 oO 130 (.extract (tU 128) 1),
 oO 8 (.mv (tV 129)),
 oO 9 (.mv (tV 130))] [0, 1, 2, 3, 4, 5, 6, 7, 8, 9, 10, 11] [7] [8, 9])
 (.ret))
 (.skip)))))))))))))))
 (.seq (.draw [oO 131 (.mv (tU 3)),
 oO 132 (.iaddrL (tU 131) (.c (.int .i64 0)) 1),
 oO 133 (.load (tU 132) .elem 1 false false),
 oO 134 (.mv (tU 3)),
 oO 135 (.iaddrL (tU 134) (.c (.int .i64 1)) 1),
 oO 136 (.load (tU 135) .elem 1 false false),
 oO 137 (.bin .eql (tU 133) (tU 136)),
 oO 138 (.mv (tU 3)),
 oO 139 (.iaddrL (tU 138) (.c (.int .i64 0)) 1),
 oO 140 (.load (tU 139) .elem 1 false false),
 oO 141 (.call (.f n_opinfo_agreed) [tV 137, tV 140] true),
 oO 142 (.extract (tU 141) 0),
 oO 143 (.extract (tU 141) 1),
 oO 8 (.mv (tV 142)),
 oO 9 (.mv (tV 143))] [0, 1, 2, 3, 4, 5, 6, 7, 8, 9, 10, 11, 12, 13, 14] [10] [8, 9])
 (.ret))))),
 [.tmp 8, .tmp 9], none, none, []⟩
def i_termtext_fail : IFun := ⟨true, 1,
 .seq (.region [oO 2 (.mv (tU 0)),
 oO 3 (.bin .neq (tU 2) (.c (.int .i64 0)))] [0, 3])
 (.cond (tU 3)
 (.region [oO 4 (.mv (tV 0)),
 oO 5 (.build [.int .i64 0] [(0, 1, .t 4 true)]),
 oO 6 (.mkiface 78 (tV 5)),
 oZ (.panic (tU 6))] [])
 (.skip)),
 [], none, none, []⟩
def l_saturateref07_Name_0 : ICode :=
 .seq (.seq (.region [oO 23 (.mv (tU 3)),
 oO 24 (.mv (tU 0)),
 oO 25 (.len (tU 24) .str),
 oO 26 (.bin .lss (tU 23) (tU 25))] [0, 3, 26])
 (.cond (tU 26)
 (.skip)
 (.exit 0)))
 (.seq (.block 1
 (.seq (.region [oO 29 (.mv (tU 0)),
 oO 30 (.mv (tU 3)),
 oO 31 (.idxS (tU 29) (tU 30)),
 oO 4 (.mv (tV 31))] [0, 3, 4])
 (.seq (.region [oO 32 (.mv (tU 4)),
 oO 33 (.bin .geq (tU 32) (.c (.int .u8 97))),
 oO 34 (.mv (tV 33)),
 ⟨some 35, .mv (tU 4), (some (34, true))⟩,
 ⟨some 36, .bin .leq (tU 35) (.c (.int .u8 122)), (some (34, true))⟩,
 oO 37 (.pick (tU 34) (tU 36) (.c (.bool false))),
 oO 38 (.un .not (tU 37)),
 oO 39 (.mv (tV 38)),
 ⟨some 40, .mv (tU 4), (some (39, true))⟩,
 ⟨some 41, .bin .geq (tU 40) (.c (.int .u8 48)), (some (39, true))⟩,
 ⟨some 42, .mv (tV 41), (some (39, true))⟩,
 ⟨some 43, .mv (tU 4), (some (42, true))⟩,
 ⟨some 44, .bin .leq (tU 43) (.c (.int .u8 57)), (some (42, true))⟩,
 ⟨some 45, .pick (tU 42) (tU 44) (.c (.bool false)), (some (39, true))⟩,
 ⟨some 46, .un .not (tU 45), (some (39, true))⟩,
 oO 47 (.pick (tU 39) (tU 46) (.c (.bool false))),
 oO 48 (.mv (tV 47)),
 ⟨some 49, .mv (tV 4), (some (48, true))⟩,
 ⟨some 50, .bin .neq (tU 49) (.c (.int .u8 95)), (some (48, true))⟩,
 oO 51 (.pick (tU 48) (tU 50) (.c (.bool false)))] [0, 3, 51])
 (.cond (tU 51)
 (.seq (.region [oO 2 (.mv (.c (.bool false)))] [2])
 (.ret))
 (.skip)))))
 (.region [oO 27 (.mv (tV 3)),
 oO 28 (.bin .add (tU 27) (.c (.int .i64 1))),
 oO 3 (.mv (tV 28))] [0, 3]))
def i_saturateref07_Name : IFun := ⟨true, 1,
 .seq (.region [oO 2 (.mv (.c (.bool false)))] [0])
 (.seq (.seq (.region [oO 5 (.mv (tU 0)),
 oO 6 (.len (tU 5) .str),
 oO 7 (.bin .lss (tU 6) (.c (.int .i64 1))),
 oO 8 (.mv (tV 7)),
 ⟨some 9, .mv (tU 0), (some (8, false))⟩,
 ⟨some 10, .len (tU 9) .str, (some (8, false))⟩,
 ⟨some 11, .bin .gtr (tU 10) (.c (.int .i64 16)), (some (8, false))⟩,
 oO 12 (.pick (tU 8) (.c (.bool true)) (tU 11)),
 oO 13 (.mv (tV 12)),
 ⟨some 14, .mv (tU 0), (some (13, false))⟩,
 ⟨some 15, .idxS (tU 14) (.c (.int .i64 0)), (some (13, false))⟩,
 ⟨some 16, .bin .lss (tU 15) (.c (.int .u8 97)), (some (13, false))⟩,
 oO 17 (.pick (tU 13) (.c (.bool true)) (tU 16)),
 oO 18 (.mv (tV 17)),
 ⟨some 19, .mv (tU 0), (some (18, false))⟩,
 ⟨some 20, .idxS (tU 19) (.c (.int .i64 0)), (some (18, false))⟩,
 ⟨some 21, .bin .gtr (tU 20) (.c (.int .u8 122)), (some (18, false))⟩,
 oO 22 (.pick (tU 18) (.c (.bool true)) (tU 21))] [0, 22])
 (.cond (tU 22)
 (.seq (.region [oO 2 (.mv (.c (.bool false)))] [2])
 (.ret))
 (.skip)))
 (.seq (.seq (.region [oO 3 (.mv (.c (.int .i64 0)))] [0, 3])
 (.block 0
 (.loop l_saturateref07_Name_0)))
 (.seq (.region [oO 2 (.mv (.c (.bool true)))] [2])
 (.ret)))),
 [.tmp 2], none, none, []⟩
def l_saturateref04_Is_0 : ICode :=
 .seq (.region [oO 9 (.bin .lss (tU 8) (tU 7))] [0, 1, 7, 8, 9])
 (.seq (.cond (tU 9)
 (.skip)
 (.exit 0))
 (.seq (.block 1
 (.seq (.region [oO 10 (.mv (tU 8)),
 oO 5 (.mv (tV 10))] [0, 1, 5, 7, 8])
 (.seq (.region [oO 11 (.mv (tU 1)),
 oO 12 (.mv (tV 5)),
 oO 13 (.iaddrL (tU 11) (tU 12) 1),
 oO 14 (.load (tU 13) .elem 1 false false),
 oO 15 (.mv (tU 0)),
 oO 16 (.bin .eql (tU 14) (tU 15))] [0, 1, 7, 8, 16])
 (.cond (tU 16)
 (.seq (.region [oO 4 (.mv (.c (.bool true)))] [4])
 (.ret))
 (.skip)))))
 (.region [oO 17 (.bin .add (tU 8) (.c (.int .i64 1))),
 oO 8 (.mv (tV 17))] [0, 1, 7, 8])))
def i_saturateref04_Is : IFun := ⟨true, 2,
 .seq (.region [oO 4 (.mv (.c (.bool false)))] [0, 1])
 (.seq (.seq (.region [oO 6 (.mv (tU 1)),
 oO 7 (.len (tU 6) .list),
 oO 8 (.mv (.c (.int .i64 0)))] [0, 1, 7, 8])
 (.block 0
 (.loop l_saturateref04_Is_0)))
 (.seq (.region [oO 4 (.mv (.c (.bool false)))] [4])
 (.ret))),
 [.tmp 4], none, none, []⟩
def i_saturateref04_width : IFun := ⟨true, 1,
 .seq (.region [oO 2 (.mv (.c (.bool false)))] [0])
 (.seq (.region [oO 3 (.mv (tU 0)),
 oO 4 (.bin .geq (tU 3) (.c (.int .i64 0))),
 oO 5 (.mv (tV 4)),
 ⟨some 6, .mv (tV 0), (some (5, true))⟩,
 ⟨some 7, .bin .leq (tU 6) (.c (.int .i64 64)), (some (5, true))⟩,
 oO 8 (.pick (tU 5) (tU 7) (.c (.bool false))),
 oO 2 (.mv (tV 8))] [2])
 (.ret)),
 [.tmp 2], none, none, []⟩
def i_saturateref04_leaf : IFun := ⟨true, 3,
 .seq (.region [oO 6 (.mv (.c (.int .i64 0))),
 oO 7 (.mv (.c (.int .i64 0)))] [0, 1, 2])
 (.seq (.seq (.region [oO 8 (.mv (tU 1)),
 oO 9 (.call (.f n_saturateref04_width) [tV 8] false),
 oO 10 (.un .not (tU 9)),
 oO 11 (.mv (tV 10)),
 ⟨some 12, .mv (tV 0), (some (11, false))⟩,
 ⟨some 13, .bin .eql (tU 12) (.c (.int .i64 2)), (some (11, false))⟩,
 ⟨some 14, .mv (tV 13), (some (11, false))⟩,
 ⟨some 15, .mv (tU 1), (some (14, true))⟩,
 ⟨some 16, .bin .gtr (tU 15) (.c (.int .i64 0)), (some (14, true))⟩,
 ⟨some 17, .pick (tU 14) (tU 16) (.c (.bool false)), (some (11, false))⟩,
 ⟨some 18, .mv (tV 17), (some (11, false))⟩,
 ⟨some 19, .mv (tU 1), (some (18, true))⟩,
 ⟨some 20, .bin .lss (tU 19) (.c (.int .i64 64)), (some (18, true))⟩,
 ⟨some 21, .pick (tU 18) (tU 20) (.c (.bool false)), (some (11, false))⟩,
 ⟨some 22, .mv (tV 21), (some (11, false))⟩,
 ⟨some 23, .mv (tV 2), (some (22, true))⟩,
 ⟨some 24, .mv (tU 1), (some (22, true))⟩,
 ⟨some 25, .conv .u64 (tU 24), (some (22, true))⟩,
 ⟨some 26, .bin .shl (.c (.int .u64 1)) (tU 25), (some (22, true))⟩,
 ⟨some 27, .bin .geq (tU 23) (tU 26), (some (22, true))⟩,
 ⟨some 28, .pick (tU 22) (tU 27) (.c (.bool false)), (some (11, false))⟩,
 oO 29 (.pick (tU 11) (.c (.bool true)) (tU 28))] [1, 29])
 (.cond (tU 29)
 (.seq (.region [oO 6 (.mv (.c (.int .i64 0))),
 oO 7 (.mv (.c (.int .i64 3)))] [6, 7])
 (.ret))
 (.skip)))
 (.seq (.region [oO 30 (.mv (tV 1)),
 oO 6 (.mv (tV 30)),
 oO 7 (.mv (.c (.int .i64 0)))] [6, 7])
 (.ret))),
 [.tmp 6, .tmp 7], none, none, []⟩
def i_saturateref04_parts : IFun := ⟨true, 4,
 .seq (.region [oO 8 (.mv (.c (.int .i64 0))),
 oO 9 (.mv (.c (.int .i64 0)))] [0, 1, 2, 3])
 (.seq (.seq (.region [oO 10 (.mv (tU 1)),
 oO 11 (.call (.f n_saturateref04_width) [tV 10] false),
 oO 12 (.un .not (tU 11)),
 oO 13 (.mv (tV 12)),
 ⟨some 14, .mv (tU 1), (some (13, false))⟩,
 ⟨some 15, .bin .lss (tU 14) (.c (.int .i64 1)), (some (13, false))⟩,
 oO 16 (.pick (tU 13) (.c (.bool true)) (tU 15)),
 oO 17 (.mv (tV 16)),
 ⟨some 18, .mv (tU 3), (some (17, false))⟩,
 ⟨some 19, .bin .lss (tU 18) (.c (.int .i64 1)), (some (17, false))⟩,
 oO 20 (.pick (tU 17) (.c (.bool true)) (tU 19))] [0, 1, 2, 3, 20])
 (.cond (tU 20)
 (.seq (.region [oO 8 (.mv (.c (.int .i64 0))),
 oO 9 (.mv (.c (.int .i64 3)))] [8, 9])
 (.ret))
 (.skip)))
 (.seq (.seq (.region [oO 21 (.mv (tU 0)),
 oO 22 (.bin .eql (tU 21) (.c (.int .i64 21))),
 oO 23 (.mv (tV 22)),
 ⟨some 24, .mv (tU 1), (some (23, true))⟩,
 ⟨some 25, .mv (tU 3), (some (23, true))⟩,
 ⟨some 26, .bin .gtr (tU 24) (tU 25), (some (23, true))⟩,
 ⟨some 27, .mv (tV 26), (some (23, true))⟩,
 ⟨some 28, .mv (tV 2), (some (27, false))⟩,
 ⟨some 29, .mv (tU 3), (some (27, false))⟩,
 ⟨some 30, .mv (tU 1), (some (27, false))⟩,
 ⟨some 31, .bin .sub (tU 29) (tU 30), (some (27, false))⟩,
 ⟨some 32, .conv .u64 (tU 31), (some (27, false))⟩,
 ⟨some 33, .bin .gtr (tU 28) (tU 32), (some (27, false))⟩,
 ⟨some 34, .pick (tU 27) (.c (.bool true)) (tU 33), (some (23, true))⟩,
 oO 35 (.pick (tU 23) (tU 34) (.c (.bool false))),
 oO 36 (.mv (tV 35)),
 ⟨some 37, .mv (tV 0), (some (36, false))⟩,
 ⟨some 38, .bin .neq (tU 37) (.c (.int .i64 21)), (some (36, false))⟩,
 ⟨some 39, .mv (tV 38), (some (36, false))⟩,
 ⟨some 40, .mv (tU 1), (some (39, true))⟩,
 ⟨some 41, .mv (tV 3), (some (39, true))⟩,
 ⟨some 42, .bin .lss (tU 40) (tU 41), (some (39, true))⟩,
 ⟨some 43, .pick (tU 39) (tU 42) (.c (.bool false)), (some (36, false))⟩,
 oO 44 (.pick (tU 36) (.c (.bool true)) (tU 43))] [1, 44])
 (.cond (tU 44)
 (.seq (.region [oO 8 (.mv (.c (.int .i64 0))),
 oO 9 (.mv (.c (.int .i64 3)))] [8, 9])
 (.ret))
 (.skip)))
 (.seq (.region [oO 45 (.mv (tV 1)),
 oO 8 (.mv (tV 45)),
 oO 9 (.mv (.c (.int .i64 0)))] [8, 9])
 (.ret)))),
 [.tmp 8, .tmp 9], none, none, []⟩
def l_sexpr_all_0 : ICode :=
 .seq (.seq (.region [oO 16 (.mv (tU 6)),
 oO 17 (.nilchk (tU 16)),
 oO 18 (.faddr (tU 17) 1),
 oO 19 (.load (tU 18) .heap 1 false false),
 oO 20 (.mv (tU 0)),
 oO 21 (.len (tU 20) .str),
 oO 22 (.bin .lss (tU 19) (tU 21))] [0, 2, 3, 4, 5, 6, 22])
 (.cond (tU 22)
 (.skip)
 (.exit 0)))
 (.seq (.block 1
 (.seq (.draw [oO 25 (.load (tU 3) (.loc 3) 1 false true),
 oO 26 (.mv (tU 6)),
 oO 27 (.nilchk (tU 26)),
 oO 28 (.faddr (tU 27) 1),
 oO 29 (.load (tU 28) .heap 1 false false),
 oO 30 (.bslice (.int .i64 0) 0 1 [(0, .t 29 true)]),
 oO 31 (.append (tV 25) (tU 30) 1 0 8 false),
 oZ (.store (tU 3) (.loc 3) (tV 31) 1)] [0, 1, 2, 3, 4, 5, 6, 7] [] [0, 2, 3, 4, 5, 6])
 (.draw [oO 32 (.load (tU 2) (.loc 2) 1 false true),
 oO 33 (.mv (tU 6)),
 oO 34 (.call (.f n_sexpr_parser_expression) [tV 33, .c (.int .i64 0)] false),
 oO 35 (.len (tU 32) .list),
 oO 36 (.bslice (.agg [.str [], .list [] .nil]) 0 1 [(0, .c (.agg [.str [], .list [] .nil]))]),
 oO 37 (.append (tV 32) (tU 36) 2 0 40 true),
 oO 38 (.iaddrL (tU 37) (tU 35) 2),
 oZ (.store (tU 38) (.last 37) (tV 34) 2),
 oZ (.store (tU 2) (.loc 2) (tV 37) 1)] [0, 1, 3, 4, 2, 5, 6, 7, 8] [2] [0, 2, 3, 4, 5, 6])))
 (.region [oO 23 (.mv (tU 6)),
 oO 24 (.call (.f n_sexpr_parser_skip) [tV 23] false)] [0, 2, 3, 4, 5, 6]))
def i_sexpr_all : IFun := ⟨true, 1,
 .seq (.region [oO 2 (.alloc false 0 [.list [] .nil]),
 oO 3 (.alloc false 0 [.list [] .nil]),
 oO 4 (.alloc false 0 [.int .i64 0]),
 oO 5 (.alloc false 0 [.int .i64 0])] [0, 2, 3, 4, 5])
 (.seq (.seq (.region [oO 7 (.mv (tU 0)),
 oO 8 (.len (tU 7) .str),
 oO 9 (.bin .gtr (tU 8) (.c (.int .i64 65536)))] [0, 2, 3, 4, 5, 9])
 (.cond (tU 9)
 (.seq (.region [oZ (.store (tU 2) (.loc 2) (.c (.list [] .nil)) 1),
 oZ (.store (tU 3) (.loc 3) (.c (.list [] .nil)) 1),
 oZ (.store (tU 4) (.loc 4) (.c (.int .i64 0)) 1),
 oZ (.store (tU 5) (.loc 5) (.c (.int .i64 7)) 1)] [2, 3, 4, 5])
 (.ret))
 (.skip)))
 (.skip)),
 [.cell 2 1 false, .cell 3 1 false, .cell 4 1 false, .cell 5 1 false], none, some ⟨n_sexpr_all_1, [2, 3, 4, 5], 10,
 .seq (.region [oO 11 (.mv (tU 0)),
 oO 12 (.build [.str [], .int .i64 0, .list [] .nil] [(0, 1, .t 11 true)]),
 oO 13 (.box true (tV 12)),
 oO 6 (.mv (tV 13))] [0, 2, 3, 4, 5, 6])
 (.seq (.seq (.region [oO 14 (.mv (tU 6)),
 oO 15 (.call (.f n_sexpr_parser_skip) [tV 14] false)] [0, 2, 3, 4, 5, 6])
 (.block 0
 (.loop l_sexpr_all_0)))
 (.seq (.draw [oO 39 (.load (tU 2) (.loc 2) 1 false false),
 oO 40 (.load (tU 3) (.loc 3) 1 false false),
 oZ (.store (tU 2) (.loc 2) (tV 39) 1),
 oZ (.store (tU 3) (.loc 3) (tV 40) 1),
 oZ (.store (tU 4) (.loc 4) (.c (.int .i64 0)) 1),
 oZ (.store (tU 5) (.loc 5) (.c (.int .i64 0)) 1)] [0, 1, 2, 3, 4, 5] [] [2, 3, 4, 5])
 (.ret)))⟩, []⟩
def l_saturateref02_write_0 : ICode :=
 .seq (.seq (.region [oO 14 (.mv (tU 0)),
 oO 15 (.mv (tU 1)),
 oO 16 (.bin .geq (tU 14) (tU 15))] [0, 1, 5, 16])
 (.cond (tU 16)
 (.skip)
 (.exit 0)))
 (.block 1
 (.seq (.region [oO 17 (.mv (tV 0)),
 oO 18 (.mv (tU 1)),
 oO 19 (.bin .quo (tU 17) (tU 18)),
 oO 0 (.mv (tV 19))] [0, 1, 5])
 (.draw [oO 20 (.mv (tU 0)),
 oO 21 (.mv (tU 1)),
 oO 22 (.bin .rem (tU 20) (tU 21)),
 oO 23 (.mv (tU 0)),
 oO 24 (.mv (tU 1)),
 oO 25 (.bin .rem (tU 23) (tU 24)),
 oO 26 (.bin .add (tU 25) (.c (.int .u64 1))),
 oO 27 (.slcS (.c (.str [48, 49, 50, 51, 52, 53, 54, 55, 56, 57, 97, 98, 99, 100, 101, 102])) (some (tU 22)) (some (tU 26))),
 oO 28 (.mv (tV 5)),
 oO 29 (.bin .add (tU 27) (tU 28)),
 oO 5 (.mv (tV 29))] [0, 1, 2, 3, 4, 5, 6, 7, 8, 9, 10] [] [0, 1, 5])))
def i_saturateref02_write : IFun := ⟨true, 2,
 .seq (.region [oO 4 (.mv (.c (.str [])))] [0, 1])
 (.seq (.draw [oO 6 (.mv (tU 0)),
 oO 7 (.mv (tU 1)),
 oO 8 (.bin .rem (tU 6) (tU 7)),
 oO 9 (.mv (tU 0)),
 oO 10 (.mv (tU 1)),
 oO 11 (.bin .rem (tU 9) (tU 10)),
 oO 12 (.bin .add (tU 11) (.c (.int .u64 1))),
 oO 13 (.slcS (.c (.str [48, 49, 50, 51, 52, 53, 54, 55, 56, 57, 97, 98, 99, 100, 101, 102])) (some (tU 8)) (some (tU 12))),
 oO 5 (.mv (tV 13))] [0, 1, 2, 3, 4, 5, 6, 7, 8] [] [0, 1, 5])
 (.seq (.block 0
 (.loop l_saturateref02_write_0))
 (.seq (.region [oO 30 (.mv (tV 5)),
 oO 4 (.mv (tV 30))] [4])
 (.ret)))),
 [.tmp 4], none, none, []⟩
def l_term_Name_0 : ICode :=
 .seq (.region [oO 26 (.bin .lss (tU 25) (tU 24))] [0, 24, 25, 26])
 (.seq (.cond (tU 26)
 (.skip)
 (.exit 0))
 (.seq (.block 1
 (.seq (.region [oO 27 (.mv (tU 25)),
 oO 3 (.mv (tV 27))] [0, 3, 24, 25])
 (.seq (.region [oO 28 (.mv (tU 0)),
 oO 29 (.mv (tV 3)),
 oO 30 (.idxS (tU 28) (tU 29)),
 oO 4 (.mv (tV 30))] [0, 4, 24, 25])
 (.seq (.region [oO 31 (.mv (tU 4)),
 oO 32 (.bin .lss (tU 31) (.c (.int .u8 97))),
 oO 33 (.mv (tV 32)),
 ⟨some 34, .mv (tU 4), (some (33, false))⟩,
 ⟨some 35, .bin .gtr (tU 34) (.c (.int .u8 122)), (some (33, false))⟩,
 oO 36 (.pick (tU 33) (.c (.bool true)) (tU 35)),
 oO 37 (.mv (tV 36)),
 ⟨some 38, .mv (tU 4), (some (37, true))⟩,
 ⟨some 39, .bin .lss (tU 38) (.c (.int .u8 48)), (some (37, true))⟩,
 ⟨some 40, .mv (tV 39), (some (37, true))⟩,
 ⟨some 41, .mv (tU 4), (some (40, false))⟩,
 ⟨some 42, .bin .gtr (tU 41) (.c (.int .u8 57)), (some (40, false))⟩,
 ⟨some 43, .pick (tU 40) (.c (.bool true)) (tU 42), (some (37, true))⟩,
 oO 44 (.pick (tU 37) (tU 43) (.c (.bool false))),
 oO 45 (.mv (tV 44)),
 ⟨some 46, .mv (tV 4), (some (45, true))⟩,
 ⟨some 47, .bin .neq (tU 46) (.c (.int .u8 95)), (some (45, true))⟩,
 oO 48 (.pick (tU 45) (tU 47) (.c (.bool false)))] [0, 24, 25, 48])
 (.cond (tU 48)
 (.seq (.region [oO 2 (.mv (.c (.bool false)))] [2])
 (.ret))
 (.skip))))))
 (.region [oO 49 (.bin .add (tU 25) (.c (.int .i64 1))),
 oO 25 (.mv (tV 49))] [0, 24, 25])))
def i_term_Name : IFun := ⟨true, 1,
 .seq (.region [oO 2 (.mv (.c (.bool false)))] [0])
 (.seq (.seq (.region [oO 5 (.mv (tU 0)),
 oO 6 (.len (tU 5) .str),
 oO 7 (.bin .lss (tU 6) (.c (.int .i64 1))),
 oO 8 (.mv (tV 7)),
 ⟨some 9, .mv (tU 0), (some (8, false))⟩,
 ⟨some 10, .len (tU 9) .str, (some (8, false))⟩,
 ⟨some 11, .bin .gtr (tU 10) (.c (.int .i64 16)), (some (8, false))⟩,
 oO 12 (.pick (tU 8) (.c (.bool true)) (tU 11)),
 oO 13 (.mv (tV 12)),
 ⟨some 14, .mv (tU 0), (some (13, false))⟩,
 ⟨some 15, .idxS (tU 14) (.c (.int .i64 0)), (some (13, false))⟩,
 ⟨some 16, .bin .lss (tU 15) (.c (.int .u8 97)), (some (13, false))⟩,
 oO 17 (.pick (tU 13) (.c (.bool true)) (tU 16)),
 oO 18 (.mv (tV 17)),
 ⟨some 19, .mv (tU 0), (some (18, false))⟩,
 ⟨some 20, .idxS (tU 19) (.c (.int .i64 0)), (some (18, false))⟩,
 ⟨some 21, .bin .gtr (tU 20) (.c (.int .u8 122)), (some (18, false))⟩,
 oO 22 (.pick (tU 18) (.c (.bool true)) (tU 21))] [0, 22])
 (.cond (tU 22)
 (.seq (.region [oO 2 (.mv (.c (.bool false)))] [2])
 (.ret))
 (.skip)))
 (.seq (.seq (.region [oO 23 (.mv (tU 0)),
 oO 24 (.len (tU 23) .str),
 oO 25 (.mv (.c (.int .i64 0)))] [0, 24, 25])
 (.block 0
 (.loop l_term_Name_0)))
 (.seq (.region [oO 2 (.mv (.c (.bool true)))] [2])
 (.ret)))),
 [.tmp 2], none, none, []⟩
def i_strconv_Itoa : IFun := ⟨true, 1,
 .seq (.region [oO 2 (.mv (.c (.str [])))] [0])
 (.seq (.region [oO 3 (.mv (tV 0)),
 oO 4 (.call (.f n_internal_strconv_Itoa) [tV 3] false),
 oO 2 (.mv (tV 4))] [2])
 (.ret)),
 [.tmp 2], none, none, []⟩
def i_strconv_FormatUint : IFun := ⟨true, 2,
 .seq (.region [oO 4 (.mv (.c (.str [])))] [0, 1])
 (.seq (.region [oO 5 (.mv (tV 0)),
 oO 6 (.mv (tV 1)),
 oO 7 (.call (.f n_internal_strconv_FormatUint) [tV 5, tV 6] false),
 oO 4 (.mv (tV 7))] [4])
 (.ret)),
 [.tmp 4], none, none, []⟩
def i_opinfo_known : IFun := ⟨true, 1,
 .seq (.region [oO 2 (.mv (.c (.bool false)))] [0])
 (.seq (.region [oO 3 (.mv (tU 0)),
 oO 4 (.bin .geq (tU 3) (.c (.int .i64 1))),
 oO 5 (.mv (tV 4)),
 ⟨some 6, .mv (tV 0), (some (5, true))⟩,
 ⟨some 7, .bin .leq (tU 6) (.c (.int .i64 26)), (some (5, true))⟩,
 oO 8 (.pick (tU 5) (tU 7) (.c (.bool false))),
 oO 2 (.mv (tV 8))] [2])
 (.ret)),
 [.tmp 2], none, none, []⟩
def l_sexpr_write_0 : ICode :=
 .seq (.region [oO 19 (.bin .lss (tU 18) (tU 17))] [0, 16, 17, 18, 19])
 (.seq (.cond (tU 19)
 (.skip)
 (.exit 0))
 (.seq (.block 1
 (.seq (.region [oO 20 (.mv (tU 18)),
 oO 21 (.iaddrL (tU 16) (tU 18) 2),
 oO 22 (.load (tU 21) .elem 2 true false),
 oO 5 (.alloc false 0 [.str [], .list [] .nil]),
 oO 4 (.mv (tV 20)),
 oZ (.store (tU 5) (.loc 5) (tV 22) 2)] [0, 4, 5, 16, 17, 18])
 (.seq (.seq (.region [oO 23 (.mv (tV 4)),
 oO 24 (.bin .gtr (tU 23) (.c (.int .i64 0)))] [0, 5, 16, 17, 18, 24])
 (.cond (tU 24)
 (.region [oO 25 (.mv (tU 0)),
 oO 26 (.call (.f n_strings_Builder_WriteByte) [tV 25, .c (.int .u8 32)] false)] [0, 5, 16, 17, 18])
 (.skip)))
 (.region [oO 27 (.mv (tU 0)),
 oO 28 (.load (tU 5) (.loc 5) 2 true false),
 oO 29 (.call (.f n_sexpr_write) [tV 27, tV 28] false)] [0, 16, 17, 18]))))
 (.region [oO 30 (.bin .add (tU 18) (.c (.int .i64 1))),
 oO 18 (.mv (tV 30))] [0, 16, 17, 18])))
def i_sexpr_write : IFun := ⟨false, 2,
 .seq (.region [oO 3 (.box false (tV 1))] [0, 3])
 (.seq (.seq (.region [oO 6 (.faddr (tU 3) 0),
 oO 7 (.load (tU 6) (.loc 3) 1 false false),
 oO 8 (.bin .neq (tU 7) (.c (.str [])))] [0, 3, 8])
 (.cond (tU 8)
 (.seq (.region [oO 9 (.mv (tV 0)),
 oO 10 (.faddr (tU 3) 0),
 oO 11 (.load (tU 10) (.loc 3) 1 false false),
 oO 12 (.call (.f n_strings_Builder_WriteString) [tV 9, tV 11] false)] [])
 (.ret))
 (.skip)))
 (.seq (.region [oO 13 (.mv (tU 0)),
 oO 14 (.call (.f n_strings_Builder_WriteByte) [tV 13, .c (.int .u8 40)] false)] [0, 3])
 (.seq (.seq (.region [oO 15 (.faddr (tU 3) 1),
 oO 16 (.load (tU 15) (.loc 3) 1 false false),
 oO 17 (.len (tU 16) .list),
 oO 18 (.mv (.c (.int .i64 0)))] [0, 16, 17, 18])
 (.block 0
 (.loop l_sexpr_write_0)))
 (.region [oO 31 (.mv (tV 0)),
 oO 32 (.call (.f n_strings_Builder_WriteByte) [tV 31, .c (.int .u8 41)] false)] [])))),
 [], none, none, []⟩
def i_strings_Builder_copyCheck : IFun := ⟨false, 1,
 .seq (.region [oO 2 (.mv (tU 0)),
 oO 3 (.nilchk (tU 2)),
 oO 4 (.faddr (tU 3) 0),
 oO 5 (.load (tU 4) .heap 1 false false),
 oO 6 (.eq false .ptr (tU 5) (.c (.nilp)))] [0, 6])
 (.cond (tU 6)
 (.region [oO 7 (.mv (tU 0)),
 oO 8 (.mv (tV 0)),
 oO 9 (.uptr (tU 8) 110 2),
 oO 10 (.ident n_internal_abi_NoEscape (tU 9)),
 oO 11 (.uptr (tU 10) 110 2),
 oO 12 (.nilchk (tU 7)),
 oO 13 (.faddr (tU 12) 0),
 oZ (.store (tU 13) .heap (tV 11) 1)] [])
 (.seq (.region [oO 14 (.mv (tU 0)),
 oO 15 (.nilchk (tU 14)),
 oO 16 (.faddr (tU 15) 0),
 oO 17 (.load (tU 16) .heap 1 false false),
 oO 18 (.mv (tV 0)),
 oO 19 (.eq true .ptr (tU 17) (tU 18))] [19])
 (.cond (tU 19)
 (.stuck)
 (.skip)))),
 [], none, none, []⟩
def i_strings_Cut : IFun := ⟨true, 2,
 .seq (.region [oO 4 (.mv (.c (.str []))),
 oO 5 (.mv (.c (.str []))),
 oO 6 (.mv (.c (.bool false)))] [0, 1])
 (.seq (.region [oO 7 (.mv (tV 0)),
 oO 8 (.mv (tV 1)),
 oO 9 (.call (.f n_internal_stringslite_Cut) [tV 7, tV 8] false),
 oO 10 (.extract (tU 9) 0),
 oO 11 (.extract (tU 9) 1),
 oO 12 (.extract (tV 9) 2),
 oO 4 (.mv (tV 10)),
 oO 5 (.mv (tV 11)),
 oO 6 (.mv (tV 12))] [4, 5, 6])
 (.ret)),
 [.tmp 4, .tmp 5, .tmp 6], none, none, []⟩
def i_termtext_numeral : IFun := ⟨true, 1,
 .seq (.region [oO 2 (.mv (.c (.int .u64 0))),
 oO 3 (.mv (.c (.int .i64 0)))] [0])
 (.seq (.seq (.region [oO 4 (.mv (tU 0)),
 oO 5 (.call (.f n_strings_HasPrefix) [tV 4, .c (.str [48, 120])] false)] [0, 5])
 (.cond (tU 5)
 (.seq (.region [oO 2 (.mv (.c (.int .u64 0))),
 oO 3 (.mv (.c (.int .i64 6)))] [2, 3])
 (.ret))
 (.skip)))
 (.seq (.region [oO 6 (.mv (tV 0)),
 oO 7 (.call (.f n_digits_Parse) [tV 6] false),
 oO 8 (.extract (tU 7) 0),
 oO 9 (.extract (tV 7) 1),
 oO 2 (.mv (tV 8)),
 oO 3 (.mv (tV 9))] [2, 3])
 (.ret))),
 [.tmp 2, .tmp 3], none, none, []⟩
def i_termtext_constant : IFun := ⟨true, 3,
 .seq (.region [oO 6 (.alloc false 0 [.int .i64 0, .int .i64 0, .int .u64 0, .str [], .list [] .nil])] [0, 1, 2, 6])
 (.seq (.region [oO 12 (.mv (tV 0)),
 oO 13 (.call (.f n_termtext_numeral) [tV 12] false),
 oO 11 (.mv (tV 13)),
 oO 14 (.extract (tU 11) 0),
 oO 15 (.extract (tV 11) 1),
 oO 7 (.mv (tV 14)),
 oO 8 (.mv (tV 15))] [1, 2, 6, 7, 8])
 (.seq (.region [oO 16 (.mv (tU 8)),
 oO 17 (.bin .neq (tU 16) (.c (.int .i64 6))),
 oO 18 (.call (.f n_termtext_must) [tV 17, .c (.int .i64 6)] false)] [1, 2, 6, 7, 8])
 (.seq (.region [oO 19 (.mv (tV 2)),
 oO 20 (.bin .eql (tU 19) (.c (.int .i64 0))),
 oO 21 (.mv (tV 20)),
 ⟨some 22, .mv (tV 8), (some (21, true))⟩,
 ⟨some 23, .bin .eql (tU 22) (.c (.int .i64 0)), (some (21, true))⟩,
 oO 24 (.pick (tU 21) (tU 23) (.c (.bool false))),
 oO 25 (.mv (tV 24)),
 ⟨some 26, .mv (tU 1), (some (25, true))⟩,
 ⟨some 27, .bin .leq (tU 26) (.c (.int .u64 64)), (some (25, true))⟩,
 oO 28 (.pick (tU 25) (tU 27) (.c (.bool false))),
 oO 29 (.call (.f n_termtext_must) [tV 28, .c (.int .i64 2)] false)] [1, 6, 7])
 (.seq (.region [oO 31 (.mv (tU 1)),
 oO 32 (.conv .i64 (tU 31)),
 oO 33 (.mv (tU 7)),
 oO 34 (.call (.f n_opinfo_Width) [.c (.int .i64 2), tV 32, tV 33, .c (.list [] .nil)] false),
 oO 30 (.mv (tV 34)),
 oO 35 (.extract (tU 30) 0),
 oO 36 (.extract (tV 30) 1),
 oO 9 (.mv (tV 35)),
 oO 10 (.mv (tV 36))] [1, 6, 7, 10])
 (.seq (.region [oO 37 (.mv (tV 10)),
 oO 38 (.call (.f n_termtext_fail) [tV 37] false)] [1, 6, 7])
 (.seq (.region [oO 39 (.mv (tV 1)),
 oO 40 (.conv .i64 (tU 39)),
 oO 41 (.mv (tV 7)),
 oO 42 (.build [.int .i64 0, .int .i64 0, .int .u64 0, .str [], .list [] .nil] [(0, 1, .c (.int .i64 2)), (1, 1, .t 40 true), (2, 1, .t 41 true)]),
 oZ (.store (tU 6) (.loc 6) (tV 42) 5)] [6])
 (.ret))))))),
 [.cell 6 5 true], none, none, []⟩
def i_strings_HasPrefix : IFun := ⟨true, 2,
 .seq (.region [oO 4 (.mv (.c (.bool false)))] [0, 1])
 (.seq (.region [oO 5 (.mv (tV 0)),
 oO 6 (.mv (tV 1)),
 oO 7 (.call (.f n_internal_stringslite_HasPrefix) [tV 5, tV 6] false),
 oO 4 (.mv (tV 7))] [4])
 (.ret)),
 [.tmp 4], none, none, []⟩
def i_opinfo_inside : IFun := ⟨true, 1,
 .seq (.region [oO 2 (.mv (.c (.bool false)))] [0])
 (.seq (.region [oO 3 (.mv (tU 0)),
 oO 4 (.bin .geq (tU 3) (.c (.int .i64 0))),
 oO 5 (.mv (tV 4)),
 ⟨some 6, .mv (tV 0), (some (5, true))⟩,
 ⟨some 7, .bin .leq (tU 6) (.c (.int .i64 64)), (some (5, true))⟩,
 oO 8 (.pick (tU 5) (tU 7) (.c (.bool false))),
 oO 2 (.mv (tV 8))] [2])
 (.ret)),
 [.tmp 2], none, none, []⟩
def i_opinfo_leaf : IFun := ⟨true, 3,
 .seq (.region [oO 6 (.mv (.c (.int .i64 0))),
 oO 7 (.mv (.c (.int .i64 0)))] [0, 1, 2])
 (.seq (.seq (.region [oO 8 (.mv (tU 1)),
 oO 9 (.call (.f n_opinfo_inside) [tV 8] false),
 oO 10 (.un .not (tU 9)),
 oO 11 (.mv (tV 10)),
 ⟨some 12, .mv (tV 0), (some (11, false))⟩,
 ⟨some 13, .bin .eql (tU 12) (.c (.int .i64 2)), (some (11, false))⟩,
 ⟨some 14, .mv (tV 13), (some (11, false))⟩,
 ⟨some 15, .mv (tU 1), (some (14, true))⟩,
 ⟨some 16, .bin .gtr (tU 15) (.c (.int .i64 0)), (some (14, true))⟩,
 ⟨some 17, .pick (tU 14) (tU 16) (.c (.bool false)), (some (11, false))⟩,
 ⟨some 18, .mv (tV 17), (some (11, false))⟩,
 ⟨some 19, .mv (tV 2), (some (18, true))⟩,
 ⟨some 20, .mv (tU 1), (some (18, true))⟩,
 ⟨some 21, .bin .shr (tU 19) (tU 20), (some (18, true))⟩,
 ⟨some 22, .bin .neq (tU 21) (.c (.int .u64 0)), (some (18, true))⟩,
 ⟨some 23, .pick (tU 18) (tU 22) (.c (.bool false)), (some (11, false))⟩,
 oO 24 (.pick (tU 11) (.c (.bool true)) (tU 23))] [1, 24])
 (.cond (tU 24)
 (.seq (.region [oO 6 (.mv (.c (.int .i64 0))),
 oO 7 (.mv (.c (.int .i64 3)))] [6, 7])
 (.ret))
 (.skip)))
 (.seq (.region [oO 25 (.mv (tV 1)),
 oO 6 (.mv (tV 25)),
 oO 7 (.mv (.c (.int .i64 0)))] [6, 7])
 (.ret))),
 [.tmp 6, .tmp 7], none, none, []⟩
def i_opinfo_resized : IFun := ⟨true, 4,
 .seq (.region [oO 8 (.mv (.c (.int .i64 0))),
 oO 9 (.mv (.c (.int .i64 0)))] [0, 1, 2, 3])
 (.seq (.seq (.region [oO 10 (.mv (tU 1)),
 oO 11 (.bin .lss (tU 10) (.c (.int .i64 1))),
 oO 12 (.mv (tV 11)),
 ⟨some 13, .mv (tU 1), (some (12, false))⟩,
 ⟨some 14, .bin .gtr (tU 13) (.c (.int .i64 64)), (some (12, false))⟩,
 oO 15 (.pick (tU 12) (.c (.bool true)) (tU 14)),
 oO 16 (.mv (tV 15)),
 ⟨some 17, .mv (tU 3), (some (16, false))⟩,
 ⟨some 18, .bin .lss (tU 17) (.c (.int .i64 1)), (some (16, false))⟩,
 oO 19 (.pick (tU 16) (.c (.bool true)) (tU 18))] [0, 1, 2, 3, 19])
 (.cond (tU 19)
 (.seq (.region [oO 8 (.mv (.c (.int .i64 0))),
 oO 9 (.mv (.c (.int .i64 3)))] [8, 9])
 (.ret))
 (.skip)))
 (.seq (.seq (.region [oO 20 (.mv (tU 0)),
 oO 21 (.bin .neq (tU 20) (.c (.int .i64 21))),
 oO 22 (.mv (tV 21)),
 ⟨some 23, .mv (tU 1), (some (22, true))⟩,
 ⟨some 24, .mv (tU 3), (some (22, true))⟩,
 ⟨some 25, .bin .lss (tU 23) (tU 24), (some (22, true))⟩,
 oO 26 (.pick (tU 22) (tU 25) (.c (.bool false))),
 oO 27 (.mv (tV 26)),
 ⟨some 28, .mv (tV 0), (some (27, false))⟩,
 ⟨some 29, .bin .eql (tU 28) (.c (.int .i64 21)), (some (27, false))⟩,
 ⟨some 30, .mv (tV 29), (some (27, false))⟩,
 ⟨some 31, .mv (tU 1), (some (30, true))⟩,
 ⟨some 32, .mv (tU 3), (some (30, true))⟩,
 ⟨some 33, .bin .gtr (tU 31) (tU 32), (some (30, true))⟩,
 ⟨some 34, .mv (tV 33), (some (30, true))⟩,
 ⟨some 35, .mv (tV 2), (some (34, false))⟩,
 ⟨some 36, .mv (tV 3), (some (34, false))⟩,
 ⟨some 37, .mv (tU 1), (some (34, false))⟩,
 ⟨some 38, .bin .sub (tU 36) (tU 37), (some (34, false))⟩,
 ⟨some 39, .conv .u64 (tU 38), (some (34, false))⟩,
 ⟨some 40, .bin .gtr (tU 35) (tU 39), (some (34, false))⟩,
 ⟨some 41, .pick (tU 34) (.c (.bool true)) (tU 40), (some (30, true))⟩,
 ⟨some 42, .pick (tU 30) (tU 41) (.c (.bool false)), (some (27, false))⟩,
 oO 43 (.pick (tU 27) (.c (.bool true)) (tU 42))] [1, 43])
 (.cond (tU 43)
 (.seq (.region [oO 8 (.mv (.c (.int .i64 0))),
 oO 9 (.mv (.c (.int .i64 3)))] [8, 9])
 (.ret))
 (.skip)))
 (.seq (.region [oO 44 (.mv (tV 1)),
 oO 8 (.mv (tV 44)),
 oO 9 (.mv (.c (.int .i64 0)))] [8, 9])
 (.ret)))),
 [.tmp 8, .tmp 9], none, none, []⟩
def i_opinfo_agreed : IFun := ⟨true, 2,
 .seq (.region [oO 4 (.mv (.c (.int .i64 0))),
 oO 5 (.mv (.c (.int .i64 0)))] [0, 1])
 (.seq (.seq (.region [oO 6 (.mv (tV 0)),
 oO 7 (.un .not (tU 6))] [1, 7])
 (.cond (tU 7)
 (.seq (.region [oO 4 (.mv (.c (.int .i64 0))),
 oO 5 (.mv (.c (.int .i64 3)))] [4, 5])
 (.ret))
 (.skip)))
 (.seq (.region [oO 8 (.mv (tV 1)),
 oO 4 (.mv (tV 8)),
 oO 5 (.mv (.c (.int .i64 0)))] [4, 5])
 (.ret))),
 [.tmp 4, .tmp 5], none, none, []⟩
def i_sexpr_all_1 : IFun := ⟨false, 4,
 .block 0
 (.seq (.region [oO 9 (.eq false .iface (tU 7) (.c (.nili)))] [0, 1, 2, 3, 7, 9])
 (.cond (tU 9)
 (.region [oO 4 (.mv (tV 7))] [])
 (.seq (.region [oO 10 (.assert (tU 7) 168 (.agg [.int .i64 0, .int .i64 0]) true),
 oO 11 (.extract (tU 10) 1),
 oO 12 (.extract (tV 10) 0)] [0, 1, 2, 3, 7, 11, 12])
 (.cond (tU 11)
 (.seq (.region [oO 5 (.alloc false 0 [.int .i64 0, .int .i64 0]),
 oZ (.store (tU 5) (.loc 5) (tV 12) 2)] [0, 1, 2, 3, 5])
 (.draw [oO 13 (.faddr (tU 5) 0),
 oO 14 (.load (tU 13) (.loc 5) 1 false false),
 oO 15 (.faddr (tU 5) 1),
 oO 16 (.load (tU 15) (.loc 5) 1 false false),
 oZ (.store (tU 0) .heap (.c (.list [] .nil)) 1),
 oZ (.store (tU 1) .heap (.c (.list [] .nil)) 1),
 oZ (.store (tU 2) .heap (tV 14) 1),
 oZ (.store (tU 3) .heap (tV 16) 1)] [0, 1, 2, 3, 4, 5, 6, 7] [] []))
 (.seq (.region [oO 6 (.mv (tV 7))] [6])
 (.region [oO 8 (.mv (tV 6)),
 oZ (.panic (tU 8))] [])))))),
 [], some 7, none, []⟩
def l_sexpr_parser_skip_1 : ICode :=
 .seq (.seq (.draw [oO 35 (.mv (tU 0)),
 oO 36 (.nilchk (tU 35)),
 oO 37 (.faddr (tU 36) 1),
 oO 38 (.load (tU 37) .heap 1 false false),
 oO 39 (.mv (tU 0)),
 oO 40 (.nilchk (tU 39)),
 oO 41 (.faddr (tU 40) 0),
 oO 42 (.load (tU 41) .heap 1 false false),
 oO 43 (.len (tU 42) .str),
 oO 44 (.bin .lss (tU 38) (tU 43)),
 oO 45 (.mv (tV 44)),
 ⟨some 46, .mv (tU 0), (some (45, true))⟩,
 ⟨some 47, .nilchk (tU 46), (some (45, true))⟩,
 ⟨some 48, .faddr (tU 47) 0, (some (45, true))⟩,
 ⟨some 49, .load (tU 48) .heap 1 false false, (some (45, true))⟩,
 ⟨some 50, .mv (tU 0), (some (45, true))⟩,
 ⟨some 51, .nilchk (tU 50), (some (45, true))⟩,
 ⟨some 52, .faddr (tU 51) 1, (some (45, true))⟩,
 ⟨some 53, .load (tU 52) .heap 1 false false, (some (45, true))⟩,
 ⟨some 54, .idxS (tU 49) (tU 53), (some (45, true))⟩,
 ⟨some 55, .bin .neq (tU 54) (.c (.int .u8 10)), (some (45, true))⟩,
 oO 56 (.pick (tU 45) (tU 55) (.c (.bool false)))] [0, 1, 2, 3, 4, 5, 6, 7, 8, 9, 10, 11, 12, 13, 14, 15, 16, 17, 18, 19, 20, 21] [] [0, 56])
 (.cond (tU 56)
 (.skip)
 (.exit 3)))
 (.block 4
 (.region [oO 57 (.mv (tU 0)),
 oO 58 (.nilchk (tU 57)),
 oO 59 (.faddr (tU 58) 1),
 oO 60 (.load (tU 59) .heap 1 false false),
 oO 61 (.bin .add (tU 60) (.c (.int .i64 1))),
 oO 62 (.nilchk (tU 57)),
 oO 63 (.faddr (tU 62) 1),
 oZ (.store (tU 63) .heap (tV 61) 1)] [0]))
def l_sexpr_parser_skip_0 : ICode :=
 .seq (.seq (.draw [oO 2 (.mv (tU 0)),
 oO 3 (.nilchk (tU 2)),
 oO 4 (.faddr (tU 3) 1),
 oO 5 (.load (tU 4) .heap 1 false false),
 oO 6 (.mv (tU 0)),
 oO 7 (.nilchk (tU 6)),
 oO 8 (.faddr (tU 7) 0),
 oO 9 (.load (tU 8) .heap 1 false false),
 oO 10 (.len (tU 9) .str),
 oO 11 (.bin .lss (tU 5) (tU 10))] [0, 1, 2, 3, 4, 5, 6, 7, 8, 9] [] [0, 11])
 (.cond (tU 11)
 (.skip)
 (.exit 0)))
 (.block 1
 (.seq (.draw [oO 12 (.mv (tU 0)),
 oO 13 (.nilchk (tU 12)),
 oO 14 (.faddr (tU 13) 0),
 oO 15 (.load (tU 14) .heap 1 false false),
 oO 16 (.mv (tU 0)),
 oO 17 (.nilchk (tU 16)),
 oO 18 (.faddr (tU 17) 1),
 oO 19 (.load (tU 18) .heap 1 false false),
 oO 20 (.idxS (tU 15) (tU 19))] [0, 1, 2, 3, 4, 5, 6, 7, 8] [] [0, 20])
 (.block 2
 (.seq (.seq (.region [oO 22 (.bin .eql (tU 20) (.c (.int .u8 32))),
 oO 21 (.mv (tV 22))] [0, 20, 21])
 (.cond (tU 21)
 (.skip)
 (.seq (.region [oO 23 (.bin .eql (tU 20) (.c (.int .u8 9))),
 oO 21 (.mv (tV 23))] [0, 20, 21])
 (.cond (tU 21)
 (.skip)
 (.seq (.region [oO 24 (.bin .eql (tU 20) (.c (.int .u8 10))),
 oO 21 (.mv (tV 24))] [0, 20, 21])
 (.cond (tU 21)
 (.skip)
 (.region [oO 25 (.bin .eql (tU 20) (.c (.int .u8 13))),
 oO 21 (.mv (tV 25))] [0, 20, 21])))))))
 (.cond (tU 21)
 (.region [oO 26 (.mv (tU 0)),
 oO 27 (.nilchk (tU 26)),
 oO 28 (.faddr (tU 27) 1),
 oO 29 (.load (tU 28) .heap 1 false false),
 oO 30 (.bin .add (tU 29) (.c (.int .i64 1))),
 oO 31 (.nilchk (tU 26)),
 oO 32 (.faddr (tU 31) 1),
 oZ (.store (tU 32) .heap (tV 30) 1)] [0])
 (.seq (.region [oO 34 (.bin .eql (tU 20) (.c (.int .u8 59))),
 oO 33 (.mv (tV 34))] [0, 33])
 (.cond (tU 33)
 (.block 3
 (.loop l_sexpr_parser_skip_1))
 (.ret))))))))
def i_sexpr_parser_skip : IFun := ⟨false, 1,
 .block 0
 (.loop l_sexpr_parser_skip_0),
 [], none, none, []⟩
def l_sexpr_parser_expression_1 : ICode :=
 .block 3
 (.seq (.region [oO 92 (.mv (tU 0)),
 oO 93 (.call (.f n_sexpr_parser_skip) [tV 92] false)] [0, 1, 4, 7])
 (.seq (.seq (.draw [oO 94 (.mv (tU 0)),
 oO 95 (.nilchk (tU 94)),
 oO 96 (.faddr (tU 95) 1),
 oO 97 (.load (tU 96) .heap 1 false false),
 oO 98 (.mv (tU 0)),
 oO 99 (.nilchk (tU 98)),
 oO 100 (.faddr (tU 99) 0),
 oO 101 (.load (tU 100) .heap 1 false false),
 oO 102 (.len (tU 101) .str),
 oO 103 (.bin .eql (tU 97) (tU 102))] [0, 1, 2, 3, 4, 5, 6, 7, 8, 9] [] [0, 1, 4, 7, 103])
 (.cond (tU 103)
 (.region [oO 104 (.mv (tU 0)),
 oO 105 (.mv (tU 0)),
 oO 106 (.nilchk (tU 105)),
 oO 107 (.faddr (tU 106) 1),
 oO 108 (.load (tU 107) .heap 1 false false),
 oO 109 (.call (.f n_sexpr_parser_fail) [tV 104, tV 108, .c (.int .i64 6)] false)] [0, 1, 4, 7])
 (.skip)))
 (.seq (.seq (.draw [oO 110 (.mv (tU 0)),
 oO 111 (.nilchk (tU 110)),
 oO 112 (.faddr (tU 111) 0),
 oO 113 (.load (tU 112) .heap 1 false false),
 oO 114 (.mv (tU 0)),
 oO 115 (.nilchk (tU 114)),
 oO 116 (.faddr (tU 115) 1),
 oO 117 (.load (tU 116) .heap 1 false false),
 oO 118 (.idxS (tU 113) (tU 117)),
 oO 119 (.bin .eql (tU 118) (.c (.int .u8 41)))] [0, 1, 2, 3, 4, 5, 6, 7, 8, 9] [] [0, 1, 4, 7, 119])
 (.cond (tU 119)
 (.seq (.region [oO 120 (.mv (tV 0)),
 oO 121 (.nilchk (tU 120)),
 oO 122 (.faddr (tU 121) 1),
 oO 123 (.load (tU 122) .heap 1 false false),
 oO 124 (.bin .add (tU 123) (.c (.int .i64 1))),
 oO 125 (.nilchk (tU 120)),
 oO 126 (.faddr (tU 125) 1),
 oZ (.store (tU 126) .heap (tV 124) 1)] [4, 7])
 (.seq (.region [oO 127 (.load (tU 7) (.loc 7) 2 true false),
 oZ (.store (tU 4) (.loc 4) (tV 127) 2)] [4])
 (.ret)))
 (.skip)))
 (.draw [oO 128 (.faddr (tU 7) 1),
 oO 129 (.load (tU 128) (.loc 7) 1 false true),
 oO 130 (.mv (tU 0)),
 oO 131 (.mv (tU 1)),
 oO 132 (.bin .add (tU 131) (.c (.int .i64 1))),
 oO 133 (.call (.f n_sexpr_parser_expression) [tV 130, tV 132] false),
 oO 134 (.bslice (.agg [.str [], .list [] .nil]) 0 1 [(0, .t 133 true)]),
 oO 135 (.append (tV 129) (tU 134) 2 0 40 false),
 oO 136 (.faddr (tU 7) 1),
 oZ (.store (tU 136) (.loc 7) (tV 135) 1)] [0, 1, 2, 3, 4, 5, 6, 7, 8, 9] [5] [0, 1, 4, 7]))))
def l_sexpr_parser_expression_0 : ICode :=
 .seq (.seq (.draw [oO 45 (.mv (tU 0)),
 oO 46 (.nilchk (tU 45)),
 oO 47 (.faddr (tU 46) 1),
 oO 48 (.load (tU 47) .heap 1 false false),
 oO 49 (.mv (tU 0)),
 oO 50 (.nilchk (tU 49)),
 oO 51 (.faddr (tU 50) 0),
 oO 52 (.load (tU 51) .heap 1 false false),
 oO 53 (.len (tU 52) .str),
 oO 54 (.bin .lss (tU 48) (tU 53)),
 oO 55 (.mv (tV 54)),
 ⟨some 56, .mv (tU 0), (some (55, true))⟩,
 ⟨some 57, .nilchk (tU 56), (some (55, true))⟩,
 ⟨some 58, .faddr (tU 57) 0, (some (55, true))⟩,
 ⟨some 59, .load (tU 58) .heap 1 false false, (some (55, true))⟩,
 ⟨some 60, .mv (tU 0), (some (55, true))⟩,
 ⟨some 61, .nilchk (tU 60), (some (55, true))⟩,
 ⟨some 62, .faddr (tU 61) 1, (some (55, true))⟩,
 ⟨some 63, .load (tU 62) .heap 1 false false, (some (55, true))⟩,
 ⟨some 64, .idxS (tU 59) (tU 63), (some (55, true))⟩,
 ⟨some 65, .call (.f n_sexpr_plain) [tV 64] true, (some (55, true))⟩,
 oO 66 (.pick (tU 55) (tU 65) (.c (.bool false)))] [0, 1, 2, 3, 4, 5, 6, 7, 8, 9, 10, 11, 12, 13, 14, 15, 16, 17, 18, 19, 20, 21] [20] [0, 4, 6, 66])
 (.cond (tU 66)
 (.skip)
 (.exit 0)))
 (.block 1
 (.region [oO 67 (.mv (tU 0)),
 oO 68 (.nilchk (tU 67)),
 oO 69 (.faddr (tU 68) 1),
 oO 70 (.load (tU 69) .heap 1 false false),
 oO 71 (.bin .add (tU 70) (.c (.int .i64 1))),
 oO 72 (.nilchk (tU 67)),
 oO 73 (.faddr (tU 72) 1),
 oZ (.store (tU 73) .heap (tV 71) 1)] [0, 4, 6]))
def i_sexpr_parser_expression : IFun := ⟨false, 2,
 .seq (.region [oO 4 (.alloc false 0 [.str [], .list [] .nil])] [0, 1, 4])
 (.seq (.draw [oO 8 (.mv (tU 0)),
 oO 9 (.nilchk (tU 8)),
 oO 10 (.faddr (tU 9) 0),
 oO 11 (.load (tU 10) .heap 1 false false),
 oO 12 (.mv (tU 0)),
 oO 13 (.nilchk (tU 12)),
 oO 14 (.faddr (tU 13) 1),
 oO 15 (.load (tU 14) .heap 1 false false),
 oO 16 (.idxS (tU 11) (tU 15)),
 oO 5 (.mv (tV 16))] [0, 1, 2, 3, 4, 5, 6, 7, 8, 9] [] [0, 1, 4, 5])
 (.seq (.seq (.region [oO 17 (.mv (tU 5)),
 oO 18 (.bin .neq (tU 17) (.c (.int .u8 40))),
 oO 19 (.mv (tV 18)),
 ⟨some 20, .mv (tU 5), (some (19, true))⟩,
 ⟨some 21, .call (.f n_sexpr_plain) [tV 20] false, (some (19, true))⟩,
 ⟨some 22, .un .not (tU 21), (some (19, true))⟩,
 oO 23 (.pick (tU 19) (tU 22) (.c (.bool false)))] [0, 1, 4, 5, 23])
 (.cond (tU 23)
 (.region [oO 24 (.mv (tU 0)),
 oO 25 (.mv (tU 0)),
 oO 26 (.nilchk (tU 25)),
 oO 27 (.faddr (tU 26) 1),
 oO 28 (.load (tU 27) .heap 1 false false),
 oO 29 (.call (.f n_sexpr_parser_fail) [tV 24, tV 28, .c (.int .i64 6)] false)] [0, 1, 4, 5])
 (.skip)))
 (.seq (.seq (.region [oO 30 (.mv (tU 1)),
 oO 31 (.bin .add (tU 30) (.c (.int .i64 1))),
 oO 32 (.bin .gtr (tU 31) (.c (.int .i64 64)))] [0, 1, 4, 5, 32])
 (.cond (tU 32)
 (.region [oO 33 (.mv (tU 0)),
 oO 34 (.mv (tU 0)),
 oO 35 (.nilchk (tU 34)),
 oO 36 (.faddr (tU 35) 1),
 oO 37 (.load (tU 36) .heap 1 false false),
 oO 38 (.call (.f n_sexpr_parser_fail) [tV 33, tV 37, .c (.int .i64 7)] false)] [0, 1, 4, 5])
 (.skip)))
 (.seq (.seq (.region [oO 39 (.mv (tV 5)),
 oO 40 (.bin .neq (tU 39) (.c (.int .u8 40)))] [0, 1, 4, 40])
 (.cond (tU 40)
 (.seq (.region [oO 41 (.mv (tU 0)),
 oO 42 (.nilchk (tU 41)),
 oO 43 (.faddr (tU 42) 1),
 oO 44 (.load (tU 43) .heap 1 false false),
 oO 6 (.mv (tV 44))] [0, 4, 6])
 (.seq (.block 0
 (.loop l_sexpr_parser_expression_0))
 (.seq (.draw [oO 74 (.mv (tU 0)),
 oO 75 (.nilchk (tU 74)),
 oO 76 (.faddr (tU 75) 0),
 oO 77 (.load (tU 76) .heap 1 false false),
 oO 78 (.mv (tV 6)),
 oO 79 (.mv (tU 0)),
 oO 80 (.nilchk (tU 79)),
 oO 81 (.faddr (tU 80) 1),
 oO 82 (.load (tU 81) .heap 1 false false),
 oO 83 (.slcS (tU 77) (some (tU 78)) (some (tU 82))),
 oO 84 (.build [.str [], .list [] .nil] [(0, 1, .t 83 true)]),
 oZ (.store (tU 4) (.loc 4) (tV 84) 2)] [0, 1, 2, 3, 4, 5, 6, 7, 8, 9, 10, 11] [] [4])
 (.ret))))
 (.skip)))
 (.seq (.region [oO 85 (.mv (tU 0)),
 oO 86 (.nilchk (tU 85)),
 oO 87 (.faddr (tU 86) 1),
 oO 88 (.load (tU 87) .heap 1 false false),
 oO 89 (.bin .add (tU 88) (.c (.int .i64 1))),
 oO 90 (.nilchk (tU 85)),
 oO 91 (.faddr (tU 90) 1),
 oZ (.store (tU 91) .heap (tV 89) 1)] [0, 1, 4])
 (.seq (.region [oO 7 (.alloc false 0 [.str [], .list [] .nil])] [0, 1, 4, 7])
 (.block 2
 (.loop l_sexpr_parser_expression_1)))))))),
 [.cell 4 2 true], none, none, []⟩
def i_internal_strconv_Itoa : IFun := ⟨true, 1,
 .seq (.region [oO 2 (.mv (.c (.str [])))] [0])
 (.seq (.region [oO 3 (.mv (tV 0)),
 oO 4 (.call (.f n_internal_strconv_FormatInt) [tV 3, .c (.int .i64 10)] false),
 oO 2 (.mv (tV 4))] [2])
 (.ret)),
 [.tmp 2], none, none, []⟩
def i_internal_strconv_FormatUint : IFun := ⟨true, 2,
 .seq (.region [oO 4 (.mv (.c (.str [])))] [0, 1])
 (.seq (.seq (.region [oO 9 (.mv (tU 1)),
 oO 10 (.bin .eql (tU 9) (.c (.int .i64 10)))] [0, 1, 10])
 (.cond (tU 10)
 (.seq (.seq (.region [oO 11 (.mv (tU 0)),
 oO 12 (.bin .lss (tU 11) (.c (.int .u64 100)))] [0, 12])
 (.cond (tU 12)
 (.seq (.region [oO 13 (.mv (tV 0)),
 oO 14 (.conv .i64 (tU 13)),
 oO 15 (.call (.f n_internal_strconv_small) [tV 14] false),
 oO 4 (.mv (tV 15))] [4])
 (.ret))
 (.skip)))
 (.seq (.region [oO 5 (.alloc true 0 [.int .u8 0, .int .u8 0, .int .u8 0, .int .u8 0, .int .u8 0, .int .u8 0, .int .u8 0, .int .u8 0, .int .u8 0, .int .u8 0, .int .u8 0, .int .u8 0, .int .u8 0, .int .u8 0, .int .u8 0, .int .u8 0, .int .u8 0, .int .u8 0, .int .u8 0, .int .u8 0, .int .u8 0, .int .u8 0, .int .u8 0, .int .u8 0])] [0, 5])
 (.seq (.region [oO 16 (.mv (tU 0)),
 oO 17 (.call (.f n_internal_strconv_numDigits) [tV 16] false),
 oO 6 (.mv (tV 17))] [0, 5, 6])
 (.seq (.region [oO 18 (.mv (tU 6)),
 oO 19 (.slcA (tU 5) none (some (tU 18)) 24 1),
 oO 20 (.mv (tV 0)),
 oO 21 (.call (.f n_internal_strconv_formatBase10) [tV 19, tV 20] false)] [5, 6])
 (.seq (.region [oO 22 (.mv (tV 6)),
 oO 23 (.slcA (tU 5) none (some (tU 22)) 24 1),
 oO 24 (.strL (tU 23)),
 oO 4 (.mv (tV 24))] [4])
 (.ret))))))
 (.skip)))
 (.seq (.region [oO 26 (.mv (tV 0)),
 oO 27 (.mv (tV 1)),
 oO 28 (.call (.f n_internal_strconv_formatBits) [.c (.list [] .nil), tV 26, tV 27, .c (.bool false), .c (.bool false)] false),
 oO 25 (.mv (tV 28)),
 oO 29 (.extract (tU 25) 0),
 oO 30 (.extract (tV 25) 1),
 oO 7 (.mv (tV 29)),
 oO 8 (.mv (tV 30))] [8])
 (.seq (.region [oO 31 (.mv (tV 8)),
 oO 4 (.mv (tV 31))] [4])
 (.ret)))),
 [.tmp 4], none, none, []⟩
def i_internal_stringslite_Cut : IFun := ⟨true, 2,
 .seq (.region [oO 4 (.mv (.c (.str []))),
 oO 5 (.mv (.c (.str []))),
 oO 6 (.mv (.c (.bool false)))] [0, 1])
 (.seq (.seq (.region [oO 8 (.mv (tU 0)),
 oO 9 (.mv (tU 1)),
 oO 10 (.call (.f n_internal_stringslite_Index) [tV 8, tV 9] false),
 oO 7 (.mv (tV 10))] [0, 1, 7])
 (.seq (.region [oO 11 (.mv (tU 7)),
 oO 12 (.bin .geq (tU 11) (.c (.int .i64 0)))] [0, 1, 7, 12])
 (.cond (tU 12)
 (.seq (.draw [oO 13 (.mv (tU 0)),
 oO 14 (.mv (tU 7)),
 oO 15 (.slcS (tU 13) none (some (tU 14))),
 oO 16 (.mv (tU 0)),
 oO 17 (.mv (tU 7)),
 oO 18 (.mv (tV 1)),
 oO 19 (.len (tU 18) .str),
 oO 20 (.bin .add (tU 17) (tU 19)),
 oO 21 (.slcS (tU 16) (some (tU 20)) none),
 oO 4 (.mv (tV 15)),
 oO 5 (.mv (tV 21)),
 oO 6 (.mv (.c (.bool true)))] [0, 1, 2, 3, 4, 5, 6, 7, 8, 9, 10, 11] [] [4, 5, 6])
 (.ret))
 (.skip))))
 (.seq (.region [oO 22 (.mv (tV 0)),
 oO 4 (.mv (tV 22)),
 oO 5 (.mv (.c (.str []))),
 oO 6 (.mv (.c (.bool false)))] [4, 5, 6])
 (.ret))),
 [.tmp 4, .tmp 5, .tmp 6], none, none, []⟩
def i_digits_Parse : IFun := ⟨true, 1,
 .seq (.region [oO 2 (.mv (.c (.int .u64 0))),
 oO 3 (.mv (.c (.int .i64 0)))] [0])
 (.seq (.region [oO 4 (.mv (.c (.str [48, 49, 50, 51, 52, 53, 54, 55, 56, 57]))),
 oO 5 (.mv (.c (.int .i64 10)))] [0, 4, 5])
 (.seq (.seq (.region [oO 11 (.mv (tU 0)),
 oO 12 (.call (.f n_strings_CutPrefix) [tV 11, .c (.str [48, 120])] false),
 oO 10 (.mv (tV 12)),
 oO 13 (.extract (tU 10) 0),
 oO 14 (.extract (tV 10) 1),
 oO 6 (.mv (tV 13)),
 oO 7 (.mv (tV 14))] [0, 4, 5, 6, 7])
 (.seq (.region [oO 15 (.mv (tV 7))] [0, 4, 5, 6, 15])
 (.cond (tU 15)
 (.region [oO 16 (.mv (tV 6)),
 oO 0 (.mv (tV 16)),
 oO 4 (.mv (.c (.str [48, 49, 50, 51, 52, 53, 54, 55, 56, 57, 97, 98, 99, 100, 101, 102]))),
 oO 5 (.mv (.c (.int .i64 16)))] [0, 4, 5])
 (.skip))))
 (.seq (.seq (.region [oO 17 (.mv (tU 0)),
 oO 18 (.mv (tV 4)),
 oO 19 (.call (.f n_digits_numeral) [tV 17, tV 18] false),
 oO 20 (.un .not (tU 19))] [0, 5, 20])
 (.cond (tU 20)
 (.seq (.region [oO 2 (.mv (.c (.int .u64 0))),
 oO 3 (.mv (.c (.int .i64 6)))] [2, 3])
 (.ret))
 (.skip)))
 (.seq (.region [oO 22 (.mv (tV 0)),
 oO 23 (.mv (tV 5)),
 oO 24 (.call (.f n_strconv_ParseUint) [tV 22, tV 23, .c (.int .i64 64)] false),
 oO 21 (.mv (tV 24)),
 oO 25 (.extract (tU 21) 0),
 oO 26 (.extract (tV 21) 1),
 oO 8 (.mv (tV 25)),
 oO 9 (.mv (tV 26))] [8, 9])
 (.seq (.seq (.region [oO 27 (.mv (tV 9)),
 oO 28 (.eq true .iface (tU 27) (.c (.nili)))] [8, 28])
 (.cond (tU 28)
 (.seq (.region [oO 2 (.mv (.c (.int .u64 0))),
 oO 3 (.mv (.c (.int .i64 2)))] [2, 3])
 (.ret))
 (.skip)))
 (.seq (.region [oO 29 (.mv (tV 8)),
 oO 2 (.mv (tV 29)),
 oO 3 (.mv (.c (.int .i64 0)))] [2, 3])
 (.ret))))))),
 [.tmp 2, .tmp 3], none, none, []⟩
def i_internal_stringslite_HasPrefix : IFun := ⟨true, 2,
 .seq (.region [oO 4 (.mv (.c (.bool false)))] [0, 1])
 (.seq (.region [oO 5 (.mv (tU 0)),
 oO 6 (.len (tU 5) .str),
 oO 7 (.mv (tU 1)),
 oO 8 (.len (tU 7) .str),
 oO 9 (.bin .geq (tU 6) (tU 8)),
 oO 10 (.mv (tV 9)),
 ⟨some 11, .mv (tV 0), (some (10, true))⟩,
 ⟨some 12, .mv (tU 1), (some (10, true))⟩,
 ⟨some 13, .len (tU 12) .str, (some (10, true))⟩,
 ⟨some 14, .slcS (tU 11) none (some (tU 13)), (some (10, true))⟩,
 ⟨some 15, .mv (tV 1), (some (10, true))⟩,
 ⟨some 16, .bin .eql (tU 14) (tU 15), (some (10, true))⟩,
 oO 17 (.pick (tU 10) (tU 16) (.c (.bool false))),
 oO 4 (.mv (tV 17))] [4])
 (.ret)),
 [.tmp 4], none, none, []⟩
def i_sexpr_plain : IFun := ⟨true, 1,
 .seq (.region [oO 2 (.mv (.c (.bool false)))] [0])
 (.seq (.region [oO 3 (.mv (tU 0)),
 oO 4 (.bin .geq (tU 3) (.c (.int .u8 33))),
 oO 5 (.mv (tV 4)),
 ⟨some 6, .mv (tU 0), (some (5, true))⟩,
 ⟨some 7, .bin .leq (tU 6) (.c (.int .u8 126)), (some (5, true))⟩,
 oO 8 (.pick (tU 5) (tU 7) (.c (.bool false))),
 oO 9 (.mv (tV 8)),
 ⟨some 10, .mv (tU 0), (some (9, true))⟩,
 ⟨some 11, .bin .neq (tU 10) (.c (.int .u8 40)), (some (9, true))⟩,
 oO 12 (.pick (tU 9) (tU 11) (.c (.bool false))),
 oO 13 (.mv (tV 12)),
 ⟨some 14, .mv (tU 0), (some (13, true))⟩,
 ⟨some 15, .bin .neq (tU 14) (.c (.int .u8 41)), (some (13, true))⟩,
 oO 16 (.pick (tU 13) (tU 15) (.c (.bool false))),
 oO 17 (.mv (tV 16)),
 ⟨some 18, .mv (tV 0), (some (17, true))⟩,
 ⟨some 19, .bin .neq (tU 18) (.c (.int .u8 59)), (some (17, true))⟩,
 oO 20 (.pick (tU 17) (tU 19) (.c (.bool false))),
 oO 2 (.mv (tV 20))] [2])
 (.ret)),
 [.tmp 2], none, none, []⟩
def i_sexpr_parser_fail : IFun := ⟨false, 3,
 .region [oO 6 (.mv (tV 1)),
 oO 7 (.mv (tV 2)),
 oO 8 (.build [.int .i64 0, .int .i64 0] [(0, 1, .t 6 true), (1, 1, .t 7 true)]),
 oO 9 (.mkiface 168 (tV 8)),
 oZ (.panic (tU 9))] [],
 [], none, none, []⟩
def i_internal_strconv_FormatInt : IFun := ⟨true, 2,
 .seq (.region [oO 4 (.mv (.c (.str [])))] [0, 1])
 (.seq (.seq (.region [oO 10 (.mv (tU 1)),
 oO 11 (.bin .eql (tU 10) (.c (.int .i64 10)))] [0, 1, 11])
 (.cond (tU 11)
 (.seq (.seq (.region [oO 12 (.mv (tU 0)),
 oO 13 (.bin .leq (.c (.int .i64 0)) (tU 12)),
 oO 14 (.mv (tV 13)),
 ⟨some 15, .mv (tU 0), (some (14, true))⟩,
 ⟨some 16, .bin .lss (tU 15) (.c (.int .i64 100)), (some (14, true))⟩,
 oO 17 (.pick (tU 14) (tU 16) (.c (.bool false)))] [0, 17])
 (.cond (tU 17)
 (.seq (.region [oO 18 (.mv (tV 0)),
 oO 19 (.call (.f n_internal_strconv_small) [tV 18] false),
 oO 4 (.mv (tV 19))] [4])
 (.ret))
 (.skip)))
 (.seq (.region [oO 5 (.alloc true 0 [.int .u8 0, .int .u8 0, .int .u8 0, .int .u8 0, .int .u8 0, .int .u8 0, .int .u8 0, .int .u8 0, .int .u8 0, .int .u8 0, .int .u8 0, .int .u8 0, .int .u8 0, .int .u8 0, .int .u8 0, .int .u8 0, .int .u8 0, .int .u8 0, .int .u8 0, .int .u8 0, .int .u8 0, .int .u8 0, .int .u8 0, .int .u8 0])] [0, 5])
 (.seq (.region [oO 20 (.mv (tU 0)),
 oO 21 (.conv .u64 (tU 20)),
 oO 6 (.mv (tV 21))] [0, 5, 6])
 (.seq (.seq (.region [oO 22 (.mv (tU 0)),
 oO 23 (.bin .lss (tU 22) (.c (.int .i64 0)))] [0, 5, 6, 23])
 (.cond (tU 23)
 (.region [oO 24 (.mv (tV 6)),
 oO 25 (.un .neg (tU 24)),
 oO 6 (.mv (tV 25))] [0, 5, 6])
 (.skip)))
 (.seq (.region [oO 26 (.mv (tU 6)),
 oO 27 (.call (.f n_internal_strconv_numDigits) [tV 26] false),
 oO 7 (.mv (tV 27))] [0, 5, 6, 7])
 (.seq (.region [oO 28 (.mv (tU 7)),
 oO 29 (.bin .add (.c (.int .i64 1)) (tU 28)),
 oO 30 (.slcA (tU 5) (some (.c (.int .i64 1))) (some (tU 29)) 24 1),
 oO 31 (.mv (tV 6)),
 oO 32 (.call (.f n_internal_strconv_formatBase10) [tV 30, tV 31] false)] [0, 5, 7])
 (.seq (.seq (.region [oO 33 (.mv (tV 0)),
 oO 34 (.bin .lss (tU 33) (.c (.int .i64 0)))] [5, 7, 34])
 (.cond (tU 34)
 (.seq (.region [oO 35 (.iaddrA (tU 5) (.c (.int .i64 0)) 24 1),
 oZ (.store (tU 35) .heap (.c (.int .u8 45)) 1)] [5, 7])
 (.seq (.region [oO 36 (.mv (tV 7)),
 oO 37 (.bin .add (.c (.int .i64 1)) (tU 36)),
 oO 38 (.slcA (tU 5) none (some (tU 37)) 24 1),
 oO 39 (.strL (tU 38)),
 oO 4 (.mv (tV 39))] [4])
 (.ret)))
 (.skip)))
 (.seq (.region [oO 40 (.mv (tV 7)),
 oO 41 (.bin .add (.c (.int .i64 1)) (tU 40)),
 oO 42 (.slcA (tU 5) (some (.c (.int .i64 1))) (some (tU 41)) 24 1),
 oO 43 (.strL (tU 42)),
 oO 4 (.mv (tV 43))] [4])
 (.ret)))))))))
 (.skip)))
 (.seq (.region [oO 45 (.mv (tU 0)),
 oO 46 (.conv .u64 (tU 45)),
 oO 47 (.mv (tV 1)),
 oO 48 (.mv (tV 0)),
 oO 49 (.bin .lss (tU 48) (.c (.int .i64 0))),
 oO 50 (.call (.f n_internal_strconv_formatBits) [.c (.list [] .nil), tV 46, tV 47, tV 49, .c (.bool false)] false),
 oO 44 (.mv (tV 50)),
 oO 51 (.extract (tU 44) 0),
 oO 52 (.extract (tV 44) 1),
 oO 8 (.mv (tV 51)),
 oO 9 (.mv (tV 52))] [9])
 (.seq (.region [oO 53 (.mv (tV 9)),
 oO 4 (.mv (tV 53))] [4])
 (.ret)))),
 [.tmp 4], none, none, []⟩
def i_internal_strconv_small : IFun := ⟨true, 1,
 .seq (.region [oO 2 (.mv (.c (.str [])))] [0])
 (.seq (.seq (.region [oO 3 (.mv (tU 0)),
 oO 4 (.bin .lss (tU 3) (.c (.int .i64 10)))] [0, 4])
 (.cond (tU 4)
 (.seq (.region [oO 5 (.mv (tU 0)),
 oO 6 (.mv (tV 0)),
 oO 7 (.bin .add (tU 6) (.c (.int .i64 1))),
 oO 8 (.slcS (.c (.str [48, 49, 50, 51, 52, 53, 54, 55, 56, 57, 97, 98, 99, 100, 101, 102, 103, 104, 105, 106, 107, 108, 109, 110, 111, 112, 113, 114, 115, 116, 117, 118, 119, 120, 121, 122])) (some (tU 5)) (some (tU 7))),
 oO 2 (.mv (tV 8))] [2])
 (.ret))
 (.skip)))
 (.seq (.region [oO 9 (.mv (tU 0)),
 oO 10 (.bin .mul (tU 9) (.c (.int .i64 2))),
 oO 11 (.mv (tV 0)),
 oO 12 (.bin .mul (tU 11) (.c (.int .i64 2))),
 oO 13 (.bin .add (tU 12) (.c (.int .i64 2))),
 oO 14 (.slcS (.c (.str smalls2)) (some (tU 10)) (some (tU 13))),
 oO 2 (.mv (tV 14))] [2])
 (.ret))),
 [.tmp 2], none, none, []⟩
def i_internal_strconv_numDigits : IFun := ⟨true, 1,
 .seq (.region [oO 2 (.mv (.c (.int .i64 0)))] [0])
 (.seq (.region [oO 4 (.mv (tU 0)),
 oO 5 (.call (.f n_math_bits_Len64) [tV 4] false),
 oO 6 (.call (.f n_internal_strconv_log10Pow2) [tV 5] false),
 oO 3 (.mv (tV 6))] [0, 3])
 (.seq (.region [oO 7 (.mv (tU 3)),
 oO 8 (.mv (tV 0)),
 oO 9 (.mv (tV 3)),
 oO 10 (.iaddrA (.g 2) (tU 9) 20 1),
 oO 11 (.load (tU 10) .heap 1 false false),
 oO 12 (.bin .geq (tU 8) (tU 11)),
 oO 13 (.call (.f n_internal_strconv_bool2_int) [tV 12] false),
 oO 14 (.bin .add (tU 7) (tU 13)),
 oO 2 (.mv (tV 14))] [2])
 (.ret))),
 [.tmp 2], none, none, []⟩
def l_internal_strconv_formatBase10_0 : ICode :=
 .seq (.seq (.region [oO 19 (.mv (tU 4)),
 oO 20 (.bin .geq (tU 19) (.c (.int .i64 8)))] [0, 1, 4, 20])
 (.cond (tU 20)
 (.skip)
 (.exit 0)))
 (.block 1
 (.seq (.region [oO 21 (.mv (tU 1)),
 oO 22 (.bin .rem (tU 21) (.c (.int .u64 100000000))),
 oO 23 (.conv .u32 (tU 22)),
 oO 5 (.mv (tV 23))] [0, 1, 4, 5])
 (.seq (.region [oO 24 (.mv (tV 1)),
 oO 25 (.bin .quo (tU 24) (.c (.int .u64 100000000))),
 oO 1 (.mv (tV 25))] [0, 1, 4, 5])
 (.seq (.region [oO 26 (.mv (tU 5)),
 oO 27 (.bin .quo (tU 26) (.c (.int .u32 10000))),
 oO 28 (.mv (tV 5)),
 oO 29 (.bin .rem (tU 28) (.c (.int .u32 10000))),
 oO 6 (.mv (tV 27)),
 oO 7 (.mv (tV 29))] [0, 1, 4, 6, 7])
 (.seq (.region [oO 30 (.mv (tU 7)),
 oO 31 (.bin .quo (tU 30) (.c (.int .u32 100))),
 oO 32 (.bin .mul (tU 31) (.c (.int .u32 2))),
 oO 33 (.mv (tV 7)),
 oO 34 (.bin .rem (tU 33) (.c (.int .u32 100))),
 oO 35 (.bin .mul (tU 34) (.c (.int .u32 2))),
 oO 8 (.mv (tV 32)),
 oO 9 (.mv (tV 35))] [0, 1, 4, 6, 8, 9])
 (.seq (.region [oO 36 (.mv (tU 6)),
 oO 37 (.bin .quo (tU 36) (.c (.int .u32 100))),
 oO 38 (.bin .mul (tU 37) (.c (.int .u32 2))),
 oO 39 (.mv (tV 6)),
 oO 40 (.bin .rem (tU 39) (.c (.int .u32 100))),
 oO 41 (.bin .mul (tU 40) (.c (.int .u32 2))),
 oO 10 (.mv (tV 38)),
 oO 11 (.mv (tV 41))] [0, 1, 4, 8, 9, 10, 11])
 (.seq (.draw [oO 42 (.mv (tU 0)),
 oO 43 (.mv (tU 4)),
 oO 44 (.bin .sub (tU 43) (.c (.int .i64 1))),
 oO 45 (.mv (tU 0)),
 oO 46 (.mv (tU 4)),
 oO 47 (.bin .sub (tU 46) (.c (.int .i64 2))),
 oO 48 (.mv (tU 9)),
 oO 49 (.bin .add (tU 48) (.c (.int .u32 1))),
 oO 50 (.idxS (.c (.str smalls2)) (tU 49)),
 oO 51 (.mv (tU 9)),
 oO 52 (.idxS (.c (.str smalls2)) (tU 51)),
 oO 53 (.iaddrL (tU 42) (tU 44) 1),
 oZ (.store (tU 53) .heap (tV 50) 1),
 oO 54 (.iaddrL (tU 45) (tU 47) 1),
 oZ (.store (tU 54) .heap (tV 52) 1)] [0, 1, 2, 3, 4, 5, 6, 7, 8, 9, 10, 11, 12, 13, 14] [] [0, 1, 4, 8, 10, 11])
 (.seq (.draw [oO 55 (.mv (tU 0)),
 oO 56 (.mv (tU 4)),
 oO 57 (.bin .sub (tU 56) (.c (.int .i64 3))),
 oO 58 (.mv (tU 0)),
 oO 59 (.mv (tU 4)),
 oO 60 (.bin .sub (tU 59) (.c (.int .i64 4))),
 oO 61 (.mv (tU 8)),
 oO 62 (.bin .add (tU 61) (.c (.int .u32 1))),
 oO 63 (.idxS (.c (.str smalls2)) (tU 62)),
 oO 64 (.mv (tU 8)),
 oO 65 (.idxS (.c (.str smalls2)) (tU 64)),
 oO 66 (.iaddrL (tU 55) (tU 57) 1),
 oZ (.store (tU 66) .heap (tV 63) 1),
 oO 67 (.iaddrL (tU 58) (tU 60) 1),
 oZ (.store (tU 67) .heap (tV 65) 1)] [0, 1, 2, 3, 4, 5, 6, 7, 8, 9, 10, 11, 12, 13, 14] [] [0, 1, 4, 10, 11])
 (.seq (.draw [oO 68 (.mv (tU 0)),
 oO 69 (.mv (tU 4)),
 oO 70 (.bin .sub (tU 69) (.c (.int .i64 5))),
 oO 71 (.mv (tU 0)),
 oO 72 (.mv (tU 4)),
 oO 73 (.bin .sub (tU 72) (.c (.int .i64 6))),
 oO 74 (.mv (tU 11)),
 oO 75 (.bin .add (tU 74) (.c (.int .u32 1))),
 oO 76 (.idxS (.c (.str smalls2)) (tU 75)),
 oO 77 (.mv (tU 11)),
 oO 78 (.idxS (.c (.str smalls2)) (tU 77)),
 oO 79 (.iaddrL (tU 68) (tU 70) 1),
 oZ (.store (tU 79) .heap (tV 76) 1),
 oO 80 (.iaddrL (tU 71) (tU 73) 1),
 oZ (.store (tU 80) .heap (tV 78) 1)] [0, 1, 2, 3, 4, 5, 6, 7, 8, 9, 10, 11, 12, 13, 14] [] [0, 1, 4, 10])
 (.seq (.draw [oO 81 (.mv (tU 0)),
 oO 82 (.mv (tU 4)),
 oO 83 (.bin .sub (tU 82) (.c (.int .i64 7))),
 oO 84 (.mv (tU 0)),
 oO 85 (.mv (tU 4)),
 oO 86 (.bin .sub (tU 85) (.c (.int .i64 8))),
 oO 87 (.mv (tU 10)),
 oO 88 (.bin .add (tU 87) (.c (.int .u32 1))),
 oO 89 (.idxS (.c (.str smalls2)) (tU 88)),
 oO 90 (.mv (tU 10)),
 oO 91 (.idxS (.c (.str smalls2)) (tU 90)),
 oO 92 (.iaddrL (tU 81) (tU 83) 1),
 oZ (.store (tU 92) .heap (tV 89) 1),
 oO 93 (.iaddrL (tU 84) (tU 86) 1),
 oZ (.store (tU 93) .heap (tV 91) 1)] [0, 1, 2, 3, 4, 5, 6, 7, 8, 9, 10, 11, 12, 13, 14] [] [0, 1, 4])
 (.region [oO 94 (.mv (tV 4)),
 oO 95 (.bin .sub (tU 94) (.c (.int .i64 8))),
 oO 4 (.mv (tV 95))] [0, 1, 4])))))))))))
def i_internal_strconv_formatBase10 : IFun := ⟨false, 2,
 .seq (.region [oO 17 (.mv (tU 0)),
 oO 18 (.len (tU 17) .list),
 oO 4 (.mv (tV 18))] [0, 1, 4])
 (.seq (.block 0
 (.loop l_internal_strconv_formatBase10_0))
 (.seq (.region [oO 96 (.mv (tV 1)),
 oO 97 (.conv .u32 (tU 96)),
 oO 12 (.mv (tV 97))] [0, 4, 12])
 (.seq (.seq (.region [oO 98 (.mv (tU 4)),
 oO 99 (.bin .geq (tU 98) (.c (.int .i64 4)))] [0, 4, 12, 99])
 (.cond (tU 99)
 (.seq (.region [oO 100 (.mv (tU 12)),
 oO 101 (.bin .rem (tU 100) (.c (.int .u32 10000))),
 oO 13 (.mv (tV 101))] [0, 4, 12, 13])
 (.seq (.region [oO 102 (.mv (tV 12)),
 oO 103 (.bin .quo (tU 102) (.c (.int .u32 10000))),
 oO 12 (.mv (tV 103))] [0, 4, 12, 13])
 (.seq (.region [oO 104 (.mv (tU 13)),
 oO 105 (.bin .quo (tU 104) (.c (.int .u32 100))),
 oO 106 (.bin .mul (tU 105) (.c (.int .u32 2))),
 oO 107 (.mv (tV 13)),
 oO 108 (.bin .rem (tU 107) (.c (.int .u32 100))),
 oO 109 (.bin .mul (tU 108) (.c (.int .u32 2))),
 oO 14 (.mv (tV 106)),
 oO 15 (.mv (tV 109))] [0, 4, 12, 14, 15])
 (.seq (.draw [oO 110 (.mv (tU 0)),
 oO 111 (.mv (tU 4)),
 oO 112 (.bin .sub (tU 111) (.c (.int .i64 1))),
 oO 113 (.mv (tU 0)),
 oO 114 (.mv (tU 4)),
 oO 115 (.bin .sub (tU 114) (.c (.int .i64 2))),
 oO 116 (.mv (tU 15)),
 oO 117 (.bin .add (tU 116) (.c (.int .u32 1))),
 oO 118 (.idxS (.c (.str smalls2)) (tU 117)),
 oO 119 (.mv (tU 15)),
 oO 120 (.idxS (.c (.str smalls2)) (tU 119)),
 oO 121 (.iaddrL (tU 110) (tU 112) 1),
 oZ (.store (tU 121) .heap (tV 118) 1),
 oO 122 (.iaddrL (tU 113) (tU 115) 1),
 oZ (.store (tU 122) .heap (tV 120) 1)] [0, 1, 2, 3, 4, 5, 6, 7, 8, 9, 10, 11, 12, 13, 14] [] [0, 4, 12, 14])
 (.seq (.draw [oO 123 (.mv (tU 0)),
 oO 124 (.mv (tU 4)),
 oO 125 (.bin .sub (tU 124) (.c (.int .i64 3))),
 oO 126 (.mv (tU 0)),
 oO 127 (.mv (tU 4)),
 oO 128 (.bin .sub (tU 127) (.c (.int .i64 4))),
 oO 129 (.mv (tU 14)),
 oO 130 (.bin .add (tU 129) (.c (.int .u32 1))),
 oO 131 (.idxS (.c (.str smalls2)) (tU 130)),
 oO 132 (.mv (tU 14)),
 oO 133 (.idxS (.c (.str smalls2)) (tU 132)),
 oO 134 (.iaddrL (tU 123) (tU 125) 1),
 oZ (.store (tU 134) .heap (tV 131) 1),
 oO 135 (.iaddrL (tU 126) (tU 128) 1),
 oZ (.store (tU 135) .heap (tV 133) 1)] [0, 1, 2, 3, 4, 5, 6, 7, 8, 9, 10, 11, 12, 13, 14] [] [0, 4, 12])
 (.region [oO 136 (.mv (tV 4)),
 oO 137 (.bin .sub (tU 136) (.c (.int .i64 4))),
 oO 4 (.mv (tV 137))] [0, 4, 12]))))))
 (.skip)))
 (.seq (.seq (.region [oO 138 (.mv (tU 4)),
 oO 139 (.bin .geq (tU 138) (.c (.int .i64 2)))] [0, 4, 12, 139])
 (.cond (tU 139)
 (.seq (.region [oO 140 (.mv (tU 12)),
 oO 141 (.bin .rem (tU 140) (.c (.int .u32 100))),
 oO 142 (.bin .mul (tU 141) (.c (.int .u32 2))),
 oO 16 (.mv (tV 142))] [0, 4, 12, 16])
 (.seq (.region [oO 143 (.mv (tV 12)),
 oO 144 (.bin .quo (tU 143) (.c (.int .u32 100))),
 oO 12 (.mv (tV 144))] [0, 4, 12, 16])
 (.seq (.draw [oO 145 (.mv (tU 0)),
 oO 146 (.mv (tU 4)),
 oO 147 (.bin .sub (tU 146) (.c (.int .i64 1))),
 oO 148 (.mv (tU 0)),
 oO 149 (.mv (tU 4)),
 oO 150 (.bin .sub (tU 149) (.c (.int .i64 2))),
 oO 151 (.mv (tU 16)),
 oO 152 (.bin .add (tU 151) (.c (.int .u32 1))),
 oO 153 (.idxS (.c (.str smalls2)) (tU 152)),
 oO 154 (.mv (tU 16)),
 oO 155 (.idxS (.c (.str smalls2)) (tU 154)),
 oO 156 (.iaddrL (tU 145) (tU 147) 1),
 oZ (.store (tU 156) .heap (tV 153) 1),
 oO 157 (.iaddrL (tU 148) (tU 150) 1),
 oZ (.store (tU 157) .heap (tV 155) 1)] [0, 1, 2, 3, 4, 5, 6, 7, 8, 9, 10, 11, 12, 13, 14] [] [0, 4, 12])
 (.region [oO 158 (.mv (tV 4)),
 oO 159 (.bin .sub (tU 158) (.c (.int .i64 2))),
 oO 4 (.mv (tV 159))] [0, 4, 12]))))
 (.skip)))
 (.seq (.region [oO 160 (.mv (tV 4)),
 oO 161 (.bin .gtr (tU 160) (.c (.int .i64 0)))] [0, 12, 161])
 (.cond (tU 161)
 (.region [oO 162 (.mv (tV 0)),
 oO 163 (.mv (tV 12)),
 oO 164 (.bin .add (.c (.int .u32 48)) (tU 163)),
 oO 165 (.conv .u8 (tU 164)),
 oO 166 (.iaddrL (tU 162) (.c (.int .i64 0)) 1),
 oZ (.store (tU 166) .heap (tV 165) 1)] [])
 (.skip))))))),
 [], none, none, []⟩
def l_internal_stringslite_Index_0 : ICode :=
 .seq (.seq (.region [oO 57 (.mv (tU 8)),
 oO 58 (.mv (tU 9)),
 oO 59 (.bin .lss (tU 57) (tU 58))] [0, 1, 5, 6, 7, 8, 9, 10, 59])
 (.cond (tU 59)
 (.skip)
 (.exit 1)))
 (.block 2
 (.seq (.seq (.region [oO 60 (.mv (tU 0)),
 oO 61 (.mv (tU 8)),
 oO 62 (.idxS (tU 60) (tU 61)),
 oO 63 (.mv (tU 6)),
 oO 64 (.bin .neq (tU 62) (tU 63))] [0, 1, 5, 6, 7, 8, 9, 10, 64])
 (.cond (tU 64)
 (.seq (.region [oO 65 (.mv (tU 0)),
 oO 66 (.mv (tU 8)),
 oO 67 (.bin .add (tU 66) (.c (.int .i64 1))),
 oO 68 (.mv (tU 9)),
 oO 69 (.slcS (tU 65) (some (tU 67)) (some (tU 68))),
 oO 70 (.mv (tU 6)),
 oO 71 (.call (.f n_internal_stringslite_IndexByte) [tV 69, tV 70] false),
 oO 11 (.mv (tV 71))] [0, 1, 5, 6, 7, 8, 9, 10, 11])
 (.seq (.seq (.region [oO 72 (.mv (tU 11)),
 oO 73 (.bin .lss (tU 72) (.c (.int .i64 0)))] [0, 1, 5, 6, 7, 8, 9, 10, 11, 73])
 (.cond (tU 73)
 (.seq (.region [oO 4 (.mv (.c (.int .i64 (-1))))] [4])
 (.ret))
 (.skip)))
 (.region [oO 74 (.mv (tV 8)),
 oO 75 (.mv (tV 11)),
 oO 76 (.bin .add (tU 75) (.c (.int .i64 1))),
 oO 77 (.bin .add (tU 74) (tU 76)),
 oO 8 (.mv (tV 77))] [0, 1, 5, 6, 7, 8, 9, 10])))
 (.skip)))
 (.seq (.seq (.region [oO 78 (.mv (tU 0)),
 oO 79 (.mv (tU 8)),
 oO 80 (.bin .add (tU 79) (.c (.int .i64 1))),
 oO 81 (.idxS (tU 78) (tU 80)),
 oO 82 (.mv (tU 7)),
 oO 83 (.bin .eql (tU 81) (tU 82)),
 oO 84 (.mv (tV 83)),
 ⟨some 85, .mv (tU 0), (some (84, true))⟩,
 ⟨some 86, .mv (tU 8), (some (84, true))⟩,
 ⟨some 87, .mv (tU 8), (some (84, true))⟩,
 ⟨some 88, .mv (tU 5), (some (84, true))⟩,
 ⟨some 89, .bin .add (tU 87) (tU 88), (some (84, true))⟩,
 ⟨some 90, .slcS (tU 85) (some (tU 86)) (some (tU 89)), (some (84, true))⟩,
 ⟨some 91, .mv (tU 1), (some (84, true))⟩,
 ⟨some 92, .bin .eql (tU 90) (tU 91), (some (84, true))⟩,
 oO 93 (.pick (tU 84) (tU 92) (.c (.bool false)))] [0, 1, 5, 6, 7, 8, 9, 10, 93])
 (.cond (tU 93)
 (.seq (.region [oO 94 (.mv (tV 8)),
 oO 4 (.mv (tV 94))] [4])
 (.ret))
 (.skip)))
 (.seq (.region [oO 95 (.mv (tV 8)),
 oO 96 (.bin .add (tU 95) (.c (.int .i64 1))),
 oO 8 (.mv (tV 96))] [0, 1, 5, 6, 7, 8, 9, 10])
 (.seq (.region [oO 97 (.mv (tV 10)),
 oO 98 (.bin .add (tU 97) (.c (.int .i64 1))),
 oO 10 (.mv (tV 98))] [0, 1, 5, 6, 7, 8, 9, 10])
 (.seq (.region [oO 99 (.mv (tU 5)),
 oO 100 (.load (.g 3) .heap 1 false false),
 oO 101 (.bin .leq (tU 99) (tU 100)),
 oO 102 (.mv (tV 101)),
 ⟨some 103, .mv (tU 10), (some (102, true))⟩,
 ⟨some 104, .mv (tU 8), (some (102, true))⟩,
 ⟨some 105, .call (.f n_internal_bytealg_Cutover) [tV 104] false, (some (102, true))⟩,
 ⟨some 106, .bin .gtr (tU 103) (tU 105), (some (102, true))⟩,
 oO 107 (.pick (tU 102) (tU 106) (.c (.bool false)))] [0, 1, 5, 6, 7, 8, 9, 10, 107])
 (.cond (tU 107)
 (.seq (.region [oO 108 (.mv (tV 0)),
 oO 109 (.mv (tU 8)),
 oO 110 (.slcS (tU 108) (some (tU 109)) none),
 oO 111 (.mv (tV 1)),
 oO 112 (.call (.f n_internal_bytealg_IndexString) [tV 110, tV 111] false),
 oO 12 (.mv (tV 112))] [8, 12])
 (.seq (.seq (.region [oO 113 (.mv (tU 12)),
 oO 114 (.bin .geq (tU 113) (.c (.int .i64 0)))] [8, 12, 114])
 (.cond (tU 114)
 (.seq (.region [oO 115 (.mv (tV 12)),
 oO 116 (.mv (tV 8)),
 oO 117 (.bin .add (tU 115) (tU 116)),
 oO 4 (.mv (tV 117))] [4])
 (.ret))
 (.skip)))
 (.seq (.region [oO 4 (.mv (.c (.int .i64 (-1))))] [4])
 (.ret))))
 (.seq (.region [oO 118 (.mv (tU 5)),
 oO 119 (.load (.g 3) .heap 1 false false),
 oO 120 (.bin .gtr (tU 118) (tU 119)),
 oO 121 (.mv (tV 120)),
 ⟨some 122, .mv (tU 10), (some (121, true))⟩,
 ⟨some 123, .mv (tU 8), (some (121, true))⟩,
 ⟨some 124, .bin .shr (tU 123) (.c (.int .u64 4)), (some (121, true))⟩,
 ⟨some 125, .bin .add (.c (.int .i64 4)) (tU 124), (some (121, true))⟩,
 ⟨some 126, .bin .geq (tU 122) (tU 125), (some (121, true))⟩,
 oO 127 (.pick (tU 121) (tU 126) (.c (.bool false))),
 oO 128 (.mv (tV 127)),
 ⟨some 129, .mv (tU 8), (some (128, true))⟩,
 ⟨some 130, .mv (tU 9), (some (128, true))⟩,
 ⟨some 131, .bin .lss (tU 129) (tU 130), (some (128, true))⟩,
 oO 132 (.pick (tU 128) (tU 131) (.c (.bool false)))] [0, 1, 5, 6, 7, 8, 9, 10, 132])
 (.cond (tU 132)
 (.seq (.region [oO 133 (.mv (tV 0)),
 oO 134 (.mv (tU 8)),
 oO 135 (.slcS (tU 133) (some (tU 134)) none),
 oO 136 (.mv (tV 1)),
 oO 137 (.call (.f n_internal_bytealg_IndexRabinKarp_string) [tV 135, tV 136] false),
 oO 13 (.mv (tV 137))] [8, 13])
 (.seq (.seq (.region [oO 138 (.mv (tU 13)),
 oO 139 (.bin .lss (tU 138) (.c (.int .i64 0)))] [8, 13, 139])
 (.cond (tU 139)
 (.seq (.region [oO 4 (.mv (.c (.int .i64 (-1))))] [4])
 (.ret))
 (.skip)))
 (.seq (.region [oO 140 (.mv (tV 8)),
 oO 141 (.mv (tV 13)),
 oO 142 (.bin .add (tU 140) (tU 141)),
 oO 4 (.mv (tV 142))] [4])
 (.ret))))
 (.skip))))))))))
def i_internal_stringslite_Index : IFun := ⟨true, 2,
 .seq (.region [oO 4 (.mv (.c (.int .i64 0)))] [0, 1])
 (.seq (.region [oO 14 (.mv (tU 1)),
 oO 15 (.len (tU 14) .str),
 oO 5 (.mv (tV 15))] [0, 1, 5])
 (.seq (.block 0
 (.seq (.region [oO 17 (.mv (tU 5)),
 oO 18 (.bin .eql (tU 17) (.c (.int .i64 0))),
 oO 19 (.mv (tV 18)),
 ⟨some 20, .mv (tU 1), (some (19, false))⟩,
 ⟨some 21, .mv (tU 0), (some (19, false))⟩,
 ⟨some 22, .bin .eql (tU 20) (tU 21), (some (19, false))⟩,
 oO 23 (.pick (tU 19) (.c (.bool true)) (tU 22)),
 oO 16 (.mv (tV 23))] [0, 1, 5, 16])
 (.cond (tU 16)
 (.seq (.region [oO 4 (.mv (.c (.int .i64 0)))] [4])
 (.ret))
 (.seq (.region [oO 25 (.mv (tU 5)),
 oO 26 (.bin .eql (tU 25) (.c (.int .i64 1))),
 oO 24 (.mv (tV 26))] [0, 1, 5, 24])
 (.cond (tU 24)
 (.seq (.region [oO 27 (.mv (tV 0)),
 oO 28 (.mv (tV 1)),
 oO 29 (.idxS (tU 28) (.c (.int .i64 0))),
 oO 30 (.call (.f n_internal_stringslite_IndexByte) [tV 27, tV 29] false),
 oO 4 (.mv (tV 30))] [4])
 (.ret))
 (.seq (.region [oO 32 (.mv (tU 5)),
 oO 33 (.mv (tU 0)),
 oO 34 (.len (tU 33) .str),
 oO 35 (.bin .geq (tU 32) (tU 34)),
 oO 31 (.mv (tV 35))] [0, 1, 5, 31])
 (.cond (tU 31)
 (.seq (.region [oO 4 (.mv (.c (.int .i64 (-1))))] [4])
 (.ret))
 (.seq (.region [oO 37 (.mv (tU 5)),
 oO 38 (.load (.g 3) .heap 1 false false),
 oO 39 (.bin .leq (tU 37) (tU 38)),
 oO 40 (.mv (tV 39)),
 ⟨some 41, .mv (tU 0), (some (40, true))⟩,
 ⟨some 42, .len (tU 41) .str, (some (40, true))⟩,
 ⟨some 43, .bin .leq (tU 42) (.c (.int .i64 64)), (some (40, true))⟩,
 oO 44 (.pick (tU 40) (tU 43) (.c (.bool false))),
 oO 36 (.mv (tV 44))] [0, 1, 5, 36])
 (.cond (tU 36)
 (.seq (.region [oO 45 (.mv (tV 0)),
 oO 46 (.mv (tV 1)),
 oO 47 (.call (.f n_internal_bytealg_IndexString) [tV 45, tV 46] false),
 oO 4 (.mv (tV 47))] [4])
 (.ret))
 (.skip))))))))))
 (.seq (.region [oO 48 (.mv (tU 1)),
 oO 49 (.idxS (tU 48) (.c (.int .i64 0))),
 oO 6 (.mv (tV 49))] [0, 1, 5, 6])
 (.seq (.region [oO 50 (.mv (tU 1)),
 oO 51 (.idxS (tU 50) (.c (.int .i64 1))),
 oO 7 (.mv (tV 51))] [0, 1, 5, 6, 7])
 (.seq (.region [oO 8 (.mv (.c (.int .i64 0)))] [0, 1, 5, 6, 7, 8])
 (.seq (.region [oO 52 (.mv (tU 0)),
 oO 53 (.len (tU 52) .str),
 oO 54 (.mv (tU 5)),
 oO 55 (.bin .sub (tU 53) (tU 54)),
 oO 56 (.bin .add (tU 55) (.c (.int .i64 1))),
 oO 9 (.mv (tV 56))] [0, 1, 5, 6, 7, 8, 9])
 (.seq (.region [oO 10 (.mv (.c (.int .i64 0)))] [0, 1, 5, 6, 7, 8, 9, 10])
 (.seq (.block 1
 (.loop l_internal_stringslite_Index_0))
 (.seq (.region [oO 4 (.mv (.c (.int .i64 (-1))))] [4])
 (.ret)))))))))),
 [.tmp 4], none, none, []⟩
def i_strings_CutPrefix : IFun := ⟨true, 2,
 .seq (.region [oO 4 (.mv (.c (.str []))),
 oO 5 (.mv (.c (.bool false)))] [0, 1])
 (.seq (.region [oO 6 (.mv (tV 0)),
 oO 7 (.mv (tV 1)),
 oO 8 (.call (.f n_internal_stringslite_CutPrefix) [tV 6, tV 7] false),
 oO 9 (.extract (tU 8) 0),
 oO 10 (.extract (tV 8) 1),
 oO 4 (.mv (tV 9)),
 oO 5 (.mv (tV 10))] [4, 5])
 (.ret)),
 [.tmp 4, .tmp 5], none, none, []⟩
def l_digits_numeral_0 : ICode :=
 .seq (.region [oO 21 (.bin .lss (tU 20) (tU 19))] [0, 1, 19, 20, 21])
 (.seq (.cond (tU 21)
 (.skip)
 (.exit 0))
 (.seq (.block 1
 (.seq (.region [oO 22 (.mv (tU 20)),
 oO 5 (.mv (tV 22))] [0, 1, 5, 19, 20])
 (.seq (.region [oO 23 (.mv (tU 1)),
 oO 24 (.mv (tU 0)),
 oO 25 (.mv (tV 5)),
 oO 26 (.idxS (tU 24) (tU 25)),
 oO 27 (.call (.f n_strings_IndexByte) [tV 23, tV 26] false),
 oO 28 (.bin .lss (tU 27) (.c (.int .i64 0)))] [0, 1, 19, 20, 28])
 (.cond (tU 28)
 (.seq (.region [oO 4 (.mv (.c (.bool false)))] [4])
 (.ret))
 (.skip)))))
 (.region [oO 29 (.bin .add (tU 20) (.c (.int .i64 1))),
 oO 20 (.mv (tV 29))] [0, 1, 19, 20])))
def i_digits_numeral : IFun := ⟨true, 2,
 .seq (.region [oO 4 (.mv (.c (.bool false)))] [0, 1])
 (.seq (.seq (.region [oO 6 (.mv (tU 0)),
 oO 7 (.bin .eql (tU 6) (.c (.str []))),
 oO 8 (.mv (tV 7)),
 ⟨some 9, .mv (tU 0), (some (8, false))⟩,
 ⟨some 10, .len (tU 9) .str, (some (8, false))⟩,
 ⟨some 11, .bin .gtr (tU 10) (.c (.int .i64 1)), (some (8, false))⟩,
 ⟨some 12, .mv (tV 11), (some (8, false))⟩,
 ⟨some 13, .mv (tU 0), (some (12, true))⟩,
 ⟨some 14, .idxS (tU 13) (.c (.int .i64 0)), (some (12, true))⟩,
 ⟨some 15, .bin .eql (tU 14) (.c (.int .u8 48)), (some (12, true))⟩,
 ⟨some 16, .pick (tU 12) (tU 15) (.c (.bool false)), (some (8, false))⟩,
 oO 17 (.pick (tU 8) (.c (.bool true)) (tU 16))] [0, 1, 17])
 (.cond (tU 17)
 (.seq (.region [oO 4 (.mv (.c (.bool false)))] [4])
 (.ret))
 (.skip)))
 (.seq (.seq (.region [oO 18 (.mv (tU 0)),
 oO 19 (.len (tU 18) .str),
 oO 20 (.mv (.c (.int .i64 0)))] [0, 1, 19, 20])
 (.block 0
 (.loop l_digits_numeral_0)))
 (.seq (.region [oO 4 (.mv (.c (.bool true)))] [4])
 (.ret)))),
 [.tmp 4], none, none, []⟩
def i_strconv_ParseUint : IFun := ⟨false, 3,
 .seq (.region [oO 6 (.mv (.c (.int .u64 0))),
 oO 7 (.mv (.c (.nili)))] [0, 1, 2])
 (.seq (.region [oO 11 (.mv (tU 0)),
 oO 12 (.mv (tU 1)),
 oO 13 (.mv (tU 2)),
 oO 14 (.call (.f n_internal_strconv_ParseUint) [tV 11, tV 12, tV 13] false),
 oO 10 (.mv (tV 14)),
 oO 15 (.extract (tU 10) 0),
 oO 16 (.extract (tV 10) 1),
 oO 8 (.mv (tV 15)),
 oO 9 (.mv (tV 16))] [0, 1, 2, 8, 9])
 (.seq (.seq (.region [oO 17 (.mv (tU 9)),
 oO 18 (.eq true .iface (tU 17) (.c (.nili)))] [0, 1, 2, 8, 9, 18])
 (.cond (tU 18)
 (.seq (.region [oO 19 (.mv (tV 8)),
 oO 20 (.mv (tV 0)),
 oO 21 (.mv (tV 1)),
 oO 22 (.mv (tV 2)),
 oO 23 (.mv (tV 9)),
 oO 24 (.call (.f n_strconv_toError) [.c (.str [80, 97, 114, 115, 101, 85, 105, 110, 116]), tV 20, tV 21, tV 22, tV 23] false),
 oO 6 (.mv (tV 19)),
 oO 7 (.mv (tV 24))] [6, 7])
 (.ret))
 (.skip)))
 (.seq (.region [oO 25 (.mv (tV 8)),
 oO 6 (.mv (tV 25)),
 oO 7 (.mv (.c (.nili)))] [6, 7])
 (.ret)))),
 [.tmp 6, .tmp 7], none, none, []⟩
def i_internal_strconv_log10Pow2 : IFun := ⟨true, 1,
 .seq (.region [oO 2 (.mv (.c (.int .i64 0)))] [0])
 (.seq (.region [oO 3 (.mv (tV 0)),
 oO 4 (.bin .mul (tU 3) (.c (.int .i64 78913))),
 oO 5 (.bin .shr (tU 4) (.c (.int .u64 18))),
 oO 2 (.mv (tV 5))] [2])
 (.ret)),
 [.tmp 2], none, none, []⟩
def i_math_bits_Len64 : IFun := ⟨true, 1,
 .seq (.region [oO 2 (.mv (.c (.int .i64 0)))] [0, 2])
 (.seq (.seq (.region [oO 3 (.mv (tU 0)),
 oO 4 (.bin .geq (tU 3) (.c (.int .u64 4294967296)))] [0, 2, 4])
 (.cond (tU 4)
 (.seq (.region [oO 5 (.mv (tV 0)),
 oO 6 (.bin .shr (tU 5) (.c (.int .u64 32))),
 oO 0 (.mv (tV 6))] [0])
 (.region [oO 2 (.mv (.c (.int .i64 32)))] [0, 2]))
 (.skip)))
 (.seq (.seq (.region [oO 7 (.mv (tU 0)),
 oO 8 (.bin .geq (tU 7) (.c (.int .u64 65536)))] [0, 2, 8])
 (.cond (tU 8)
 (.seq (.region [oO 9 (.mv (tV 0)),
 oO 10 (.bin .shr (tU 9) (.c (.int .u64 16))),
 oO 0 (.mv (tV 10))] [0, 2])
 (.region [oO 11 (.mv (tV 2)),
 oO 12 (.bin .add (tU 11) (.c (.int .i64 16))),
 oO 2 (.mv (tV 12))] [0, 2]))
 (.skip)))
 (.seq (.seq (.region [oO 13 (.mv (tU 0)),
 oO 14 (.bin .geq (tU 13) (.c (.int .u64 256)))] [0, 2, 14])
 (.cond (tU 14)
 (.seq (.region [oO 15 (.mv (tV 0)),
 oO 16 (.bin .shr (tU 15) (.c (.int .u64 8))),
 oO 0 (.mv (tV 16))] [0, 2])
 (.region [oO 17 (.mv (tV 2)),
 oO 18 (.bin .add (tU 17) (.c (.int .i64 8))),
 oO 2 (.mv (tV 18))] [0, 2]))
 (.skip)))
 (.seq (.region [oO 19 (.mv (tV 2)),
 oO 20 (.mv (tV 0)),
 oO 21 (.conv .u8 (tU 20)),
 oO 22 (.idxS (.c (.str len8t)) (tU 21)),
 oO 23 (.conv .i64 (tU 22)),
 oO 24 (.bin .add (tU 19) (tU 23)),
 oO 2 (.mv (tV 24))] [2])
 (.ret))))),
 [.tmp 2], none, none, []⟩
def i_internal_strconv_bool2_int : IFun := ⟨true, 1,
 .seq (.region [oO 2 (.mv (.c (.int .i64 0)))] [0])
 (.seq (.seq (.region [oO 3 (.mv (tV 0))] [3])
 (.cond (tU 3)
 (.seq (.region [oO 2 (.mv (.c (.int .i64 1)))] [2])
 (.ret))
 (.skip)))
 (.seq (.region [oO 2 (.mv (.c (.int .i64 0)))] [2])
 (.ret))),
 [.tmp 2], none, none, []⟩
def i_internal_stringslite_IndexByte : IFun := ⟨true, 2,
 .seq (.region [oO 4 (.mv (.c (.int .i64 0)))] [0, 1])
 (.seq (.region [oO 5 (.mv (tV 0)),
 oO 6 (.mv (tV 1)),
 oO 7 (.idxB 198 (tU 5) (tU 6)),
 oO 4 (.mv (tV 7))] [4])
 (.ret)),
 [.tmp 4], none, none, []⟩
def i_internal_stringslite_CutPrefix : IFun := ⟨true, 2,
 .seq (.region [oO 4 (.mv (.c (.str []))),
 oO 5 (.mv (.c (.bool false)))] [0, 1])
 (.seq (.seq (.region [oO 6 (.mv (tU 0)),
 oO 7 (.mv (tU 1)),
 oO 8 (.call (.f n_internal_stringslite_HasPrefix) [tV 6, tV 7] false),
 oO 9 (.un .not (tU 8))] [0, 1, 9])
 (.cond (tU 9)
 (.seq (.region [oO 10 (.mv (tV 0)),
 oO 4 (.mv (tV 10)),
 oO 5 (.mv (.c (.bool false)))] [4, 5])
 (.ret))
 (.skip)))
 (.seq (.region [oO 11 (.mv (tV 0)),
 oO 12 (.mv (tV 1)),
 oO 13 (.len (tU 12) .str),
 oO 14 (.slcS (tU 11) (some (tU 13)) none),
 oO 4 (.mv (tV 14)),
 oO 5 (.mv (.c (.bool true)))] [4, 5])
 (.ret))),
 [.tmp 4, .tmp 5], none, none, []⟩
def i_strings_IndexByte : IFun := ⟨true, 2,
 .seq (.region [oO 4 (.mv (.c (.int .i64 0)))] [0, 1])
 (.seq (.region [oO 5 (.mv (tV 0)),
 oO 6 (.mv (tV 1)),
 oO 7 (.call (.f n_internal_stringslite_IndexByte) [tV 5, tV 6] false),
 oO 4 (.mv (tV 7))] [4])
 (.ret)),
 [.tmp 4], none, none, []⟩
def l_internal_strconv_ParseUint_0 : ICode :=
 .seq (.region [oO 102 (.bin .lss (tU 101) (tU 100))] [1, 8, 9, 10, 11, 12, 13, 99, 100, 101, 102])
 (.seq (.cond (tU 102)
 (.skip)
 (.exit 3))
 (.seq (.block 4
 (.seq (.region [oO 103 (.iaddrL (tU 99) (tU 101) 1),
 oO 104 (.load (tU 103) .elem 1 false false),
 oO 15 (.mv (tV 104))] [1, 8, 9, 10, 11, 12, 13, 15, 99, 100, 101])
 (.seq (.region [oO 16 (.mv (.c (.int .u8 0)))] [1, 8, 9, 10, 11, 12, 13, 15, 99, 100, 101])
 (.seq (.block 5
 (.seq (.region [oO 107 (.mv (tU 15)),
 oO 108 (.bin .eql (tU 107) (.c (.int .u8 95))),
 oO 109 (.mv (tV 108)),
 ⟨some 110, .mv (tU 8), (some (109, true))⟩,
 oO 111 (.pick (tU 109) (tU 110) (.c (.bool false))),
 oO 106 (.mv (tV 111))] [1, 8, 9, 10, 11, 12, 13, 15, 99, 100, 101, 106])
 (.cond (tU 106)
 (.seq (.region [oO 12 (.mv (.c (.bool true)))] [1, 8, 9, 10, 11, 12, 13, 99, 100, 101])
 (.exit 4))
 (.seq (.region [oO 113 (.mv (tU 15)),
 oO 114 (.bin .leq (.c (.int .u8 48)) (tU 113)),
 oO 115 (.mv (tV 114)),
 ⟨some 116, .mv (tU 15), (some (115, true))⟩,
 ⟨some 117, .bin .leq (tU 116) (.c (.int .u8 57)), (some (115, true))⟩,
 oO 118 (.pick (tU 115) (tU 117) (.c (.bool false))),
 oO 112 (.mv (tV 118))] [1, 8, 9, 10, 11, 12, 13, 15, 99, 100, 101, 112])
 (.cond (tU 112)
 (.region [oO 119 (.mv (tV 15)),
 oO 120 (.bin .sub (tU 119) (.c (.int .u8 48))),
 oO 16 (.mv (tV 120))] [1, 8, 9, 10, 11, 12, 13, 16, 99, 100, 101])
 (.seq (.region [oO 122 (.mv (tU 15)),
 oO 123 (.call (.f n_internal_strconv_lower) [tV 122] false),
 oO 124 (.bin .leq (.c (.int .u8 97)) (tU 123)),
 oO 125 (.mv (tV 124)),
 ⟨some 126, .mv (tU 15), (some (125, true))⟩,
 ⟨some 127, .call (.f n_internal_strconv_lower) [tV 126] false, (some (125, true))⟩,
 ⟨some 128, .bin .leq (tU 127) (.c (.int .u8 122)), (some (125, true))⟩,
 oO 129 (.pick (tU 125) (tU 128) (.c (.bool false))),
 oO 121 (.mv (tV 129))] [1, 8, 9, 10, 11, 12, 13, 15, 99, 100, 101, 121])
 (.cond (tU 121)
 (.region [oO 130 (.mv (tV 15)),
 oO 131 (.call (.f n_internal_strconv_lower) [tV 130] false),
 oO 132 (.bin .sub (tU 131) (.c (.int .u8 97))),
 oO 133 (.bin .add (tU 132) (.c (.int .u8 10))),
 oO 16 (.mv (tV 133))] [1, 8, 9, 10, 11, 12, 13, 16, 99, 100, 101])
 (.seq (.region [oO 105 (.mkiface 211 (.c (.int .i64 2))),
 oO 6 (.mv (.c (.int .u64 0))),
 oO 7 (.mv (tV 105))] [6, 7])
 (.ret)))))))))
 (.seq (.seq (.region [oO 134 (.mv (tU 16)),
 oO 135 (.mv (tU 1)),
 oO 136 (.conv .u8 (tU 135)),
 oO 137 (.bin .geq (tU 134) (tU 136))] [1, 8, 9, 10, 11, 12, 13, 16, 99, 100, 101, 137])
 (.cond (tU 137)
 (.seq (.region [oO 138 (.mkiface 211 (.c (.int .i64 2))),
 oO 6 (.mv (.c (.int .u64 0))),
 oO 7 (.mv (tV 138))] [6, 7])
 (.ret))
 (.skip)))
 (.seq (.seq (.region [oO 139 (.mv (tU 13)),
 oO 140 (.mv (tU 10)),
 oO 141 (.bin .geq (tU 139) (tU 140))] [1, 8, 9, 10, 11, 12, 13, 16, 99, 100, 101, 141])
 (.cond (tU 141)
 (.seq (.region [oO 142 (.mv (tV 11)),
 oO 143 (.mkiface 211 (.c (.int .i64 1))),
 oO 6 (.mv (tV 142)),
 oO 7 (.mv (tV 143))] [6, 7])
 (.ret))
 (.skip)))
 (.seq (.region [oO 144 (.mv (tV 13)),
 oO 145 (.mv (tU 1)),
 oO 146 (.conv .u64 (tU 145)),
 oO 147 (.bin .mul (tU 144) (tU 146)),
 oO 13 (.mv (tV 147))] [1, 8, 9, 10, 11, 12, 13, 16, 99, 100, 101])
 (.seq (.region [oO 148 (.mv (tU 13)),
 oO 149 (.mv (tV 16)),
 oO 150 (.conv .u64 (tU 149)),
 oO 151 (.bin .add (tU 148) (tU 150)),
 oO 17 (.mv (tV 151))] [1, 8, 9, 10, 11, 12, 13, 17, 99, 100, 101])
 (.seq (.seq (.region [oO 152 (.mv (tU 17)),
 oO 153 (.mv (tV 13)),
 oO 154 (.bin .lss (tU 152) (tU 153)),
 oO 155 (.mv (tV 154)),
 ⟨some 156, .mv (tU 17), (some (155, false))⟩,
 ⟨some 157, .mv (tU 11), (some (155, false))⟩,
 ⟨some 158, .bin .gtr (tU 156) (tU 157), (some (155, false))⟩,
 oO 159 (.pick (tU 155) (.c (.bool true)) (tU 158))] [1, 8, 9, 10, 11, 12, 17, 99, 100, 101, 159])
 (.cond (tU 159)
 (.seq (.region [oO 160 (.mv (tV 11)),
 oO 161 (.mkiface 211 (.c (.int .i64 1))),
 oO 6 (.mv (tV 160)),
 oO 7 (.mv (tV 161))] [6, 7])
 (.ret))
 (.skip)))
 (.region [oO 162 (.mv (tV 17)),
 oO 13 (.mv (tV 162))] [1, 8, 9, 10, 11, 12, 13, 99, 100, 101]))))))))))
 (.region [oO 163 (.bin .add (tU 101) (.c (.int .i64 1))),
 oO 101 (.mv (tV 163))] [1, 8, 9, 10, 11, 12, 13, 99, 100, 101])))
def i_internal_strconv_ParseUint : IFun := ⟨false, 3,
 .seq (.region [oO 6 (.mv (.c (.int .u64 0))),
 oO 7 (.mv (.c (.nili)))] [0, 1, 2])
 (.seq (.seq (.region [oO 18 (.mv (tU 0)),
 oO 19 (.bin .eql (tU 18) (.c (.str [])))] [0, 1, 2, 19])
 (.cond (tU 19)
 (.seq (.region [oO 20 (.mkiface 211 (.c (.int .i64 2))),
 oO 6 (.mv (.c (.int .u64 0))),
 oO 7 (.mv (tV 20))] [6, 7])
 (.ret))
 (.skip)))
 (.seq (.region [oO 21 (.mv (tU 1)),
 oO 22 (.bin .eql (tU 21) (.c (.int .i64 0))),
 oO 8 (.mv (tV 22))] [0, 1, 2, 8])
 (.seq (.region [oO 23 (.mv (tU 0)),
 oO 9 (.mv (tV 23))] [0, 1, 2, 8, 9])
 (.seq (.block 0
 (.seq (.region [oO 26 (.mv (tU 1)),
 oO 27 (.bin .leq (.c (.int .i64 2)) (tU 26)),
 oO 28 (.mv (tV 27)),
 ⟨some 29, .mv (tU 1), (some (28, true))⟩,
 ⟨some 30, .bin .leq (tU 29) (.c (.int .i64 36)), (some (28, true))⟩,
 oO 31 (.pick (tU 28) (tU 30) (.c (.bool false))),
 oO 25 (.mv (tV 31))] [0, 1, 2, 8, 9, 25])
 (.cond (tU 25)
 (.skip)
 (.seq (.region [oO 33 (.mv (tV 1)),
 oO 34 (.bin .eql (tU 33) (.c (.int .i64 0))),
 oO 32 (.mv (tV 34))] [0, 2, 8, 9, 32])
 (.cond (tU 32)
 (.seq (.region [oO 1 (.mv (.c (.int .i64 10)))] [0, 1, 2, 8, 9])
 (.seq (.region [oO 35 (.mv (tU 0)),
 oO 36 (.idxS (tU 35) (.c (.int .i64 0))),
 oO 37 (.bin .eql (tU 36) (.c (.int .u8 48)))] [0, 1, 2, 8, 9, 37])
 (.cond (tU 37)
 (.block 1
 (.seq (.region [oO 41 (.mv (tU 0)),
 oO 42 (.len (tU 41) .str),
 oO 43 (.bin .geq (tU 42) (.c (.int .i64 3))),
 oO 44 (.mv (tV 43)),
 ⟨some 45, .mv (tU 0), (some (44, true))⟩,
 ⟨some 46, .idxS (tU 45) (.c (.int .i64 1)), (some (44, true))⟩,
 ⟨some 47, .call (.f n_internal_strconv_lower) [tV 46] false, (some (44, true))⟩,
 ⟨some 48, .bin .eql (tU 47) (.c (.int .u8 98)), (some (44, true))⟩,
 oO 49 (.pick (tU 44) (tU 48) (.c (.bool false))),
 oO 40 (.mv (tV 49))] [0, 2, 8, 9, 40])
 (.cond (tU 40)
 (.seq (.region [oO 1 (.mv (.c (.int .i64 2)))] [0, 1, 2, 8, 9])
 (.region [oO 50 (.mv (tV 0)),
 oO 51 (.slcS (tU 50) (some (.c (.int .i64 2))) none),
 oO 0 (.mv (tV 51))] [0, 1, 2, 8, 9]))
 (.seq (.region [oO 53 (.mv (tU 0)),
 oO 54 (.len (tU 53) .str),
 oO 55 (.bin .geq (tU 54) (.c (.int .i64 3))),
 oO 56 (.mv (tV 55)),
 ⟨some 57, .mv (tU 0), (some (56, true))⟩,
 ⟨some 58, .idxS (tU 57) (.c (.int .i64 1)), (some (56, true))⟩,
 ⟨some 59, .call (.f n_internal_strconv_lower) [tV 58] false, (some (56, true))⟩,
 ⟨some 60, .bin .eql (tU 59) (.c (.int .u8 111)), (some (56, true))⟩,
 oO 61 (.pick (tU 56) (tU 60) (.c (.bool false))),
 oO 52 (.mv (tV 61))] [0, 2, 8, 9, 52])
 (.cond (tU 52)
 (.seq (.region [oO 1 (.mv (.c (.int .i64 8)))] [0, 1, 2, 8, 9])
 (.region [oO 62 (.mv (tV 0)),
 oO 63 (.slcS (tU 62) (some (.c (.int .i64 2))) none),
 oO 0 (.mv (tV 63))] [0, 1, 2, 8, 9]))
 (.seq (.region [oO 65 (.mv (tU 0)),
 oO 66 (.len (tU 65) .str),
 oO 67 (.bin .geq (tU 66) (.c (.int .i64 3))),
 oO 68 (.mv (tV 67)),
 ⟨some 69, .mv (tU 0), (some (68, true))⟩,
 ⟨some 70, .idxS (tU 69) (.c (.int .i64 1)), (some (68, true))⟩,
 ⟨some 71, .call (.f n_internal_strconv_lower) [tV 70] false, (some (68, true))⟩,
 ⟨some 72, .bin .eql (tU 71) (.c (.int .u8 120)), (some (68, true))⟩,
 oO 73 (.pick (tU 68) (tU 72) (.c (.bool false))),
 oO 64 (.mv (tV 73))] [0, 2, 8, 9, 64])
 (.cond (tU 64)
 (.seq (.region [oO 1 (.mv (.c (.int .i64 16)))] [0, 1, 2, 8, 9])
 (.region [oO 74 (.mv (tV 0)),
 oO 75 (.slcS (tU 74) (some (.c (.int .i64 2))) none),
 oO 0 (.mv (tV 75))] [0, 1, 2, 8, 9]))
 (.seq (.region [oO 1 (.mv (.c (.int .i64 8)))] [0, 1, 2, 8, 9])
 (.region [oO 38 (.mv (tV 0)),
 oO 39 (.slcS (tU 38) (some (.c (.int .i64 1))) none),
 oO 0 (.mv (tV 39))] [0, 1, 2, 8, 9])))))))))
 (.skip))))
 (.seq (.region [oO 24 (.mkiface 211 (.c (.int .i64 3))),
 oO 6 (.mv (.c (.int .u64 0))),
 oO 7 (.mv (tV 24))] [6, 7])
 (.ret)))))))
 (.seq (.seq (.region [oO 76 (.mv (tU 2)),
 oO 77 (.bin .eql (tU 76) (.c (.int .i64 0)))] [0, 1, 2, 8, 9, 77])
 (.cond (tU 77)
 (.region [oO 2 (.mv (.c (.int .i64 64)))] [0, 1, 2, 8, 9])
 (.seq (.region [oO 78 (.mv (tU 2)),
 oO 79 (.bin .lss (tU 78) (.c (.int .i64 0))),
 oO 80 (.mv (tV 79)),
 ⟨some 81, .mv (tU 2), (some (80, false))⟩,
 ⟨some 82, .bin .gtr (tU 81) (.c (.int .i64 64)), (some (80, false))⟩,
 oO 83 (.pick (tU 80) (.c (.bool true)) (tU 82))] [0, 1, 2, 8, 9, 83])
 (.cond (tU 83)
 (.seq (.region [oO 84 (.mkiface 211 (.c (.int .i64 4))),
 oO 6 (.mv (.c (.int .u64 0))),
 oO 7 (.mv (tV 84))] [6, 7])
 (.ret))
 (.skip)))))
 (.seq (.region [oO 10 (.mv (.c (.int .u64 0)))] [0, 1, 2, 8, 9])
 (.seq (.seq (.region [oO 85 (.mv (tU 1))] [0, 1, 2, 8, 9, 85])
 (.block 2
 (.seq (.region [oO 91 (.bin .eql (tU 85) (.c (.int .i64 10))),
 oO 90 (.mv (tV 91))] [0, 1, 2, 8, 9, 85, 90])
 (.cond (tU 90)
 (.region [oO 10 (.mv (.c (.int .u64 1844674407370955162)))] [0, 1, 2, 8, 9, 10])
 (.seq (.region [oO 93 (.bin .eql (tU 85) (.c (.int .i64 16))),
 oO 92 (.mv (tV 93))] [0, 1, 2, 8, 9, 92])
 (.cond (tU 92)
 (.region [oO 10 (.mv (.c (.int .u64 1152921504606846976)))] [0, 1, 2, 8, 9, 10])
 (.region [oO 86 (.mv (tU 1)),
 oO 87 (.conv .u64 (tU 86)),
 oO 88 (.bin .quo (.c (.int .u64 18446744073709551615)) (tU 87)),
 oO 89 (.bin .add (tU 88) (.c (.int .u64 1))),
 oO 10 (.mv (tV 89))] [0, 1, 2, 8, 9, 10])))))))
 (.seq (.region [oO 94 (.mv (tV 2)),
 oO 95 (.conv .u64 (tU 94)),
 oO 96 (.bin .shl (.c (.int .u64 1)) (tU 95)),
 oO 97 (.bin .sub (tU 96) (.c (.int .u64 1))),
 oO 11 (.mv (tV 97))] [0, 1, 8, 9, 10, 11])
 (.seq (.region [oO 12 (.mv (.c (.bool false)))] [0, 1, 8, 9, 10, 11, 12])
 (.seq (.region [oO 13 (.mv (.c (.int .u64 0)))] [0, 1, 8, 9, 10, 11, 12, 13])
 (.seq (.seq (.region [oO 98 (.mv (tV 0)),
 oO 99 (.bytesS (tU 98)),
 oO 100 (.len (tU 99) .list),
 oO 101 (.mv (.c (.int .i64 0)))] [1, 8, 9, 10, 11, 12, 13, 99, 100, 101])
 (.block 3
 (.loop l_internal_strconv_ParseUint_0)))
 (.seq (.seq (.region [oO 164 (.mv (tV 12)),
 oO 165 (.mv (tV 164)),
 ⟨some 166, .mv (tV 9), (some (165, true))⟩,
 ⟨some 167, .call (.f n_internal_strconv_underscoreOK) [tV 166] false, (some (165, true))⟩,
 ⟨some 168, .un .not (tU 167), (some (165, true))⟩,
 oO 169 (.pick (tU 165) (tU 168) (.c (.bool false)))] [13, 169])
 (.cond (tU 169)
 (.seq (.region [oO 170 (.mkiface 211 (.c (.int .i64 2))),
 oO 6 (.mv (.c (.int .u64 0))),
 oO 7 (.mv (tV 170))] [6, 7])
 (.ret))
 (.skip)))
 (.seq (.region [oO 171 (.mv (tV 13)),
 oO 6 (.mv (tV 171)),
 oO 7 (.mv (.c (.nili)))] [6, 7])
 (.ret)))))))))))))),
 [.tmp 6, .tmp 7], none, none, []⟩
def i_strconv_toError : IFun := ⟨false, 5,
 .seq (.region [oO 10 (.mv (.c (.nili)))] [0, 1, 2, 3, 4])
 (.seq (.seq (.region [oO 11 (.mv (tU 4))] [0, 1, 2, 3, 4, 11])
 (.block 0
 (.seq (.region [oO 13 (.mkiface 211 (.c (.int .i64 2))),
 oO 14 (.eq false (.ifaceT 211) (tU 11) (tU 13)),
 oO 12 (.mv (tV 14))] [0, 1, 2, 3, 4, 11, 12])
 (.cond (tU 12)
 (.seq (.region [oO 15 (.mv (tV 0)),
 oO 16 (.mv (tV 1)),
 oO 17 (.call (.f n_strconv_syntaxError) [tV 15, tV 16] false),
 oO 18 (.mkiface 213 (tV 17)),
 oO 10 (.mv (tV 18))] [10])
 (.ret))
 (.seq (.region [oO 20 (.mkiface 211 (.c (.int .i64 1))),
 oO 21 (.eq false (.ifaceT 211) (tU 11) (tU 20)),
 oO 19 (.mv (tV 21))] [0, 1, 2, 3, 4, 11, 19])
 (.cond (tU 19)
 (.seq (.region [oO 22 (.mv (tV 0)),
 oO 23 (.mv (tV 1)),
 oO 24 (.call (.f n_strconv_rangeError) [tV 22, tV 23] false),
 oO 25 (.mkiface 213 (tV 24)),
 oO 10 (.mv (tV 25))] [10])
 (.ret))
 (.seq (.region [oO 27 (.mkiface 211 (.c (.int .i64 3))),
 oO 28 (.eq false (.ifaceT 211) (tU 11) (tU 27)),
 oO 26 (.mv (tV 28))] [0, 1, 2, 3, 4, 11, 26])
 (.cond (tU 26)
 (.seq (.region [oO 29 (.mv (tV 0)),
 oO 30 (.mv (tV 1)),
 oO 31 (.mv (tV 2)),
 oO 32 (.call (.f n_strconv_baseError) [tV 29, tV 30, tV 31] false),
 oO 33 (.mkiface 213 (tV 32)),
 oO 10 (.mv (tV 33))] [10])
 (.ret))
 (.seq (.region [oO 35 (.mkiface 211 (.c (.int .i64 4))),
 oO 36 (.eq false (.ifaceT 211) (tU 11) (tU 35)),
 oO 34 (.mv (tV 36))] [0, 1, 3, 4, 34])
 (.cond (tU 34)
 (.seq (.region [oO 37 (.mv (tV 0)),
 oO 38 (.mv (tV 1)),
 oO 39 (.mv (tV 3)),
 oO 40 (.call (.f n_strconv_bitSizeError) [tV 37, tV 38, tV 39] false),
 oO 41 (.mkiface 213 (tV 40)),
 oO 10 (.mv (tV 41))] [10])
 (.ret))
 (.skip)))))))))))
 (.seq (.region [oO 42 (.mv (tV 4)),
 oO 10 (.mv (tV 42))] [10])
 (.ret))),
 [.tmp 10], none, none, []⟩
def i_strconv_rangeError : IFun := ⟨false, 2,
 .seq (.region [oO 4 (.mv (.c (.nilp)))] [0, 1])
 (.seq (.draw [oO 5 (.mv (tV 0)),
 oO 6 (.mv (tV 1)),
 oO 7 (.call (.f n_internal_stringslite_Clone) [tV 6] true),
 oO 8 (.load (.g 7) .heap 1 false false),
 oO 9 (.build [.str [], .str [], .nili] [(0, 1, .t 5 true), (1, 1, .t 7 true), (2, 1, .t 8 true)]),
 oO 10 (.box true (tV 9)),
 oO 4 (.mv (tV 10))] [0, 1, 3, 2, 4, 5, 6] [2] [4])
 (.ret)),
 [.tmp 4], none, none, []⟩
def i_internal_stringslite_Clone : IFun := ⟨true, 1,
 .seq (.region [oO 2 (.mv (.c (.str [])))] [0])
 (.seq (.seq (.region [oO 4 (.mv (tU 0)),
 oO 5 (.len (tU 4) .str),
 oO 6 (.bin .eql (tU 5) (.c (.int .i64 0)))] [0, 6])
 (.cond (tU 6)
 (.seq (.region [oO 2 (.mv (.c (.str [])))] [2])
 (.ret))
 (.skip)))
 (.seq (.region [oO 7 (.mv (tU 0)),
 oO 8 (.len (tU 7) .str),
 oO 9 (.mkbuf (.int .u8 0) 5 (tU 8) (tU 8) 1),
 oO 3 (.mv (tV 9))] [0, 3])
 (.seq (.region [oO 10 (.mv (tU 3)),
 oO 11 (.mv (tV 0)),
 oO 12 (.copyS (tU 10) (tU 11))] [3])
 (.seq (.region [oO 13 (.mv (tU 3)),
 oO 14 (.iaddrL (tU 13) (.c (.int .i64 0)) 1),
 oO 15 (.mv (tV 3)),
 oO 16 (.len (tU 15) .list),
 oO 17 (.ustr (tU 14) (tU 16) 5),
 oO 2 (.mv (tV 17))] [2])
 (.ret))))),
 [.tmp 2], none, none, []⟩
def IPT : IT :=
  .node 107 i_saturateref07_Name (.node 58 i_saturateref07_Notable (.node 26 i_saturateref05_Print (.node 19 i_termtext_Parse (.node 15 i_saturatelaw07_lives (.node 6 i_saturatelaw07_TermtextBack (.node 5 i_saturatelaw07_TermtextWrites .leaf .leaf) (.node 7 i_saturatelaw07_TermtextDiffers .leaf .leaf)) (.node 18 i_saturateref06_Same (.node 16 i_termtext_Read .leaf .leaf) .leaf)) (.node 23 i_saturateref05_Same (.node 22 i_saturateref07_Write (.node 21 i_saturatelaw07_small .leaf .leaf) .leaf) (.node 25 i_termtext_Print (.node 24 i_termtext_Write .leaf .leaf) .leaf))) (.node 50 i_saturateref04_Leaf (.node 40 i_saturateref06_Light (.node 28 i_saturateref07_Valid (.node 27 i_saturateref07_Deep .leaf .leaf) .leaf) (.node 47 i_termtext_read (.node 46 i_termtext_Read_1 .leaf .leaf) .leaf)) (.node 54 i_saturateref04_Width (.node 52 i_saturateref04_Arity (.node 51 i_saturateref07_plain .leaf .leaf) .leaf) (.node 56 i_sexpr_Parse (.node 55 i_saturateref06_SameAll .leaf .leaf) .leaf)))) (.node 85 i_strings_Builder_WriteString (.node 64 i_termtext_atom (.node 61 i_saturateref04_Name (.node 60 i_saturateref02_Dec (.node 59 i_saturateref02_Int .leaf .leaf) .leaf) (.node 63 i_termtext_notable (.node 62 i_saturateref05_SameAll .leaf .leaf) .leaf)) (.node 67 i_opinfo_Name (.node 66 i_digits_Dec (.node 65 i_digits_Int .leaf .leaf) .leaf) (.node 69 i_sexpr_Print (.node 68 i_termtext_numerals .leaf .leaf) .leaf))) (.node 97 i_opinfo_Of (.node 92 i_saturateref06_count (.node 87 i_strings_Builder_String (.node 86 i_strings_Builder_WriteByte .leaf .leaf) .leaf) (.node 96 i_termtext_must (.node 95 i_termtext_leaf .leaf .leaf) .leaf)) (.node 100 i_termtext_number (.node 99 i_opinfo_Arity (.node 98 i_opinfo_Leaf .leaf .leaf) .leaf) (.node 102 i_termtext_fail (.node 101 i_opinfo_Width .leaf .leaf) .leaf))))) (.node 146 i_internal_strconv_FormatUint (.node 130 i_strings_Cut (.node 117 i_term_Name (.node 112 i_saturateref04_parts (.node 110 i_saturateref04_width (.node 108 i_saturateref04_Is .leaf .leaf) (.node 111 i_saturateref04_leaf .leaf .leaf)) (.node 116 i_saturateref02_write (.node 113 i_sexpr_all .leaf .leaf) .leaf)) (.node 120 i_opinfo_known (.node 119 i_strconv_FormatUint (.node 118 i_strconv_Itoa .leaf .leaf) .leaf) (.node 125 i_strings_Builder_copyCheck (.node 121 i_sexpr_write .leaf .leaf) .leaf))) (.node 136 i_opinfo_resized (.node 133 i_strings_HasPrefix (.node 132 i_termtext_constant (.node 131 i_termtext_numeral .leaf .leaf) .leaf) (.node 135 i_opinfo_leaf (.node 134 i_opinfo_inside .leaf .leaf) .leaf)) (.node 140 i_sexpr_parser_skip (.node 139 i_sexpr_all_1 (.node 137 i_opinfo_agreed .leaf .leaf) .leaf) (.node 145 i_internal_strconv_Itoa (.node 141 i_sexpr_parser_expression .leaf .leaf) .leaf)))) (.node 177 i_digits_numeral (.node 165 i_internal_strconv_FormatInt (.node 161 i_internal_stringslite_HasPrefix (.node 160 i_digits_Parse (.node 159 i_internal_stringslite_Cut .leaf .leaf) .leaf) (.node 164 i_sexpr_parser_fail (.node 163 i_sexpr_plain .leaf .leaf) .leaf)) (.node 168 i_internal_strconv_formatBase10 (.node 167 i_internal_strconv_numDigits (.node 166 i_internal_strconv_small .leaf .leaf) .leaf) (.node 176 i_strings_CutPrefix (.node 175 i_internal_stringslite_Index .leaf .leaf) .leaf))) (.node 191 i_internal_stringslite_CutPrefix (.node 181 i_math_bits_Len64 (.node 180 i_internal_strconv_log10Pow2 (.node 178 i_strconv_ParseUint .leaf .leaf) .leaf) (.node 187 i_internal_stringslite_IndexByte (.node 182 i_internal_strconv_bool2_int .leaf .leaf) .leaf)) (.node 194 i_strconv_toError (.node 193 i_internal_strconv_ParseUint (.node 192 i_strings_IndexByte .leaf .leaf) .leaf) (.node 206 i_internal_stringslite_Clone (.node 203 i_strconv_rangeError .leaf .leaf) .leaf)))))
def IP : IProg := IPT.get
def g_0 : List AV := [.str [], .str [118, 97, 114], .str [99, 111, 110, 115, 116], .str [110, 111, 116], .str [110, 101, 103], .str [97, 110, 100], .str [111, 114], .str [120, 111, 114], .str [97, 100, 100], .str [115, 117, 98], .str [109, 117, 108], .str [117, 100, 105, 118], .str [117, 114, 101, 109], .str [115, 104, 108], .str [108, 115, 104, 114], .str [97, 115, 104, 114], .str [101, 113], .str [117, 108, 116], .str [115, 108, 116], .str [105, 116, 101], .str [99, 111, 110, 99, 97, 116], .str [101, 120, 116, 114, 97, 99, 116], .str [122, 101, 120, 116], .str [115, 101, 120, 116], .str [104, 111, 108, 101], .str [110, 117, 109], .str [101, 118, 97, 108]]
def g_2 : List AV := [.int .u64 1, .int .u64 10, .int .u64 100, .int .u64 1000, .int .u64 10000, .int .u64 100000, .int .u64 1000000, .int .u64 10000000, .int .u64 100000000, .int .u64 1000000000, .int .u64 10000000000, .int .u64 100000000000, .int .u64 1000000000000, .int .u64 10000000000000, .int .u64 100000000000000, .int .u64 1000000000000000, .int .u64 10000000000000000, .int .u64 100000000000000000, .int .u64 1000000000000000000, .int .u64 10000000000000000000]
def g_7 : List AV := [.iface 222 .none]
def G0 : Nat → Option (List AV) := fun b => if b = 0 then some g_0 else if b = 2 then some g_2 else if b = 7 then some g_7 else  none
theorem G0_0 : G0 0 = some g_0 := rfl
theorem G0_2 : G0 2 = some g_2 := rfl
theorem G0_7 : G0 7 = some g_7 := rfl
theorem IP_saturatelaw07_TermtextWrites : IP n_saturatelaw07_TermtextWrites = some i_saturatelaw07_TermtextWrites := rfl
theorem IP_saturatelaw07_TermtextBack : IP n_saturatelaw07_TermtextBack = some i_saturatelaw07_TermtextBack := rfl
theorem IP_saturatelaw07_TermtextDiffers : IP n_saturatelaw07_TermtextDiffers = some i_saturatelaw07_TermtextDiffers := rfl
theorem IP_termtext_Read : IP n_termtext_Read = some i_termtext_Read := rfl
theorem IP_saturateref06_Same : IP n_saturateref06_Same = some i_saturateref06_Same := rfl
theorem IP_termtext_Parse : IP n_termtext_Parse = some i_termtext_Parse := rfl
theorem IP_saturatelaw07_small : IP n_saturatelaw07_small = some i_saturatelaw07_small := rfl
theorem IP_saturateref07_Write : IP n_saturateref07_Write = some i_saturateref07_Write := rfl
theorem IP_saturateref05_Same : IP n_saturateref05_Same = some i_saturateref05_Same := rfl
theorem IP_termtext_Write : IP n_termtext_Write = some i_termtext_Write := rfl
theorem IP_termtext_Print : IP n_termtext_Print = some i_termtext_Print := rfl
theorem IP_saturateref05_Print : IP n_saturateref05_Print = some i_saturateref05_Print := rfl
theorem IP_saturateref07_Deep : IP n_saturateref07_Deep = some i_saturateref07_Deep := rfl
theorem IP_saturateref07_Valid : IP n_saturateref07_Valid = some i_saturateref07_Valid := rfl
theorem IP_saturateref06_Light : IP n_saturateref06_Light = some i_saturateref06_Light := rfl
theorem IP_termtext_Read_1 : IP n_termtext_Read_1 = some i_termtext_Read_1 := rfl
theorem IP_termtext_read : IP n_termtext_read = some i_termtext_read := rfl
theorem IP_saturateref04_Leaf : IP n_saturateref04_Leaf = some i_saturateref04_Leaf := rfl
theorem IP_saturateref07_plain : IP n_saturateref07_plain = some i_saturateref07_plain := rfl
theorem IP_saturateref04_Arity : IP n_saturateref04_Arity = some i_saturateref04_Arity := rfl
theorem IP_saturateref04_Width : IP n_saturateref04_Width = some i_saturateref04_Width := rfl
theorem IP_saturateref06_SameAll : IP n_saturateref06_SameAll = some i_saturateref06_SameAll := rfl
theorem IP_sexpr_Parse : IP n_sexpr_Parse = some i_sexpr_Parse := rfl
theorem IP_saturateref07_Notable : IP n_saturateref07_Notable = some i_saturateref07_Notable := rfl
theorem IP_saturateref02_Int : IP n_saturateref02_Int = some i_saturateref02_Int := rfl
theorem IP_saturateref02_Dec : IP n_saturateref02_Dec = some i_saturateref02_Dec := rfl
theorem IP_saturateref04_Name : IP n_saturateref04_Name = some i_saturateref04_Name := rfl
theorem IP_saturateref05_SameAll : IP n_saturateref05_SameAll = some i_saturateref05_SameAll := rfl
theorem IP_termtext_notable : IP n_termtext_notable = some i_termtext_notable := rfl
theorem IP_termtext_atom : IP n_termtext_atom = some i_termtext_atom := rfl
theorem IP_digits_Int : IP n_digits_Int = some i_digits_Int := rfl
theorem IP_digits_Dec : IP n_digits_Dec = some i_digits_Dec := rfl
theorem IP_opinfo_Name : IP n_opinfo_Name = some i_opinfo_Name := rfl
theorem IP_termtext_numerals : IP n_termtext_numerals = some i_termtext_numerals := rfl
theorem IP_sexpr_Print : IP n_sexpr_Print = some i_sexpr_Print := rfl
theorem IP_strings_Builder_WriteString : IP n_strings_Builder_WriteString = some i_strings_Builder_WriteString := rfl
theorem IP_strings_Builder_WriteByte : IP n_strings_Builder_WriteByte = some i_strings_Builder_WriteByte := rfl
theorem IP_strings_Builder_String : IP n_strings_Builder_String = some i_strings_Builder_String := rfl
theorem IP_saturateref06_count : IP n_saturateref06_count = some i_saturateref06_count := rfl
theorem IP_termtext_leaf : IP n_termtext_leaf = some i_termtext_leaf := rfl
theorem IP_termtext_must : IP n_termtext_must = some i_termtext_must := rfl
theorem IP_opinfo_Of : IP n_opinfo_Of = some i_opinfo_Of := rfl
theorem IP_opinfo_Leaf : IP n_opinfo_Leaf = some i_opinfo_Leaf := rfl
theorem IP_opinfo_Arity : IP n_opinfo_Arity = some i_opinfo_Arity := rfl
theorem IP_termtext_number : IP n_termtext_number = some i_termtext_number := rfl
theorem IP_opinfo_Width : IP n_opinfo_Width = some i_opinfo_Width := rfl
theorem IP_termtext_fail : IP n_termtext_fail = some i_termtext_fail := rfl
theorem IP_saturateref07_Name : IP n_saturateref07_Name = some i_saturateref07_Name := rfl
theorem IP_saturateref04_Is : IP n_saturateref04_Is = some i_saturateref04_Is := rfl
theorem IP_saturateref04_width : IP n_saturateref04_width = some i_saturateref04_width := rfl
theorem IP_saturateref04_leaf : IP n_saturateref04_leaf = some i_saturateref04_leaf := rfl
theorem IP_saturateref04_parts : IP n_saturateref04_parts = some i_saturateref04_parts := rfl
theorem IP_sexpr_all : IP n_sexpr_all = some i_sexpr_all := rfl
theorem IP_saturateref02_write : IP n_saturateref02_write = some i_saturateref02_write := rfl
theorem IP_term_Name : IP n_term_Name = some i_term_Name := rfl
theorem IP_strconv_Itoa : IP n_strconv_Itoa = some i_strconv_Itoa := rfl
theorem IP_strconv_FormatUint : IP n_strconv_FormatUint = some i_strconv_FormatUint := rfl
theorem IP_opinfo_known : IP n_opinfo_known = some i_opinfo_known := rfl
theorem IP_sexpr_write : IP n_sexpr_write = some i_sexpr_write := rfl
theorem IP_strings_Builder_copyCheck : IP n_strings_Builder_copyCheck = some i_strings_Builder_copyCheck := rfl
theorem IP_strings_Cut : IP n_strings_Cut = some i_strings_Cut := rfl
theorem IP_termtext_numeral : IP n_termtext_numeral = some i_termtext_numeral := rfl
theorem IP_termtext_constant : IP n_termtext_constant = some i_termtext_constant := rfl
theorem IP_strings_HasPrefix : IP n_strings_HasPrefix = some i_strings_HasPrefix := rfl
theorem IP_opinfo_inside : IP n_opinfo_inside = some i_opinfo_inside := rfl
theorem IP_opinfo_leaf : IP n_opinfo_leaf = some i_opinfo_leaf := rfl
theorem IP_opinfo_resized : IP n_opinfo_resized = some i_opinfo_resized := rfl
theorem IP_opinfo_agreed : IP n_opinfo_agreed = some i_opinfo_agreed := rfl
theorem IP_sexpr_all_1 : IP n_sexpr_all_1 = some i_sexpr_all_1 := rfl
theorem IP_sexpr_parser_skip : IP n_sexpr_parser_skip = some i_sexpr_parser_skip := rfl
theorem IP_sexpr_parser_expression : IP n_sexpr_parser_expression = some i_sexpr_parser_expression := rfl
theorem IP_internal_strconv_Itoa : IP n_internal_strconv_Itoa = some i_internal_strconv_Itoa := rfl
theorem IP_internal_strconv_FormatUint : IP n_internal_strconv_FormatUint = some i_internal_strconv_FormatUint := rfl
theorem IP_internal_stringslite_Cut : IP n_internal_stringslite_Cut = some i_internal_stringslite_Cut := rfl
theorem IP_digits_Parse : IP n_digits_Parse = some i_digits_Parse := rfl
theorem IP_internal_stringslite_HasPrefix : IP n_internal_stringslite_HasPrefix = some i_internal_stringslite_HasPrefix := rfl
theorem IP_sexpr_plain : IP n_sexpr_plain = some i_sexpr_plain := rfl
theorem IP_sexpr_parser_fail : IP n_sexpr_parser_fail = some i_sexpr_parser_fail := rfl
theorem IP_internal_strconv_FormatInt : IP n_internal_strconv_FormatInt = some i_internal_strconv_FormatInt := rfl
theorem IP_internal_strconv_small : IP n_internal_strconv_small = some i_internal_strconv_small := rfl
theorem IP_internal_strconv_numDigits : IP n_internal_strconv_numDigits = some i_internal_strconv_numDigits := rfl
theorem IP_internal_strconv_formatBase10 : IP n_internal_strconv_formatBase10 = some i_internal_strconv_formatBase10 := rfl
theorem IP_internal_stringslite_Index : IP n_internal_stringslite_Index = some i_internal_stringslite_Index := rfl
theorem IP_strings_CutPrefix : IP n_strings_CutPrefix = some i_strings_CutPrefix := rfl
theorem IP_digits_numeral : IP n_digits_numeral = some i_digits_numeral := rfl
theorem IP_strconv_ParseUint : IP n_strconv_ParseUint = some i_strconv_ParseUint := rfl
theorem IP_internal_strconv_log10Pow2 : IP n_internal_strconv_log10Pow2 = some i_internal_strconv_log10Pow2 := rfl
theorem IP_math_bits_Len64 : IP n_math_bits_Len64 = some i_math_bits_Len64 := rfl
theorem IP_internal_strconv_bool2_int : IP n_internal_strconv_bool2_int = some i_internal_strconv_bool2_int := rfl
theorem IP_internal_stringslite_IndexByte : IP n_internal_stringslite_IndexByte = some i_internal_stringslite_IndexByte := rfl
theorem IP_internal_stringslite_CutPrefix : IP n_internal_stringslite_CutPrefix = some i_internal_stringslite_CutPrefix := rfl
theorem IP_strings_IndexByte : IP n_strings_IndexByte = some i_strings_IndexByte := rfl
theorem IP_internal_strconv_ParseUint : IP n_internal_strconv_ParseUint = some i_internal_strconv_ParseUint := rfl
theorem IP_strconv_toError : IP n_strconv_toError = some i_strconv_toError := rfl
theorem IP_strconv_rangeError : IP n_strconv_rangeError = some i_strconv_rangeError := rfl
theorem IP_internal_stringslite_Clone : IP n_internal_stringslite_Clone = some i_internal_stringslite_Clone := rfl
end Go.Proofs.YtkofimhnehkdoaaGreatDoor.Rf
end

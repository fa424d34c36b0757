/- More rounds tell the same. -/
import Derived.Test.YtajlmldpbhendabRfG5
import Derived.Test.YtajlmldpbhendabRfG1
section
set_option maxRecDepth 100000
namespace Go.Proofs.Ytajlmldpbhendab.Rf
abbrev n_gosem_cut : Nat := 1
abbrev n_gosem_cut_init : Nat := 2
abbrev n_saturatelaw05_SexprForms : Nat := 3
abbrev n_saturateref05_Few : Nat := 4
abbrev n_saturatelaw05_live : Nat := 5
abbrev n_sexpr_Valid : Nat := 6
abbrev n_saturateref05_Valid : Nat := 7
abbrev n_sexpr_Depth : Nat := 8
abbrev n_saturateref05_Depth : Nat := 9
abbrev n_sexpr_Count : Nat := 10
abbrev n_saturateref05_Count : Nat := 11
abbrev n_sexpr_Same : Nat := 12
abbrev n_saturateref05_Same : Nat := 13
abbrev n_saturateref05_weigh : Nat := 14
abbrev n_sexpr_Parse : Nat := 15
abbrev n_sexpr_ParseAll : Nat := 16
abbrev n_sexpr_Print : Nat := 17
abbrev n_sexpr_valid : Nat := 18
abbrev n_saturateref05_right : Nat := 19
abbrev n_slices_EqualFunc_Sexp_Sexp_Sexp_Sexp : Nat := 20
abbrev n_saturateref05_SameAll : Nat := 21
abbrev n_sexpr_all : Nat := 22
abbrev n_sexpr_write : Nat := 23
abbrev n_strings_Builder_String : Nat := 24
abbrev n_sexpr_plain : Nat := 25
abbrev n_saturateref05_atom : Nat := 26
abbrev n_sexpr_all_1 : Nat := 27
abbrev n_sexpr_parser_skip : Nat := 28
abbrev n_sexpr_parser_expression : Nat := 29
abbrev n_strings_Builder_WriteString : Nat := 30
abbrev n_strings_Builder_WriteByte : Nat := 31
abbrev n_saturateref05_Byte : Nat := 32
abbrev n_sexpr_parser_fail : Nat := 33
abbrev n_strings_Builder_copyCheck : Nat := 34
abbrev n_internal_abi_NoEscape : Nat := 35
def i_gosem_cut_init : IFun := ⟨true, 0,
 .region [⟨some 0, .call (.f n_gosem_cut) [] false, none⟩] [],
 [], none, none⟩
def i_saturatelaw05_SexprForms : IFun := ⟨true, 2,
 .seq (.region [⟨some 2, .box false (.t 0 true), none⟩,
 ⟨some 3, .box false (.t 1 true), none⟩,
 ⟨some 4, .mv (.c (.bool false)), none⟩] [2, 3])
 (.seq (.seq (.region [⟨some 5, .load (.t 2 false) (.loc 2) 2 true false, none⟩,
 ⟨some 6, .call (.f n_saturateref05_Few) [.t 5 true, .c (.int .i64 300)] false, none⟩,
 ⟨some 7, .un .not (.t 6 false), none⟩,
 ⟨some 8, .mv (.t 7 true), none⟩,
 ⟨some 9, .load (.t 3 false) (.loc 3) 2 true false, (some (8, false))⟩,
 ⟨some 10, .call (.f n_saturateref05_Few) [.t 9 true, .c (.int .i64 300)] false, (some (8, false))⟩,
 ⟨some 11, .un .not (.t 10 false), (some (8, false))⟩,
 ⟨some 12, .pick (.t 8 false) (.c (.bool true)) (.t 11 false), none⟩] [2, 3, 12])
 (.cond (.t 12 false)
 (.seq (.region [⟨some 13, .call (.f n_saturatelaw05_live) [] false, none⟩,
 ⟨some 4, .mv (.t 13 true), none⟩] [4])
 (.ret))
 (.skip)))
 (.seq (.draw [⟨some 14, .load (.t 2 false) (.loc 2) 2 true false, none⟩,
 ⟨some 15, .call (.f n_sexpr_Valid) [.t 14 true] true, none⟩,
 ⟨some 16, .load (.t 2 false) (.loc 2) 2 true false, none⟩,
 ⟨some 17, .call (.f n_saturateref05_Valid) [.t 16 true] true, none⟩,
 ⟨some 18, .eq false .bool (.t 15 false) (.t 17 false), none⟩,
 ⟨some 19, .mv (.t 18 true), none⟩,
 ⟨some 20, .load (.t 2 false) (.loc 2) 2 true false, (some (19, true))⟩,
 ⟨some 21, .call (.f n_sexpr_Depth) [.t 20 true] true, (some (19, true))⟩,
 ⟨some 22, .load (.t 2 false) (.loc 2) 2 true false, (some (19, true))⟩,
 ⟨some 23, .call (.f n_saturateref05_Depth) [.t 22 true] true, (some (19, true))⟩,
 ⟨some 24, .bin .eql (.t 21 false) (.t 23 false), (some (19, true))⟩,
 ⟨some 25, .pick (.t 19 false) (.t 24 false) (.c (.bool false)), none⟩,
 ⟨some 26, .mv (.t 25 true), none⟩,
 ⟨some 27, .load (.t 2 false) (.loc 2) 2 true false, (some (26, true))⟩,
 ⟨some 28, .call (.f n_sexpr_Count) [.t 27 true] true, (some (26, true))⟩,
 ⟨some 29, .load (.t 2 false) (.loc 2) 2 true false, (some (26, true))⟩,
 ⟨some 30, .call (.f n_saturateref05_Count) [.t 29 true] true, (some (26, true))⟩,
 ⟨some 31, .bin .eql (.t 28 false) (.t 30 false), (some (26, true))⟩,
 ⟨some 32, .pick (.t 26 false) (.t 31 false) (.c (.bool false)), none⟩,
 ⟨some 33, .mv (.t 32 true), none⟩,
 ⟨some 34, .load (.t 2 false) (.loc 2) 2 true false, (some (33, true))⟩,
 ⟨some 35, .load (.t 3 false) (.loc 3) 2 true false, (some (33, true))⟩,
 ⟨some 36, .call (.f n_sexpr_Same) [.t 34 true, .t 35 true] true, (some (33, true))⟩,
 ⟨some 37, .load (.t 2 false) (.loc 2) 2 true false, (some (33, true))⟩,
 ⟨some 38, .load (.t 3 false) (.loc 3) 2 true false, (some (33, true))⟩,
 ⟨some 39, .call (.f n_saturateref05_Same) [.t 37 true, .t 38 true] true, (some (33, true))⟩,
 ⟨some 40, .eq false .bool (.t 36 false) (.t 39 false), (some (33, true))⟩,
 ⟨some 41, .pick (.t 33 false) (.t 40 false) (.c (.bool false)), none⟩,
 ⟨some 42, .mv (.t 41 true), none⟩,
 ⟨some 43, .load (.t 2 false) (.loc 2) 2 true false, (some (42, true))⟩,
 ⟨some 44, .load (.t 2 false) (.loc 2) 2 true false, (some (42, true))⟩,
 ⟨some 45, .call (.f n_sexpr_Same) [.t 43 true, .t 44 true] true, (some (42, true))⟩,
 ⟨some 46, .pick (.t 42 false) (.t 45 false) (.c (.bool false)), none⟩,
 ⟨some 47, .mv (.t 46 true), none⟩,
 ⟨some 48, .call (.f n_saturatelaw05_live) [] true, (some (47, true))⟩,
 ⟨some 49, .pick (.t 47 false) (.t 48 false) (.c (.bool false)), none⟩,
 ⟨some 4, .mv (.t 49 true), none⟩] [0, 2, 1, 3, 4, 5, 6, 8, 7, 9, 10, 11, 12, 13, 15, 14, 16, 17, 18, 19, 20, 21, 23, 24, 22, 25, 26, 27, 28, 29, 30, 31, 32, 33, 34, 35, 36] [1, 3, 7, 9, 14, 16, 22, 25, 31, 34] [4])
 (.ret))),
 [.tmp 4], none, none⟩
def i_saturateref05_Few : IFun := ⟨true, 2,
 .seq (.region [⟨some 2, .box false (.t 0 true), none⟩,
 ⟨some 4, .mv (.c (.bool false)), none⟩] [1, 2])
 (.seq (.region [⟨some 5, .load (.t 2 false) (.loc 2) 2 true false, none⟩,
 ⟨some 6, .mv (.t 1 true), none⟩,
 ⟨some 7, .call (.f n_saturateref05_weigh) [.t 5 true, .t 6 true] false, none⟩,
 ⟨some 8, .bin .geq (.t 7 false) (.c (.int .i64 0)), none⟩,
 ⟨some 4, .mv (.t 8 true), none⟩] [4])
 (.ret)),
 [.tmp 4], none, none⟩
def i_saturatelaw05_live : IFun := ⟨true, 0,
 .seq (.region [⟨some 0, .mv (.c (.bool false)), none⟩] [])
 (.seq (.region [⟨some 14, .call (.f n_sexpr_Parse) [.c (.str [40, 97, 100, 100, 32, 120, 58, 56, 32, 59, 32, 115, 117, 109, 10, 32, 49, 58, 56, 41])] false, none⟩,
 ⟨some 13, .mv (.t 14 true), none⟩,
 ⟨some 15, .extract (.t 13 false) 0, none⟩,
 ⟨some 16, .extract (.t 13 false) 1, none⟩,
 ⟨some 17, .extract (.t 13 true) 2, none⟩,
 ⟨some 1, .alloc false 0 [.str [], .list [] .nil], none⟩,
 ⟨none, .store (.t 1 false) (.loc 1) (.t 15 true) 2, none⟩,
 ⟨some 2, .mv (.t 16 true), none⟩,
 ⟨some 3, .mv (.t 17 true), none⟩] [1, 2, 3])
 (.seq (.region [⟨some 19, .call (.f n_sexpr_Parse) [.c (.str [40, 97, 41, 41])] false, none⟩,
 ⟨some 18, .mv (.t 19 true), none⟩,
 ⟨some 20, .extract (.t 18 false) 0, none⟩,
 ⟨some 21, .extract (.t 18 false) 1, none⟩,
 ⟨some 22, .extract (.t 18 true) 2, none⟩,
 ⟨some 4, .alloc false 0 [.str [], .list [] .nil], none⟩,
 ⟨none, .store (.t 4 false) (.loc 4) (.t 20 true) 2, none⟩,
 ⟨some 5, .mv (.t 21 true), none⟩,
 ⟨some 6, .mv (.t 22 true), none⟩] [1, 2, 3, 5, 6])
 (.seq (.region [⟨some 24, .call (.f n_sexpr_Parse) [.c (.str [97, 32, 98])] false, none⟩,
 ⟨some 23, .mv (.t 24 true), none⟩,
 ⟨some 25, .extract (.t 23 false) 0, none⟩,
 ⟨some 26, .extract (.t 23 false) 1, none⟩,
 ⟨some 27, .extract (.t 23 true) 2, none⟩,
 ⟨some 7, .alloc false 0 [.str [], .list [] .nil], none⟩,
 ⟨none, .store (.t 7 false) (.loc 7) (.t 25 true) 2, none⟩,
 ⟨some 8, .mv (.t 26 true), none⟩,
 ⟨some 9, .mv (.t 27 true), none⟩] [1, 2, 3, 5, 6, 8, 9])
 (.seq (.region [⟨some 29, .call (.f n_sexpr_ParseAll) [.c (.str [97, 32, 98])] false, none⟩,
 ⟨some 28, .mv (.t 29 true), none⟩,
 ⟨some 30, .extract (.t 28 false) 0, none⟩,
 ⟨some 31, .extract (.t 28 false) 1, none⟩,
 ⟨some 32, .extract (.t 28 true) 2, none⟩,
 ⟨some 10, .mv (.t 30 true), none⟩,
 ⟨some 11, .mv (.t 31 true), none⟩,
 ⟨some 12, .mv (.t 32 true), none⟩] [1, 2, 3, 5, 6, 8, 9, 10, 12])
 (.seq (.region [⟨some 33, .faddr (.t 1 false) 1, none⟩,
 ⟨some 34, .load (.t 33 false) (.loc 1) 1 false false, none⟩,
 ⟨some 35, .len (.t 34 false) .list, none⟩,
 ⟨some 36, .bin .eql (.t 35 false) (.c (.int .i64 3)), none⟩,
 ⟨some 37, .mv (.t 36 true), none⟩,
 ⟨some 38, .faddr (.t 1 false) 1, (some (37, true))⟩,
 ⟨some 39, .load (.t 38 false) (.loc 1) 1 false false, (some (37, true))⟩,
 ⟨some 40, .iaddrL (.t 39 false) (.c (.int .i64 1)) 2, (some (37, true))⟩,
 ⟨some 41, .faddr (.t 40 false) 0, (some (37, true))⟩,
 ⟨some 42, .load (.t 41 false) .elem 1 false false, (some (37, true))⟩,
 ⟨some 43, .bin .eql (.t 42 false) (.c (.str [120, 58, 56])), (some (37, true))⟩,
 ⟨some 44, .pick (.t 37 false) (.t 43 false) (.c (.bool false)), none⟩,
 ⟨some 45, .mv (.t 44 true), none⟩,
 ⟨some 46, .mv (.t 2 true), (some (45, true))⟩,
 ⟨some 47, .bin .eql (.t 46 false) (.c (.int .i64 0)), (some (45, true))⟩,
 ⟨some 48, .pick (.t 45 false) (.t 47 false) (.c (.bool false)), none⟩,
 ⟨some 49, .mv (.t 48 true), none⟩,
 ⟨some 50, .mv (.t 3 true), (some (49, true))⟩,
 ⟨some 51, .bin .eql (.t 50 false) (.c (.int .i64 0)), (some (49, true))⟩,
 ⟨some 52, .pick (.t 49 false) (.t 51 false) (.c (.bool false)), none⟩,
 ⟨some 53, .mv (.t 52 true), none⟩,
 ⟨some 54, .mv (.t 5 true), (some (53, true))⟩,
 ⟨some 55, .bin .eql (.t 54 false) (.c (.int .i64 3)), (some (53, true))⟩,
 ⟨some 56, .pick (.t 53 false) (.t 55 false) (.c (.bool false)), none⟩,
 ⟨some 57, .mv (.t 56 true), none⟩,
 ⟨some 58, .mv (.t 6 true), (some (57, true))⟩,
 ⟨some 59, .bin .eql (.t 58 false) (.c (.int .i64 6)), (some (57, true))⟩,
 ⟨some 60, .pick (.t 57 false) (.t 59 false) (.c (.bool false)), none⟩,
 ⟨some 61, .mv (.t 60 true), none⟩,
 ⟨some 62, .mv (.t 8 true), (some (61, true))⟩,
 ⟨some 63, .bin .eql (.t 62 false) (.c (.int .i64 2)), (some (61, true))⟩,
 ⟨some 64, .pick (.t 61 false) (.t 63 false) (.c (.bool false)), none⟩,
 ⟨some 65, .mv (.t 64 true), none⟩,
 ⟨some 66, .mv (.t 9 true), (some (65, true))⟩,
 ⟨some 67, .bin .eql (.t 66 false) (.c (.int .i64 6)), (some (65, true))⟩,
 ⟨some 68, .pick (.t 65 false) (.t 67 false) (.c (.bool false)), none⟩,
 ⟨some 69, .mv (.t 68 true), none⟩,
 ⟨some 70, .mv (.t 10 true), (some (69, true))⟩,
 ⟨some 71, .len (.t 70 false) .list, (some (69, true))⟩,
 ⟨some 72, .bin .eql (.t 71 false) (.c (.int .i64 2)), (some (69, true))⟩,
 ⟨some 73, .pick (.t 69 false) (.t 72 false) (.c (.bool false)), none⟩,
 ⟨some 74, .mv (.t 73 true), none⟩,
 ⟨some 75, .mv (.t 12 true), (some (74, true))⟩,
 ⟨some 76, .bin .eql (.t 75 false) (.c (.int .i64 0)), (some (74, true))⟩,
 ⟨some 77, .pick (.t 74 false) (.t 76 false) (.c (.bool false)), none⟩,
 ⟨some 78, .mv (.t 77 true), none⟩,
 ⟨some 79, .build [.str [], .list [] .nil] [(0, 1, .c (.str [97]))], (some (78, true))⟩,
 ⟨some 80, .build [.str [], .list [] .nil] [], (some (78, true))⟩,
 ⟨some 81, .bslice (.agg [.str [], .list [] .nil]) 0 2 [(0, .t 79 true), (1, .t 80 true)], (some (78, true))⟩,
 ⟨some 82, .build [.str [], .list [] .nil] [(1, 1, .t 81 true)], (some (78, true))⟩,
 ⟨some 83, .call (.f n_sexpr_Print) [.t 82 true] false, (some (78, true))⟩,
 ⟨some 84, .bin .eql (.t 83 false) (.c (.str [40, 97, 32, 40, 41, 41])), (some (78, true))⟩,
 ⟨some 85, .pick (.t 78 false) (.t 84 false) (.c (.bool false)), none⟩,
 ⟨some 0, .mv (.t 85 true), none⟩] [0])
 (.ret)))))),
 [.tmp 0], none, none⟩
def i_sexpr_Valid : IFun := ⟨true, 1,
 .seq (.region [⟨some 1, .box false (.t 0 true), none⟩,
 ⟨some 2, .mv (.c (.bool false)), none⟩] [1])
 (.seq (.region [⟨some 3, .load (.t 1 false) (.loc 1) 2 true false, none⟩,
 ⟨some 4, .call (.f n_sexpr_valid) [.t 3 true, .c (.int .i64 0)] false, none⟩,
 ⟨some 2, .mv (.t 4 true), none⟩] [2])
 (.ret)),
 [.tmp 2], none, none⟩
def i_saturateref05_Valid : IFun := ⟨true, 1,
 .seq (.region [⟨some 1, .box false (.t 0 true), none⟩,
 ⟨some 2, .mv (.c (.bool false)), none⟩] [1])
 (.seq (.region [⟨some 3, .load (.t 1 false) (.loc 1) 2 true false, none⟩,
 ⟨some 4, .call (.f n_saturateref05_right) [.t 3 true] false, none⟩,
 ⟨some 5, .mv (.t 4 true), none⟩,
 ⟨some 6, .load (.t 1 false) (.loc 1) 2 true false, (some (5, true))⟩,
 ⟨some 7, .call (.f n_saturateref05_Depth) [.t 6 true] false, (some (5, true))⟩,
 ⟨some 8, .bin .leq (.t 7 false) (.c (.int .i64 64)), (some (5, true))⟩,
 ⟨some 9, .pick (.t 5 false) (.t 8 false) (.c (.bool false)), none⟩,
 ⟨some 2, .mv (.t 9 true), none⟩] [2])
 (.ret)),
 [.tmp 2], none, none⟩
def l_sexpr_Depth_0 : ICode :=
 .seq (.region [⟨some 13, .bin .lss (.t 12 false) (.t 11 false), none⟩] [3, 10, 11, 12, 13])
 (.seq (.cond (.t 13 false)
 (.skip)
 (.exit 0))
 (.seq (.block 1
 (.seq (.region [⟨some 14, .iaddrL (.t 10 false) (.t 12 false) 2, none⟩,
 ⟨some 15, .load (.t 14 false) .elem 2 true false, none⟩,
 ⟨some 5, .alloc false 0 [.str [], .list [] .nil], none⟩,
 ⟨none, .store (.t 5 false) (.loc 5) (.t 15 true) 2, none⟩] [3, 5, 10, 11, 12])
 (.region [⟨some 16, .mv (.t 3 true), none⟩,
 ⟨some 17, .load (.t 5 false) (.loc 5) 2 true false, none⟩,
 ⟨some 18, .call (.f n_sexpr_Depth) [.t 17 true] false, none⟩,
 ⟨some 19, .max (.t 16 false) (.t 18 false), none⟩,
 ⟨some 3, .mv (.t 19 true), none⟩] [3, 10, 11, 12])))
 (.region [⟨some 20, .bin .add (.t 12 false) (.c (.int .i64 1)), none⟩,
 ⟨some 12, .mv (.t 20 true), none⟩] [3, 10, 11, 12])))
def i_sexpr_Depth : IFun := ⟨true, 1,
 .seq (.region [⟨some 1, .box false (.t 0 true), none⟩,
 ⟨some 2, .mv (.c (.int .i64 0)), none⟩] [1])
 (.seq (.region [⟨some 3, .mv (.c (.int .i64 0)), none⟩] [1, 3])
 (.seq (.seq (.region [⟨some 6, .faddr (.t 1 false) 0, none⟩,
 ⟨some 7, .load (.t 6 false) (.loc 1) 1 false false, none⟩,
 ⟨some 8, .bin .eql (.t 7 false) (.c (.str [])), none⟩] [1, 3, 8])
 (.cond (.t 8 false)
 (.seq (.region [⟨some 9, .faddr (.t 1 false) 1, none⟩,
 ⟨some 10, .load (.t 9 false) (.loc 1) 1 false false, none⟩,
 ⟨some 11, .len (.t 10 false) .list, none⟩,
 ⟨some 12, .mv (.c (.int .i64 0)), none⟩] [3, 10, 11, 12])
 (.block 0
 (.loop l_sexpr_Depth_0)))
 (.skip)))
 (.seq (.region [⟨some 21, .mv (.t 3 true), none⟩,
 ⟨some 22, .bin .add (.t 21 false) (.c (.int .i64 1)), none⟩,
 ⟨some 2, .mv (.t 22 true), none⟩] [2])
 (.ret)))),
 [.tmp 2], none, none⟩
def l_saturateref05_Depth_0 : ICode :=
 .seq (.seq (.region [⟨some 8, .mv (.t 4 false), none⟩,
 ⟨some 9, .faddr (.t 1 false) 1, none⟩,
 ⟨some 10, .load (.t 9 false) (.loc 1) 1 false false, none⟩,
 ⟨some 11, .len (.t 10 false) .list, none⟩,
 ⟨some 12, .bin .lss (.t 8 false) (.t 11 false), none⟩] [1, 3, 4, 12])
 (.cond (.t 12 false)
 (.skip)
 (.exit 0)))
 (.seq (.block 1
 (.region [⟨some 15, .mv (.t 3 true), none⟩,
 ⟨some 16, .faddr (.t 1 false) 1, none⟩,
 ⟨some 17, .load (.t 16 false) (.loc 1) 1 false false, none⟩,
 ⟨some 18, .mv (.t 4 false), none⟩,
 ⟨some 19, .iaddrL (.t 17 false) (.t 18 false) 2, none⟩,
 ⟨some 20, .load (.t 19 false) .elem 2 true false, none⟩,
 ⟨some 21, .call (.f n_saturateref05_Depth) [.t 20 true] false, none⟩,
 ⟨some 22, .max (.t 15 false) (.t 21 false), none⟩,
 ⟨some 3, .mv (.t 22 true), none⟩] [1, 3, 4]))
 (.region [⟨some 13, .mv (.t 4 true), none⟩,
 ⟨some 14, .bin .add (.t 13 false) (.c (.int .i64 1)), none⟩,
 ⟨some 4, .mv (.t 14 true), none⟩] [1, 3, 4]))
def i_saturateref05_Depth : IFun := ⟨true, 1,
 .seq (.region [⟨some 1, .box false (.t 0 true), none⟩,
 ⟨some 2, .mv (.c (.int .i64 0)), none⟩] [1])
 (.seq (.region [⟨some 3, .mv (.c (.int .i64 0)), none⟩] [1, 3])
 (.seq (.seq (.region [⟨some 5, .faddr (.t 1 false) 0, none⟩,
 ⟨some 6, .load (.t 5 false) (.loc 1) 1 false false, none⟩,
 ⟨some 7, .bin .eql (.t 6 false) (.c (.str [])), none⟩] [1, 3, 7])
 (.cond (.t 7 false)
 (.seq (.region [⟨some 4, .mv (.c (.int .i64 0)), none⟩] [1, 3, 4])
 (.block 0
 (.loop l_saturateref05_Depth_0)))
 (.skip)))
 (.seq (.region [⟨some 23, .mv (.t 3 true), none⟩,
 ⟨some 24, .bin .add (.t 23 false) (.c (.int .i64 1)), none⟩,
 ⟨some 2, .mv (.t 24 true), none⟩] [2])
 (.ret)))),
 [.tmp 2], none, none⟩
def l_sexpr_Count_0 : ICode :=
 .seq (.region [⟨some 13, .bin .lss (.t 12 false) (.t 11 false), none⟩] [3, 10, 11, 12, 13])
 (.seq (.cond (.t 13 false)
 (.skip)
 (.exit 0))
 (.seq (.block 1
 (.seq (.region [⟨some 14, .iaddrL (.t 10 false) (.t 12 false) 2, none⟩,
 ⟨some 15, .load (.t 14 false) .elem 2 true false, none⟩,
 ⟨some 5, .alloc false 0 [.str [], .list [] .nil], none⟩,
 ⟨none, .store (.t 5 false) (.loc 5) (.t 15 true) 2, none⟩] [3, 5, 10, 11, 12])
 (.region [⟨some 16, .mv (.t 3 true), none⟩,
 ⟨some 17, .load (.t 5 false) (.loc 5) 2 true false, none⟩,
 ⟨some 18, .call (.f n_sexpr_Count) [.t 17 true] false, none⟩,
 ⟨some 19, .bin .add (.t 16 false) (.t 18 false), none⟩,
 ⟨some 3, .mv (.t 19 true), none⟩] [3, 10, 11, 12])))
 (.region [⟨some 20, .bin .add (.t 12 false) (.c (.int .i64 1)), none⟩,
 ⟨some 12, .mv (.t 20 true), none⟩] [3, 10, 11, 12])))
def i_sexpr_Count : IFun := ⟨true, 1,
 .seq (.region [⟨some 1, .box false (.t 0 true), none⟩,
 ⟨some 2, .mv (.c (.int .i64 0)), none⟩] [1])
 (.seq (.region [⟨some 3, .mv (.c (.int .i64 1)), none⟩] [1, 3])
 (.seq (.seq (.region [⟨some 6, .faddr (.t 1 false) 0, none⟩,
 ⟨some 7, .load (.t 6 false) (.loc 1) 1 false false, none⟩,
 ⟨some 8, .bin .eql (.t 7 false) (.c (.str [])), none⟩] [1, 3, 8])
 (.cond (.t 8 false)
 (.seq (.region [⟨some 9, .faddr (.t 1 false) 1, none⟩,
 ⟨some 10, .load (.t 9 false) (.loc 1) 1 false false, none⟩,
 ⟨some 11, .len (.t 10 false) .list, none⟩,
 ⟨some 12, .mv (.c (.int .i64 0)), none⟩] [3, 10, 11, 12])
 (.block 0
 (.loop l_sexpr_Count_0)))
 (.skip)))
 (.seq (.region [⟨some 21, .mv (.t 3 true), none⟩,
 ⟨some 2, .mv (.t 21 true), none⟩] [2])
 (.ret)))),
 [.tmp 2], none, none⟩
def l_saturateref05_Count_0 : ICode :=
 .seq (.seq (.region [⟨some 8, .mv (.t 4 false), none⟩,
 ⟨some 9, .faddr (.t 1 false) 1, none⟩,
 ⟨some 10, .load (.t 9 false) (.loc 1) 1 false false, none⟩,
 ⟨some 11, .len (.t 10 false) .list, none⟩,
 ⟨some 12, .bin .lss (.t 8 false) (.t 11 false), none⟩] [1, 3, 4, 12])
 (.cond (.t 12 false)
 (.skip)
 (.exit 0)))
 (.seq (.block 1
 (.region [⟨some 15, .mv (.t 3 true), none⟩,
 ⟨some 16, .faddr (.t 1 false) 1, none⟩,
 ⟨some 17, .load (.t 16 false) (.loc 1) 1 false false, none⟩,
 ⟨some 18, .mv (.t 4 false), none⟩,
 ⟨some 19, .iaddrL (.t 17 false) (.t 18 false) 2, none⟩,
 ⟨some 20, .load (.t 19 false) .elem 2 true false, none⟩,
 ⟨some 21, .call (.f n_saturateref05_Count) [.t 20 true] false, none⟩,
 ⟨some 22, .bin .add (.t 15 false) (.t 21 false), none⟩,
 ⟨some 3, .mv (.t 22 true), none⟩] [1, 3, 4]))
 (.region [⟨some 13, .mv (.t 4 true), none⟩,
 ⟨some 14, .bin .add (.t 13 false) (.c (.int .i64 1)), none⟩,
 ⟨some 4, .mv (.t 14 true), none⟩] [1, 3, 4]))
def i_saturateref05_Count : IFun := ⟨true, 1,
 .seq (.region [⟨some 1, .box false (.t 0 true), none⟩,
 ⟨some 2, .mv (.c (.int .i64 0)), none⟩] [1])
 (.seq (.region [⟨some 3, .mv (.c (.int .i64 1)), none⟩] [1, 3])
 (.seq (.seq (.region [⟨some 5, .faddr (.t 1 false) 0, none⟩,
 ⟨some 6, .load (.t 5 false) (.loc 1) 1 false false, none⟩,
 ⟨some 7, .bin .eql (.t 6 false) (.c (.str [])), none⟩] [1, 3, 7])
 (.cond (.t 7 false)
 (.seq (.region [⟨some 4, .mv (.c (.int .i64 0)), none⟩] [1, 3, 4])
 (.block 0
 (.loop l_saturateref05_Count_0)))
 (.skip)))
 (.seq (.region [⟨some 23, .mv (.t 3 true), none⟩,
 ⟨some 2, .mv (.t 23 true), none⟩] [2])
 (.ret)))),
 [.tmp 2], none, none⟩
def i_sexpr_Same : IFun := ⟨true, 2,
 .seq (.region [⟨some 2, .box false (.t 0 true), none⟩,
 ⟨some 3, .box false (.t 1 true), none⟩,
 ⟨some 4, .mv (.c (.bool false)), none⟩] [2, 3])
 (.seq (.region [⟨some 5, .faddr (.t 2 false) 0, none⟩,
 ⟨some 6, .load (.t 5 false) (.loc 2) 1 false false, none⟩,
 ⟨some 7, .faddr (.t 3 false) 0, none⟩,
 ⟨some 8, .load (.t 7 false) (.loc 3) 1 false false, none⟩,
 ⟨some 9, .bin .eql (.t 6 false) (.t 8 false), none⟩,
 ⟨some 10, .mv (.t 9 true), none⟩,
 ⟨some 11, .faddr (.t 2 false) 1, (some (10, true))⟩,
 ⟨some 12, .load (.t 11 false) (.loc 2) 1 false false, (some (10, true))⟩,
 ⟨some 13, .faddr (.t 3 false) 1, (some (10, true))⟩,
 ⟨some 14, .load (.t 13 false) (.loc 3) 1 false false, (some (10, true))⟩,
 ⟨some 15, .call (.f n_slices_EqualFunc_Sexp_Sexp_Sexp_Sexp) [.t 12 true, .t 14 true, .f n_sexpr_Same] false, (some (10, true))⟩,
 ⟨some 16, .pick (.t 10 false) (.t 15 false) (.c (.bool false)), none⟩,
 ⟨some 4, .mv (.t 16 true), none⟩] [4])
 (.ret)),
 [.tmp 4], none, none⟩
def i_saturateref05_Same : IFun := ⟨true, 2,
 .seq (.region [⟨some 2, .box false (.t 0 true), none⟩,
 ⟨some 3, .box false (.t 1 true), none⟩,
 ⟨some 4, .mv (.c (.bool false)), none⟩] [2, 3])
 (.seq (.region [⟨some 5, .faddr (.t 2 false) 0, none⟩,
 ⟨some 6, .load (.t 5 false) (.loc 2) 1 false false, none⟩,
 ⟨some 7, .faddr (.t 3 false) 0, none⟩,
 ⟨some 8, .load (.t 7 false) (.loc 3) 1 false false, none⟩,
 ⟨some 9, .bin .eql (.t 6 false) (.t 8 false), none⟩,
 ⟨some 10, .mv (.t 9 true), none⟩,
 ⟨some 11, .faddr (.t 2 false) 1, (some (10, true))⟩,
 ⟨some 12, .load (.t 11 false) (.loc 2) 1 false false, (some (10, true))⟩,
 ⟨some 13, .faddr (.t 3 false) 1, (some (10, true))⟩,
 ⟨some 14, .load (.t 13 false) (.loc 3) 1 false false, (some (10, true))⟩,
 ⟨some 15, .call (.f n_saturateref05_SameAll) [.t 12 true, .t 14 true] false, (some (10, true))⟩,
 ⟨some 16, .pick (.t 10 false) (.t 15 false) (.c (.bool false)), none⟩,
 ⟨some 4, .mv (.t 16 true), none⟩] [4])
 (.ret)),
 [.tmp 4], none, none⟩
def l_saturateref05_weigh_0 : ICode :=
 .seq (.seq (.region [⟨some 13, .mv (.t 5 false), none⟩,
 ⟨some 14, .faddr (.t 2 false) 1, none⟩,
 ⟨some 15, .load (.t 14 false) (.loc 2) 1 false false, none⟩,
 ⟨some 16, .len (.t 15 false) .list, none⟩,
 ⟨some 17, .bin .lss (.t 13 false) (.t 16 false), none⟩,
 ⟨some 18, .mv (.t 17 true), none⟩,
 ⟨some 19, .mv (.t 1 false), (some (18, true))⟩,
 ⟨some 20, .bin .geq (.t 19 false) (.c (.int .i64 0)), (some (18, true))⟩,
 ⟨some 21, .pick (.t 18 false) (.t 20 false) (.c (.bool false)), none⟩] [1, 2, 5, 21])
 (.cond (.t 21 false)
 (.skip)
 (.exit 0)))
 (.seq (.block 1
 (.region [⟨some 24, .faddr (.t 2 false) 1, none⟩,
 ⟨some 25, .load (.t 24 false) (.loc 2) 1 false false, none⟩,
 ⟨some 26, .mv (.t 5 false), none⟩,
 ⟨some 27, .iaddrL (.t 25 false) (.t 26 false) 2, none⟩,
 ⟨some 28, .load (.t 27 false) .elem 2 true false, none⟩,
 ⟨some 29, .mv (.t 1 true), none⟩,
 ⟨some 30, .call (.f n_saturateref05_weigh) [.t 28 true, .t 29 true] false, none⟩,
 ⟨some 1, .mv (.t 30 true), none⟩] [1, 2, 5]))
 (.region [⟨some 22, .mv (.t 5 true), none⟩,
 ⟨some 23, .bin .add (.t 22 false) (.c (.int .i64 1)), none⟩,
 ⟨some 5, .mv (.t 23 true), none⟩] [1, 2, 5]))
def i_saturateref05_weigh : IFun := ⟨true, 2,
 .seq (.region [⟨some 2, .box false (.t 0 true), none⟩,
 ⟨some 4, .mv (.c (.int .i64 0)), none⟩] [1, 2])
 (.seq (.region [⟨some 6, .mv (.t 1 true), none⟩,
 ⟨some 7, .bin .sub (.t 6 false) (.c (.int .i64 1)), none⟩,
 ⟨some 8, .faddr (.t 2 false) 0, none⟩,
 ⟨some 9, .load (.t 8 false) (.loc 2) 1 false false, none⟩,
 ⟨some 10, .len (.t 9 false) .str, none⟩,
 ⟨some 11, .bin .quo (.t 10 false) (.c (.int .i64 100)), none⟩,
 ⟨some 12, .bin .sub (.t 7 false) (.t 11 false), none⟩,
 ⟨some 1, .mv (.t 12 true), none⟩] [1, 2])
 (.seq (.seq (.region [⟨some 5, .mv (.c (.int .i64 0)), none⟩] [1, 2, 5])
 (.block 0
 (.loop l_saturateref05_weigh_0)))
 (.seq (.region [⟨some 31, .mv (.t 1 true), none⟩,
 ⟨some 4, .mv (.t 31 true), none⟩] [4])
 (.ret)))),
 [.tmp 4], none, none⟩
def i_sexpr_Parse : IFun := ⟨true, 1,
 .seq (.region [⟨some 2, .alloc false 0 [.str [], .list [] .nil], none⟩,
 ⟨some 3, .mv (.c (.int .i64 0)), none⟩,
 ⟨some 4, .mv (.c (.int .i64 0)), none⟩] [0, 2])
 (.seq (.region [⟨some 10, .mv (.t 0 false), none⟩,
 ⟨some 11, .call (.f n_sexpr_all) [.t 10 true] false, none⟩,
 ⟨some 9, .mv (.t 11 true), none⟩,
 ⟨some 12, .extract (.t 9 false) 0, none⟩,
 ⟨some 13, .extract (.t 9 false) 1, none⟩,
 ⟨some 14, .extract (.t 9 false) 2, none⟩,
 ⟨some 15, .extract (.t 9 true) 3, none⟩,
 ⟨some 5, .mv (.t 12 true), none⟩,
 ⟨some 6, .mv (.t 13 true), none⟩,
 ⟨some 7, .mv (.t 14 true), none⟩,
 ⟨some 8, .mv (.t 15 true), none⟩] [0, 2, 5, 6, 7, 8])
 (.seq (.block 0
 (.seq (.region [⟨some 17, .mv (.t 8 false), none⟩,
 ⟨some 18, .bin .neq (.t 17 false) (.c (.int .i64 0)), none⟩,
 ⟨some 16, .mv (.t 18 true), none⟩] [0, 2, 5, 6, 7, 8, 16])
 (.cond (.t 16 false)
 (.seq (.region [⟨some 19, .build [.str [], .list [] .nil] [], none⟩,
 ⟨some 20, .mv (.t 7 true), none⟩,
 ⟨some 21, .mv (.t 8 true), none⟩,
 ⟨none, .store (.t 2 false) (.loc 2) (.t 19 true) 2, none⟩,
 ⟨some 3, .mv (.t 20 true), none⟩,
 ⟨some 4, .mv (.t 21 true), none⟩] [2, 3, 4])
 (.ret))
 (.seq (.region [⟨some 23, .mv (.t 5 false), none⟩,
 ⟨some 24, .len (.t 23 false) .list, none⟩,
 ⟨some 25, .bin .eql (.t 24 false) (.c (.int .i64 0)), none⟩,
 ⟨some 22, .mv (.t 25 true), none⟩] [0, 2, 5, 6, 22])
 (.cond (.t 22 false)
 (.seq (.region [⟨some 26, .build [.str [], .list [] .nil] [], none⟩,
 ⟨some 27, .mv (.t 0 true), none⟩,
 ⟨some 28, .len (.t 27 false) .str, none⟩,
 ⟨none, .store (.t 2 false) (.loc 2) (.t 26 true) 2, none⟩,
 ⟨some 3, .mv (.t 28 true), none⟩,
 ⟨some 4, .mv (.c (.int .i64 6)), none⟩] [2, 3, 4])
 (.ret))
 (.seq (.region [⟨some 30, .mv (.t 5 false), none⟩,
 ⟨some 31, .len (.t 30 false) .list, none⟩,
 ⟨some 32, .bin .gtr (.t 31 false) (.c (.int .i64 1)), none⟩,
 ⟨some 29, .mv (.t 32 true), none⟩] [2, 5, 6, 29])
 (.cond (.t 29 false)
 (.seq (.draw [⟨some 33, .build [.str [], .list [] .nil] [], none⟩,
 ⟨some 34, .mv (.t 6 true), none⟩,
 ⟨some 35, .iaddrL (.t 34 false) (.c (.int .i64 1)) 1, none⟩,
 ⟨some 36, .load (.t 35 false) .elem 1 false false, none⟩,
 ⟨none, .store (.t 2 false) (.loc 2) (.t 33 true) 2, none⟩,
 ⟨some 3, .mv (.t 36 true), none⟩,
 ⟨some 4, .mv (.c (.int .i64 6)), none⟩] [0, 1, 2, 3, 4, 5, 6] [] [2, 3, 4])
 (.ret))
 (.skip))))))))
 (.seq (.region [⟨some 37, .mv (.t 5 true), none⟩,
 ⟨some 38, .iaddrL (.t 37 false) (.c (.int .i64 0)) 2, none⟩,
 ⟨some 39, .load (.t 38 false) .elem 2 true false, none⟩,
 ⟨none, .store (.t 2 false) (.loc 2) (.t 39 true) 2, none⟩,
 ⟨some 3, .mv (.c (.int .i64 0)), none⟩,
 ⟨some 4, .mv (.c (.int .i64 0)), none⟩] [2, 3, 4])
 (.ret)))),
 [.cell 2 2 true, .tmp 3, .tmp 4], none, none⟩
def i_sexpr_ParseAll : IFun := ⟨true, 1,
 .seq (.region [⟨some 2, .mv (.c (.list [] .nil)), none⟩,
 ⟨some 3, .mv (.c (.int .i64 0)), none⟩,
 ⟨some 4, .mv (.c (.int .i64 0)), none⟩] [0])
 (.seq (.region [⟨some 10, .mv (.t 0 true), none⟩,
 ⟨some 11, .call (.f n_sexpr_all) [.t 10 true] false, none⟩,
 ⟨some 9, .mv (.t 11 true), none⟩,
 ⟨some 12, .extract (.t 9 false) 0, none⟩,
 ⟨some 13, .extract (.t 9 false) 1, none⟩,
 ⟨some 14, .extract (.t 9 false) 2, none⟩,
 ⟨some 15, .extract (.t 9 true) 3, none⟩,
 ⟨some 5, .mv (.t 12 true), none⟩,
 ⟨some 6, .mv (.t 13 true), none⟩,
 ⟨some 7, .mv (.t 14 true), none⟩,
 ⟨some 8, .mv (.t 15 true), none⟩] [5, 7, 8])
 (.seq (.region [⟨some 16, .mv (.t 5 true), none⟩,
 ⟨some 17, .mv (.t 7 true), none⟩,
 ⟨some 18, .mv (.t 8 true), none⟩,
 ⟨some 2, .mv (.t 16 true), none⟩,
 ⟨some 3, .mv (.t 17 true), none⟩,
 ⟨some 4, .mv (.t 18 true), none⟩] [2, 3, 4])
 (.ret))),
 [.tmp 2, .tmp 3, .tmp 4], none, none⟩
def i_sexpr_Print : IFun := ⟨true, 1,
 .seq (.region [⟨some 1, .box false (.t 0 true), none⟩,
 ⟨some 2, .mv (.c (.str [])), none⟩] [1])
 (.seq (.region [⟨some 3, .alloc true 45 [.nilp, .list [] .nil], none⟩] [1, 3])
 (.seq (.region [⟨some 4, .load (.t 1 false) (.loc 1) 2 true false, none⟩,
 ⟨some 5, .call (.f n_sexpr_write) [.t 3 false, .t 4 true] false, none⟩] [3])
 (.seq (.region [⟨some 6, .call (.f n_strings_Builder_String) [.t 3 true] false, none⟩,
 ⟨some 2, .mv (.t 6 true), none⟩] [2])
 (.ret)))),
 [.tmp 2], none, none⟩
def l_sexpr_valid_1 : ICode :=
 .seq (.region [⟨some 35, .bin .lss (.t 34 false) (.t 33 false), none⟩] [1, 32, 33, 34, 35])
 (.seq (.cond (.t 35 false)
 (.skip)
 (.exit 2))
 (.seq (.block 3
 (.seq (.region [⟨some 36, .iaddrL (.t 32 false) (.t 34 false) 2, none⟩,
 ⟨some 37, .load (.t 36 false) .elem 2 true false, none⟩,
 ⟨some 7, .alloc false 0 [.str [], .list [] .nil], none⟩,
 ⟨none, .store (.t 7 false) (.loc 7) (.t 37 true) 2, none⟩] [1, 7, 32, 33, 34])
 (.seq (.region [⟨some 38, .load (.t 7 false) (.loc 7) 2 true false, none⟩,
 ⟨some 39, .mv (.t 1 false), none⟩,
 ⟨some 40, .bin .add (.t 39 false) (.c (.int .i64 1)), none⟩,
 ⟨some 41, .call (.f n_sexpr_valid) [.t 38 true, .t 40 true] false, none⟩,
 ⟨some 42, .un .not (.t 41 false), none⟩] [1, 32, 33, 34, 42])
 (.cond (.t 42 false)
 (.seq (.region [⟨some 4, .mv (.c (.bool false)), none⟩] [4])
 (.ret))
 (.skip)))))
 (.region [⟨some 43, .bin .add (.t 34 false) (.c (.int .i64 1)), none⟩,
 ⟨some 34, .mv (.t 43 true), none⟩] [1, 32, 33, 34])))
def l_sexpr_valid_0 : ICode :=
 .seq (.region [⟨some 18, .bin .lss (.t 17 false) (.t 16 false), none⟩] [2, 16, 17, 18])
 (.seq (.cond (.t 18 false)
 (.skip)
 (.exit 0))
 (.seq (.block 1
 (.seq (.region [⟨some 19, .mv (.t 17 false), none⟩,
 ⟨some 5, .mv (.t 19 true), none⟩] [2, 5, 16, 17])
 (.seq (.region [⟨some 20, .faddr (.t 2 false) 0, none⟩,
 ⟨some 21, .load (.t 20 false) (.loc 2) 1 false false, none⟩,
 ⟨some 22, .mv (.t 5 true), none⟩,
 ⟨some 23, .idxS (.t 21 false) (.t 22 false), none⟩,
 ⟨some 24, .call (.f n_sexpr_plain) [.t 23 true] false, none⟩,
 ⟨some 25, .un .not (.t 24 false), none⟩] [2, 16, 17, 25])
 (.cond (.t 25 false)
 (.seq (.region [⟨some 4, .mv (.c (.bool false)), none⟩] [4])
 (.ret))
 (.skip)))))
 (.region [⟨some 26, .bin .add (.t 17 false) (.c (.int .i64 1)), none⟩,
 ⟨some 17, .mv (.t 26 true), none⟩] [2, 16, 17])))
def i_sexpr_valid : IFun := ⟨true, 2,
 .seq (.region [⟨some 2, .box false (.t 0 true), none⟩,
 ⟨some 4, .mv (.c (.bool false)), none⟩] [1, 2])
 (.seq (.seq (.region [⟨some 8, .mv (.t 1 false), none⟩,
 ⟨some 9, .bin .add (.t 8 false) (.c (.int .i64 1)), none⟩,
 ⟨some 10, .bin .gtr (.t 9 false) (.c (.int .i64 64)), none⟩] [1, 2, 10])
 (.cond (.t 10 false)
 (.seq (.region [⟨some 4, .mv (.c (.bool false)), none⟩] [4])
 (.ret))
 (.skip)))
 (.seq (.seq (.region [⟨some 11, .faddr (.t 2 false) 0, none⟩,
 ⟨some 12, .load (.t 11 false) (.loc 2) 1 false false, none⟩,
 ⟨some 13, .bin .neq (.t 12 false) (.c (.str [])), none⟩] [1, 2, 13])
 (.cond (.t 13 false)
 (.seq (.seq (.region [⟨some 14, .faddr (.t 2 false) 0, none⟩,
 ⟨some 15, .load (.t 14 false) (.loc 2) 1 false false, none⟩,
 ⟨some 16, .len (.t 15 false) .str, none⟩,
 ⟨some 17, .mv (.c (.int .i64 0)), none⟩] [2, 16, 17])
 (.block 0
 (.loop l_sexpr_valid_0)))
 (.seq (.region [⟨some 27, .faddr (.t 2 false) 1, none⟩,
 ⟨some 28, .load (.t 27 false) (.loc 2) 1 false false, none⟩,
 ⟨some 29, .len (.t 28 false) .list, none⟩,
 ⟨some 30, .bin .eql (.t 29 false) (.c (.int .i64 0)), none⟩,
 ⟨some 4, .mv (.t 30 true), none⟩] [4])
 (.ret)))
 (.skip)))
 (.seq (.seq (.region [⟨some 31, .faddr (.t 2 false) 1, none⟩,
 ⟨some 32, .load (.t 31 false) (.loc 2) 1 false false, none⟩,
 ⟨some 33, .len (.t 32 false) .list, none⟩,
 ⟨some 34, .mv (.c (.int .i64 0)), none⟩] [1, 32, 33, 34])
 (.block 2
 (.loop l_sexpr_valid_1)))
 (.seq (.region [⟨some 4, .mv (.c (.bool true)), none⟩] [4])
 (.ret))))),
 [.tmp 4], none, none⟩
def l_saturateref05_right_0 : ICode :=
 .seq (.seq (.region [⟨some 20, .mv (.t 3 false), none⟩,
 ⟨some 21, .faddr (.t 1 false) 1, none⟩,
 ⟨some 22, .load (.t 21 false) (.loc 1) 1 false false, none⟩,
 ⟨some 23, .len (.t 22 false) .list, none⟩,
 ⟨some 24, .bin .lss (.t 20 false) (.t 23 false), none⟩] [1, 3, 24])
 (.cond (.t 24 false)
 (.skip)
 (.exit 0)))
 (.seq (.block 1
 (.seq (.region [⟨some 27, .faddr (.t 1 false) 1, none⟩,
 ⟨some 28, .load (.t 27 false) (.loc 1) 1 false false, none⟩,
 ⟨some 29, .mv (.t 3 false), none⟩,
 ⟨some 30, .iaddrL (.t 28 false) (.t 29 false) 2, none⟩,
 ⟨some 31, .load (.t 30 false) .elem 2 true false, none⟩,
 ⟨some 32, .call (.f n_saturateref05_right) [.t 31 true] false, none⟩,
 ⟨some 33, .un .not (.t 32 false), none⟩] [1, 3, 33])
 (.cond (.t 33 false)
 (.seq (.region [⟨some 2, .mv (.c (.bool false)), none⟩] [2])
 (.ret))
 (.skip))))
 (.region [⟨some 25, .mv (.t 3 true), none⟩,
 ⟨some 26, .bin .add (.t 25 false) (.c (.int .i64 1)), none⟩,
 ⟨some 3, .mv (.t 26 true), none⟩] [1, 3]))
def i_saturateref05_right : IFun := ⟨true, 1,
 .seq (.region [⟨some 1, .box false (.t 0 true), none⟩,
 ⟨some 2, .mv (.c (.bool false)), none⟩] [1])
 (.seq (.seq (.region [⟨some 4, .faddr (.t 1 false) 0, none⟩,
 ⟨some 5, .load (.t 4 false) (.loc 1) 1 false false, none⟩,
 ⟨some 6, .bin .neq (.t 5 false) (.c (.str [])), none⟩] [1, 6])
 (.cond (.t 6 false)
 (.seq (.draw [⟨some 7, .faddr (.t 1 false) 1, none⟩,
 ⟨some 8, .load (.t 7 false) (.loc 1) 1 false false, none⟩,
 ⟨some 9, .len (.t 8 false) .list, none⟩,
 ⟨some 10, .bin .eql (.t 9 false) (.c (.int .i64 0)), none⟩,
 ⟨some 11, .mv (.t 10 true), none⟩,
 ⟨some 12, .faddr (.t 1 false) 0, (some (11, true))⟩,
 ⟨some 13, .load (.t 12 false) (.loc 1) 1 false false, (some (11, true))⟩,
 ⟨some 14, .call (.f n_saturateref05_atom) [.t 13 true, .c (.int .i64 0)] true, (some (11, true))⟩,
 ⟨some 15, .faddr (.t 1 false) 0, (some (11, true))⟩,
 ⟨some 16, .load (.t 15 false) (.loc 1) 1 false false, (some (11, true))⟩,
 ⟨some 17, .len (.t 16 false) .str, (some (11, true))⟩,
 ⟨some 18, .bin .eql (.t 14 false) (.t 17 false), (some (11, true))⟩,
 ⟨some 19, .pick (.t 11 false) (.t 18 false) (.c (.bool false)), none⟩,
 ⟨some 2, .mv (.t 19 true), none⟩] [0, 1, 2, 3, 4, 5, 6, 8, 9, 10, 7, 11, 12, 13] [7] [2])
 (.ret))
 (.skip)))
 (.seq (.seq (.region [⟨some 3, .mv (.c (.int .i64 0)), none⟩] [1, 3])
 (.block 0
 (.loop l_saturateref05_right_0)))
 (.seq (.region [⟨some 2, .mv (.c (.bool true)), none⟩] [2])
 (.ret)))),
 [.tmp 2], none, none⟩
def l_slices_EqualFunc_Sexp_Sexp_Sexp_Sexp_0 : ICode :=
 .seq (.region [⟨some 18, .bin .lss (.t 17 false) (.t 16 false), none⟩] [1, 2, 15, 16, 17, 18])
 (.seq (.cond (.t 18 false)
 (.skip)
 (.exit 0))
 (.seq (.block 1
 (.seq (.region [⟨some 19, .mv (.t 17 false), none⟩,
 ⟨some 20, .iaddrL (.t 15 false) (.t 17 false) 2, none⟩,
 ⟨some 21, .load (.t 20 false) .elem 2 true false, none⟩,
 ⟨some 8, .alloc false 0 [.str [], .list [] .nil], none⟩,
 ⟨some 7, .mv (.t 19 true), none⟩,
 ⟨none, .store (.t 8 false) (.loc 8) (.t 21 true) 2, none⟩] [1, 2, 7, 8, 15, 16, 17])
 (.seq (.region [⟨some 22, .mv (.t 1 false), none⟩,
 ⟨some 23, .mv (.t 7 true), none⟩,
 ⟨some 24, .iaddrL (.t 22 false) (.t 23 false) 2, none⟩,
 ⟨some 25, .load (.t 24 false) .elem 2 true false, none⟩,
 ⟨some 9, .alloc false 0 [.str [], .list [] .nil], none⟩,
 ⟨none, .store (.t 9 false) (.loc 9) (.t 25 true) 2, none⟩] [1, 2, 8, 9, 15, 16, 17])
 (.seq (.region [⟨some 26, .mv (.t 2 false), none⟩,
 ⟨some 27, .load (.t 8 false) (.loc 8) 2 true false, none⟩,
 ⟨some 28, .load (.t 9 false) (.loc 9) 2 true false, none⟩,
 ⟨some 29, .call (.t 26 false) [.t 27 true, .t 28 true] false, none⟩,
 ⟨some 30, .un .not (.t 29 false), none⟩] [1, 2, 15, 16, 17, 30])
 (.cond (.t 30 false)
 (.seq (.region [⟨some 6, .mv (.c (.bool false)), none⟩] [6])
 (.ret))
 (.skip))))))
 (.region [⟨some 31, .bin .add (.t 17 false) (.c (.int .i64 1)), none⟩,
 ⟨some 17, .mv (.t 31 true), none⟩] [1, 2, 15, 16, 17])))
def i_slices_EqualFunc_Sexp_Sexp_Sexp_Sexp : IFun := ⟨true, 3,
 .seq (.region [⟨some 6, .mv (.c (.bool false)), none⟩] [0, 1, 2])
 (.seq (.seq (.region [⟨some 10, .mv (.t 0 false), none⟩,
 ⟨some 11, .len (.t 10 false) .list, none⟩,
 ⟨some 12, .mv (.t 1 false), none⟩,
 ⟨some 13, .len (.t 12 false) .list, none⟩,
 ⟨some 14, .bin .neq (.t 11 false) (.t 13 false), none⟩] [0, 1, 2, 14])
 (.cond (.t 14 false)
 (.seq (.region [⟨some 6, .mv (.c (.bool false)), none⟩] [6])
 (.ret))
 (.skip)))
 (.seq (.seq (.region [⟨some 15, .mv (.t 0 true), none⟩,
 ⟨some 16, .len (.t 15 false) .list, none⟩,
 ⟨some 17, .mv (.c (.int .i64 0)), none⟩] [1, 2, 15, 16, 17])
 (.block 0
 (.loop l_slices_EqualFunc_Sexp_Sexp_Sexp_Sexp_0)))
 (.seq (.region [⟨some 6, .mv (.c (.bool true)), none⟩] [6])
 (.ret)))),
 [.tmp 6], none, none⟩
def l_saturateref05_SameAll_0 : ICode :=
 .seq (.seq (.region [⟨some 11, .mv (.t 5 false), none⟩,
 ⟨some 12, .mv (.t 0 false), none⟩,
 ⟨some 13, .len (.t 12 false) .list, none⟩,
 ⟨some 14, .bin .lss (.t 11 false) (.t 13 false), none⟩] [0, 1, 5, 14])
 (.cond (.t 14 false)
 (.skip)
 (.exit 0)))
 (.seq (.block 1
 (.seq (.draw [⟨some 17, .mv (.t 0 false), none⟩,
 ⟨some 18, .mv (.t 5 false), none⟩,
 ⟨some 19, .iaddrL (.t 17 false) (.t 18 false) 2, none⟩,
 ⟨some 20, .load (.t 19 false) .elem 2 true false, none⟩,
 ⟨some 21, .mv (.t 1 false), none⟩,
 ⟨some 22, .mv (.t 5 false), none⟩,
 ⟨some 23, .iaddrL (.t 21 false) (.t 22 false) 2, none⟩,
 ⟨some 24, .load (.t 23 false) .elem 2 true false, none⟩,
 ⟨some 25, .call (.f n_saturateref05_Same) [.t 20 true, .t 24 true] true, none⟩,
 ⟨some 26, .un .not (.t 25 false), none⟩] [0, 1, 2, 3, 4, 5, 6, 7, 8, 9] [8] [0, 1, 5, 26])
 (.cond (.t 26 false)
 (.seq (.region [⟨some 4, .mv (.c (.bool false)), none⟩] [4])
 (.ret))
 (.skip))))
 (.region [⟨some 15, .mv (.t 5 true), none⟩,
 ⟨some 16, .bin .add (.t 15 false) (.c (.int .i64 1)), none⟩,
 ⟨some 5, .mv (.t 16 true), none⟩] [0, 1, 5]))
def i_saturateref05_SameAll : IFun := ⟨true, 2,
 .seq (.region [⟨some 4, .mv (.c (.bool false)), none⟩] [0, 1])
 (.seq (.seq (.region [⟨some 6, .mv (.t 0 false), none⟩,
 ⟨some 7, .len (.t 6 false) .list, none⟩,
 ⟨some 8, .mv (.t 1 false), none⟩,
 ⟨some 9, .len (.t 8 false) .list, none⟩,
 ⟨some 10, .bin .neq (.t 7 false) (.t 9 false), none⟩] [0, 1, 10])
 (.cond (.t 10 false)
 (.seq (.region [⟨some 4, .mv (.c (.bool false)), none⟩] [4])
 (.ret))
 (.skip)))
 (.seq (.seq (.region [⟨some 5, .mv (.c (.int .i64 0)), none⟩] [0, 1, 5])
 (.block 0
 (.loop l_saturateref05_SameAll_0)))
 (.seq (.region [⟨some 4, .mv (.c (.bool true)), none⟩] [4])
 (.ret)))),
 [.tmp 4], none, none⟩
def l_sexpr_all_0 : ICode :=
 .seq (.seq (.region [⟨some 16, .mv (.t 6 false), none⟩,
 ⟨some 17, .nilchk (.t 16 false), none⟩,
 ⟨some 18, .faddr (.t 17 false) 1, none⟩,
 ⟨some 19, .load (.t 18 false) .heap 1 false false, none⟩,
 ⟨some 20, .mv (.t 0 false), none⟩,
 ⟨some 21, .len (.t 20 false) .str, none⟩,
 ⟨some 22, .bin .lss (.t 19 false) (.t 21 false), none⟩] [0, 2, 3, 4, 5, 6, 22])
 (.cond (.t 22 false)
 (.skip)
 (.exit 0)))
 (.seq (.block 1
 (.seq (.draw [⟨some 25, .load (.t 3 false) (.loc 3) 1 false true, none⟩,
 ⟨some 26, .mv (.t 6 false), none⟩,
 ⟨some 27, .nilchk (.t 26 false), none⟩,
 ⟨some 28, .faddr (.t 27 false) 1, none⟩,
 ⟨some 29, .load (.t 28 false) .heap 1 false false, none⟩,
 ⟨some 30, .bslice (.int .i64 0) 0 1 [(0, .t 29 true)], none⟩,
 ⟨some 31, .append (.t 25 true) (.t 30 false) 1 0 8 false, none⟩,
 ⟨none, .store (.t 3 false) (.loc 3) (.t 31 true) 1, none⟩] [0, 1, 2, 3, 4, 5, 6, 7] [] [0, 2, 3, 4, 5, 6])
 (.draw [⟨some 32, .load (.t 2 false) (.loc 2) 1 false true, none⟩,
 ⟨some 33, .mv (.t 6 false), none⟩,
 ⟨some 34, .call (.f n_sexpr_parser_expression) [.t 33 true, .c (.int .i64 0)] false, none⟩,
 ⟨some 35, .len (.t 32 false) .list, none⟩,
 ⟨some 36, .bslice (.agg [.str [], .list [] .nil]) 0 1 [(0, .c (.agg [.str [], .list [] .nil]))], none⟩,
 ⟨some 37, .append (.t 32 true) (.t 36 false) 2 0 40 true, none⟩,
 ⟨some 38, .iaddrL (.t 37 false) (.t 35 false) 2, none⟩,
 ⟨none, .store (.t 38 false) (.last 37) (.t 34 true) 2, none⟩,
 ⟨none, .store (.t 2 false) (.loc 2) (.t 37 true) 1, none⟩] [0, 1, 3, 4, 2, 5, 6, 7, 8] [2] [0, 2, 3, 4, 5, 6])))
 (.region [⟨some 23, .mv (.t 6 false), none⟩,
 ⟨some 24, .call (.f n_sexpr_parser_skip) [.t 23 true] false, none⟩] [0, 2, 3, 4, 5, 6]))
def i_sexpr_all : IFun := ⟨true, 1,
 .seq (.region [⟨some 2, .alloc false 0 [.list [] .nil], none⟩,
 ⟨some 3, .alloc false 0 [.list [] .nil], none⟩,
 ⟨some 4, .alloc false 0 [.int .i64 0], none⟩,
 ⟨some 5, .alloc false 0 [.int .i64 0], none⟩] [0, 2, 3, 4, 5])
 (.seq (.seq (.region [⟨some 7, .mv (.t 0 false), none⟩,
 ⟨some 8, .len (.t 7 false) .str, none⟩,
 ⟨some 9, .bin .gtr (.t 8 false) (.c (.int .i64 65536)), none⟩] [0, 2, 3, 4, 5, 9])
 (.cond (.t 9 false)
 (.seq (.region [⟨none, .store (.t 2 false) (.loc 2) (.c (.list [] .nil)) 1, none⟩,
 ⟨none, .store (.t 3 false) (.loc 3) (.c (.list [] .nil)) 1, none⟩,
 ⟨none, .store (.t 4 false) (.loc 4) (.c (.int .i64 0)) 1, none⟩,
 ⟨none, .store (.t 5 false) (.loc 5) (.c (.int .i64 7)) 1, none⟩] [2, 3, 4, 5])
 (.ret))
 (.skip)))
 (.skip)),
 [.cell 2 1 false, .cell 3 1 false, .cell 4 1 false, .cell 5 1 false], none, some ⟨n_sexpr_all_1, [2, 3, 4, 5], 10,
 .seq (.region [⟨some 11, .mv (.t 0 false), none⟩,
 ⟨some 12, .build [.str [], .int .i64 0, .list [] .nil] [(0, 1, .t 11 true)], none⟩,
 ⟨some 13, .box true (.t 12 true), none⟩,
 ⟨some 6, .mv (.t 13 true), none⟩] [0, 2, 3, 4, 5, 6])
 (.seq (.seq (.region [⟨some 14, .mv (.t 6 false), none⟩,
 ⟨some 15, .call (.f n_sexpr_parser_skip) [.t 14 true] false, none⟩] [0, 2, 3, 4, 5, 6])
 (.block 0
 (.loop l_sexpr_all_0)))
 (.seq (.draw [⟨some 39, .load (.t 2 false) (.loc 2) 1 false false, none⟩,
 ⟨some 40, .load (.t 3 false) (.loc 3) 1 false false, none⟩,
 ⟨none, .store (.t 2 false) (.loc 2) (.t 39 true) 1, none⟩,
 ⟨none, .store (.t 3 false) (.loc 3) (.t 40 true) 1, none⟩,
 ⟨none, .store (.t 4 false) (.loc 4) (.c (.int .i64 0)) 1, none⟩,
 ⟨none, .store (.t 5 false) (.loc 5) (.c (.int .i64 0)) 1, none⟩] [0, 1, 2, 3, 4, 5] [] [2, 3, 4, 5])
 (.ret)))⟩⟩
def l_sexpr_write_0 : ICode :=
 .seq (.region [⟨some 19, .bin .lss (.t 18 false) (.t 17 false), none⟩] [0, 16, 17, 18, 19])
 (.seq (.cond (.t 19 false)
 (.skip)
 (.exit 0))
 (.seq (.block 1
 (.seq (.region [⟨some 20, .mv (.t 18 false), none⟩,
 ⟨some 21, .iaddrL (.t 16 false) (.t 18 false) 2, none⟩,
 ⟨some 22, .load (.t 21 false) .elem 2 true false, none⟩,
 ⟨some 5, .alloc false 0 [.str [], .list [] .nil], none⟩,
 ⟨some 4, .mv (.t 20 true), none⟩,
 ⟨none, .store (.t 5 false) (.loc 5) (.t 22 true) 2, none⟩] [0, 4, 5, 16, 17, 18])
 (.seq (.seq (.region [⟨some 23, .mv (.t 4 true), none⟩,
 ⟨some 24, .bin .gtr (.t 23 false) (.c (.int .i64 0)), none⟩] [0, 5, 16, 17, 18, 24])
 (.cond (.t 24 false)
 (.region [⟨some 25, .mv (.t 0 false), none⟩,
 ⟨some 26, .call (.f n_strings_Builder_WriteByte) [.t 25 true, .c (.int .u8 32)] false, none⟩] [0, 5, 16, 17, 18])
 (.skip)))
 (.region [⟨some 27, .mv (.t 0 false), none⟩,
 ⟨some 28, .load (.t 5 false) (.loc 5) 2 true false, none⟩,
 ⟨some 29, .call (.f n_sexpr_write) [.t 27 true, .t 28 true] false, none⟩] [0, 16, 17, 18]))))
 (.region [⟨some 30, .bin .add (.t 18 false) (.c (.int .i64 1)), none⟩,
 ⟨some 18, .mv (.t 30 true), none⟩] [0, 16, 17, 18])))
def i_sexpr_write : IFun := ⟨false, 2,
 .seq (.region [⟨some 3, .box false (.t 1 true), none⟩] [0, 3])
 (.seq (.seq (.region [⟨some 6, .faddr (.t 3 false) 0, none⟩,
 ⟨some 7, .load (.t 6 false) (.loc 3) 1 false false, none⟩,
 ⟨some 8, .bin .neq (.t 7 false) (.c (.str [])), none⟩] [0, 3, 8])
 (.cond (.t 8 false)
 (.seq (.region [⟨some 9, .mv (.t 0 true), none⟩,
 ⟨some 10, .faddr (.t 3 false) 0, none⟩,
 ⟨some 11, .load (.t 10 false) (.loc 3) 1 false false, none⟩,
 ⟨some 12, .call (.f n_strings_Builder_WriteString) [.t 9 true, .t 11 true] false, none⟩] [])
 (.ret))
 (.skip)))
 (.seq (.region [⟨some 13, .mv (.t 0 false), none⟩,
 ⟨some 14, .call (.f n_strings_Builder_WriteByte) [.t 13 true, .c (.int .u8 40)] false, none⟩] [0, 3])
 (.seq (.seq (.region [⟨some 15, .faddr (.t 3 false) 1, none⟩,
 ⟨some 16, .load (.t 15 false) (.loc 3) 1 false false, none⟩,
 ⟨some 17, .len (.t 16 false) .list, none⟩,
 ⟨some 18, .mv (.c (.int .i64 0)), none⟩] [0, 16, 17, 18])
 (.block 0
 (.loop l_sexpr_write_0)))
 (.region [⟨some 31, .mv (.t 0 true), none⟩,
 ⟨some 32, .call (.f n_strings_Builder_WriteByte) [.t 31 true, .c (.int .u8 41)] false, none⟩] [])))),
 [], none, none⟩
def i_strings_Builder_String : IFun := ⟨false, 1,
 .seq (.region [⟨some 2, .mv (.c (.str [])), none⟩] [0])
 (.seq (.draw [⟨some 3, .mv (.t 0 false), none⟩,
 ⟨some 4, .nilchk (.t 3 false), none⟩,
 ⟨some 5, .faddr (.t 4 false) 1, none⟩,
 ⟨some 6, .load (.t 5 false) .heap 1 false false, none⟩,
 ⟨some 7, .sdata (.t 6 false) 5, none⟩,
 ⟨some 8, .mv (.t 0 false), none⟩,
 ⟨some 9, .nilchk (.t 8 false), none⟩,
 ⟨some 10, .faddr (.t 9 false) 1, none⟩,
 ⟨some 11, .load (.t 10 false) .heap 1 false false, none⟩,
 ⟨some 12, .len (.t 11 false) .list, none⟩,
 ⟨some 13, .ustr (.t 7 false) (.t 12 false) 5, none⟩,
 ⟨some 2, .mv (.t 13 true), none⟩] [0, 1, 2, 3, 4, 5, 6, 7, 8, 9, 10, 11] [] [2])
 (.ret)),
 [.tmp 2], none, none⟩
def i_sexpr_plain : IFun := ⟨true, 1,
 .seq (.region [⟨some 2, .mv (.c (.bool false)), none⟩] [0])
 (.seq (.region [⟨some 3, .mv (.t 0 false), none⟩,
 ⟨some 4, .bin .geq (.t 3 false) (.c (.int .u8 33)), none⟩,
 ⟨some 5, .mv (.t 4 true), none⟩,
 ⟨some 6, .mv (.t 0 false), (some (5, true))⟩,
 ⟨some 7, .bin .leq (.t 6 false) (.c (.int .u8 126)), (some (5, true))⟩,
 ⟨some 8, .pick (.t 5 false) (.t 7 false) (.c (.bool false)), none⟩,
 ⟨some 9, .mv (.t 8 true), none⟩,
 ⟨some 10, .mv (.t 0 false), (some (9, true))⟩,
 ⟨some 11, .bin .neq (.t 10 false) (.c (.int .u8 40)), (some (9, true))⟩,
 ⟨some 12, .pick (.t 9 false) (.t 11 false) (.c (.bool false)), none⟩,
 ⟨some 13, .mv (.t 12 true), none⟩,
 ⟨some 14, .mv (.t 0 false), (some (13, true))⟩,
 ⟨some 15, .bin .neq (.t 14 false) (.c (.int .u8 41)), (some (13, true))⟩,
 ⟨some 16, .pick (.t 13 false) (.t 15 false) (.c (.bool false)), none⟩,
 ⟨some 17, .mv (.t 16 true), none⟩,
 ⟨some 18, .mv (.t 0 true), (some (17, true))⟩,
 ⟨some 19, .bin .neq (.t 18 false) (.c (.int .u8 59)), (some (17, true))⟩,
 ⟨some 20, .pick (.t 17 false) (.t 19 false) (.c (.bool false)), none⟩,
 ⟨some 2, .mv (.t 20 true), none⟩] [2])
 (.ret)),
 [.tmp 2], none, none⟩
def l_saturateref05_atom_0 : ICode :=
 .seq (.seq (.region [⟨some 5, .mv (.t 1 false), none⟩,
 ⟨some 6, .mv (.t 0 false), none⟩,
 ⟨some 7, .len (.t 6 false) .str, none⟩,
 ⟨some 8, .bin .lss (.t 5 false) (.t 7 false), none⟩,
 ⟨some 9, .mv (.t 8 true), none⟩,
 ⟨some 10, .mv (.t 0 false), (some (9, true))⟩,
 ⟨some 11, .mv (.t 1 false), (some (9, true))⟩,
 ⟨some 12, .idxS (.t 10 false) (.t 11 false), (some (9, true))⟩,
 ⟨some 13, .call (.f n_saturateref05_Byte) [.t 12 true] false, (some (9, true))⟩,
 ⟨some 14, .pick (.t 9 false) (.t 13 false) (.c (.bool false)), none⟩] [0, 1, 14])
 (.cond (.t 14 false)
 (.skip)
 (.exit 0)))
 (.block 1
 (.region [⟨some 15, .mv (.t 1 true), none⟩,
 ⟨some 16, .bin .add (.t 15 false) (.c (.int .i64 1)), none⟩,
 ⟨some 1, .mv (.t 16 true), none⟩] [0, 1]))
def i_saturateref05_atom : IFun := ⟨true, 2,
 .seq (.region [⟨some 4, .mv (.c (.int .i64 0)), none⟩] [0, 1])
 (.seq (.block 0
 (.loop l_saturateref05_atom_0))
 (.seq (.region [⟨some 17, .mv (.t 1 true), none⟩,
 ⟨some 4, .mv (.t 17 true), none⟩] [4])
 (.ret))),
 [.tmp 4], none, none⟩
def i_sexpr_all_1 : IFun := ⟨false, 4,
 .block 0
 (.seq (.region [⟨some 9, .eq false .iface (.t 7 false) (.c (.nili)), none⟩] [0, 1, 2, 3, 7, 9])
 (.cond (.t 9 false)
 (.region [⟨some 4, .mv (.t 7 true), none⟩] [])
 (.seq (.region [⟨some 10, .assert (.t 7 false) 51 (.agg [.int .i64 0, .int .i64 0]) true, none⟩,
 ⟨some 11, .extract (.t 10 false) 1, none⟩,
 ⟨some 12, .extract (.t 10 true) 0, none⟩] [0, 1, 2, 3, 7, 11, 12])
 (.cond (.t 11 false)
 (.seq (.region [⟨some 5, .alloc false 0 [.int .i64 0, .int .i64 0], none⟩,
 ⟨none, .store (.t 5 false) (.loc 5) (.t 12 true) 2, none⟩] [0, 1, 2, 3, 5])
 (.draw [⟨some 13, .faddr (.t 5 false) 0, none⟩,
 ⟨some 14, .load (.t 13 false) (.loc 5) 1 false false, none⟩,
 ⟨some 15, .faddr (.t 5 false) 1, none⟩,
 ⟨some 16, .load (.t 15 false) (.loc 5) 1 false false, none⟩,
 ⟨none, .store (.t 0 false) .heap (.c (.list [] .nil)) 1, none⟩,
 ⟨none, .store (.t 1 false) .heap (.c (.list [] .nil)) 1, none⟩,
 ⟨none, .store (.t 2 false) .heap (.t 14 true) 1, none⟩,
 ⟨none, .store (.t 3 false) .heap (.t 16 true) 1, none⟩] [0, 1, 2, 3, 4, 5, 6, 7] [] []))
 (.seq (.region [⟨some 6, .mv (.t 7 true), none⟩] [6])
 (.region [⟨some 8, .mv (.t 6 true), none⟩,
 ⟨none, .panic (.t 8 false), none⟩] [])))))),
 [], some 7, none⟩
def l_sexpr_parser_skip_1 : ICode :=
 .seq (.seq (.draw [⟨some 35, .mv (.t 0 false), none⟩,
 ⟨some 36, .nilchk (.t 35 false), none⟩,
 ⟨some 37, .faddr (.t 36 false) 1, none⟩,
 ⟨some 38, .load (.t 37 false) .heap 1 false false, none⟩,
 ⟨some 39, .mv (.t 0 false), none⟩,
 ⟨some 40, .nilchk (.t 39 false), none⟩,
 ⟨some 41, .faddr (.t 40 false) 0, none⟩,
 ⟨some 42, .load (.t 41 false) .heap 1 false false, none⟩,
 ⟨some 43, .len (.t 42 false) .str, none⟩,
 ⟨some 44, .bin .lss (.t 38 false) (.t 43 false), none⟩,
 ⟨some 45, .mv (.t 44 true), none⟩,
 ⟨some 46, .mv (.t 0 false), (some (45, true))⟩,
 ⟨some 47, .nilchk (.t 46 false), (some (45, true))⟩,
 ⟨some 48, .faddr (.t 47 false) 0, (some (45, true))⟩,
 ⟨some 49, .load (.t 48 false) .heap 1 false false, (some (45, true))⟩,
 ⟨some 50, .mv (.t 0 false), (some (45, true))⟩,
 ⟨some 51, .nilchk (.t 50 false), (some (45, true))⟩,
 ⟨some 52, .faddr (.t 51 false) 1, (some (45, true))⟩,
 ⟨some 53, .load (.t 52 false) .heap 1 false false, (some (45, true))⟩,
 ⟨some 54, .idxS (.t 49 false) (.t 53 false), (some (45, true))⟩,
 ⟨some 55, .bin .neq (.t 54 false) (.c (.int .u8 10)), (some (45, true))⟩,
 ⟨some 56, .pick (.t 45 false) (.t 55 false) (.c (.bool false)), none⟩] [0, 1, 2, 3, 4, 5, 6, 7, 8, 9, 10, 11, 12, 13, 14, 15, 16, 17, 18, 19, 20, 21] [] [0, 56])
 (.cond (.t 56 false)
 (.skip)
 (.exit 3)))
 (.block 4
 (.region [⟨some 57, .mv (.t 0 false), none⟩,
 ⟨some 58, .nilchk (.t 57 false), none⟩,
 ⟨some 59, .faddr (.t 58 false) 1, none⟩,
 ⟨some 60, .load (.t 59 false) .heap 1 false false, none⟩,
 ⟨some 61, .bin .add (.t 60 false) (.c (.int .i64 1)), none⟩,
 ⟨some 62, .nilchk (.t 57 false), none⟩,
 ⟨some 63, .faddr (.t 62 false) 1, none⟩,
 ⟨none, .store (.t 63 false) .heap (.t 61 true) 1, none⟩] [0]))
def l_sexpr_parser_skip_0 : ICode :=
 .seq (.seq (.draw [⟨some 2, .mv (.t 0 false), none⟩,
 ⟨some 3, .nilchk (.t 2 false), none⟩,
 ⟨some 4, .faddr (.t 3 false) 1, none⟩,
 ⟨some 5, .load (.t 4 false) .heap 1 false false, none⟩,
 ⟨some 6, .mv (.t 0 false), none⟩,
 ⟨some 7, .nilchk (.t 6 false), none⟩,
 ⟨some 8, .faddr (.t 7 false) 0, none⟩,
 ⟨some 9, .load (.t 8 false) .heap 1 false false, none⟩,
 ⟨some 10, .len (.t 9 false) .str, none⟩,
 ⟨some 11, .bin .lss (.t 5 false) (.t 10 false), none⟩] [0, 1, 2, 3, 4, 5, 6, 7, 8, 9] [] [0, 11])
 (.cond (.t 11 false)
 (.skip)
 (.exit 0)))
 (.block 1
 (.seq (.draw [⟨some 12, .mv (.t 0 false), none⟩,
 ⟨some 13, .nilchk (.t 12 false), none⟩,
 ⟨some 14, .faddr (.t 13 false) 0, none⟩,
 ⟨some 15, .load (.t 14 false) .heap 1 false false, none⟩,
 ⟨some 16, .mv (.t 0 false), none⟩,
 ⟨some 17, .nilchk (.t 16 false), none⟩,
 ⟨some 18, .faddr (.t 17 false) 1, none⟩,
 ⟨some 19, .load (.t 18 false) .heap 1 false false, none⟩,
 ⟨some 20, .idxS (.t 15 false) (.t 19 false), none⟩] [0, 1, 2, 3, 4, 5, 6, 7, 8] [] [0, 20])
 (.block 2
 (.seq (.seq (.region [⟨some 22, .bin .eql (.t 20 false) (.c (.int .u8 32)), none⟩,
 ⟨some 21, .mv (.t 22 true), none⟩] [0, 20, 21])
 (.cond (.t 21 false)
 (.skip)
 (.seq (.region [⟨some 23, .bin .eql (.t 20 false) (.c (.int .u8 9)), none⟩,
 ⟨some 21, .mv (.t 23 true), none⟩] [0, 20, 21])
 (.cond (.t 21 false)
 (.skip)
 (.seq (.region [⟨some 24, .bin .eql (.t 20 false) (.c (.int .u8 10)), none⟩,
 ⟨some 21, .mv (.t 24 true), none⟩] [0, 20, 21])
 (.cond (.t 21 false)
 (.skip)
 (.region [⟨some 25, .bin .eql (.t 20 false) (.c (.int .u8 13)), none⟩,
 ⟨some 21, .mv (.t 25 true), none⟩] [0, 20, 21])))))))
 (.cond (.t 21 false)
 (.region [⟨some 26, .mv (.t 0 false), none⟩,
 ⟨some 27, .nilchk (.t 26 false), none⟩,
 ⟨some 28, .faddr (.t 27 false) 1, none⟩,
 ⟨some 29, .load (.t 28 false) .heap 1 false false, none⟩,
 ⟨some 30, .bin .add (.t 29 false) (.c (.int .i64 1)), none⟩,
 ⟨some 31, .nilchk (.t 26 false), none⟩,
 ⟨some 32, .faddr (.t 31 false) 1, none⟩,
 ⟨none, .store (.t 32 false) .heap (.t 30 true) 1, none⟩] [0])
 (.seq (.region [⟨some 34, .bin .eql (.t 20 false) (.c (.int .u8 59)), none⟩,
 ⟨some 33, .mv (.t 34 true), none⟩] [0, 33])
 (.cond (.t 33 false)
 (.block 3
 (.loop l_sexpr_parser_skip_1))
 (.ret))))))))
def i_sexpr_parser_skip : IFun := ⟨false, 1,
 .block 0
 (.loop l_sexpr_parser_skip_0),
 [], none, none⟩
def l_sexpr_parser_expression_1 : ICode :=
 .block 3
 (.seq (.region [⟨some 92, .mv (.t 0 false), none⟩,
 ⟨some 93, .call (.f n_sexpr_parser_skip) [.t 92 true] false, none⟩] [0, 1, 4, 7])
 (.seq (.seq (.draw [⟨some 94, .mv (.t 0 false), none⟩,
 ⟨some 95, .nilchk (.t 94 false), none⟩,
 ⟨some 96, .faddr (.t 95 false) 1, none⟩,
 ⟨some 97, .load (.t 96 false) .heap 1 false false, none⟩,
 ⟨some 98, .mv (.t 0 false), none⟩,
 ⟨some 99, .nilchk (.t 98 false), none⟩,
 ⟨some 100, .faddr (.t 99 false) 0, none⟩,
 ⟨some 101, .load (.t 100 false) .heap 1 false false, none⟩,
 ⟨some 102, .len (.t 101 false) .str, none⟩,
 ⟨some 103, .bin .eql (.t 97 false) (.t 102 false), none⟩] [0, 1, 2, 3, 4, 5, 6, 7, 8, 9] [] [0, 1, 4, 7, 103])
 (.cond (.t 103 false)
 (.region [⟨some 104, .mv (.t 0 false), none⟩,
 ⟨some 105, .mv (.t 0 false), none⟩,
 ⟨some 106, .nilchk (.t 105 false), none⟩,
 ⟨some 107, .faddr (.t 106 false) 1, none⟩,
 ⟨some 108, .load (.t 107 false) .heap 1 false false, none⟩,
 ⟨some 109, .call (.f n_sexpr_parser_fail) [.t 104 true, .t 108 true, .c (.int .i64 6)] false, none⟩] [0, 1, 4, 7])
 (.skip)))
 (.seq (.seq (.draw [⟨some 110, .mv (.t 0 false), none⟩,
 ⟨some 111, .nilchk (.t 110 false), none⟩,
 ⟨some 112, .faddr (.t 111 false) 0, none⟩,
 ⟨some 113, .load (.t 112 false) .heap 1 false false, none⟩,
 ⟨some 114, .mv (.t 0 false), none⟩,
 ⟨some 115, .nilchk (.t 114 false), none⟩,
 ⟨some 116, .faddr (.t 115 false) 1, none⟩,
 ⟨some 117, .load (.t 116 false) .heap 1 false false, none⟩,
 ⟨some 118, .idxS (.t 113 false) (.t 117 false), none⟩,
 ⟨some 119, .bin .eql (.t 118 false) (.c (.int .u8 41)), none⟩] [0, 1, 2, 3, 4, 5, 6, 7, 8, 9] [] [0, 1, 4, 7, 119])
 (.cond (.t 119 false)
 (.seq (.region [⟨some 120, .mv (.t 0 true), none⟩,
 ⟨some 121, .nilchk (.t 120 false), none⟩,
 ⟨some 122, .faddr (.t 121 false) 1, none⟩,
 ⟨some 123, .load (.t 122 false) .heap 1 false false, none⟩,
 ⟨some 124, .bin .add (.t 123 false) (.c (.int .i64 1)), none⟩,
 ⟨some 125, .nilchk (.t 120 false), none⟩,
 ⟨some 126, .faddr (.t 125 false) 1, none⟩,
 ⟨none, .store (.t 126 false) .heap (.t 124 true) 1, none⟩] [4, 7])
 (.seq (.region [⟨some 127, .load (.t 7 false) (.loc 7) 2 true false, none⟩,
 ⟨none, .store (.t 4 false) (.loc 4) (.t 127 true) 2, none⟩] [4])
 (.ret)))
 (.skip)))
 (.draw [⟨some 128, .faddr (.t 7 false) 1, none⟩,
 ⟨some 129, .load (.t 128 false) (.loc 7) 1 false true, none⟩,
 ⟨some 130, .mv (.t 0 false), none⟩,
 ⟨some 131, .mv (.t 1 false), none⟩,
 ⟨some 132, .bin .add (.t 131 false) (.c (.int .i64 1)), none⟩,
 ⟨some 133, .call (.f n_sexpr_parser_expression) [.t 130 true, .t 132 true] false, none⟩,
 ⟨some 134, .bslice (.agg [.str [], .list [] .nil]) 0 1 [(0, .t 133 true)], none⟩,
 ⟨some 135, .append (.t 129 true) (.t 134 false) 2 0 40 false, none⟩,
 ⟨some 136, .faddr (.t 7 false) 1, none⟩,
 ⟨none, .store (.t 136 false) (.loc 7) (.t 135 true) 1, none⟩] [0, 1, 2, 3, 4, 5, 6, 7, 8, 9] [5] [0, 1, 4, 7]))))
def l_sexpr_parser_expression_0 : ICode :=
 .seq (.seq (.draw [⟨some 45, .mv (.t 0 false), none⟩,
 ⟨some 46, .nilchk (.t 45 false), none⟩,
 ⟨some 47, .faddr (.t 46 false) 1, none⟩,
 ⟨some 48, .load (.t 47 false) .heap 1 false false, none⟩,
 ⟨some 49, .mv (.t 0 false), none⟩,
 ⟨some 50, .nilchk (.t 49 false), none⟩,
 ⟨some 51, .faddr (.t 50 false) 0, none⟩,
 ⟨some 52, .load (.t 51 false) .heap 1 false false, none⟩,
 ⟨some 53, .len (.t 52 false) .str, none⟩,
 ⟨some 54, .bin .lss (.t 48 false) (.t 53 false), none⟩,
 ⟨some 55, .mv (.t 54 true), none⟩,
 ⟨some 56, .mv (.t 0 false), (some (55, true))⟩,
 ⟨some 57, .nilchk (.t 56 false), (some (55, true))⟩,
 ⟨some 58, .faddr (.t 57 false) 0, (some (55, true))⟩,
 ⟨some 59, .load (.t 58 false) .heap 1 false false, (some (55, true))⟩,
 ⟨some 60, .mv (.t 0 false), (some (55, true))⟩,
 ⟨some 61, .nilchk (.t 60 false), (some (55, true))⟩,
 ⟨some 62, .faddr (.t 61 false) 1, (some (55, true))⟩,
 ⟨some 63, .load (.t 62 false) .heap 1 false false, (some (55, true))⟩,
 ⟨some 64, .idxS (.t 59 false) (.t 63 false), (some (55, true))⟩,
 ⟨some 65, .call (.f n_sexpr_plain) [.t 64 true] true, (some (55, true))⟩,
 ⟨some 66, .pick (.t 55 false) (.t 65 false) (.c (.bool false)), none⟩] [0, 1, 2, 3, 4, 5, 6, 7, 8, 9, 10, 11, 12, 13, 14, 15, 16, 17, 18, 19, 20, 21] [20] [0, 4, 6, 66])
 (.cond (.t 66 false)
 (.skip)
 (.exit 0)))
 (.block 1
 (.region [⟨some 67, .mv (.t 0 false), none⟩,
 ⟨some 68, .nilchk (.t 67 false), none⟩,
 ⟨some 69, .faddr (.t 68 false) 1, none⟩,
 ⟨some 70, .load (.t 69 false) .heap 1 false false, none⟩,
 ⟨some 71, .bin .add (.t 70 false) (.c (.int .i64 1)), none⟩,
 ⟨some 72, .nilchk (.t 67 false), none⟩,
 ⟨some 73, .faddr (.t 72 false) 1, none⟩,
 ⟨none, .store (.t 73 false) .heap (.t 71 true) 1, none⟩] [0, 4, 6]))
def i_sexpr_parser_expression : IFun := ⟨false, 2,
 .seq (.region [⟨some 4, .alloc false 0 [.str [], .list [] .nil], none⟩] [0, 1, 4])
 (.seq (.draw [⟨some 8, .mv (.t 0 false), none⟩,
 ⟨some 9, .nilchk (.t 8 false), none⟩,
 ⟨some 10, .faddr (.t 9 false) 0, none⟩,
 ⟨some 11, .load (.t 10 false) .heap 1 false false, none⟩,
 ⟨some 12, .mv (.t 0 false), none⟩,
 ⟨some 13, .nilchk (.t 12 false), none⟩,
 ⟨some 14, .faddr (.t 13 false) 1, none⟩,
 ⟨some 15, .load (.t 14 false) .heap 1 false false, none⟩,
 ⟨some 16, .idxS (.t 11 false) (.t 15 false), none⟩,
 ⟨some 5, .mv (.t 16 true), none⟩] [0, 1, 2, 3, 4, 5, 6, 7, 8, 9] [] [0, 1, 4, 5])
 (.seq (.seq (.region [⟨some 17, .mv (.t 5 false), none⟩,
 ⟨some 18, .bin .neq (.t 17 false) (.c (.int .u8 40)), none⟩,
 ⟨some 19, .mv (.t 18 true), none⟩,
 ⟨some 20, .mv (.t 5 false), (some (19, true))⟩,
 ⟨some 21, .call (.f n_sexpr_plain) [.t 20 true] false, (some (19, true))⟩,
 ⟨some 22, .un .not (.t 21 false), (some (19, true))⟩,
 ⟨some 23, .pick (.t 19 false) (.t 22 false) (.c (.bool false)), none⟩] [0, 1, 4, 5, 23])
 (.cond (.t 23 false)
 (.region [⟨some 24, .mv (.t 0 false), none⟩,
 ⟨some 25, .mv (.t 0 false), none⟩,
 ⟨some 26, .nilchk (.t 25 false), none⟩,
 ⟨some 27, .faddr (.t 26 false) 1, none⟩,
 ⟨some 28, .load (.t 27 false) .heap 1 false false, none⟩,
 ⟨some 29, .call (.f n_sexpr_parser_fail) [.t 24 true, .t 28 true, .c (.int .i64 6)] false, none⟩] [0, 1, 4, 5])
 (.skip)))
 (.seq (.seq (.region [⟨some 30, .mv (.t 1 false), none⟩,
 ⟨some 31, .bin .add (.t 30 false) (.c (.int .i64 1)), none⟩,
 ⟨some 32, .bin .gtr (.t 31 false) (.c (.int .i64 64)), none⟩] [0, 1, 4, 5, 32])
 (.cond (.t 32 false)
 (.region [⟨some 33, .mv (.t 0 false), none⟩,
 ⟨some 34, .mv (.t 0 false), none⟩,
 ⟨some 35, .nilchk (.t 34 false), none⟩,
 ⟨some 36, .faddr (.t 35 false) 1, none⟩,
 ⟨some 37, .load (.t 36 false) .heap 1 false false, none⟩,
 ⟨some 38, .call (.f n_sexpr_parser_fail) [.t 33 true, .t 37 true, .c (.int .i64 7)] false, none⟩] [0, 1, 4, 5])
 (.skip)))
 (.seq (.seq (.region [⟨some 39, .mv (.t 5 true), none⟩,
 ⟨some 40, .bin .neq (.t 39 false) (.c (.int .u8 40)), none⟩] [0, 1, 4, 40])
 (.cond (.t 40 false)
 (.seq (.region [⟨some 41, .mv (.t 0 false), none⟩,
 ⟨some 42, .nilchk (.t 41 false), none⟩,
 ⟨some 43, .faddr (.t 42 false) 1, none⟩,
 ⟨some 44, .load (.t 43 false) .heap 1 false false, none⟩,
 ⟨some 6, .mv (.t 44 true), none⟩] [0, 4, 6])
 (.seq (.block 0
 (.loop l_sexpr_parser_expression_0))
 (.seq (.draw [⟨some 74, .mv (.t 0 false), none⟩,
 ⟨some 75, .nilchk (.t 74 false), none⟩,
 ⟨some 76, .faddr (.t 75 false) 0, none⟩,
 ⟨some 77, .load (.t 76 false) .heap 1 false false, none⟩,
 ⟨some 78, .mv (.t 6 true), none⟩,
 ⟨some 79, .mv (.t 0 false), none⟩,
 ⟨some 80, .nilchk (.t 79 false), none⟩,
 ⟨some 81, .faddr (.t 80 false) 1, none⟩,
 ⟨some 82, .load (.t 81 false) .heap 1 false false, none⟩,
 ⟨some 83, .slcS (.t 77 false) (some (.t 78 false)) (some (.t 82 false)), none⟩,
 ⟨some 84, .build [.str [], .list [] .nil] [(0, 1, .t 83 true)], none⟩,
 ⟨none, .store (.t 4 false) (.loc 4) (.t 84 true) 2, none⟩] [0, 1, 2, 3, 4, 5, 6, 7, 8, 9, 10, 11] [] [4])
 (.ret))))
 (.skip)))
 (.seq (.region [⟨some 85, .mv (.t 0 false), none⟩,
 ⟨some 86, .nilchk (.t 85 false), none⟩,
 ⟨some 87, .faddr (.t 86 false) 1, none⟩,
 ⟨some 88, .load (.t 87 false) .heap 1 false false, none⟩,
 ⟨some 89, .bin .add (.t 88 false) (.c (.int .i64 1)), none⟩,
 ⟨some 90, .nilchk (.t 85 false), none⟩,
 ⟨some 91, .faddr (.t 90 false) 1, none⟩,
 ⟨none, .store (.t 91 false) .heap (.t 89 true) 1, none⟩] [0, 1, 4])
 (.seq (.region [⟨some 7, .alloc false 0 [.str [], .list [] .nil], none⟩] [0, 1, 4, 7])
 (.block 2
 (.loop l_sexpr_parser_expression_1)))))))),
 [.cell 4 2 true], none, none⟩
def i_strings_Builder_WriteString : IFun := ⟨false, 2,
 .seq (.region [⟨some 4, .mv (.c (.int .i64 0)), none⟩,
 ⟨some 5, .mv (.c (.nili)), none⟩] [0, 1])
 (.seq (.region [⟨some 6, .mv (.t 0 false), none⟩,
 ⟨some 7, .call (.f n_strings_Builder_copyCheck) [.t 6 true] false, none⟩] [0, 1])
 (.seq (.region [⟨some 8, .mv (.t 0 false), none⟩,
 ⟨some 9, .mv (.t 0 true), none⟩,
 ⟨some 10, .nilchk (.t 9 false), none⟩,
 ⟨some 11, .faddr (.t 10 false) 1, none⟩,
 ⟨some 12, .load (.t 11 false) .heap 1 false true, none⟩,
 ⟨some 13, .mv (.t 1 false), none⟩,
 ⟨some 14, .append (.t 12 true) (.t 13 false) 1 5 1 false, none⟩,
 ⟨some 15, .nilchk (.t 8 false), none⟩,
 ⟨some 16, .faddr (.t 15 false) 1, none⟩,
 ⟨none, .store (.t 16 false) .heap (.t 14 true) 1, none⟩] [1])
 (.seq (.region [⟨some 17, .mv (.t 1 true), none⟩,
 ⟨some 18, .len (.t 17 false) .str, none⟩,
 ⟨some 4, .mv (.t 18 true), none⟩,
 ⟨some 5, .mv (.c (.nili)), none⟩] [4, 5])
 (.ret)))),
 [.tmp 4, .tmp 5], none, none⟩
def i_strings_Builder_WriteByte : IFun := ⟨false, 2,
 .seq (.region [⟨some 4, .mv (.c (.nili)), none⟩] [0, 1])
 (.seq (.region [⟨some 5, .mv (.t 0 false), none⟩,
 ⟨some 6, .call (.f n_strings_Builder_copyCheck) [.t 5 true] false, none⟩] [0, 1])
 (.seq (.region [⟨some 7, .mv (.t 0 false), none⟩,
 ⟨some 8, .mv (.t 0 true), none⟩,
 ⟨some 9, .nilchk (.t 8 false), none⟩,
 ⟨some 10, .faddr (.t 9 false) 1, none⟩,
 ⟨some 11, .load (.t 10 false) .heap 1 false true, none⟩,
 ⟨some 12, .mv (.t 1 true), none⟩,
 ⟨some 13, .bslice (.int .u8 0) 5 1 [(0, .t 12 true)], none⟩,
 ⟨some 14, .append (.t 11 true) (.t 13 false) 1 5 1 false, none⟩,
 ⟨some 15, .nilchk (.t 7 false), none⟩,
 ⟨some 16, .faddr (.t 15 false) 1, none⟩,
 ⟨none, .store (.t 16 false) .heap (.t 14 true) 1, none⟩] [])
 (.seq (.region [⟨some 4, .mv (.c (.nili)), none⟩] [4])
 (.ret)))),
 [.tmp 4], none, none⟩
def i_saturateref05_Byte : IFun := ⟨true, 1,
 .seq (.region [⟨some 2, .mv (.c (.bool false)), none⟩] [0])
 (.seq (.region [⟨some 3, .mv (.t 0 false), none⟩,
 ⟨some 4, .bin .geq (.t 3 false) (.c (.int .u8 33)), none⟩,
 ⟨some 5, .mv (.t 4 true), none⟩,
 ⟨some 6, .mv (.t 0 false), (some (5, true))⟩,
 ⟨some 7, .bin .leq (.t 6 false) (.c (.int .u8 126)), (some (5, true))⟩,
 ⟨some 8, .pick (.t 5 false) (.t 7 false) (.c (.bool false)), none⟩,
 ⟨some 9, .mv (.t 8 true), none⟩,
 ⟨some 10, .mv (.t 0 false), (some (9, true))⟩,
 ⟨some 11, .bin .neq (.t 10 false) (.c (.int .u8 40)), (some (9, true))⟩,
 ⟨some 12, .pick (.t 9 false) (.t 11 false) (.c (.bool false)), none⟩,
 ⟨some 13, .mv (.t 12 true), none⟩,
 ⟨some 14, .mv (.t 0 false), (some (13, true))⟩,
 ⟨some 15, .bin .neq (.t 14 false) (.c (.int .u8 41)), (some (13, true))⟩,
 ⟨some 16, .pick (.t 13 false) (.t 15 false) (.c (.bool false)), none⟩,
 ⟨some 17, .mv (.t 16 true), none⟩,
 ⟨some 18, .mv (.t 0 true), (some (17, true))⟩,
 ⟨some 19, .bin .neq (.t 18 false) (.c (.int .u8 59)), (some (17, true))⟩,
 ⟨some 20, .pick (.t 17 false) (.t 19 false) (.c (.bool false)), none⟩,
 ⟨some 2, .mv (.t 20 true), none⟩] [2])
 (.ret)),
 [.tmp 2], none, none⟩
def i_sexpr_parser_fail : IFun := ⟨false, 3,
 .region [⟨some 6, .mv (.t 1 true), none⟩,
 ⟨some 7, .mv (.t 2 true), none⟩,
 ⟨some 8, .build [.int .i64 0, .int .i64 0] [(0, 1, .t 6 true), (1, 1, .t 7 true)], none⟩,
 ⟨some 9, .mkiface 51 (.t 8 true), none⟩,
 ⟨none, .panic (.t 9 false), none⟩] [],
 [], none, none⟩
def i_strings_Builder_copyCheck : IFun := ⟨false, 1,
 .seq (.region [⟨some 2, .mv (.t 0 false), none⟩,
 ⟨some 3, .nilchk (.t 2 false), none⟩,
 ⟨some 4, .faddr (.t 3 false) 0, none⟩,
 ⟨some 5, .load (.t 4 false) .heap 1 false false, none⟩,
 ⟨some 6, .eq false .ptr (.t 5 false) (.c (.nilp)), none⟩] [0, 6])
 (.cond (.t 6 false)
 (.region [⟨some 7, .mv (.t 0 false), none⟩,
 ⟨some 8, .mv (.t 0 true), none⟩,
 ⟨some 9, .uptr (.t 8 false) 45 2, none⟩,
 ⟨some 10, .ident n_internal_abi_NoEscape (.t 9 false), none⟩,
 ⟨some 11, .uptr (.t 10 false) 45 2, none⟩,
 ⟨some 12, .nilchk (.t 7 false), none⟩,
 ⟨some 13, .faddr (.t 12 false) 0, none⟩,
 ⟨none, .store (.t 13 false) .heap (.t 11 true) 1, none⟩] [])
 (.seq (.region [⟨some 14, .mv (.t 0 false), none⟩,
 ⟨some 15, .nilchk (.t 14 false), none⟩,
 ⟨some 16, .faddr (.t 15 false) 0, none⟩,
 ⟨some 17, .load (.t 16 false) .heap 1 false false, none⟩,
 ⟨some 18, .mv (.t 0 true), none⟩,
 ⟨some 19, .eq true .ptr (.t 17 false) (.t 18 false), none⟩] [19])
 (.cond (.t 19 false)
 (.stuck)
 (.skip)))),
 [], none, none⟩
def IPT : IT :=
  .node 18 i_sexpr_valid (.node 10 i_sexpr_Count (.node 6 i_sexpr_Valid (.node 4 i_saturateref05_Few (.node 3 i_saturatelaw05_SexprForms (.node 2 i_gosem_cut_init .leaf .leaf) .leaf) (.node 5 i_saturatelaw05_live .leaf .leaf)) (.node 8 i_sexpr_Depth (.node 7 i_saturateref05_Valid .leaf .leaf) (.node 9 i_saturateref05_Depth .leaf .leaf))) (.node 14 i_saturateref05_weigh (.node 12 i_sexpr_Same (.node 11 i_saturateref05_Count .leaf .leaf) (.node 13 i_saturateref05_Same .leaf .leaf)) (.node 16 i_sexpr_ParseAll (.node 15 i_sexpr_Parse .leaf .leaf) (.node 17 i_sexpr_Print .leaf .leaf)))) (.node 27 i_sexpr_all_1 (.node 23 i_sexpr_write (.node 21 i_saturateref05_SameAll (.node 20 i_slices_EqualFunc_Sexp_Sexp_Sexp_Sexp (.node 19 i_saturateref05_right .leaf .leaf) .leaf) (.node 22 i_sexpr_all .leaf .leaf)) (.node 25 i_sexpr_plain (.node 24 i_strings_Builder_String .leaf .leaf) (.node 26 i_saturateref05_atom .leaf .leaf))) (.node 31 i_strings_Builder_WriteByte (.node 29 i_sexpr_parser_expression (.node 28 i_sexpr_parser_skip .leaf .leaf) (.node 30 i_strings_Builder_WriteString .leaf .leaf)) (.node 33 i_sexpr_parser_fail (.node 32 i_saturateref05_Byte .leaf .leaf) (.node 34 i_strings_Builder_copyCheck .leaf .leaf))))
def IP : IProg := IPT.get
def G0 : Nat → Option (List AV) := fun _ => none
theorem IP_gosem_cut_init : IP n_gosem_cut_init = some i_gosem_cut_init := rfl
theorem IP_saturatelaw05_SexprForms : IP n_saturatelaw05_SexprForms = some i_saturatelaw05_SexprForms := rfl
theorem IP_saturateref05_Few : IP n_saturateref05_Few = some i_saturateref05_Few := rfl
theorem IP_saturatelaw05_live : IP n_saturatelaw05_live = some i_saturatelaw05_live := rfl
theorem IP_sexpr_Valid : IP n_sexpr_Valid = some i_sexpr_Valid := rfl
theorem IP_saturateref05_Valid : IP n_saturateref05_Valid = some i_saturateref05_Valid := rfl
theorem IP_sexpr_Depth : IP n_sexpr_Depth = some i_sexpr_Depth := rfl
theorem IP_saturateref05_Depth : IP n_saturateref05_Depth = some i_saturateref05_Depth := rfl
theorem IP_sexpr_Count : IP n_sexpr_Count = some i_sexpr_Count := rfl
theorem IP_saturateref05_Count : IP n_saturateref05_Count = some i_saturateref05_Count := rfl
theorem IP_sexpr_Same : IP n_sexpr_Same = some i_sexpr_Same := rfl
theorem IP_saturateref05_Same : IP n_saturateref05_Same = some i_saturateref05_Same := rfl
theorem IP_saturateref05_weigh : IP n_saturateref05_weigh = some i_saturateref05_weigh := rfl
theorem IP_sexpr_Parse : IP n_sexpr_Parse = some i_sexpr_Parse := rfl
theorem IP_sexpr_ParseAll : IP n_sexpr_ParseAll = some i_sexpr_ParseAll := rfl
theorem IP_sexpr_Print : IP n_sexpr_Print = some i_sexpr_Print := rfl
theorem IP_sexpr_valid : IP n_sexpr_valid = some i_sexpr_valid := rfl
theorem IP_saturateref05_right : IP n_saturateref05_right = some i_saturateref05_right := rfl
theorem IP_slices_EqualFunc_Sexp_Sexp_Sexp_Sexp : IP n_slices_EqualFunc_Sexp_Sexp_Sexp_Sexp = some i_slices_EqualFunc_Sexp_Sexp_Sexp_Sexp := rfl
theorem IP_saturateref05_SameAll : IP n_saturateref05_SameAll = some i_saturateref05_SameAll := rfl
theorem IP_sexpr_all : IP n_sexpr_all = some i_sexpr_all := rfl
theorem IP_sexpr_write : IP n_sexpr_write = some i_sexpr_write := rfl
theorem IP_strings_Builder_String : IP n_strings_Builder_String = some i_strings_Builder_String := rfl
theorem IP_sexpr_plain : IP n_sexpr_plain = some i_sexpr_plain := rfl
theorem IP_saturateref05_atom : IP n_saturateref05_atom = some i_saturateref05_atom := rfl
theorem IP_sexpr_all_1 : IP n_sexpr_all_1 = some i_sexpr_all_1 := rfl
theorem IP_sexpr_parser_skip : IP n_sexpr_parser_skip = some i_sexpr_parser_skip := rfl
theorem IP_sexpr_parser_expression : IP n_sexpr_parser_expression = some i_sexpr_parser_expression := rfl
theorem IP_strings_Builder_WriteString : IP n_strings_Builder_WriteString = some i_strings_Builder_WriteString := rfl
theorem IP_strings_Builder_WriteByte : IP n_strings_Builder_WriteByte = some i_strings_Builder_WriteByte := rfl
theorem IP_saturateref05_Byte : IP n_saturateref05_Byte = some i_saturateref05_Byte := rfl
theorem IP_sexpr_parser_fail : IP n_sexpr_parser_fail = some i_sexpr_parser_fail := rfl
theorem IP_strings_Builder_copyCheck : IP n_strings_Builder_copyCheck = some i_strings_Builder_copyCheck := rfl
end Go.Proofs.Ytajlmldpbhendab.Rf
end
section
set_option linter.unusedSimpArgs false
set_option linter.unusedVariables false
namespace Go.Proofs.Ytajlmldpbhendab.Rf

def CallLe (c d : CallF) : Prop := ∀ f vs hp lo q r, c f vs hp lo q = some r → d f vs hp lo q = some r
def LoopLe (c d : LoopF) : Prop := ∀ b st r, c b st = some r → d b st = some r
section
variable {G : Nat → Option (List AV)} {c d : CallF} {lo : Nat}
theorem evalOp_mono (h : CallLe c d) {o : IOp} {st : St} {r : OpR} (e : evalOp G c lo o st = some r) : evalOp G d lo o st = some r := by
  cases o
  case call f xs q =>
    simp only [evalOp] at e ⊢
    split at e
    · cases e
    · rename_i hp
      rw [if_neg hp]
      split at e
      · split at e
        · cases e
        · rename_i hpc
          rw [if_neg hpc]
          split at e
          · rename_i hc; rw [h _ _ _ _ _ _ hc]; exact e
          · rename_i hc; rw [h _ _ _ _ _ _ hc]; exact e
          · cases e
      · cases e
  all_goals exact e
theorem evalOps_mono (h : CallLe c d) : ∀ {os : List IOper} {st : St} {r : Ex × St}, evalOps G c lo os st = some r → evalOps G d lo os st = some r
  | [], st, r, e => e
  | o :: os, st, r, e => by
    simp only [evalOps] at e ⊢
    split at e
    · split at e
      · rename_i ho; rw [evalOp_mono h ho]
        split at e
        · rename_i hp; simp only [hp]; exact evalOps_mono h e
        · cases e
      · rename_i ho; rw [evalOp_mono h ho]; exact e
      · cases e
    · split at e
      · rename_i hp; exact evalOps_mono h e
      · cases e
    · cases e
theorem evalDraw_mono (h : CallLe c d) {ops : List IOper} {pans : List Nat} : ∀ {ord : List Nat} {st : St} {r : Ex × St}, evalDraw G c lo ops pans ord st = some r → evalDraw G d lo ops pans ord st = some r
  | [], st, r, e => e
  | i :: ord, st, r, e => by
    simp only [evalDraw] at e ⊢
    split at e
    · cases e
    · split at e
      · rename_i ho; rw [evalOps_mono h ho]; exact evalDraw_mono h e
      · rename_i ho; rw [evalOps_mono h ho]; exact e
      · cases e
theorem evalC_mono (h : CallLe c d) {l m : LoopF} (hl : LoopLe l m) : ∀ {x : ICode} {st : St} {r : Ex × St}, evalC G c l lo x st = some r → evalC G d m lo x st = some r := by
  intro x
  induction x with
  | skip => intro st r e; exact e
  | region ops live =>
    intro st r e
    simp only [evalC] at e ⊢
    split at e
    · rename_i ho; rw [evalOps_mono h ho]; exact e
    · rename_i hne
      rw [evalOps_mono h e]
      split
      · rename_i s1 hh; cases hh; exact absurd e (by simpa using hne s1)
      · rfl
  | draw ops ord pans live =>
    intro st r e
    simp only [evalC] at e ⊢
    cases hb : evalDraw G c lo ops pans ord st with
    | none => rw [hb] at e; cases e
    | some x => rw [evalDraw_mono h hb]; rw [hb] at e; exact e
  | seq a b iha ihb =>
    intro st r e
    simp only [evalC] at e ⊢
    split at e
    · rename_i ho; rw [iha ho]; exact ihb e
    · rename_i hne
      rw [iha e]
      split
      · rename_i s1 hh; cases hh; exact absurd e (by simpa using hne s1)
      · rfl
  | cond c a b iha ihb =>
    intro st r e
    simp only [evalC] at e ⊢
    split at e
    · split at e
      · rename_i h1; rw [if_pos h1]; exact iha e
      · rename_i h1; rw [if_neg h1]; exact ihb e
    · cases e
  | block id b ih =>
    intro st r e
    simp only [evalC] at e ⊢
    split at e
    · rename_i ho; rw [ih ho]; exact e
    · rename_i hne
      rw [ih e]
      split
      · rename_i i s1 hh; cases hh; exact absurd e (by simpa using hne i s1)
      · rfl
  | loop b ih => intro st r e; exact hl _ _ _ e
  | exit id => intro st r e; exact e
  | ret => intro st r e; exact e
  | stuck => intro st r e; exact e
theorem evalRecv_mono (h : CallLe c d) {l m : LoopF} (hl : LoopLe l m) {IP : IProg} {f : Nat} {caps : List AV} {hp : List HObj} {v : AV} {r : List HObj} (e : evalRecv G IP c l lo f caps hp v = some r) : evalRecv G IP d m lo f caps hp v = some r := by
  simp only [evalRecv] at e ⊢
  split at e
  · cases e
  · split at e
    · split at e
      · cases e
      · rename_i hc
        rw [if_neg hc]
        split at e
        · rename_i ho; rw [evalC_mono h hl ho]; exact e
        · rename_i ho; rw [evalC_mono h hl ho]; exact e
        · cases e
    · cases e
theorem evalFin1_mono (h : CallLe c d) {l m : LoopF} (hl : LoopLe l m) {IP : IProg} {ds : DSpec} {s3 : St} {v : AV} {r : Ex × St} (e : evalFin1 G IP c l lo ds s3 v = some r) : evalFin1 G IP d m lo ds s3 v = some r := by
  simp only [evalFin1] at e ⊢
  split at e
  · split at e
    · rename_i h4; rw [evalRecv_mono h hl h4]; exact e
    · cases e
  · cases e
theorem evalFin_mono (h : CallLe c d) {l m : LoopF} (hl : LoopLe l m) {IP : IProg} {ds : DSpec} {b : ICode} {st : St} {r : Ex × St} (e : evalFin G IP c l lo ds (evalC G c l lo b st) = some r) : evalFin G IP d m lo ds (evalC G d m lo b st) = some r := by
  cases hb : evalC G c l lo b st with
  | none => rw [hb] at e; simp [evalFin] at e
  | some x =>
    rw [evalC_mono h hl hb]
    rw [hb] at e
    obtain ⟨ex, s3⟩ := x
    cases ex <;> simp only [evalFin] at e ⊢ <;> first | exact evalFin1_mono h hl e | (cases e; done)
theorem evalF_mono (h : CallLe c d) {l m : LoopF} (hl : LoopLe l m) {IP : IProg} {fn : IFun} {st : St} {r : Ex × St} (e : evalF G IP c l lo fn st = some r) : evalF G IP d m lo fn st = some r := by
  simp only [evalF] at e ⊢
  split at e
  · exact evalC_mono h hl e
  · split at e
    · rename_i ho
      rw [evalC_mono h hl ho]
      simp only
      split at e
      · rename_i hc; rw [if_pos hc]; exact evalFin_mono h hl e
      · cases e
    · rename_i hne
      rw [evalC_mono h hl e]
      split
      · rename_i s1 hh; cases hh; exact absurd e (by simpa using hne s1)
      · rfl
theorem run_succ (IP : IProg) : ∀ k, CallLe (run G IP k).1 (run G IP (k + 1)).1 ∧ ∀ lo, LoopLe ((run G IP k).2 lo) ((run G IP (k + 1)).2 lo)
  | 0 => ⟨fun f vs hp lo q r e => by simp [run] at e, fun lo b st r e => by simp [run] at e⟩
  | k + 1 => by
    obtain ⟨h1, h2⟩ := run_succ IP k
    refine ⟨fun f vs hp lo q r e => ?_, fun lo b st r e => ?_⟩
    · rw [show (run G IP (k + 1)).1 = callBody G IP (run G IP k).1 (run G IP k).2 from rfl] at e
      rw [show (run G IP (k + 1 + 1)).1 = callBody G IP (run G IP (k + 1)).1 (run G IP (k + 1)).2 from rfl]
      simp only [callBody] at e ⊢
      split at e
      · cases e
      · rename_i fn hfn
        split at e
        · cases e
        · rename_i hc
          rw [if_neg hc]
          split at e
          · rename_i ho; rw [evalF_mono h1 (h2 _) ho]; exact e
          · rename_i ho; rw [evalF_mono h1 (h2 _) ho]; exact e
          · rename_i ho; rw [evalF_mono h1 (h2 _) ho]; exact e
          · cases e
    · rw [show (run G IP (k + 1)).2 lo = loopBody G (run G IP k).1 (run G IP k).2 lo from rfl] at e
      rw [show (run G IP (k + 1 + 1)).2 lo = loopBody G (run G IP (k + 1)).1 (run G IP (k + 1)).2 lo from rfl]
      simp only [loopBody] at e ⊢
      split at e
      · rename_i ho; rw [evalC_mono h1 (h2 _) ho]; exact h2 _ _ _ _ e
      · rename_i hne
        rw [evalC_mono h1 (h2 _) e]
        split
        · rename_i s1 hh; cases hh; exact absurd e (by simpa using hne s1)
        · rfl
theorem run_mono {IP : IProg} {k k' : Nat} (h : k ≤ k') : CallLe (run G IP k).1 (run G IP k').1 ∧ ∀ lo, LoopLe ((run G IP k).2 lo) ((run G IP k').2 lo) := by
  induction h with
  | refl => exact ⟨fun _ _ _ _ _ _ e => e, fun _ _ _ _ e => e⟩
  | step h ih =>
    obtain ⟨a, b⟩ := run_succ (G := G) IP _
    exact ⟨fun f vs hp lo q r e => a _ _ _ _ _ _ (ih.1 _ _ _ _ _ _ e), fun lo x st r e => b lo _ _ _ (ih.2 lo _ _ _ e)⟩
end
end Go.Proofs.Ytajlmldpbhendab.Rf
end
section
/- The machine without a count of rounds: what the calls answer in the end. -/
set_option linter.unusedSimpArgs false
set_option linter.unusedVariables false
namespace Go.Proofs.Ytajlmldpbhendab.Rf
section
variable (G : Nat → Option (List AV)) (IP : IProg)
open Classical in
/-- The answer of a call, if some number of rounds gives one. -/
noncomputable def callD : CallF := fun f vs hp lo q => if h : ∃ k r, (run G IP k).1 f vs hp lo q = some r then some h.choose_spec.choose else none
open Classical in
noncomputable def loopD (lo : Nat) : LoopF := fun b st => if h : ∃ k r, (run G IP k).2 lo b st = some r then some h.choose_spec.choose else none
variable {G IP}
theorem callD_iff {f : Nat} {vs : List AV} {hp : List HObj} {lo : Nat} {q : Bool} {r : COut} : callD G IP f vs hp lo q = some r ↔ ∃ k, (run G IP k).1 f vs hp lo q = some r := by
  unfold callD
  constructor
  · intro h
    split at h
    · rename_i hh; cases h; exact ⟨_, hh.choose_spec.choose_spec⟩
    · cases h
  · rintro ⟨k, hk⟩
    have hh : ∃ k r, (run G IP k).1 f vs hp lo q = some r := ⟨k, r, hk⟩
    rw [dif_pos hh]
    have e1 := (run_mono (G := G) (IP := IP) (Nat.le_max_left k hh.choose)).1 _ _ _ _ _ _ hk
    have e2 := (run_mono (G := G) (IP := IP) (Nat.le_max_right k hh.choose)).1 _ _ _ _ _ _ hh.choose_spec.choose_spec
    rw [e1] at e2; exact e2.symm
theorem loopD_iff {lo : Nat} {b : ICode} {st : St} {r : Ex × St} : loopD G IP lo b st = some r ↔ ∃ k, (run G IP k).2 lo b st = some r := by
  unfold loopD
  constructor
  · intro h
    split at h
    · rename_i hh; cases h; exact ⟨_, hh.choose_spec.choose_spec⟩
    · cases h
  · rintro ⟨k, hk⟩
    have hh : ∃ k r, (run G IP k).2 lo b st = some r := ⟨k, r, hk⟩
    rw [dif_pos hh]
    have e1 := (run_mono (G := G) (IP := IP) (Nat.le_max_left k hh.choose)).2 lo _ _ _ hk
    have e2 := (run_mono (G := G) (IP := IP) (Nat.le_max_right k hh.choose)).2 lo _ _ _ hh.choose_spec.choose_spec
    rw [e1] at e2; exact e2.symm
theorem run_callD (k : Nat) : CallLe (run G IP k).1 (callD G IP) := fun _ _ _ _ _ _ h => callD_iff.2 ⟨k, h⟩
theorem run_loopD (k lo : Nat) : LoopLe ((run G IP k).2 lo) (loopD G IP lo) := fun _ _ _ h => loopD_iff.2 ⟨k, h⟩

theorem evalOp_cont {lo : Nat} {o : IOp} {st : St} {r : OpR} (e : evalOp G (callD G IP) lo o st = some r) : ∃ k, evalOp G (run G IP k).1 lo o st = some r := by
  cases o
  case call f xs q =>
    simp only [evalOp] at e ⊢
    split at e
    · cases e
    · rename_i hp
      simp only [if_neg hp]
      split at e
      · split at e
        · cases e
        · rename_i hpc
          simp only [if_neg hpc]
          split at e
          · rename_i hc; obtain ⟨k, hk⟩ := callD_iff.1 hc; exact ⟨k, by rw [hk]; exact e⟩
          · rename_i hc; obtain ⟨k, hk⟩ := callD_iff.1 hc; exact ⟨k, by rw [hk]; exact e⟩
          · cases e
      · cases e
  all_goals exact ⟨0, e⟩
theorem evalOps_cont {lo : Nat} : ∀ {os : List IOper} {st : St} {r : Ex × St}, evalOps G (callD G IP) lo os st = some r → ∃ k, evalOps G (run G IP k).1 lo os st = some r
  | [], st, r, e => ⟨0, e⟩
  | o :: os, st, r, e => by
    simp only [evalOps] at e ⊢
    split at e
    · split at e
      · rename_i ho
        obtain ⟨k1, h1⟩ := evalOp_cont ho
        split at e
        · rename_i hp
          obtain ⟨k2, h2⟩ := evalOps_cont e
          refine ⟨max k1 k2, ?_⟩
          rw [evalOp_mono (run_mono (Nat.le_max_left k1 k2)).1 h1]
          simp only [hp]
          exact evalOps_mono (run_mono (Nat.le_max_right k1 k2)).1 h2
        · cases e
      · rename_i ho
        obtain ⟨k1, h1⟩ := evalOp_cont ho
        exact ⟨k1, by rw [h1]; exact e⟩
      · cases e
    · split at e
      · rename_i hp
        exact evalOps_cont e
      · cases e
    · cases e
theorem evalDraw_cont {lo : Nat} {ops : List IOper} {pans : List Nat} : ∀ {ord : List Nat} {st : St} {r : Ex × St}, evalDraw G (callD G IP) lo ops pans ord st = some r → ∃ k, evalDraw G (run G IP k).1 lo ops pans ord st = some r
  | [], st, r, e => ⟨0, e⟩
  | i :: ord, st, r, e => by
    simp only [evalDraw] at e ⊢
    split at e
    · cases e
    · split at e
      · rename_i ho
        obtain ⟨k1, h1⟩ := evalOps_cont ho
        obtain ⟨k2, h2⟩ := evalDraw_cont e
        refine ⟨max k1 k2, ?_⟩
        rw [evalOps_mono (run_mono (Nat.le_max_left k1 k2)).1 h1]
        exact evalDraw_mono (run_mono (Nat.le_max_right k1 k2)).1 h2
      · rename_i ho
        obtain ⟨k1, h1⟩ := evalOps_cont ho
        exact ⟨k1, by rw [h1]; exact e⟩
      · cases e
theorem evalC_cont {lo : Nat} : ∀ {x : ICode} {st : St} {r : Ex × St}, evalC G (callD G IP) (loopD G IP lo) lo x st = some r → ∃ k, evalC G (run G IP k).1 ((run G IP k).2 lo) lo x st = some r := by
  intro x
  induction x with
  | skip => intro st r e; exact ⟨0, e⟩
  | region ops live =>
    intro st r e
    simp only [evalC] at e ⊢
    split at e
    · rename_i ho; obtain ⟨k, hk⟩ := evalOps_cont ho; exact ⟨k, by rw [hk]; exact e⟩
    · rename_i hne
      obtain ⟨k, hk⟩ := evalOps_cont e
      refine ⟨k, ?_⟩
      rw [hk]
      split
      · rename_i s1 hh; cases hh; exact absurd e (by simpa using hne s1)
      · rfl
  | draw ops ord pans live =>
    intro st r e
    simp only [evalC] at e ⊢
    cases hb : evalDraw G (callD G IP) lo ops pans ord st with
    | none => rw [hb] at e; cases e
    | some x =>
      obtain ⟨k, hk⟩ := evalDraw_cont hb
      exact ⟨k, by rw [hk]; rw [hb] at e; exact e⟩
  | seq a b iha ihb =>
    intro st r e
    simp only [evalC] at e ⊢
    split at e
    · rename_i ho
      obtain ⟨k1, h1⟩ := iha ho
      obtain ⟨k2, h2⟩ := ihb e
      refine ⟨max k1 k2, ?_⟩
      have m1 := run_mono (G := G) (IP := IP) (Nat.le_max_left k1 k2)
      have m2 := run_mono (G := G) (IP := IP) (Nat.le_max_right k1 k2)
      rw [evalC_mono m1.1 (m1.2 lo) h1]
      exact evalC_mono m2.1 (m2.2 lo) h2
    · rename_i hne
      obtain ⟨k, hk⟩ := iha e
      refine ⟨k, ?_⟩
      rw [hk]
      split
      · rename_i s1 hh; cases hh; exact absurd e (by simpa using hne s1)
      · rfl
  | cond c a b iha ihb =>
    intro st r e
    simp only [evalC] at e ⊢
    split at e
    · split at e
      · rename_i h1; simp only [if_pos h1]; exact iha e
      · rename_i h1; simp only [if_neg h1]; exact ihb e
    · cases e
  | block id b ih =>
    intro st r e
    simp only [evalC] at e ⊢
    split at e
    · rename_i ho; obtain ⟨k, hk⟩ := ih ho; exact ⟨k, by rw [hk]; exact e⟩
    · rename_i hne
      obtain ⟨k, hk⟩ := ih e
      refine ⟨k, ?_⟩
      rw [hk]
      split
      · rename_i i s1 hh; cases hh; exact absurd e (by simpa using hne i s1)
      · rfl
  | loop b ih => intro st r e; obtain ⟨k, hk⟩ := loopD_iff.1 e; exact ⟨k, hk⟩
  | exit id => intro st r e; exact ⟨0, e⟩
  | ret => intro st r e; exact ⟨0, e⟩
  | stuck => intro st r e; exact ⟨0, e⟩

theorem evalRecv_cont {lo : Nat} {f : Nat} {caps : List AV} {hp : List HObj} {v : AV} {r : List HObj} (e : evalRecv G IP (callD G IP) (loopD G IP lo) lo f caps hp v = some r) : ∃ k, evalRecv G IP (run G IP k).1 ((run G IP k).2 lo) lo f caps hp v = some r := by
  simp only [evalRecv] at e ⊢
  split at e
  · cases e
  · split at e
    · split at e
      · cases e
      · rename_i hc
        simp only [if_neg hc]
        split at e
        · rename_i ho; obtain ⟨k, hk⟩ := evalC_cont ho; exact ⟨k, by rw [hk]; exact e⟩
        · rename_i ho; obtain ⟨k, hk⟩ := evalC_cont ho; exact ⟨k, by rw [hk]; exact e⟩
        · cases e
    · cases e
theorem evalFin1_cont {lo : Nat} {ds : DSpec} {s3 : St} {v : AV} {r : Ex × St} (e : evalFin1 G IP (callD G IP) (loopD G IP lo) lo ds s3 v = some r) : ∃ k, evalFin1 G IP (run G IP k).1 ((run G IP k).2 lo) lo ds s3 v = some r := by
  simp only [evalFin1] at e ⊢
  split at e
  · split at e
    · rename_i h4
      obtain ⟨k, hk⟩ := evalRecv_cont h4
      exact ⟨k, by rw [hk]; exact e⟩
    · cases e
  · cases e
theorem evalFin_cont {lo : Nat} {ds : DSpec} {b : ICode} {st : St} {r : Ex × St} (e : evalFin G IP (callD G IP) (loopD G IP lo) lo ds (evalC G (callD G IP) (loopD G IP lo) lo b st) = some r) : ∃ k, evalFin G IP (run G IP k).1 ((run G IP k).2 lo) lo ds (evalC G (run G IP k).1 ((run G IP k).2 lo) lo b st) = some r := by
  cases hb : evalC G (callD G IP) (loopD G IP lo) lo b st with
  | none => rw [hb] at e; simp [evalFin] at e
  | some x =>
    rw [hb] at e
    obtain ⟨k1, h1⟩ := evalC_cont hb
    obtain ⟨ex, s3⟩ := x
    have fin : ∀ v, evalFin1 G IP (callD G IP) (loopD G IP lo) lo ds s3 v = some r → ∃ k, k1 ≤ k ∧ evalFin1 G IP (run G IP k).1 ((run G IP k).2 lo) lo ds s3 v = some r := fun v e => by
      obtain ⟨k2, h2⟩ := evalFin1_cont e
      have m2 := run_mono (G := G) (IP := IP) (Nat.le_max_right k1 k2)
      exact ⟨max k1 k2, Nat.le_max_left _ _, evalFin1_mono m2.1 (m2.2 lo) h2⟩
    have go : ∀ v, evalFin1 G IP (callD G IP) (loopD G IP lo) lo ds s3 v = some r → ∃ k, evalC G (run G IP k).1 ((run G IP k).2 lo) lo b st = some (ex, s3) ∧ evalFin1 G IP (run G IP k).1 ((run G IP k).2 lo) lo ds s3 v = some r := fun v e => by
      obtain ⟨k, q1, q2⟩ := fin v e
      have m1 := run_mono (G := G) (IP := IP) q1
      exact ⟨k, evalC_mono m1.1 (m1.2 lo) h1, q2⟩
    cases ex with
    | normal => obtain ⟨k, q1, q2⟩ := go _ e; exact ⟨k, by rw [q1]; exact q2⟩
    | ret => obtain ⟨k, q1, q2⟩ := go _ e; exact ⟨k, by rw [q1]; exact q2⟩
    | pan v => obtain ⟨k, q1, q2⟩ := go _ e; exact ⟨k, by rw [q1]; exact q2⟩
    | exit i => simp [evalFin] at e
theorem evalF_cont {lo : Nat} {fn : IFun} {st : St} {r : Ex × St} (e : evalF G IP (callD G IP) (loopD G IP lo) lo fn st = some r) : ∃ k, evalF G IP (run G IP k).1 ((run G IP k).2 lo) lo fn st = some r := by
  simp only [evalF] at e ⊢
  split at e
  · exact evalC_cont e
  · split at e
    · rename_i ho
      obtain ⟨k1, h1⟩ := evalC_cont ho
      split at e
      · rename_i hc
        obtain ⟨k2, h2⟩ := evalFin_cont e
        have m1 := run_mono (G := G) (IP := IP) (Nat.le_max_left k1 k2)
        have m2 := run_mono (G := G) (IP := IP) (Nat.le_max_right k1 k2)
        exact ⟨max k1 k2, by rw [evalC_mono m1.1 (m1.2 lo) h1]; simp only; rw [if_pos hc]; exact evalFin_mono m2.1 (m2.2 lo) h2⟩
      · cases e
    · rename_i hne
      obtain ⟨k, hk⟩ := evalC_cont e
      refine ⟨k, ?_⟩
      rw [hk]
      split
      · rename_i s1 hh; cases hh; exact absurd e (by simpa using hne s1)
      · rfl
theorem callBody_mono {c d : CallF} {l m : Nat → LoopF} (h : CallLe c d) (hl : ∀ lo, LoopLe (l lo) (m lo)) : CallLe (callBody G IP c l) (callBody G IP d m) := by
  intro f vs hp lo q r e
  simp only [callBody] at e ⊢
  split at e
  · cases e
  · rename_i fn hfn
    split at e
    · cases e
    · rename_i hc
      rw [if_neg hc]
      split at e
      · rename_i ho; rw [evalF_mono h (hl _) ho]; exact e
      · rename_i ho; rw [evalF_mono h (hl _) ho]; exact e
      · rename_i ho; rw [evalF_mono h (hl _) ho]; exact e
      · cases e
theorem loopBody_mono {c d : CallF} {l m : Nat → LoopF} (h : CallLe c d) (hl : ∀ lo, LoopLe (l lo) (m lo)) (lo : Nat) : LoopLe (loopBody G c l lo) (loopBody G d m lo) := by
  intro b st r e
  simp only [loopBody] at e ⊢
  split at e
  · rename_i ho; rw [evalC_mono h (hl _) ho]; exact hl _ _ _ _ e
  · rename_i hne
    rw [evalC_mono h (hl _) e]
    split
    · rename_i s1 hh; cases hh; exact absurd e (by simpa using hne s1)
    · rfl
theorem opt_ext {α : Type} {a b : Option α} (h1 : ∀ r, a = some r → b = some r) (h2 : ∀ r, b = some r → a = some r) : a = b := by
  cases a with
  | none => cases b with
    | none => rfl
    | some r => exact h2 r rfl
  | some r => exact (h1 r rfl).symm
/-- A call is its body's round, its callees and loops by their answers in the end. -/
theorem callD_eq (f : Nat) (vs : List AV) (hp : List HObj) (lo : Nat) (q : Bool) : callD G IP f vs hp lo q = callBody G IP (callD G IP) (loopD G IP) f vs hp lo q := by
  apply opt_ext
  · intro r h
    obtain ⟨k, hk⟩ := callD_iff.1 h
    cases k with
    | zero => simp [run] at hk
    | succ k => exact callBody_mono (run_callD k) (run_loopD k) _ _ _ _ _ _ hk
  · intro r e
    suffices ∃ k, callBody G IP (run G IP k).1 (run G IP k).2 f vs hp lo q = some r by
      obtain ⟨k, hk⟩ := this; exact callD_iff.2 ⟨k + 1, hk⟩
    simp only [callBody] at e ⊢
    split at e
    · cases e
    · rename_i fn hfn
      split at e
      · cases e
      · rename_i hc
        simp only [if_neg hc]
        split at e
        · rename_i ho; obtain ⟨k, hk⟩ := evalF_cont ho; exact ⟨k, by rw [hk]; exact e⟩
        · rename_i ho; obtain ⟨k, hk⟩ := evalF_cont ho; exact ⟨k, by rw [hk]; exact e⟩
        · rename_i ho; obtain ⟨k, hk⟩ := evalF_cont ho; exact ⟨k, by rw [hk]; exact e⟩
        · cases e
theorem loopD_eq (lo : Nat) (b : ICode) (st : St) : loopD G IP lo b st = loopBody G (callD G IP) (loopD G IP) lo b st := by
  apply opt_ext
  · intro r h
    obtain ⟨k, hk⟩ := loopD_iff.1 h
    cases k with
    | zero => simp [run] at hk
    | succ k => exact loopBody_mono (run_callD k) (run_loopD k) _ _ _ _ hk
  · intro r e
    suffices ∃ k, loopBody G (run G IP k).1 (run G IP k).2 lo b st = some r by
      obtain ⟨k, hk⟩ := this; exact loopD_iff.2 ⟨k + 1, hk⟩
    simp only [loopBody] at e ⊢
    split at e
    · rename_i ho
      obtain ⟨k1, h1⟩ := evalC_cont ho
      obtain ⟨k2, h2⟩ := loopD_iff.1 e
      refine ⟨max k1 k2, ?_⟩
      have m1 := run_mono (G := G) (IP := IP) (Nat.le_max_left k1 k2)
      have m2 := run_mono (G := G) (IP := IP) (Nat.le_max_right k1 k2)
      rw [evalC_mono m1.1 (m1.2 lo) h1]
      exact m2.2 lo _ _ _ h2
    · rename_i hne
      obtain ⟨k, hk⟩ := evalC_cont e
      refine ⟨k, ?_⟩
      rw [hk]
      split
      · rename_i s1 hh; cases hh; exact absurd e (by simpa using hne s1)
      · rfl
end
end Go.Proofs.Ytajlmldpbhendab.Rf
end
section
/- From an answer in the end to a law's statement. -/
set_option linter.unusedSimpArgs false
set_option linter.unusedVariables false
namespace Go.Proofs.Ytajlmldpbhendab.Rf
section
variable {H : Type} {enc : TypeId × Value → H} {P : Program} {W : World} {base : Nat}
theorem law_endD (hm : P.follows .mixedOrders = true) {IP : IProg} (hIP : ∀ f fn, IP f = some fn → chkFun P f fn = true) (hlaid : laidOutB P = true) {S : List TypeId} (hS : covS P S = true) {f : FuncId} {fn : Func}
    (hp : fn.params.toList.all (fun t => S.contains t && P.readableRec t && Nat.blt t P.types.size) = true) {s : ChangeSpec} (hvars : s.vars = []) {tb : TypeId} (hres : fn.resultTypes = #[tb]) (hb : P.underlying tb = some .bool)
    (hspec : ∀ ds : List (DataW H), ds.length = fn.params.size → s.fn H (ds ++ []) = ⟨[.lit (.bool true)], ds, []⟩) {args : Array Value} {ds gs : List (DataW H)} {before : List MemPlace}
    (hval : ∀ (j : Nat) t v, fn.params[j]? = some t → args[j]? = some v → Value.okWide P W .any base t v) (hW : DataW.Whole enc P fn.params.toList s.vars false W args.toList ds gs before)
    (hrun : ∀ avs, ArgsTy P fn.params.toList avs ds → ∃ q hp, callD noG IP f avs [] 0 q = some (.ret (.bool true) hp)) :
    Calls P f args W fun e W' => ∃ v, e = .returned v ∧ s.post enc P fn false true false false W args v W' :=
  law_end hm hIP hlaid hS hp hvars hres hb hspec hval hW fun avs ha => by
    obtain ⟨q, hp, h⟩ := hrun avs ha
    obtain ⟨k, hk⟩ := callD_iff.1 h
    exact ⟨k, q, hp, hk⟩
end
end Go.Proofs.Ytajlmldpbhendab.Rf
end
section
/- The walk: how the plain machine is stepped by simp; loops by their states. -/
set_option linter.unusedSimpArgs false
set_option linter.unusedVariables false
namespace Go.Proofs.Ytajlmldpbhendab.Rf

attribute [simp] callBody evalF evalRecv evalFin evalFin1 toHeap ptrsFrom setPtrs AV.husk Fr.husk evalC evalDraw evalOps evalOp opd opds wanted St.put ret1 Fr.get Fr.set Fr.keep Fr.keepOk AV.loose evalRess evalRes1 AV.plain plains tupOf AV.closed AV.closedL enter memOk behind behindPut cut put ofCells binAV intBin strBin shiftBin eqAV unAV bound AV.spread AV.cells buildCells fillElems keyEq

@[simp] theorem Own.cp_nil : Own.cp .nil = .nil := rfl
@[simp] theorem Own.cp_no : Own.cp .no = .no := rfl
@[simp] theorem Own.cp_own0 (n : Nat) : Own.cp (.own n 0) = .no := rfl
@[simp] theorem Own.cp_ownS (n e : Nat) : Own.cp (.own n (e + 1)) = .view (e + 1) := by simp [Own.cp, Own.vw]
theorem Own.cp_own {n e : Nat} (h : e ≠ 0) : Own.cp (.own n e) = .view e := by simp [Own.cp, Own.vw, h]
theorem Own.cp_view {e : Nat} (h : e ≠ 0) : Own.cp (.view e) = .view e := by simp [Own.cp, Own.vw, h]
@[simp] theorem Own.cp_cp (o : Own) : o.cp.cp = o.cp := by
  cases o with
  | no => rfl
  | nil => rfl
  | own n e => by_cases h : e = 0 <;> simp [Own.cp, Own.vw, h]
  | view e => by_cases h : e = 0 <;> simp [Own.cp, Own.vw, h]
section
variable (k : IntKind) (n : Int) (b : Bool) (s : List UInt8) (xs cs : List AV) (o : Own) (i j : Nat) (v : AV)
@[simp] theorem cp1_none : AV.cp1 .none = .none := rfl
@[simp] theorem cp1_bool : AV.cp1 (.bool b) = .bool b := rfl
@[simp] theorem cp1_int' : AV.cp1 (.int k n) = .int k n := rfl
@[simp] theorem cp1_str : AV.cp1 (.str s) = .str s := rfl
@[simp] theorem cp1_agg : AV.cp1 (.agg cs) = .agg cs := rfl
@[simp] theorem cp1_list : AV.cp1 (.list xs o) = .list xs o.cp := by cases o <;> rfl
@[simp] theorem cp1_ptr : AV.cp1 (.ptr i j) = .ptr i j := rfl
@[simp] theorem cp1_nilp : AV.cp1 .nilp = .nilp := rfl
@[simp] theorem cp1_lref : AV.cp1 (.lref i j) = .lref i j := rfl
@[simp] theorem cp1_box : AV.cp1 (.box cs) = .box cs := rfl
@[simp] theorem cp1_eref : AV.cp1 (.eref v i) = .eref v i := rfl
@[simp] theorem cp1_lastr : AV.cp1 (.lastr i) = .lastr i := rfl
@[simp] theorem cp1_map : AV.cp1 (.map i) = .map i := rfl
@[simp] theorem cp1_nilm : AV.cp1 .nilm = .nilm := rfl
@[simp] theorem cp1_func : AV.cp1 (.func i cs) = .func i cs := rfl
@[simp] theorem cp1_nilf : AV.cp1 .nilf = .nilf := rfl
@[simp] theorem cp1_iface : AV.cp1 (.iface i v) = .iface i v := rfl
@[simp] theorem cp1_nili : AV.cp1 .nili = .nili := rfl
@[simp] theorem cp1_glob : AV.cp1 (.glob i j) = .glob i j := rfl
@[simp] theorem cp1_tup : AV.cp1 (.tup cs) = .tup cs := rfl
@[simp] theorem cpA_none : AV.cpA .none = .none := rfl
@[simp] theorem cpA_bool : AV.cpA (.bool b) = .bool b := rfl
@[simp] theorem cpA_int' : AV.cpA (.int k n) = .int k n := rfl
@[simp] theorem cpA_str : AV.cpA (.str s) = .str s := rfl
@[simp] theorem cpA_agg : AV.cpA (.agg cs) = .agg (cs.map AV.cp1) := rfl
@[simp] theorem cpA_list : AV.cpA (.list xs o) = .list xs o.cp := by cases o <;> rfl
@[simp] theorem cpA_ptr : AV.cpA (.ptr i j) = .ptr i j := rfl
@[simp] theorem cpA_nilp : AV.cpA .nilp = .nilp := rfl
@[simp] theorem cpA_map : AV.cpA (.map i) = .map i := rfl
@[simp] theorem cpA_nilm : AV.cpA .nilm = .nilm := rfl
@[simp] theorem cpA_func : AV.cpA (.func i cs) = .func i cs := rfl
@[simp] theorem cpA_nilf : AV.cpA .nilf = .nilf := rfl
@[simp] theorem cpA_iface : AV.cpA (.iface i v) = .iface i v := rfl
@[simp] theorem cpA_nili : AV.cpA .nili = .nili := rfl
@[simp] theorem cpA_glob : AV.cpA (.glob i j) = .glob i j := rfl
@[simp] theorem cp_none : AV.cp .none = .none := rfl
@[simp] theorem cp_bool : AV.cp (.bool b) = .bool b := rfl
@[simp] theorem cp_int' : AV.cp (.int k n) = .int k n := rfl
@[simp] theorem cp_str : AV.cp (.str s) = .str s := rfl
@[simp] theorem cp_agg : AV.cp (.agg cs) = .agg (cs.map AV.cp1) := rfl
@[simp] theorem cp_list : AV.cp (.list xs o) = .list xs o.cp := by cases o <;> rfl
@[simp] theorem cp_ptr : AV.cp (.ptr i j) = .ptr i j := rfl
@[simp] theorem cp_nilp : AV.cp .nilp = .nilp := rfl
@[simp] theorem cp_lref : AV.cp (.lref i j) = .lref i j := rfl
@[simp] theorem cp_box : AV.cp (.box cs) = .box cs := rfl
@[simp] theorem cp_eref : AV.cp (.eref v i) = .eref v i := rfl
@[simp] theorem cp_lastr : AV.cp (.lastr i) = .lastr i := rfl
@[simp] theorem cp_map : AV.cp (.map i) = .map i := rfl
@[simp] theorem cp_nilm : AV.cp .nilm = .nilm := rfl
@[simp] theorem cp_func : AV.cp (.func i cs) = .func i cs := rfl
@[simp] theorem cp_nilf : AV.cp .nilf = .nilf := rfl
@[simp] theorem cp_iface : AV.cp (.iface i v) = .iface i v := rfl
@[simp] theorem cp_nili : AV.cp .nili = .nili := rfl
@[simp] theorem cp_glob : AV.cp (.glob i j) = .glob i j := rfl
@[simp] theorem cp_tup : AV.cp (.tup cs) = .tup (cs.map AV.cpA) := rfl
end
section
variable {G : Nat → Option (List AV)} {IP : IProg}
/-- A loop by the states at its rounds' heads. -/
theorem loop_iter {lo : Nat} {b : ICode} (S : Nat → St) (n : Nat) {r : Ex × St} (hstep : ∀ i, i < n → evalC G (callD G IP) (loopD G IP lo) lo b (S i) = some (.normal, S (i + 1)))
    (hend : evalC G (callD G IP) (loopD G IP lo) lo b (S n) = some r) (hr : ∀ s, r ≠ (.normal, s)) : loopD G IP lo b (S 0) = some r := by
  have h : ∀ k, k ≤ n → loopD G IP lo b (S (n - k)) = some r := by
    intro k
    induction k with
    | zero =>
      intro _
      rw [loopD_eq, loopBody, Nat.sub_zero, hend]
      split
      · rename_i s hh; cases hh; exact absurd rfl (hr s)
      · rfl
    | succ k ih =>
      intro hk
      have h1 := hstep (n - (k + 1)) (by omega)
      rw [show n - (k + 1) + 1 = n - k by omega] at h1
      rw [loopD_eq, loopBody, h1]
      exact ih (by omega)
  have := h n (Nat.le_refl n)
  rwa [Nat.sub_self] at this
/-- A loop that is left at some index of a kind, or at its end. -/
theorem loop_some {lo : Nat} {b : ICode} (S : Nat → St) (n : Nat) (p : Nat → Bool) (Y : Nat → Ex × St) (r : Ex × St)
    (hstep : ∀ i, i < n → p i = false → evalC G (callD G IP) (loopD G IP lo) lo b (S i) = some (.normal, S (i + 1)))
    (hyes : ∀ i, i < n → p i = true → evalC G (callD G IP) (loopD G IP lo) lo b (S i) = some (Y i)) (hY : ∀ i s, Y i ≠ (.normal, s))
    (hend : evalC G (callD G IP) (loopD G IP lo) lo b (S n) = some r) (hr : ∀ s, r ≠ (.normal, s)) :
    (∃ m, m < n ∧ p m = true ∧ (∀ j, j < m → p j = false) ∧ loopD G IP lo b (S 0) = some (Y m)) ∨ ((∀ i, i < n → p i = false) ∧ loopD G IP lo b (S 0) = some r) := by
  by_cases hc : ∃ i, i < n ∧ p i = true
  · have : ∃ m, (m < n ∧ p m = true) ∧ ∀ j, j < m → p j = false := by
      obtain ⟨i, hi⟩ := hc
      induction i using Nat.strongRecOn with
      | _ i ih =>
        by_cases hj : ∃ j, j < i ∧ p j = true
        · obtain ⟨j, h1, h2⟩ := hj; exact ih j h1 ⟨by omega, h2⟩
        · refine ⟨i, hi, fun j h1 => ?_⟩
          cases h2 : p j with
          | false => rfl
          | true => exact absurd ⟨j, h1, h2⟩ hj
    obtain ⟨m, ⟨h1, h2⟩, h3⟩ := this
    exact .inl ⟨m, h1, h2, h3, loop_iter S m (fun i hi => hstep i (by omega) (h3 i hi)) (hyes m h1 h2) (hY m)⟩
  · have h0 : ∀ i, i < n → p i = false := fun i hi => by
      cases h2 : p i with
      | false => rfl
      | true => exact absurd ⟨i, hi, h2⟩ hc
    exact .inr ⟨h0, loop_iter S n (fun i hi => hstep i hi (h0 i hi)) hend hr⟩
/-- A loop that is left at the first index of a kind. -/
theorem loop_find {lo : Nat} {b : ICode} (S : Nat → St) (n : Nat) (p : Nat → Bool) (Y r : Ex × St)
    (hstep : ∀ i, i < n → p i = false → evalC G (callD G IP) (loopD G IP lo) lo b (S i) = some (.normal, S (i + 1)))
    (hyes : ∀ i, i < n → p i = true → evalC G (callD G IP) (loopD G IP lo) lo b (S i) = some Y) (hY : ∀ s, Y ≠ (.normal, s))
    (hend : evalC G (callD G IP) (loopD G IP lo) lo b (S n) = some r) (hr : ∀ s, r ≠ (.normal, s)) : loopD G IP lo b (S 0) = some (if (List.range n).any p then Y else r) := by
  by_cases hc : ∃ i, i < n ∧ p i = true
  · have : ∃ m, (m < n ∧ p m = true) ∧ ∀ j, j < m → p j = false := by
      obtain ⟨i, hi⟩ := hc
      induction i using Nat.strongRecOn with
      | _ i ih =>
        by_cases hj : ∃ j, j < i ∧ p j = true
        · obtain ⟨j, h1, h2⟩ := hj; exact ih j h1 ⟨by omega, h2⟩
        · refine ⟨i, hi, fun j h1 => ?_⟩
          cases h2 : p j with
          | false => rfl
          | true => exact absurd ⟨j, h1, h2⟩ hj
    obtain ⟨m, ⟨h1, h2⟩, h3⟩ := this
    rw [if_pos (by simp only [List.any_eq_true, List.mem_range]; exact ⟨m, h1, h2⟩)]
    exact loop_iter S m (fun i hi => hstep i (by omega) (h3 i hi)) (hyes m h1 h2) hY
  · rw [if_neg (by simp only [List.any_eq_true, List.mem_range]; exact hc)]
    refine loop_iter S n (fun i hi => hstep i hi ?_) hend hr
    cases h2 : p i with
    | false => rfl
    | true => exact absurd ⟨i, hi, h2⟩ hc
end

@[simp] theorem cp1_int (k : IntKind) : AV.cp1 ∘ AV.int k = AV.int k := rfl
@[simp] theorem beqI (a b : Int) : (a == b) = decide (a = b) := by by_cases h : a = b <;> simp [h]
@[simp] theorem bneI (a b : Int) : (a != b) = !decide (a = b) := by by_cases h : a = b <;> simp [h]
@[simp] theorem beqS (a b : List UInt8) : (a == b) = decide (a = b) := by by_cases h : a = b <;> simp [h]
@[simp] theorem bneS (a b : List UInt8) : (a != b) = !decide (a = b) := by by_cases h : a = b <;> simp [h]
@[simp] theorem okSize_nil (n : Nat) : okSize n [] = true := rfl
@[simp] theorem okSize_cons (n : Nat) (x : AV) (r : List AV) : okSize n (x :: r) = (x.cells.length == n) := rfl
@[simp] theorem closedL_app (n : Nat) : ∀ a b : List AV, AV.closedL n (a ++ b) = (AV.closedL n a && AV.closedL n b)
  | [], b => by simp [AV.closedL]
  | v :: r, b => by simp [AV.closedL, closedL_app n r b, Bool.and_assoc]
@[simp] theorem keep1_list (xs : List AV) (o : Own) : AV.keep1 (.list xs o) = .list xs o := rfl
@[simp] theorem keep1_int (k : IntKind) (n : Int) : AV.keep1 (.int k n) = .int k n := rfl
@[simp] theorem keep1_bool (b : Bool) : AV.keep1 (.bool b) = .bool b := rfl
@[simp] theorem keep1_str (s : List UInt8) : AV.keep1 (.str s) = .str s := rfl
@[simp] theorem keep1_agg (cs : List AV) : AV.keep1 (.agg cs) = .agg (cs.map AV.cp1) := rfl
def ownB (o : Bool) : Own := if o then .nil else .no
@[simp] theorem ownB_cp (o : Bool) : (ownB o).cp = ownB o := by cases o <;> rfl
@[simp] theorem ownB_own (o : Bool) (n e : Nat) : (ownB o = .own n e) = False := by cases o <;> simp [ownB]
theorem wrap_small {n : Int} (h0 : 0 ≤ n) (h1 : n ≤ 9223372036854775807) : IntKind.wrap .i64 n = n := by
  simp [IntKind.wrap, IntKind.signed, IntKind.bits]; omega
theorem wrap_succ {i n : Nat} (h : i < n) (hn : n ≤ 9223372036854775807) : IntKind.wrap .i64 ((i : Int) + 1) = ((i + 1 : Nat) : Int) := by
  rw [wrap_small (by omega) (by omega)]; rfl
theorem foldl_take_succ {α β : Type} (f : β → α → β) (s : β) (l : List α) (i : Nat) (h : i < l.length) : (l.take (i + 1)).foldl f s = f ((l.take i).foldl f s) l[i] := by
  rw [List.take_succ_eq_append_getElem h, List.foldl_append]; rfl
theorem cell_one {l : List Int} {k : IntKind} {n : Nat} (h : n < l.length) : ((l.map (AV.int k)).drop n).take 1 = [AV.int k (l.getD n 0)] := by
  rw [List.drop_eq_getElem_cons (by simpa using h)]
  simp [h]
end Go.Proofs.Ytajlmldpbhendab.Rf
end
section
/- Terms. -/
set_option linter.unusedSimpArgs false
set_option linter.unusedVariables false
namespace Go.Proofs.Ytajlmldpbhendab.Rf

inductive T where
  | mk (op width val : Int) (name : List UInt8) (o : Bool) (args : List T)
namespace T
def op : T → Int | .mk a _ _ _ _ _ => a
def width : T → Int | .mk _ a _ _ _ _ => a
def val : T → Int | .mk _ _ a _ _ _ => a
def name : T → List UInt8 | .mk _ _ _ a _ _ => a
def o : T → Bool | .mk _ _ _ _ a _ => a
def args : T → List T | .mk _ _ _ _ _ a => a
end T
mutual
def T.av : T → AV
  | .mk op w v n o as => .agg [.int .i64 op, .int .i64 w, .int .u64 v, .str n, .list (T.avs as) (ownB o)]
def T.avs : List T → List AV
  | [] => []
  | t :: r => t.av :: T.avs r
end
theorem T.av_eq (t : T) : t.av = .agg [.int .i64 t.op, .int .i64 t.width, .int .u64 t.val, .str t.name, .list (T.avs t.args) (ownB t.o)] := by cases t; rfl
abbrev T.cells (t : T) : List AV := [.int .i64 t.op, .int .i64 t.width, .int .u64 t.val, .str t.name, .list (T.avs t.args) (ownB t.o)]
theorem T.avs_eq : ∀ as : List T, T.avs as = as.map T.av
  | [] => rfl
  | t :: r => by simp [T.avs, T.avs_eq r]
@[simp] theorem T.avs_len (as : List T) : (T.avs as).length = as.length := by simp [T.avs_eq]
@[simp] theorem T.avs_getElem {as : List T} {i : Nat} (h : i < (T.avs as).length) : (T.avs as)[i] = (as[i]'(by simpa using h)).av := by simp [T.avs_eq]
theorem T.avs_get {as : List T} {i : Nat} (h : i < as.length) : (T.avs as)[i]? = some as[i].av := by simp [T.avs_eq, h]
mutual
def T.wf : T → Prop
  | .mk op w v n o as => (Lit.int .i64 op).wf = true ∧ (Lit.int .i64 w).wf = true ∧ (Lit.int .u64 v).wf = true ∧ n.length ≤ 9223372036854775807 ∧ as.length ≤ 9223372036854775807 ∧ (o = true → as = []) ∧ T.wfs as
def T.wfs : List T → Prop
  | [] => True
  | t :: r => t.wf ∧ T.wfs r
end
theorem T.wfs_iff : ∀ as : List T, T.wfs as ↔ ∀ t, t ∈ as → t.wf
  | [] => by simp [T.wfs]
  | t :: r => by simp [T.wfs, T.wfs_iff r]
theorem T.wf_eq (t : T) : t.wf ↔ (Lit.int .i64 t.op).wf = true ∧ (Lit.int .i64 t.width).wf = true ∧ (Lit.int .u64 t.val).wf = true ∧ t.name.length ≤ 9223372036854775807 ∧ t.args.length ≤ 9223372036854775807 ∧ (t.o = true → t.args = []) ∧ ∀ u, u ∈ t.args → u.wf := by
  cases t; simp only [T.wf, T.op, T.width, T.val, T.name, T.args, T.o, T.wfs_iff]
mutual
def T.same : T → T → Bool
  | .mk a b c d _ as, .mk a' b' c' d' _ as' => a == a' && (b == b' && (c == c' && (d == d' && T.sames as as')))
def T.sames : List T → List T → Bool
  | [], [] => true
  | t :: r, u :: s => t.same u && T.sames r s
  | [], _ :: _ => false
  | _ :: _, [] => false
end
theorem T.same_eq (t u : T) : t.same u = (t.op == u.op && (t.width == u.width && (t.val == u.val && (t.name == u.name && T.sames t.args u.args)))) := by cases t; cases u; rfl
theorem T.sames_eq : ∀ (as bs : List T) (h : as.length = bs.length), T.sames as bs = !(List.range as.length).any fun i => !(as.getD i (.mk 0 0 0 [] true [])).same (bs.getD i (.mk 0 0 0 [] true []))
  | [], [], _ => rfl
  | t :: r, u :: s, h => by
    rw [T.sames, T.sames_eq r s (by simpa using h), List.length_cons, List.range_succ_eq_map]
    simp [List.any_map, Function.comp_def]
  | [], _ :: _, h => by simp at h
  | _ :: _, [], h => by simp at h
theorem T.sames_len : ∀ (as bs : List T), as.length ≠ bs.length → T.sames as bs = false
  | [], [], h => by simp at h
  | t :: r, u :: s, h => by rw [T.sames, T.sames_len r s (by simpa using h), Bool.and_false]
  | [], _ :: _, h => rfl
  | _ :: _, [], h => rfl
mutual
def T.size : T → Nat
  | .mk _ _ _ _ _ as => 1 + T.sizes as
def T.sizes : List T → Nat
  | [] => 0
  | t :: r => t.size + T.sizes r
end
theorem T.size_eq (t : T) : t.size = 1 + T.sizes t.args := by cases t; rfl
theorem T.sizes_app : ∀ a b : List T, T.sizes (a ++ b) = T.sizes a + T.sizes b
  | [], b => by simp [T.sizes]
  | t :: r, b => by simp [T.sizes, T.sizes_app r b]; omega
theorem T.sizes_take {as : List T} {i : Nat} (h : i < as.length) : T.sizes (as.take (i + 1)) = T.sizes (as.take i) + as[i].size := by
  rw [List.take_succ_eq_append_getElem h, T.sizes_app]; simp [T.sizes]
theorem T.sizes_take_le (as : List T) (i : Nat) : T.sizes (as.take i) ≤ T.sizes as := by
  have := T.sizes_app (as.take i) (as.drop i); rw [List.take_append_drop] at this; omega
theorem T.ind {p : T → Prop} (h : ∀ t : T, (∀ u, u ∈ t.args → p u) → p t) (t : T) : p t :=
  T.rec (motive_1 := p) (motive_2 := fun as => ∀ u, u ∈ as → p u) (fun a b c d e as ih => h _ ih) (fun u hu => by simp at hu)
    (fun t r h1 h2 u hu => by
      rcases List.mem_cons.1 hu with e | hu
      · rw [e]; exact h1
      · exact h2 u hu) t
end Go.Proofs.Ytajlmldpbhendab.Rf
end
section
/- Arguments that are terms. -/
set_option linter.unusedSimpArgs false
set_option linter.unusedVariables false
namespace Go.Proofs.Ytajlmldpbhendab.Rf
section
variable {H : Type} {P : Program}
theorem HasTy.str {n : Nat} {t : TypeId} {cs : List AV} {d : DataW H} (hu : P.underlying t = some .string) (h : HasTy P n t cs d) : ∃ s, cs = [.str s] ∧ s.length ≤ 9223372036854775807 := by
  cases n with
  | zero => exact h.elim
  | succ n => simp only [HasTy, hu] at h; obtain ⟨m, h1, h2, _⟩ := h; exact ⟨m, h1, h2⟩
theorem HasTy.bool {n : Nat} {t : TypeId} {cs : List AV} {d : DataW H} (hu : P.underlying t = some .bool) (h : HasTy P n t cs d) : ∃ s, cs = [.bool s] := by
  cases n with
  | zero => exact h.elim
  | succ n => simp only [HasTy, hu] at h; obtain ⟨m, h1, h2⟩ := h; exact ⟨m, h1⟩
/-- a slice whose elements are all of a kind -/
theorem HasTy.slice {α : Type} {n : Nat} {t e : TypeId} {cs : List AV} {d : DataW H} (f : α → AV) (w : α → Prop) (hu : P.underlying t = some (.slice e)) (h : HasTy P n t cs d)
    (he : ∀ m, m < n → ∀ ds (d' : DataW H), HasTy P m e ds d' → ∃ x, elemAV P e ds = f x ∧ w x) :
    ∃ (o : Bool) (l : List α), cs = [.list (l.map f) (ownB o)] ∧ (o = true → l = []) ∧ l.length ≤ 9223372036854775807 ∧ ∀ x, x ∈ l → w x := by
  cases n with
  | zero => exact h.elim
  | succ n =>
    simp only [HasTy, hu] at h
    rcases h with ⟨rfl, _⟩ | ⟨xs, els, rest, rfl, _, h1, h2, h3⟩
    · exact ⟨true, [], rfl, fun _ => rfl, by simp, by simp⟩
    · have : ∀ (xs : List AV) (els : List (DataW H)), xs.length = els.length → (∀ (i : Nat) x d', xs[i]? = some x → els[i]? = some d' → ∃ ds, x = elemAV P e ds ∧ HasTy P n e ds d') → ∃ l : List α, xs = l.map f ∧ ∀ x, x ∈ l → w x := by
        intro xs
        induction xs with
        | nil => intro els _ _; exact ⟨[], rfl, by simp⟩
        | cons x xs ih =>
          intro els hl hh
          cases els with
          | nil => simp at hl
          | cons y els =>
            obtain ⟨ds, e1, e2⟩ := hh 0 x y rfl rfl
            obtain ⟨a, f1, f2⟩ := he n (by omega) ds y e2
            obtain ⟨l, l1, l2⟩ := ih els (by simpa using hl) fun i x d' a b => hh (i + 1) x d' (by simpa using a) (by simpa using b)
            exact ⟨a :: l, by simp [e1, f1, l1], fun z hz => by
              rcases List.mem_cons.1 hz with e | hz
              · rw [e]; exact f2
              · exact l2 z hz⟩
      obtain ⟨l, l1, l2⟩ := this xs els h1 h3
      subst l1
      have hm : maxLen = 9223372036854775807 := rfl
      rw [hm] at h2
      exact ⟨false, l, rfl, by simp, by simpa using h2, l2⟩
/-- a struct's fields -/
theorem HasTy.fields {n : Nat} {t : TypeId} {fs : Array Field} {cs : List AV} {d : DataW H} (hu : P.underlying t = some (.struct fs)) (h : HasTy P n t cs d) :
    ∃ parts : List (List AV), cs = parts.flatten ∧ parts.length = fs.size ∧ ∀ (i : Nat) f ds, fs[i]? = some f → parts[i]? = some ds → ∃ m, ∃ d' : DataW H, m < n ∧ HasTy P m f.type ds d' := by
  cases n with
  | zero => exact h.elim
  | succ n =>
    simp only [HasTy, hu] at h
    obtain ⟨parts, els, rfl, _, h1, h2, h3⟩ := h
    refine ⟨parts, rfl, h1, fun i f ds a b => ?_⟩
    have : i < els.length := by rw [h2, ← h1]; exact (List.getElem?_eq_some_iff.1 b).1
    exact ⟨n, els[i], by omega, h3 i f ds _ a b (List.getElem?_eq_getElem this)⟩
theorem HasTy.term {tt ts a b c e : TypeId} {fs : Array Field} (hu : P.underlying tt = some (.struct fs)) (hf : fs.toList.map Field.type = [a, b, c, e, ts])
    (ha : P.underlying a = some (.int .i64)) (hb : P.underlying b = some (.int .i64)) (hc : P.underlying c = some (.int .u64)) (he : P.underlying e = some .string) (hs : P.underlying ts = some (.slice tt)) :
    ∀ n cs (d : DataW H), HasTy P n tt cs d → ∃ t : T, cs = t.cells ∧ t.wf := by
  intro n
  induction n using Nat.strongRecOn with
  | _ n ih =>
    intro cs d h
    obtain ⟨parts, rfl, hl, hp⟩ := h.fields hu
    have hsz : fs.size = 5 := by have := congrArg List.length hf; simpa using this
    rw [hsz] at hl
    match parts, hl with
    | [p0, p1, p2, p3, p4], _ =>
      have g : ∀ (i : Nat) ds x, [p0, p1, p2, p3, p4][i]? = some ds → [a, b, c, e, ts][i]? = some x → ∃ m, ∃ d' : DataW H, m < n ∧ HasTy P m x ds d' := by
        intro i ds x h1 h2
        rw [← hf] at h2
        simp only [List.getElem?_map, Array.getElem?_toList, Option.map_eq_some_iff] at h2
        obtain ⟨f, f1, f2⟩ := h2
        obtain ⟨m, d', m1, m2⟩ := hp i f ds f1 h1
        exact ⟨m, d', m1, f2 ▸ m2⟩
      obtain ⟨m0, d0, _, q0⟩ := g 0 _ _ rfl rfl
      obtain ⟨m1, d1, _, q1⟩ := g 1 _ _ rfl rfl
      obtain ⟨m2, d2, _, q2⟩ := g 2 _ _ rfl rfl
      obtain ⟨m3, d3, _, q3⟩ := g 3 _ _ rfl rfl
      obtain ⟨m4, d4, k4, q4⟩ := g 4 _ _ rfl rfl
      obtain ⟨x0, rfl, w0⟩ := q0.int ha
      obtain ⟨x1, rfl, w1⟩ := q1.int hb
      obtain ⟨x2, rfl, w2⟩ := q2.int hc
      obtain ⟨x3, rfl, w3⟩ := q3.str he
      obtain ⟨o, l, rfl, o1, l1, l2⟩ := q4.slice T.av T.wf hs fun m hm ds d' h => by
        obtain ⟨x, x1, x2⟩ := ih m (by omega) ds d' h
        exact ⟨x, by unfold elemAV aggTy; rw [hu, x1, T.av_eq]; rfl, x2⟩
      refine ⟨.mk x0 x1 x2 x3 o l, ?_, ?_⟩
      · simp [T.cells, T.op, T.width, T.val, T.name, T.o, T.args, T.avs_eq]
      · rw [T.wf_eq]; exact ⟨w0, w1, w2, w3, l1, o1, l2⟩
theorem ArgTy.term {tt ts a b c e : TypeId} {fs : Array Field} {v : AV} {d : DataW H} (hu : P.underlying tt = some (.struct fs)) (hf : fs.toList.map Field.type = [a, b, c, e, ts])
    (ha : P.underlying a = some (.int .i64)) (hb : P.underlying b = some (.int .i64)) (hc : P.underlying c = some (.int .u64)) (he : P.underlying e = some .string) (hs : P.underlying ts = some (.slice tt))
    (h : ArgTy P tt v d) : ∃ t : T, v = t.av ∧ t.wf := by
  obtain ⟨n, cs, rfl, h⟩ := h
  obtain ⟨x, x1, x2⟩ := HasTy.term hu hf ha hb hc he hs n cs d h
  exact ⟨x, by unfold elemAV aggTy; rw [hu, x1, T.av_eq]; rfl, x2⟩
/-- an array -/
theorem ArgTy.array {α : Type} {t e : TypeId} {m : Nat} {v : AV} {d : DataW H} (f : α → List AV) (w : α → Prop) (hu : P.underlying t = some (.array m e)) (h : ArgTy P t v d)
    (he : ∀ n ds (d' : DataW H), HasTy P n e ds d' → ∃ x, ds = f x ∧ w x) : ∃ l : List α, l.length = m ∧ v = .agg (l.map f).flatten ∧ ∀ x, x ∈ l → w x := by
  obtain ⟨n, cs, rfl, h⟩ := h
  cases n with
  | zero => exact h.elim
  | succ n =>
    simp only [HasTy, hu] at h
    obtain ⟨parts, els, rfl, _, h1, h2, h3⟩ := h
    have : ∀ (xs : List (List AV)) (els : List (DataW H)), xs.length = els.length → (∀ (i : Nat) x d', xs[i]? = some x → els[i]? = some d' → HasTy P n e x d') → ∃ l : List α, xs = l.map f ∧ ∀ x, x ∈ l → w x := by
      intro xs
      induction xs with
      | nil => intro els _ _; exact ⟨[], rfl, by simp⟩
      | cons x xs ih =>
        intro els hl hh
        cases els with
        | nil => simp at hl
        | cons y els =>
          obtain ⟨a, f1, f2⟩ := he n x y (hh 0 x y rfl rfl)
          obtain ⟨l, l1, l2⟩ := ih els (by simpa using hl) fun i x d' a b => hh (i + 1) x d' (by simpa using a) (by simpa using b)
          exact ⟨a :: l, by simp [f1, l1], fun z hz => by
            rcases List.mem_cons.1 hz with e | hz
            · rw [e]; exact f2
            · exact l2 z hz⟩
    obtain ⟨l, l1, l2⟩ := this parts els (by omega) h3
    subst l1
    refine ⟨l, by simpa using h1, ?_, l2⟩
    unfold elemAV aggTy; rw [hu]; rfl
end
end Go.Proofs.Ytajlmldpbhendab.Rf
end
section
/- S-expressions. -/
set_option linter.unusedSimpArgs false
set_option linter.unusedVariables false
namespace Go.Proofs.Ytajlmldpbhendab.Rf

inductive S where
  | mk (atom : List UInt8) (o : Bool) (list : List S)
namespace S
def atom : S → List UInt8 | .mk a _ _ => a
def o : S → Bool | .mk _ a _ => a
def list : S → List S | .mk _ _ a => a
end S
mutual
def S.av : S → AV
  | .mk a o l => .agg [.str a, .list (S.avs l) (ownB o)]
def S.avs : List S → List AV
  | [] => []
  | t :: r => t.av :: S.avs r
end
theorem S.av_eq (t : S) : t.av = .agg [.str t.atom, .list (S.avs t.list) (ownB t.o)] := by cases t; rfl
theorem S.avs_eq : ∀ l : List S, S.avs l = l.map S.av
  | [] => rfl
  | t :: r => by simp [S.avs, S.avs_eq r]
@[simp] theorem S.avs_len (l : List S) : (S.avs l).length = l.length := by simp [S.avs_eq]
@[simp] theorem S.avs_nil : S.avs [] = [] := rfl
@[simp] theorem S.avs_getElem {l : List S} {i : Nat} (h : i < (S.avs l).length) : (S.avs l)[i] = (l[i]'(by simpa using h)).av := by simp [S.avs_eq]
theorem S.avs_get {l : List S} {i : Nat} (h : i < l.length) : (S.avs l)[i]? = some l[i].av := by simp [S.avs_eq, h]
theorem S.avs_app (a b : List S) : S.avs (a ++ b) = S.avs a ++ S.avs b := by simp [S.avs_eq]
mutual
def S.wf : S → Prop
  | .mk a o l => a.length ≤ 9223372036854775807 ∧ l.length ≤ 9223372036854775807 ∧ (o = true → l = []) ∧ S.wfs l
def S.wfs : List S → Prop
  | [] => True
  | t :: r => t.wf ∧ S.wfs r
end
theorem S.wfs_iff : ∀ l : List S, S.wfs l ↔ ∀ t, t ∈ l → t.wf
  | [] => by simp [S.wfs]
  | t :: r => by simp [S.wfs, S.wfs_iff r]
theorem S.wf_eq (t : S) : t.wf ↔ t.atom.length ≤ 9223372036854775807 ∧ t.list.length ≤ 9223372036854775807 ∧ (t.o = true → t.list = []) ∧ ∀ u, u ∈ t.list → u.wf := by
  cases t; simp only [S.wf, S.atom, S.list, S.o, S.wfs_iff]
mutual
def S.same : S → S → Bool
  | .mk a _ l, .mk a' _ l' => a == a' && S.sames l l'
def S.sames : List S → List S → Bool
  | [], [] => true
  | t :: r, u :: s => t.same u && S.sames r s
  | [], _ :: _ => false
  | _ :: _, [] => false
end
theorem S.same_eq (t u : S) : t.same u = (t.atom == u.atom && S.sames t.list u.list) := by cases t; cases u; rfl
theorem S.sames_eq : ∀ (as bs : List S) (h : as.length = bs.length), S.sames as bs = !(List.range as.length).any fun i => !(as.getD i (.mk [] true [])).same (bs.getD i (.mk [] true []))
  | [], [], _ => rfl
  | t :: r, u :: s, h => by
    rw [S.sames, S.sames_eq r s (by simpa using h), List.length_cons, List.range_succ_eq_map]
    simp [List.any_map, Function.comp_def]
  | [], _ :: _, h => by simp at h
  | _ :: _, [], h => by simp at h
theorem S.sames_len : ∀ (as bs : List S), as.length ≠ bs.length → S.sames as bs = false
  | [], [], h => by simp at h
  | t :: r, u :: s, h => by rw [S.sames, S.sames_len r s (by simpa using h), Bool.and_false]
  | [], _ :: _, h => rfl
  | _ :: _, [], h => rfl
theorem S.ind {p : S → Prop} (h : ∀ t : S, (∀ u, u ∈ t.list → p u) → p t) (t : S) : p t :=
  S.rec (motive_1 := p) (motive_2 := fun l => ∀ u, u ∈ l → p u) (fun a b c ih => h _ ih) (fun u hu => by simp at hu)
    (fun t r h1 h2 u hu => by
      rcases List.mem_cons.1 hu with e | hu
      · rw [e]; exact h1
      · exact h2 u hu) t
theorem S.same_refl (t : S) : t.same t = true := by
  induction t using S.ind with | h t ih =>
  have : ∀ l : List S, (∀ u, u ∈ l → u.same u = true) → S.sames l l = true := by
    intro l
    induction l with
    | nil => intro _; rfl
    | cons x r ihl => intro h; simp only [S.sames, h x (by simp), Bool.true_and]; exact ihl fun u hu => h u (by simp [hu])
  rw [S.same_eq, this t.list ih]; simp
theorem S.sames_refl (l : List S) : S.sames l l = true := by
  induction l with
  | nil => rfl
  | cons x r ih => simp only [S.sames, S.same_refl x, ih, Bool.true_and]
section
variable {H : Type} {P : Program}
theorem HasTy.sexp {tt ts a : TypeId} {fs : Array Field} (hu : P.underlying tt = some (.struct fs)) (hf : fs.toList.map Field.type = [a, ts]) (ha : P.underlying a = some .string) (hs : P.underlying ts = some (.slice tt)) :
    ∀ n cs (d : DataW H), HasTy P n tt cs d → ∃ t : S, cs = [.str t.atom, .list (S.avs t.list) (ownB t.o)] ∧ t.wf := by
  intro n
  induction n using Nat.strongRecOn with
  | _ n ih =>
    intro cs d h
    obtain ⟨parts, rfl, hl, hp⟩ := h.fields hu
    have hsz : fs.size = 2 := by have := congrArg List.length hf; simpa using this
    rw [hsz] at hl
    match parts, hl with
    | [p0, p1], _ =>
      have g : ∀ (i : Nat) ds x, [p0, p1][i]? = some ds → [a, ts][i]? = some x → ∃ m, ∃ d' : DataW H, m < n ∧ HasTy P m x ds d' := by
        intro i ds x h1 h2
        rw [← hf] at h2
        simp only [List.getElem?_map, Array.getElem?_toList, Option.map_eq_some_iff] at h2
        obtain ⟨f, f1, f2⟩ := h2
        obtain ⟨m, d', m1, m2⟩ := hp i f ds f1 h1
        exact ⟨m, d', m1, f2 ▸ m2⟩
      obtain ⟨m0, d0, _, q0⟩ := g 0 _ _ rfl rfl
      obtain ⟨m1, d1, _, q1⟩ := g 1 _ _ rfl rfl
      obtain ⟨x0, rfl, w0⟩ := q0.str ha
      obtain ⟨o, l, rfl, o1, l1, l2⟩ := q1.slice S.av S.wf hs fun m hm ds d' h => by
        obtain ⟨x, x1, x2⟩ := ih m (by omega) ds d' h
        exact ⟨x, by unfold elemAV aggTy; rw [hu, x1, S.av_eq]; rfl, x2⟩
      refine ⟨.mk x0 o l, ?_, ?_⟩
      · simp [S.atom, S.o, S.list, S.avs_eq]
      · rw [S.wf_eq]; exact ⟨w0, l1, o1, l2⟩
theorem ArgTy.sexp {tt ts a : TypeId} {fs : Array Field} {v : AV} {d : DataW H} (hu : P.underlying tt = some (.struct fs)) (hf : fs.toList.map Field.type = [a, ts]) (ha : P.underlying a = some .string) (hs : P.underlying ts = some (.slice tt))
    (h : ArgTy P tt v d) : ∃ t : S, v = t.av ∧ t.wf := by
  obtain ⟨n, cs, rfl, h⟩ := h
  obtain ⟨x, x1, x2⟩ := HasTy.sexp hu hf ha hs n cs d h
  exact ⟨x, by unfold elemAV aggTy; rw [hu, x1, S.av_eq]; rfl, x2⟩
theorem ArgTy.sexps {tt ts a : TypeId} {fs : Array Field} {v : AV} {d : DataW H} (hu : P.underlying tt = some (.struct fs)) (hf : fs.toList.map Field.type = [a, ts]) (ha : P.underlying a = some .string) (hs : P.underlying ts = some (.slice tt))
    (h : ArgTy P ts v d) : ∃ (o : Bool) (l : List S), v = .list (S.avs l) (ownB o) ∧ (o = true → l = []) ∧ l.length ≤ 9223372036854775807 ∧ ∀ t, t ∈ l → t.wf := by
  obtain ⟨n, cs, rfl, h⟩ := h
  obtain ⟨o, l, rfl, h1, h2, h3⟩ := h.slice S.av S.wf hs fun m hm ds d' h => by
    obtain ⟨x, x1, x2⟩ := HasTy.sexp hu hf ha hs m ds d' h
    exact ⟨x, by unfold elemAV aggTy; rw [hu, x1, S.av_eq]; rfl, x2⟩
  exact ⟨o, l, by unfold elemAV aggTy; rw [hs, S.avs_eq]; rfl, h1, h2, h3⟩
theorem ArgTy.str {t : TypeId} {v : AV} {d : DataW H} (hu : P.underlying t = some .string) (h : ArgTy P t v d) : ∃ s, v = .str s ∧ s.length ≤ 9223372036854775807 := by
  obtain ⟨n, cs, rfl, h⟩ := h
  obtain ⟨m, rfl, hm⟩ := h.str hu
  exact ⟨m, by unfold elemAV aggTy; rw [hu]; rfl, hm⟩
end
end Go.Proofs.Ytajlmldpbhendab.Rf
end
section
/- The chapter's examples. -/
namespace Go.Proofs.Ytajlmldpbhendab.Rf
set_option maxRecDepth 100000 in
theorem sxlive_ok : (run G0 IP 60).1 n_saturatelaw05_live [] [] 0 true = some (.ret (.bool true) []) := by kernel_rfl
end Go.Proofs.Ytajlmldpbhendab.Rf
end

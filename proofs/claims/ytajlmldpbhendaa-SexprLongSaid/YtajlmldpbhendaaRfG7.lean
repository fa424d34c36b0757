import Derived.Test.YtajlmldpbhendaaRfG6
section
set_option maxRecDepth 100000
namespace Go.Proofs.Ytajlmldpbhendaa.Rf
abbrev n_gosem_cut : Nat := 1
abbrev n_gosem_cut_init : Nat := 2
abbrev n_saturatelaw10_CostNodes : Nat := 3
abbrev n_saturatelaw10_CostTrees : Nat := 4
abbrev n_saturatelaw10_CostDags : Nat := 5
abbrev n_saturatelaw10_CostShared : Nat := 6
abbrev n_saturatelaw10_CostOrder : Nat := 7
abbrev n_saturatelaw10_CostGrows : Nat := 8
abbrev n_saturatelaw05_SexprParses : Nat := 9
abbrev n_saturatelaw05_SexprGaps : Nat := 10
abbrev n_saturatelaw05_SexprLong : Nat := 11
abbrev n_saturatelaw05_SexprPrints : Nat := 12
abbrev n_saturatelaw05_SexprBack : Nat := 13
abbrev n_saturatelaw05_SexprTwice : Nat := 14
abbrev n_cost_Node : Nat := 15
abbrev n_saturateref10_Node : Nat := 16
abbrev n_cost_Add : Nat := 17
abbrev n_saturateref10_Add : Nat := 18
abbrev n_cost_Uniform : Nat := 19
abbrev n_saturatelaw10_lives : Nat := 20
abbrev n_saturateref10_Small : Nat := 21
abbrev n_cost_Tree : Nat := 22
abbrev n_saturateref10_Tree : Nat := 23
abbrev n_cost_Dag : Nat := 24
abbrev n_saturateref10_Dag : Nat := 25
abbrev n_saturateref10_Subterms : Nat := 26
abbrev n_saturateref10_Count : Nat := 27
abbrev n_saturatelaw05_live : Nat := 28
abbrev n_sexpr_Parse : Nat := 29
abbrev n_saturateref05_Parse : Nat := 30
abbrev n_sexpr_ParseAll : Nat := 31
abbrev n_saturateref05_ParseAll : Nat := 32
abbrev n_saturateref05_Same : Nat := 33
abbrev n_saturateref05_SameAll : Nat := 34
abbrev n_saturateref05_Few : Nat := 35
abbrev n_saturateref05_Valid : Nat := 36
abbrev n_saturateref05_Gap : Nat := 37
abbrev n_saturateref05_Spaced : Nat := 38
abbrev n_sexpr_Print : Nat := 39
abbrev n_saturateref05_Print : Nat := 40
abbrev n_sexpr_PrintAll : Nat := 41
abbrev n_saturateref05_PrintAll : Nat := 42
abbrev n_sexpr_Valid : Nat := 43
abbrev n_cost_clamp : Nat := 44
abbrev n_saturateref10_left : Nat := 45
abbrev n_cost_shared_visit : Nat := 46
abbrev n_saturateref10_Same : Nat := 47
abbrev n_sexpr_all : Nat := 48
abbrev n_saturateref05_one : Nat := 49
abbrev n_saturateref05_skip : Nat := 50
abbrev n_saturateref05_weigh : Nat := 51
abbrev n_saturateref05_right : Nat := 52
abbrev n_saturateref05_Depth : Nat := 53
abbrev n_saturateref05_blank : Nat := 54
abbrev n_sexpr_write : Nat := 55
abbrev n_strings_Builder_String : Nat := 56
abbrev n_strings_Builder_WriteByte : Nat := 57
abbrev n_sexpr_valid : Nat := 58
abbrev n_term_Size : Nat := 59
abbrev n_term_Same : Nat := 60
abbrev n_sexpr_all_1 : Nat := 61
abbrev n_sexpr_parser_skip : Nat := 62
abbrev n_sexpr_parser_expression : Nat := 63
abbrev n_saturateref05_Byte : Nat := 64
abbrev n_saturateref05_atom : Nat := 65
abbrev n_strings_Builder_WriteString : Nat := 66
abbrev n_strings_Builder_copyCheck : Nat := 67
abbrev n_sexpr_plain : Nat := 68
abbrev n_slices_EqualFunc_Term_Term_Term_Term : Nat := 69
abbrev n_sexpr_parser_fail : Nat := 70
abbrev n_internal_abi_NoEscape : Nat := 71
def i_gosem_cut_init : IFun := ⟨true, 0,
 .region [⟨some 0, .call (.f n_gosem_cut) [] false, none⟩] [],
 [], none, none, []⟩
def i_saturatelaw10_CostNodes : IFun := ⟨true, 3,
 .seq (.region [⟨some 3, .box false (.t 0 true), none⟩,
 ⟨some 5, .box false (.t 2 true), none⟩,
 ⟨some 6, .mv (.c (.bool false)), none⟩] [1, 3, 5])
 (.seq (.draw [⟨some 9, .iaddrA (.t 5 false) (.c (.int .i64 0)) 2 1, none⟩,
 ⟨some 10, .load (.t 9 false) (.loc 5) 1 false false, none⟩,
 ⟨some 11, .iaddrA (.t 5 false) (.c (.int .i64 1)) 2 1, none⟩,
 ⟨some 12, .load (.t 11 false) (.loc 5) 1 false false, none⟩,
 ⟨some 7, .mv (.t 10 true), none⟩,
 ⟨some 8, .mv (.t 12 true), none⟩] [0, 1, 2, 3, 4, 5] [] [1, 3, 7, 8])
 (.seq (.draw [⟨some 13, .load (.t 3 false) (.loc 3) 32 true false, none⟩,
 ⟨some 14, .mv (.t 1 false), none⟩,
 ⟨some 15, .call (.f n_cost_Node) [.t 13 true, .t 14 true] true, none⟩,
 ⟨some 16, .load (.t 3 false) (.loc 3) 32 true false, none⟩,
 ⟨some 17, .mv (.t 1 false), none⟩,
 ⟨some 18, .call (.f n_saturateref10_Node) [.t 16 true, .t 17 true] true, none⟩,
 ⟨some 19, .bin .eql (.t 15 false) (.t 18 false), none⟩,
 ⟨some 20, .mv (.t 19 true), none⟩,
 ⟨some 21, .mv (.t 7 false), (some (20, true))⟩,
 ⟨some 22, .mv (.t 8 false), (some (20, true))⟩,
 ⟨some 23, .call (.f n_cost_Add) [.t 21 true, .t 22 true] true, (some (20, true))⟩,
 ⟨some 24, .mv (.t 7 false), (some (20, true))⟩,
 ⟨some 25, .mv (.t 8 false), (some (20, true))⟩,
 ⟨some 26, .call (.f n_saturateref10_Add) [.t 24 true, .t 25 true] true, (some (20, true))⟩,
 ⟨some 27, .bin .eql (.t 23 false) (.t 26 false), (some (20, true))⟩,
 ⟨some 28, .pick (.t 20 false) (.t 27 false) (.c (.bool false)), none⟩,
 ⟨some 29, .mv (.t 28 true), none⟩,
 ⟨some 30, .call (.f n_cost_Uniform) [] true, (some (29, true))⟩,
 ⟨some 31, .mv (.t 1 true), (some (29, true))⟩,
 ⟨some 32, .call (.f n_cost_Node) [.t 30 true, .t 31 true] true, (some (29, true))⟩,
 ⟨some 33, .bin .eql (.t 32 false) (.c (.int .i64 1)), (some (29, true))⟩,
 ⟨some 34, .pick (.t 29 false) (.t 33 false) (.c (.bool false)), none⟩,
 ⟨some 35, .mv (.t 34 true), none⟩,
 ⟨some 36, .call (.f n_saturatelaw10_lives) [] true, (some (35, true))⟩,
 ⟨some 37, .pick (.t 35 false) (.t 36 false) (.c (.bool false)), none⟩,
 ⟨some 6, .mv (.t 37 true), none⟩] [0, 1, 3, 4, 2, 5, 6, 7, 8, 9, 11, 12, 10, 13, 14, 15, 16, 18, 17, 19, 20, 21, 22, 23, 24, 25] [2, 5, 10, 13, 17, 19, 23] [6])
 (.ret))),
 [.tmp 6], none, none, []⟩
def i_saturatelaw10_CostTrees : IFun := ⟨true, 2,
 .seq (.region [⟨some 2, .box false (.t 0 true), none⟩,
 ⟨some 3, .box false (.t 1 true), none⟩,
 ⟨some 4, .mv (.c (.bool false)), none⟩] [2, 3])
 (.seq (.seq (.region [⟨some 5, .load (.t 3 false) (.loc 3) 5 true false, none⟩,
 ⟨some 6, .call (.f n_saturateref10_Small) [.t 5 true, .c (.int .i64 60)] false, none⟩,
 ⟨some 7, .un .not (.t 6 false), none⟩] [2, 3, 7])
 (.cond (.t 7 false)
 (.seq (.region [⟨some 8, .call (.f n_saturatelaw10_lives) [] false, none⟩,
 ⟨some 4, .mv (.t 8 true), none⟩] [4])
 (.ret))
 (.skip)))
 (.seq (.draw [⟨some 9, .load (.t 2 false) (.loc 2) 32 true false, none⟩,
 ⟨some 10, .load (.t 3 false) (.loc 3) 5 true false, none⟩,
 ⟨some 11, .call (.f n_cost_Tree) [.t 9 true, .t 10 true] true, none⟩,
 ⟨some 12, .load (.t 2 false) (.loc 2) 32 true false, none⟩,
 ⟨some 13, .load (.t 3 false) (.loc 3) 5 true false, none⟩,
 ⟨some 14, .call (.f n_saturateref10_Tree) [.t 12 true, .t 13 true] true, none⟩,
 ⟨some 15, .bin .eql (.t 11 false) (.t 14 false), none⟩,
 ⟨some 16, .mv (.t 15 true), none⟩,
 ⟨some 17, .call (.f n_saturatelaw10_lives) [] true, (some (16, true))⟩,
 ⟨some 18, .pick (.t 16 false) (.t 17 false) (.c (.bool false)), none⟩,
 ⟨some 4, .mv (.t 18 true), none⟩] [0, 1, 3, 4, 2, 5, 6, 7, 8, 9, 10] [2, 5, 8] [4])
 (.ret))),
 [.tmp 4], none, none, []⟩
def i_saturatelaw10_CostDags : IFun := ⟨true, 2,
 .seq (.region [⟨some 2, .box false (.t 0 true), none⟩,
 ⟨some 3, .box false (.t 1 true), none⟩,
 ⟨some 4, .mv (.c (.bool false)), none⟩] [2, 3])
 (.seq (.draw [⟨some 8, .iaddrA (.t 3 false) (.c (.int .i64 0)) 3 5, none⟩,
 ⟨some 9, .load (.t 8 false) (.loc 3) 5 true false, none⟩,
 ⟨some 10, .iaddrA (.t 3 false) (.c (.int .i64 1)) 3 5, none⟩,
 ⟨some 11, .load (.t 10 false) (.loc 3) 5 true false, none⟩,
 ⟨some 12, .iaddrA (.t 3 false) (.c (.int .i64 2)) 3 5, none⟩,
 ⟨some 13, .load (.t 12 false) (.loc 3) 5 true false, none⟩,
 ⟨some 5, .alloc false 0 [.int .i64 0, .int .i64 0, .int .u64 0, .str [], .list [] .nil], none⟩,
 ⟨some 6, .alloc false 0 [.int .i64 0, .int .i64 0, .int .u64 0, .str [], .list [] .nil], none⟩,
 ⟨some 7, .alloc false 0 [.int .i64 0, .int .i64 0, .int .u64 0, .str [], .list [] .nil], none⟩,
 ⟨none, .store (.t 5 false) (.loc 5) (.t 9 true) 5, none⟩,
 ⟨none, .store (.t 6 false) (.loc 6) (.t 11 true) 5, none⟩,
 ⟨none, .store (.t 7 false) (.loc 7) (.t 13 true) 5, none⟩] [0, 1, 2, 3, 4, 5, 6, 7, 8, 9, 10, 11] [] [2, 5, 6, 7])
 (.seq (.seq (.region [⟨some 14, .load (.t 5 false) (.loc 5) 5 true false, none⟩,
 ⟨some 15, .call (.f n_saturateref10_Small) [.t 14 true, .c (.int .i64 40)] false, none⟩,
 ⟨some 16, .un .not (.t 15 false), none⟩,
 ⟨some 17, .mv (.t 16 true), none⟩,
 ⟨some 18, .load (.t 6 false) (.loc 6) 5 true false, (some (17, false))⟩,
 ⟨some 19, .call (.f n_saturateref10_Small) [.t 18 true, .c (.int .i64 40)] false, (some (17, false))⟩,
 ⟨some 20, .un .not (.t 19 false), (some (17, false))⟩,
 ⟨some 21, .pick (.t 17 false) (.c (.bool true)) (.t 20 false), none⟩,
 ⟨some 22, .mv (.t 21 true), none⟩,
 ⟨some 23, .load (.t 7 false) (.loc 7) 5 true false, (some (22, false))⟩,
 ⟨some 24, .call (.f n_saturateref10_Small) [.t 23 true, .c (.int .i64 40)] false, (some (22, false))⟩,
 ⟨some 25, .un .not (.t 24 false), (some (22, false))⟩,
 ⟨some 26, .pick (.t 22 false) (.c (.bool true)) (.t 25 false), none⟩] [2, 5, 6, 7, 26])
 (.cond (.t 26 false)
 (.seq (.region [⟨some 27, .call (.f n_saturatelaw10_lives) [] false, none⟩,
 ⟨some 4, .mv (.t 27 true), none⟩] [4])
 (.ret))
 (.skip)))
 (.seq (.draw [⟨some 28, .load (.t 2 false) (.loc 2) 32 true false, none⟩,
 ⟨some 29, .call (.f n_cost_Dag) [.t 28 true, .c (.list [] .nil)] true, none⟩,
 ⟨some 30, .bin .eql (.t 29 false) (.c (.int .i64 0)), none⟩,
 ⟨some 31, .mv (.t 30 true), none⟩,
 ⟨some 32, .load (.t 2 false) (.loc 2) 32 true false, (some (31, true))⟩,
 ⟨some 33, .load (.t 5 false) (.loc 5) 5 true false, (some (31, true))⟩,
 ⟨some 34, .bslice (.agg [.int .i64 0, .int .i64 0, .int .u64 0, .str [], .list [] .nil]) 0 1 [(0, .t 33 true)], (some (31, true))⟩,
 ⟨some 35, .call (.f n_cost_Dag) [.t 32 true, .t 34 true] true, (some (31, true))⟩,
 ⟨some 36, .load (.t 2 false) (.loc 2) 32 true false, (some (31, true))⟩,
 ⟨some 37, .load (.t 5 false) (.loc 5) 5 true false, (some (31, true))⟩,
 ⟨some 38, .bslice (.agg [.int .i64 0, .int .i64 0, .int .u64 0, .str [], .list [] .nil]) 0 1 [(0, .t 37 true)], (some (31, true))⟩,
 ⟨some 39, .call (.f n_saturateref10_Dag) [.t 36 true, .t 38 true] true, (some (31, true))⟩,
 ⟨some 40, .bin .eql (.t 35 false) (.t 39 false), (some (31, true))⟩,
 ⟨some 41, .pick (.t 31 false) (.t 40 false) (.c (.bool false)), none⟩,
 ⟨some 42, .mv (.t 41 true), none⟩,
 ⟨some 43, .load (.t 2 false) (.loc 2) 32 true false, (some (42, true))⟩,
 ⟨some 44, .load (.t 5 false) (.loc 5) 5 true false, (some (42, true))⟩,
 ⟨some 45, .load (.t 6 false) (.loc 6) 5 true false, (some (42, true))⟩,
 ⟨some 46, .load (.t 7 false) (.loc 7) 5 true false, (some (42, true))⟩,
 ⟨some 47, .bslice (.agg [.int .i64 0, .int .i64 0, .int .u64 0, .str [], .list [] .nil]) 0 3 [(0, .t 44 true), (1, .t 45 true), (2, .t 46 true)], (some (42, true))⟩,
 ⟨some 48, .call (.f n_cost_Dag) [.t 43 true, .t 47 true] true, (some (42, true))⟩,
 ⟨some 49, .load (.t 2 false) (.loc 2) 32 true false, (some (42, true))⟩,
 ⟨some 50, .load (.t 5 false) (.loc 5) 5 true false, (some (42, true))⟩,
 ⟨some 51, .load (.t 6 false) (.loc 6) 5 true false, (some (42, true))⟩,
 ⟨some 52, .load (.t 7 false) (.loc 7) 5 true false, (some (42, true))⟩,
 ⟨some 53, .bslice (.agg [.int .i64 0, .int .i64 0, .int .u64 0, .str [], .list [] .nil]) 0 3 [(0, .t 50 true), (1, .t 51 true), (2, .t 52 true)], (some (42, true))⟩,
 ⟨some 54, .call (.f n_saturateref10_Dag) [.t 49 true, .t 53 true] true, (some (42, true))⟩,
 ⟨some 55, .bin .eql (.t 48 false) (.t 54 false), (some (42, true))⟩,
 ⟨some 56, .pick (.t 42 false) (.t 55 false) (.c (.bool false)), none⟩,
 ⟨some 57, .mv (.t 56 true), none⟩,
 ⟨some 58, .call (.f n_saturatelaw10_lives) [] true, (some (57, true))⟩,
 ⟨some 59, .pick (.t 57 false) (.t 58 false) (.c (.bool false)), none⟩,
 ⟨some 4, .mv (.t 59 true), none⟩] [0, 1, 2, 3, 4, 5, 6, 8, 9, 10, 7, 11, 12, 13, 14, 15, 16, 17, 18, 19, 21, 22, 23, 24, 25, 20, 26, 27, 28, 29, 30, 31, 32] [1, 7, 11, 20, 26, 30] [4])
 (.ret)))),
 [.tmp 4], none, none, []⟩
def i_saturatelaw10_CostShared : IFun := ⟨true, 2,
 .seq (.region [⟨some 2, .box false (.t 0 true), none⟩,
 ⟨some 3, .box false (.t 1 true), none⟩,
 ⟨some 4, .mv (.c (.bool false)), none⟩] [2, 3])
 (.seq (.seq (.region [⟨some 8, .load (.t 3 false) (.loc 3) 5 true false, none⟩,
 ⟨some 9, .call (.f n_saturateref10_Small) [.t 8 true, .c (.int .i64 60)] false, none⟩,
 ⟨some 10, .un .not (.t 9 false), none⟩] [2, 3, 10])
 (.cond (.t 10 false)
 (.seq (.region [⟨some 11, .call (.f n_saturatelaw10_lives) [] false, none⟩,
 ⟨some 4, .mv (.t 11 true), none⟩] [4])
 (.ret))
 (.skip)))
 (.seq (.draw [⟨some 12, .load (.t 2 false) (.loc 2) 32 true false, none⟩,
 ⟨some 13, .load (.t 3 false) (.loc 3) 5 true false, none⟩,
 ⟨some 14, .bslice (.agg [.int .i64 0, .int .i64 0, .int .u64 0, .str [], .list [] .nil]) 0 1 [(0, .t 13 true)], none⟩,
 ⟨some 15, .call (.f n_cost_Dag) [.t 12 true, .t 14 true] true, none⟩,
 ⟨some 16, .load (.t 2 false) (.loc 2) 32 true false, none⟩,
 ⟨some 17, .load (.t 3 false) (.loc 3) 5 true false, none⟩,
 ⟨some 18, .call (.f n_cost_Tree) [.t 16 true, .t 17 true] true, none⟩,
 ⟨some 5, .mv (.t 15 true), none⟩,
 ⟨some 6, .mv (.t 18 true), none⟩] [0, 1, 2, 4, 5, 3, 6, 7, 8] [3, 6] [3, 5, 6])
 (.seq (.draw [⟨some 19, .load (.t 3 false) (.loc 3) 5 true false, none⟩,
 ⟨some 20, .call (.f n_saturateref10_Subterms) [.c (.list [] .nil), .t 19 true] true, none⟩,
 ⟨some 21, .len (.t 20 false) .list, none⟩,
 ⟨some 22, .load (.t 3 false) (.loc 3) 5 true false, none⟩,
 ⟨some 23, .call (.f n_saturateref10_Count) [.t 22 true] true, none⟩,
 ⟨some 24, .bin .eql (.t 21 false) (.t 23 false), none⟩,
 ⟨some 7, .mv (.t 24 true), none⟩] [0, 3, 1, 2, 4, 5, 6] [1, 4] [5, 6, 7])
 (.seq (.region [⟨some 25, .mv (.t 5 false), none⟩,
 ⟨some 26, .bin .geq (.t 25 false) (.c (.int .i64 1)), none⟩,
 ⟨some 27, .mv (.t 26 true), none⟩,
 ⟨some 28, .mv (.t 5 false), (some (27, true))⟩,
 ⟨some 29, .mv (.t 6 false), (some (27, true))⟩,
 ⟨some 30, .bin .leq (.t 28 false) (.t 29 false), (some (27, true))⟩,
 ⟨some 31, .pick (.t 27 false) (.t 30 false) (.c (.bool false)), none⟩,
 ⟨some 32, .mv (.t 31 true), none⟩,
 ⟨some 33, .mv (.t 5 true), (some (32, true))⟩,
 ⟨some 34, .mv (.t 6 true), (some (32, true))⟩,
 ⟨some 35, .bin .eql (.t 33 false) (.t 34 false), (some (32, true))⟩,
 ⟨some 36, .mv (.t 7 true), (some (32, true))⟩,
 ⟨some 37, .eq false .bool (.t 35 false) (.t 36 false), (some (32, true))⟩,
 ⟨some 38, .pick (.t 32 false) (.t 37 false) (.c (.bool false)), none⟩,
 ⟨some 39, .mv (.t 38 true), none⟩,
 ⟨some 40, .call (.f n_saturatelaw10_lives) [] false, (some (39, true))⟩,
 ⟨some 41, .pick (.t 39 false) (.t 40 false) (.c (.bool false)), none⟩,
 ⟨some 4, .mv (.t 41 true), none⟩] [4])
 (.ret))))),
 [.tmp 4], none, none, []⟩
def i_saturatelaw10_CostOrder : IFun := ⟨true, 3,
 .seq (.region [⟨some 3, .box false (.t 0 true), none⟩,
 ⟨some 4, .box false (.t 1 true), none⟩,
 ⟨some 5, .box false (.t 2 true), none⟩,
 ⟨some 6, .mv (.c (.bool false)), none⟩] [3, 4, 5])
 (.seq (.seq (.region [⟨some 8, .load (.t 4 false) (.loc 4) 5 true false, none⟩,
 ⟨some 9, .call (.f n_saturateref10_Small) [.t 8 true, .c (.int .i64 40)] false, none⟩,
 ⟨some 10, .un .not (.t 9 false), none⟩,
 ⟨some 11, .mv (.t 10 true), none⟩,
 ⟨some 12, .load (.t 5 false) (.loc 5) 5 true false, (some (11, false))⟩,
 ⟨some 13, .call (.f n_saturateref10_Small) [.t 12 true, .c (.int .i64 40)] false, (some (11, false))⟩,
 ⟨some 14, .un .not (.t 13 false), (some (11, false))⟩,
 ⟨some 15, .pick (.t 11 false) (.c (.bool true)) (.t 14 false), none⟩] [3, 4, 5, 15])
 (.cond (.t 15 false)
 (.seq (.region [⟨some 16, .call (.f n_saturatelaw10_lives) [] false, none⟩,
 ⟨some 6, .mv (.t 16 true), none⟩] [6])
 (.ret))
 (.skip)))
 (.seq (.region [⟨some 17, .load (.t 3 false) (.loc 3) 32 true false, none⟩,
 ⟨some 18, .load (.t 4 false) (.loc 4) 5 true false, none⟩,
 ⟨some 19, .load (.t 5 false) (.loc 5) 5 true false, none⟩,
 ⟨some 20, .bslice (.agg [.int .i64 0, .int .i64 0, .int .u64 0, .str [], .list [] .nil]) 0 2 [(0, .t 18 true), (1, .t 19 true)], none⟩,
 ⟨some 21, .call (.f n_cost_Dag) [.t 17 true, .t 20 true] false, none⟩,
 ⟨some 7, .mv (.t 21 true), none⟩] [3, 4, 5, 7])
 (.seq (.draw [⟨some 22, .load (.t 3 false) (.loc 3) 32 true false, none⟩,
 ⟨some 23, .load (.t 5 false) (.loc 5) 5 true false, none⟩,
 ⟨some 24, .load (.t 4 false) (.loc 4) 5 true false, none⟩,
 ⟨some 25, .bslice (.agg [.int .i64 0, .int .i64 0, .int .u64 0, .str [], .list [] .nil]) 0 2 [(0, .t 23 true), (1, .t 24 true)], none⟩,
 ⟨some 26, .call (.f n_cost_Dag) [.t 22 true, .t 25 true] true, none⟩,
 ⟨some 27, .mv (.t 7 false), none⟩,
 ⟨some 28, .bin .eql (.t 26 false) (.t 27 false), none⟩,
 ⟨some 29, .mv (.t 28 true), none⟩,
 ⟨some 30, .load (.t 3 false) (.loc 3) 32 true false, (some (29, true))⟩,
 ⟨some 31, .load (.t 4 false) (.loc 4) 5 true false, (some (29, true))⟩,
 ⟨some 32, .load (.t 5 false) (.loc 5) 5 true false, (some (29, true))⟩,
 ⟨some 33, .load (.t 4 false) (.loc 4) 5 true false, (some (29, true))⟩,
 ⟨some 34, .bslice (.agg [.int .i64 0, .int .i64 0, .int .u64 0, .str [], .list [] .nil]) 0 3 [(0, .t 31 true), (1, .t 32 true), (2, .t 33 true)], (some (29, true))⟩,
 ⟨some 35, .call (.f n_cost_Dag) [.t 30 true, .t 34 true] true, (some (29, true))⟩,
 ⟨some 36, .mv (.t 7 false), (some (29, true))⟩,
 ⟨some 37, .bin .eql (.t 35 false) (.t 36 false), (some (29, true))⟩,
 ⟨some 38, .pick (.t 29 false) (.t 37 false) (.c (.bool false)), none⟩,
 ⟨some 39, .mv (.t 38 true), none⟩,
 ⟨some 40, .load (.t 3 false) (.loc 3) 32 true false, (some (39, true))⟩,
 ⟨some 41, .load (.t 4 false) (.loc 4) 5 true false, (some (39, true))⟩,
 ⟨some 42, .bslice (.agg [.int .i64 0, .int .i64 0, .int .u64 0, .str [], .list [] .nil]) 0 1 [(0, .t 41 true)], (some (39, true))⟩,
 ⟨some 43, .call (.f n_cost_Dag) [.t 40 true, .t 42 true] true, (some (39, true))⟩,
 ⟨some 44, .mv (.t 7 false), (some (39, true))⟩,
 ⟨some 45, .bin .leq (.t 43 false) (.t 44 false), (some (39, true))⟩,
 ⟨some 46, .pick (.t 39 false) (.t 45 false) (.c (.bool false)), none⟩,
 ⟨some 47, .mv (.t 46 true), none⟩,
 ⟨some 48, .mv (.t 7 true), (some (47, true))⟩,
 ⟨some 49, .load (.t 3 false) (.loc 3) 32 true false, (some (47, true))⟩,
 ⟨some 50, .load (.t 4 false) (.loc 4) 5 true false, (some (47, true))⟩,
 ⟨some 51, .bslice (.agg [.int .i64 0, .int .i64 0, .int .u64 0, .str [], .list [] .nil]) 0 1 [(0, .t 50 true)], (some (47, true))⟩,
 ⟨some 52, .call (.f n_cost_Dag) [.t 49 true, .t 51 true] true, (some (47, true))⟩,
 ⟨some 53, .load (.t 3 false) (.loc 3) 32 true false, (some (47, true))⟩,
 ⟨some 54, .load (.t 5 false) (.loc 5) 5 true false, (some (47, true))⟩,
 ⟨some 55, .bslice (.agg [.int .i64 0, .int .i64 0, .int .u64 0, .str [], .list [] .nil]) 0 1 [(0, .t 54 true)], (some (47, true))⟩,
 ⟨some 56, .call (.f n_cost_Dag) [.t 53 true, .t 55 true] true, (some (47, true))⟩,
 ⟨some 57, .call (.f n_cost_Add) [.t 52 true, .t 56 true] true, (some (47, true))⟩,
 ⟨some 58, .bin .leq (.t 48 false) (.t 57 false), (some (47, true))⟩,
 ⟨some 59, .pick (.t 47 false) (.t 58 false) (.c (.bool false)), none⟩,
 ⟨some 60, .mv (.t 59 true), none⟩,
 ⟨some 61, .call (.f n_saturatelaw10_lives) [] true, (some (60, true))⟩,
 ⟨some 62, .pick (.t 60 false) (.t 61 false) (.c (.bool false)), none⟩,
 ⟨some 6, .mv (.t 62 true), none⟩] [0, 1, 2, 3, 5, 4, 6, 7, 8, 9, 10, 11, 12, 14, 13, 15, 16, 17, 18, 19, 20, 22, 21, 23, 24, 25, 26, 27, 28, 29, 31, 32, 33, 30, 34, 35, 36, 37, 38, 39, 40, 41] [4, 13, 21, 30, 34, 35, 39] [6])
 (.ret)))),
 [.tmp 6], none, none, []⟩
def l_saturatelaw10_CostGrows_0 : ICode :=
 .seq (.region [⟨some 20, .bin .lss (.t 19 false) (.t 18 false), none⟩] [2, 3, 5, 18, 19, 20])
 (.seq (.cond (.t 20 false)
 (.skip)
 (.exit 0))
 (.seq (.block 1
 (.seq (.region [⟨some 21, .mv (.t 19 false), none⟩,
 ⟨some 6, .mv (.t 21 true), none⟩] [2, 3, 5, 6, 18, 19])
 (.seq (.draw [⟨some 22, .load (.t 2 false) (.loc 2) 32 true false, none⟩,
 ⟨some 23, .faddr (.t 3 false) 4, none⟩,
 ⟨some 24, .load (.t 23 false) (.loc 3) 1 false false, none⟩,
 ⟨some 25, .mv (.t 6 false), none⟩,
 ⟨some 26, .iaddrL (.t 24 false) (.t 25 false) 5, none⟩,
 ⟨some 27, .load (.t 26 false) .elem 5 true false, none⟩,
 ⟨some 28, .call (.f n_cost_Tree) [.t 22 true, .t 27 true] true, none⟩,
 ⟨some 7, .mv (.t 28 true), none⟩] [0, 1, 2, 3, 4, 5, 6, 7] [6] [2, 3, 5, 6, 7, 18, 19])
 (.seq (.region [⟨some 29, .mv (.t 5 true), none⟩,
 ⟨some 30, .mv (.t 7 false), none⟩,
 ⟨some 31, .call (.f n_cost_Add) [.t 29 true, .t 30 true] false, none⟩,
 ⟨some 5, .mv (.t 31 true), none⟩] [2, 3, 5, 6, 7, 18, 19])
 (.seq (.draw [⟨some 32, .mv (.t 7 true), none⟩,
 ⟨some 33, .load (.t 2 false) (.loc 2) 32 true false, none⟩,
 ⟨some 34, .load (.t 3 false) (.loc 3) 5 true false, none⟩,
 ⟨some 35, .call (.f n_cost_Tree) [.t 33 true, .t 34 true] true, none⟩,
 ⟨some 36, .bin .geq (.t 32 false) (.t 35 false), none⟩,
 ⟨some 37, .mv (.t 36 true), none⟩,
 ⟨some 38, .load (.t 2 false) (.loc 2) 32 true false, (some (37, false))⟩,
 ⟨some 39, .faddr (.t 3 false) 4, (some (37, false))⟩,
 ⟨some 40, .load (.t 39 false) (.loc 3) 1 false false, (some (37, false))⟩,
 ⟨some 41, .mv (.t 6 true), (some (37, false))⟩,
 ⟨some 42, .iaddrL (.t 40 false) (.t 41 false) 5, (some (37, false))⟩,
 ⟨some 43, .load (.t 42 false) .elem 5 true false, (some (37, false))⟩,
 ⟨some 44, .bslice (.agg [.int .i64 0, .int .i64 0, .int .u64 0, .str [], .list [] .nil]) 0 1 [(0, .t 43 true)], (some (37, false))⟩,
 ⟨some 45, .call (.f n_cost_Dag) [.t 38 true, .t 44 true] true, (some (37, false))⟩,
 ⟨some 46, .load (.t 2 false) (.loc 2) 32 true false, (some (37, false))⟩,
 ⟨some 47, .load (.t 3 false) (.loc 3) 5 true false, (some (37, false))⟩,
 ⟨some 48, .bslice (.agg [.int .i64 0, .int .i64 0, .int .u64 0, .str [], .list [] .nil]) 0 1 [(0, .t 47 true)], (some (37, false))⟩,
 ⟨some 49, .call (.f n_cost_Dag) [.t 46 true, .t 48 true] true, (some (37, false))⟩,
 ⟨some 50, .bin .geq (.t 45 false) (.t 49 false), (some (37, false))⟩,
 ⟨some 51, .pick (.t 37 false) (.c (.bool true)) (.t 50 false), none⟩] [0, 1, 2, 3, 4, 5, 6, 7, 8, 9, 10, 11, 12, 14, 15, 16, 13, 17, 18, 19] [3, 13, 17] [2, 3, 5, 18, 19, 51])
 (.cond (.t 51 false)
 (.seq (.region [⟨some 4, .mv (.c (.bool false)), none⟩] [4])
 (.ret))
 (.skip)))))))
 (.region [⟨some 52, .bin .add (.t 19 false) (.c (.int .i64 1)), none⟩,
 ⟨some 19, .mv (.t 52 true), none⟩] [2, 3, 5, 18, 19])))
def i_saturatelaw10_CostGrows : IFun := ⟨true, 2,
 .seq (.region [⟨some 2, .box false (.t 0 true), none⟩,
 ⟨some 3, .box false (.t 1 true), none⟩,
 ⟨some 4, .mv (.c (.bool false)), none⟩] [2, 3])
 (.seq (.seq (.region [⟨some 8, .load (.t 3 false) (.loc 3) 5 true false, none⟩,
 ⟨some 9, .call (.f n_saturateref10_Small) [.t 8 true, .c (.int .i64 60)] false, none⟩,
 ⟨some 10, .un .not (.t 9 false), none⟩] [2, 3, 10])
 (.cond (.t 10 false)
 (.seq (.region [⟨some 11, .call (.f n_saturatelaw10_lives) [] false, none⟩,
 ⟨some 4, .mv (.t 11 true), none⟩] [4])
 (.ret))
 (.skip)))
 (.seq (.region [⟨some 12, .load (.t 2 false) (.loc 2) 32 true false, none⟩,
 ⟨some 13, .faddr (.t 3 false) 0, none⟩,
 ⟨some 14, .load (.t 13 false) (.loc 3) 1 false false, none⟩,
 ⟨some 15, .call (.f n_cost_Node) [.t 12 true, .t 14 true] false, none⟩,
 ⟨some 5, .mv (.t 15 true), none⟩] [2, 3, 5])
 (.seq (.seq (.region [⟨some 16, .faddr (.t 3 false) 4, none⟩,
 ⟨some 17, .load (.t 16 false) (.loc 3) 1 false false, none⟩,
 ⟨some 18, .len (.t 17 false) .list, none⟩,
 ⟨some 19, .mv (.c (.int .i64 0)), none⟩] [2, 3, 5, 18, 19])
 (.block 0
 (.loop l_saturatelaw10_CostGrows_0)))
 (.seq (.region [⟨some 53, .mv (.t 5 true), none⟩,
 ⟨some 54, .load (.t 2 false) (.loc 2) 32 true false, none⟩,
 ⟨some 55, .load (.t 3 false) (.loc 3) 5 true false, none⟩,
 ⟨some 56, .call (.f n_cost_Tree) [.t 54 true, .t 55 true] false, none⟩,
 ⟨some 57, .bin .eql (.t 53 false) (.t 56 false), none⟩,
 ⟨some 58, .mv (.t 57 true), none⟩,
 ⟨some 59, .call (.f n_saturatelaw10_lives) [] false, (some (58, true))⟩,
 ⟨some 60, .pick (.t 58 false) (.t 59 false) (.c (.bool false)), none⟩,
 ⟨some 4, .mv (.t 60 true), none⟩] [4])
 (.ret))))),
 [.tmp 4], none, none, []⟩
def i_saturatelaw05_SexprParses : IFun := ⟨true, 1,
 .seq (.region [⟨some 2, .mv (.c (.bool false)), none⟩] [0])
 (.seq (.seq (.region [⟨some 15, .mv (.t 0 false), none⟩,
 ⟨some 16, .len (.t 15 false) .str, none⟩,
 ⟨some 17, .bin .gtr (.t 16 false) (.c (.int .i64 3000)), none⟩,
 ⟨some 18, .mv (.t 17 true), none⟩,
 ⟨some 19, .mv (.t 0 false), (some (18, true))⟩,
 ⟨some 20, .len (.t 19 false) .str, (some (18, true))⟩,
 ⟨some 21, .bin .leq (.t 20 false) (.c (.int .i64 65536)), (some (18, true))⟩,
 ⟨some 22, .pick (.t 18 false) (.t 21 false) (.c (.bool false)), none⟩] [0, 22])
 (.cond (.t 22 false)
 (.seq (.region [⟨some 23, .call (.f n_saturatelaw05_live) [] false, none⟩,
 ⟨some 2, .mv (.t 23 true), none⟩] [2])
 (.ret))
 (.skip)))
 (.seq (.region [⟨some 25, .mv (.t 0 false), none⟩,
 ⟨some 26, .call (.f n_sexpr_Parse) [.t 25 true] false, none⟩,
 ⟨some 24, .mv (.t 26 true), none⟩,
 ⟨some 27, .extract (.t 24 false) 0, none⟩,
 ⟨some 28, .extract (.t 24 false) 1, none⟩,
 ⟨some 29, .extract (.t 24 true) 2, none⟩,
 ⟨some 3, .alloc false 0 [.str [], .list [] .nil], none⟩,
 ⟨none, .store (.t 3 false) (.loc 3) (.t 27 true) 2, none⟩,
 ⟨some 4, .mv (.t 28 true), none⟩,
 ⟨some 5, .mv (.t 29 true), none⟩] [0, 3, 4, 5])
 (.seq (.region [⟨some 31, .mv (.t 0 false), none⟩,
 ⟨some 32, .call (.f n_saturateref05_Parse) [.t 31 true] false, none⟩,
 ⟨some 30, .mv (.t 32 true), none⟩,
 ⟨some 33, .extract (.t 30 false) 0, none⟩,
 ⟨some 34, .extract (.t 30 false) 1, none⟩,
 ⟨some 35, .extract (.t 30 true) 2, none⟩,
 ⟨some 6, .alloc false 0 [.str [], .list [] .nil], none⟩,
 ⟨none, .store (.t 6 false) (.loc 6) (.t 33 true) 2, none⟩,
 ⟨some 7, .mv (.t 34 true), none⟩,
 ⟨some 8, .mv (.t 35 true), none⟩] [0, 3, 4, 5, 6, 7, 8])
 (.seq (.region [⟨some 37, .mv (.t 0 false), none⟩,
 ⟨some 38, .call (.f n_sexpr_ParseAll) [.t 37 true] false, none⟩,
 ⟨some 36, .mv (.t 38 true), none⟩,
 ⟨some 39, .extract (.t 36 false) 0, none⟩,
 ⟨some 40, .extract (.t 36 false) 1, none⟩,
 ⟨some 41, .extract (.t 36 true) 2, none⟩,
 ⟨some 9, .mv (.t 39 true), none⟩,
 ⟨some 10, .mv (.t 40 true), none⟩,
 ⟨some 11, .mv (.t 41 true), none⟩] [0, 3, 4, 5, 6, 7, 8, 9, 10, 11])
 (.seq (.region [⟨some 43, .mv (.t 0 true), none⟩,
 ⟨some 44, .call (.f n_saturateref05_ParseAll) [.t 43 true] false, none⟩,
 ⟨some 42, .mv (.t 44 true), none⟩,
 ⟨some 45, .extract (.t 42 false) 0, none⟩,
 ⟨some 46, .extract (.t 42 false) 1, none⟩,
 ⟨some 47, .extract (.t 42 true) 2, none⟩,
 ⟨some 12, .mv (.t 45 true), none⟩,
 ⟨some 13, .mv (.t 46 true), none⟩,
 ⟨some 14, .mv (.t 47 true), none⟩] [3, 4, 5, 6, 7, 8, 9, 10, 11, 12, 13, 14])
 (.seq (.region [⟨some 48, .load (.t 3 false) (.loc 3) 2 true false, none⟩,
 ⟨some 49, .load (.t 6 false) (.loc 6) 2 true false, none⟩,
 ⟨some 50, .call (.f n_saturateref05_Same) [.t 48 true, .t 49 true] false, none⟩,
 ⟨some 51, .mv (.t 50 true), none⟩,
 ⟨some 52, .mv (.t 4 true), (some (51, true))⟩,
 ⟨some 53, .mv (.t 7 true), (some (51, true))⟩,
 ⟨some 54, .bin .eql (.t 52 false) (.t 53 false), (some (51, true))⟩,
 ⟨some 55, .pick (.t 51 false) (.t 54 false) (.c (.bool false)), none⟩,
 ⟨some 56, .mv (.t 55 true), none⟩,
 ⟨some 57, .mv (.t 5 true), (some (56, true))⟩,
 ⟨some 58, .mv (.t 8 true), (some (56, true))⟩,
 ⟨some 59, .bin .eql (.t 57 false) (.t 58 false), (some (56, true))⟩,
 ⟨some 60, .pick (.t 56 false) (.t 59 false) (.c (.bool false)), none⟩,
 ⟨some 61, .mv (.t 60 true), none⟩,
 ⟨some 62, .mv (.t 9 true), (some (61, true))⟩,
 ⟨some 63, .mv (.t 12 true), (some (61, true))⟩,
 ⟨some 64, .call (.f n_saturateref05_SameAll) [.t 62 true, .t 63 true] false, (some (61, true))⟩,
 ⟨some 65, .pick (.t 61 false) (.t 64 false) (.c (.bool false)), none⟩,
 ⟨some 66, .mv (.t 65 true), none⟩,
 ⟨some 67, .mv (.t 10 true), (some (66, true))⟩,
 ⟨some 68, .mv (.t 13 true), (some (66, true))⟩,
 ⟨some 69, .bin .eql (.t 67 false) (.t 68 false), (some (66, true))⟩,
 ⟨some 70, .pick (.t 66 false) (.t 69 false) (.c (.bool false)), none⟩,
 ⟨some 71, .mv (.t 70 true), none⟩,
 ⟨some 72, .mv (.t 11 true), (some (71, true))⟩,
 ⟨some 73, .mv (.t 14 true), (some (71, true))⟩,
 ⟨some 74, .bin .eql (.t 72 false) (.t 73 false), (some (71, true))⟩,
 ⟨some 75, .pick (.t 71 false) (.t 74 false) (.c (.bool false)), none⟩,
 ⟨some 76, .mv (.t 75 true), none⟩,
 ⟨some 77, .call (.f n_saturatelaw05_live) [] false, (some (76, true))⟩,
 ⟨some 78, .pick (.t 76 false) (.t 77 false) (.c (.bool false)), none⟩,
 ⟨some 2, .mv (.t 78 true), none⟩] [2])
 (.ret))))))),
 [.tmp 2], none, none, []⟩
def i_saturatelaw05_SexprGaps : IFun := ⟨true, 2,
 .seq (.region [⟨some 2, .box false (.t 0 true), none⟩,
 ⟨some 4, .mv (.c (.bool false)), none⟩] [1, 2])
 (.seq (.seq (.region [⟨some 8, .load (.t 2 false) (.loc 2) 2 true false, none⟩,
 ⟨some 9, .call (.f n_saturateref05_Few) [.t 8 true, .c (.int .i64 60)] false, none⟩,
 ⟨some 10, .un .not (.t 9 false), none⟩,
 ⟨some 11, .mv (.t 10 true), none⟩,
 ⟨some 12, .load (.t 2 false) (.loc 2) 2 true false, (some (11, false))⟩,
 ⟨some 13, .call (.f n_saturateref05_Valid) [.t 12 true] false, (some (11, false))⟩,
 ⟨some 14, .un .not (.t 13 false), (some (11, false))⟩,
 ⟨some 15, .pick (.t 11 false) (.c (.bool true)) (.t 14 false), none⟩,
 ⟨some 16, .mv (.t 15 true), none⟩,
 ⟨some 17, .mv (.t 1 false), (some (16, false))⟩,
 ⟨some 18, .len (.t 17 false) .str, (some (16, false))⟩,
 ⟨some 19, .bin .gtr (.t 18 false) (.c (.int .i64 40)), (some (16, false))⟩,
 ⟨some 20, .pick (.t 16 false) (.c (.bool true)) (.t 19 false), none⟩,
 ⟨some 21, .mv (.t 20 true), none⟩,
 ⟨some 22, .mv (.t 1 false), (some (21, false))⟩,
 ⟨some 23, .call (.f n_saturateref05_Gap) [.t 22 true] false, (some (21, false))⟩,
 ⟨some 24, .un .not (.t 23 false), (some (21, false))⟩,
 ⟨some 25, .pick (.t 21 false) (.c (.bool true)) (.t 24 false), none⟩] [1, 2, 25])
 (.cond (.t 25 false)
 (.seq (.region [⟨some 26, .call (.f n_saturatelaw05_live) [] false, none⟩,
 ⟨some 4, .mv (.t 26 true), none⟩] [4])
 (.ret))
 (.skip)))
 (.seq (.region [⟨some 28, .load (.t 2 false) (.loc 2) 2 true false, none⟩,
 ⟨some 29, .mv (.t 1 true), none⟩,
 ⟨some 30, .call (.f n_saturateref05_Spaced) [.t 28 true, .t 29 true] false, none⟩,
 ⟨some 31, .call (.f n_sexpr_Parse) [.t 30 true] false, none⟩,
 ⟨some 27, .mv (.t 31 true), none⟩,
 ⟨some 32, .extract (.t 27 false) 0, none⟩,
 ⟨some 33, .extract (.t 27 false) 1, none⟩,
 ⟨some 34, .extract (.t 27 true) 2, none⟩,
 ⟨some 5, .alloc false 0 [.str [], .list [] .nil], none⟩,
 ⟨none, .store (.t 5 false) (.loc 5) (.t 32 true) 2, none⟩,
 ⟨some 6, .mv (.t 33 true), none⟩,
 ⟨some 7, .mv (.t 34 true), none⟩] [2, 5, 6, 7])
 (.seq (.region [⟨some 35, .load (.t 5 false) (.loc 5) 2 true false, none⟩,
 ⟨some 36, .load (.t 2 false) (.loc 2) 2 true false, none⟩,
 ⟨some 37, .call (.f n_saturateref05_Same) [.t 35 true, .t 36 true] false, none⟩,
 ⟨some 38, .mv (.t 37 true), none⟩,
 ⟨some 39, .mv (.t 6 true), (some (38, true))⟩,
 ⟨some 40, .bin .eql (.t 39 false) (.c (.int .i64 0)), (some (38, true))⟩,
 ⟨some 41, .pick (.t 38 false) (.t 40 false) (.c (.bool false)), none⟩,
 ⟨some 42, .mv (.t 41 true), none⟩,
 ⟨some 43, .mv (.t 7 true), (some (42, true))⟩,
 ⟨some 44, .bin .eql (.t 43 false) (.c (.int .i64 0)), (some (42, true))⟩,
 ⟨some 45, .pick (.t 42 false) (.t 44 false) (.c (.bool false)), none⟩,
 ⟨some 46, .mv (.t 45 true), none⟩,
 ⟨some 47, .call (.f n_saturatelaw05_live) [] false, (some (46, true))⟩,
 ⟨some 48, .pick (.t 46 false) (.t 47 false) (.c (.bool false)), none⟩,
 ⟨some 4, .mv (.t 48 true), none⟩] [4])
 (.ret)))),
 [.tmp 4], none, none, []⟩
def l_saturatelaw05_SexprLong_0 : ICode :=
 .seq (.seq (.region [⟨some 18, .mv (.t 5 false), none⟩,
 ⟨some 19, .mv (.t 3 false), none⟩,
 ⟨some 20, .bin .lss (.t 18 false) (.t 19 false), none⟩] [3, 4, 5, 20])
 (.cond (.t 20 false)
 (.skip)
 (.exit 0)))
 (.seq (.block 1
 (.region [⟨some 23, .mv (.t 4 false), none⟩,
 ⟨some 24, .mv (.t 5 false), none⟩,
 ⟨some 25, .iaddrL (.t 23 false) (.t 24 false) 1, none⟩,
 ⟨none, .store (.t 25 false) .heap (.c (.int .u8 32)) 1, none⟩] [3, 4, 5]))
 (.region [⟨some 21, .mv (.t 5 true), none⟩,
 ⟨some 22, .bin .add (.t 21 false) (.c (.int .i64 1)), none⟩,
 ⟨some 5, .mv (.t 22 true), none⟩] [3, 4, 5]))
def i_saturatelaw05_SexprLong : IFun := ⟨true, 1,
 .seq (.region [⟨some 2, .mv (.c (.bool false)), none⟩] [0])
 (.seq (.region [⟨some 12, .mv (.t 0 true), none⟩,
 ⟨some 13, .conv .i64 (.t 12 false), none⟩,
 ⟨some 14, .bin .rem (.t 13 false) (.c (.int .i64 7)), none⟩,
 ⟨some 15, .bin .add (.c (.int .i64 65533)) (.t 14 false), none⟩,
 ⟨some 3, .mv (.t 15 true), none⟩] [3])
 (.seq (.region [⟨some 16, .mv (.t 3 false), none⟩,
 ⟨some 17, .mkbuf (.int .u8 0) 5 (.t 16 false) (.t 16 false) 1, none⟩,
 ⟨some 4, .mv (.t 17 true), none⟩] [3, 4])
 (.seq (.seq (.region [⟨some 5, .mv (.c (.int .i64 0)), none⟩] [3, 4, 5])
 (.block 0
 (.loop l_saturatelaw05_SexprLong_0)))
 (.seq (.region [⟨some 26, .mv (.t 4 false), none⟩,
 ⟨some 27, .mv (.t 3 false), none⟩,
 ⟨some 28, .bin .sub (.t 27 false) (.c (.int .i64 1)), none⟩,
 ⟨some 29, .iaddrL (.t 26 false) (.t 28 false) 1, none⟩,
 ⟨none, .store (.t 29 false) .heap (.c (.int .u8 97)) 1, none⟩] [3, 4])
 (.seq (.region [⟨some 31, .mv (.t 4 false), none⟩,
 ⟨some 32, .strL (.t 31 false), none⟩,
 ⟨some 33, .call (.f n_sexpr_Parse) [.t 32 true] false, none⟩,
 ⟨some 30, .mv (.t 33 true), none⟩,
 ⟨some 34, .extract (.t 30 false) 0, none⟩,
 ⟨some 35, .extract (.t 30 false) 1, none⟩,
 ⟨some 36, .extract (.t 30 true) 2, none⟩,
 ⟨some 6, .alloc false 0 [.str [], .list [] .nil], none⟩,
 ⟨none, .store (.t 6 false) (.loc 6) (.t 34 true) 2, none⟩,
 ⟨some 7, .mv (.t 35 true), none⟩,
 ⟨some 8, .mv (.t 36 true), none⟩] [3, 4, 6, 7, 8])
 (.seq (.region [⟨some 38, .mv (.t 4 true), none⟩,
 ⟨some 39, .strL (.t 38 false), none⟩,
 ⟨some 40, .call (.f n_sexpr_ParseAll) [.t 39 true] false, none⟩,
 ⟨some 37, .mv (.t 40 true), none⟩,
 ⟨some 41, .extract (.t 37 false) 0, none⟩,
 ⟨some 42, .extract (.t 37 false) 1, none⟩,
 ⟨some 43, .extract (.t 37 true) 2, none⟩,
 ⟨some 9, .mv (.t 41 true), none⟩,
 ⟨some 10, .mv (.t 42 true), none⟩,
 ⟨some 11, .mv (.t 43 true), none⟩] [3, 6, 7, 8, 9, 10, 11])
 (.seq (.seq (.region [⟨some 44, .mv (.t 3 true), none⟩,
 ⟨some 45, .bin .gtr (.t 44 false) (.c (.int .i64 65536)), none⟩] [6, 7, 8, 9, 10, 11, 45])
 (.cond (.t 45 false)
 (.seq (.region [⟨some 46, .mv (.t 8 true), none⟩,
 ⟨some 47, .bin .eql (.t 46 false) (.c (.int .i64 7)), none⟩,
 ⟨some 48, .mv (.t 47 true), none⟩,
 ⟨some 49, .mv (.t 11 true), (some (48, true))⟩,
 ⟨some 50, .bin .eql (.t 49 false) (.c (.int .i64 7)), (some (48, true))⟩,
 ⟨some 51, .pick (.t 48 false) (.t 50 false) (.c (.bool false)), none⟩,
 ⟨some 52, .mv (.t 51 true), none⟩,
 ⟨some 53, .mv (.t 7 true), (some (52, true))⟩,
 ⟨some 54, .bin .eql (.t 53 false) (.c (.int .i64 0)), (some (52, true))⟩,
 ⟨some 55, .pick (.t 52 false) (.t 54 false) (.c (.bool false)), none⟩,
 ⟨some 56, .mv (.t 55 true), none⟩,
 ⟨some 57, .mv (.t 10 true), (some (56, true))⟩,
 ⟨some 58, .bin .eql (.t 57 false) (.c (.int .i64 0)), (some (56, true))⟩,
 ⟨some 59, .pick (.t 56 false) (.t 58 false) (.c (.bool false)), none⟩,
 ⟨some 60, .mv (.t 59 true), none⟩,
 ⟨some 61, .mv (.t 9 true), (some (60, true))⟩,
 ⟨some 62, .len (.t 61 false) .list, (some (60, true))⟩,
 ⟨some 63, .bin .eql (.t 62 false) (.c (.int .i64 0)), (some (60, true))⟩,
 ⟨some 64, .pick (.t 60 false) (.t 63 false) (.c (.bool false)), none⟩,
 ⟨some 65, .mv (.t 64 true), none⟩,
 ⟨some 66, .faddr (.t 6 false) 0, (some (65, true))⟩,
 ⟨some 67, .load (.t 66 false) (.loc 6) 1 false false, (some (65, true))⟩,
 ⟨some 68, .bin .eql (.t 67 false) (.c (.str [])), (some (65, true))⟩,
 ⟨some 69, .pick (.t 65 false) (.t 68 false) (.c (.bool false)), none⟩,
 ⟨some 70, .mv (.t 69 true), none⟩,
 ⟨some 71, .call (.f n_saturatelaw05_live) [] false, (some (70, true))⟩,
 ⟨some 72, .pick (.t 70 false) (.t 71 false) (.c (.bool false)), none⟩,
 ⟨some 2, .mv (.t 72 true), none⟩] [2])
 (.ret))
 (.skip)))
 (.seq (.region [⟨some 73, .mv (.t 8 true), none⟩,
 ⟨some 74, .bin .eql (.t 73 false) (.c (.int .i64 0)), none⟩,
 ⟨some 75, .mv (.t 74 true), none⟩,
 ⟨some 76, .mv (.t 11 true), (some (75, true))⟩,
 ⟨some 77, .bin .eql (.t 76 false) (.c (.int .i64 0)), (some (75, true))⟩,
 ⟨some 78, .pick (.t 75 false) (.t 77 false) (.c (.bool false)), none⟩,
 ⟨some 79, .mv (.t 78 true), none⟩,
 ⟨some 80, .mv (.t 7 true), (some (79, true))⟩,
 ⟨some 81, .bin .eql (.t 80 false) (.c (.int .i64 0)), (some (79, true))⟩,
 ⟨some 82, .pick (.t 79 false) (.t 81 false) (.c (.bool false)), none⟩,
 ⟨some 83, .mv (.t 82 true), none⟩,
 ⟨some 84, .mv (.t 10 true), (some (83, true))⟩,
 ⟨some 85, .bin .eql (.t 84 false) (.c (.int .i64 0)), (some (83, true))⟩,
 ⟨some 86, .pick (.t 83 false) (.t 85 false) (.c (.bool false)), none⟩,
 ⟨some 87, .mv (.t 86 true), none⟩,
 ⟨some 88, .faddr (.t 6 false) 0, (some (87, true))⟩,
 ⟨some 89, .load (.t 88 false) (.loc 6) 1 false false, (some (87, true))⟩,
 ⟨some 90, .bin .eql (.t 89 false) (.c (.str [97])), (some (87, true))⟩,
 ⟨some 91, .pick (.t 87 false) (.t 90 false) (.c (.bool false)), none⟩,
 ⟨some 92, .mv (.t 91 true), none⟩,
 ⟨some 93, .mv (.t 9 false), (some (92, true))⟩,
 ⟨some 94, .len (.t 93 false) .list, (some (92, true))⟩,
 ⟨some 95, .bin .eql (.t 94 false) (.c (.int .i64 1)), (some (92, true))⟩,
 ⟨some 96, .pick (.t 92 false) (.t 95 false) (.c (.bool false)), none⟩,
 ⟨some 97, .mv (.t 96 true), none⟩,
 ⟨some 98, .mv (.t 9 true), (some (97, true))⟩,
 ⟨some 99, .iaddrL (.t 98 false) (.c (.int .i64 0)) 2, (some (97, true))⟩,
 ⟨some 100, .faddr (.t 99 false) 0, (some (97, true))⟩,
 ⟨some 101, .load (.t 100 false) .elem 1 false false, (some (97, true))⟩,
 ⟨some 102, .bin .eql (.t 101 false) (.c (.str [97])), (some (97, true))⟩,
 ⟨some 103, .pick (.t 97 false) (.t 102 false) (.c (.bool false)), none⟩,
 ⟨some 104, .mv (.t 103 true), none⟩,
 ⟨some 105, .call (.f n_saturatelaw05_live) [] false, (some (104, true))⟩,
 ⟨some 106, .pick (.t 104 false) (.t 105 false) (.c (.bool false)), none⟩,
 ⟨some 2, .mv (.t 106 true), none⟩] [2])
 (.ret))))))))),
 [.tmp 2], none, none, []⟩
def l_saturatelaw05_SexprPrints_0 : ICode :=
 .seq (.seq (.region [⟨some 8, .mv (.t 3 false), none⟩,
 ⟨some 9, .mv (.t 0 false), none⟩,
 ⟨some 10, .len (.t 9 false) .list, none⟩,
 ⟨some 11, .bin .lss (.t 8 false) (.t 10 false), none⟩] [0, 3, 11])
 (.cond (.t 11 false)
 (.skip)
 (.exit 0)))
 (.seq (.block 1
 (.seq (.seq (.region [⟨some 14, .mv (.t 0 false), none⟩,
 ⟨some 15, .mv (.t 3 false), none⟩,
 ⟨some 16, .iaddrL (.t 14 false) (.t 15 false) 2, none⟩,
 ⟨some 17, .load (.t 16 false) .elem 2 true false, none⟩,
 ⟨some 18, .call (.f n_saturateref05_Few) [.t 17 true, .c (.int .i64 300)] false, none⟩,
 ⟨some 19, .un .not (.t 18 false), none⟩] [0, 3, 19])
 (.cond (.t 19 false)
 (.seq (.region [⟨some 20, .call (.f n_saturatelaw05_live) [] false, none⟩,
 ⟨some 2, .mv (.t 20 true), none⟩] [2])
 (.ret))
 (.skip)))
 (.seq (.draw [⟨some 21, .mv (.t 0 false), none⟩,
 ⟨some 22, .mv (.t 3 false), none⟩,
 ⟨some 23, .iaddrL (.t 21 false) (.t 22 false) 2, none⟩,
 ⟨some 24, .load (.t 23 false) .elem 2 true false, none⟩,
 ⟨some 25, .call (.f n_sexpr_Print) [.t 24 true] true, none⟩,
 ⟨some 26, .mv (.t 0 false), none⟩,
 ⟨some 27, .mv (.t 3 false), none⟩,
 ⟨some 28, .iaddrL (.t 26 false) (.t 27 false) 2, none⟩,
 ⟨some 29, .load (.t 28 false) .elem 2 true false, none⟩,
 ⟨some 30, .call (.f n_saturateref05_Print) [.t 29 true] true, none⟩,
 ⟨some 31, .bin .neq (.t 25 false) (.t 30 false), none⟩] [0, 1, 2, 3, 5, 6, 7, 8, 4, 9, 10] [4, 9] [0, 3, 31])
 (.cond (.t 31 false)
 (.seq (.region [⟨some 2, .mv (.c (.bool false)), none⟩] [2])
 (.ret))
 (.skip)))))
 (.region [⟨some 12, .mv (.t 3 true), none⟩,
 ⟨some 13, .bin .add (.t 12 false) (.c (.int .i64 1)), none⟩,
 ⟨some 3, .mv (.t 13 true), none⟩] [0, 3]))
def i_saturatelaw05_SexprPrints : IFun := ⟨true, 1,
 .seq (.region [⟨some 2, .mv (.c (.bool false)), none⟩] [0])
 (.seq (.seq (.region [⟨some 4, .mv (.t 0 false), none⟩,
 ⟨some 5, .len (.t 4 false) .list, none⟩,
 ⟨some 6, .bin .gtr (.t 5 false) (.c (.int .i64 20)), none⟩] [0, 6])
 (.cond (.t 6 false)
 (.seq (.region [⟨some 7, .call (.f n_saturatelaw05_live) [] false, none⟩,
 ⟨some 2, .mv (.t 7 true), none⟩] [2])
 (.ret))
 (.skip)))
 (.seq (.seq (.region [⟨some 3, .mv (.c (.int .i64 0)), none⟩] [0, 3])
 (.block 0
 (.loop l_saturatelaw05_SexprPrints_0)))
 (.seq (.region [⟨some 32, .mv (.t 0 false), none⟩,
 ⟨some 33, .call (.f n_sexpr_PrintAll) [.t 32 true] false, none⟩,
 ⟨some 34, .mv (.t 0 true), none⟩,
 ⟨some 35, .call (.f n_saturateref05_PrintAll) [.t 34 true] false, none⟩,
 ⟨some 36, .bin .eql (.t 33 false) (.t 35 false), none⟩,
 ⟨some 37, .mv (.t 36 true), none⟩,
 ⟨some 38, .call (.f n_saturatelaw05_live) [] false, (some (37, true))⟩,
 ⟨some 39, .pick (.t 37 false) (.t 38 false) (.c (.bool false)), none⟩,
 ⟨some 2, .mv (.t 39 true), none⟩] [2])
 (.ret)))),
 [.tmp 2], none, none, []⟩
def i_saturatelaw05_SexprBack : IFun := ⟨true, 1,
 .seq (.region [⟨some 1, .box false (.t 0 true), none⟩,
 ⟨some 2, .mv (.c (.bool false)), none⟩] [1])
 (.seq (.seq (.region [⟨some 6, .load (.t 1 false) (.loc 1) 2 true false, none⟩,
 ⟨some 7, .call (.f n_saturateref05_Few) [.t 6 true, .c (.int .i64 500)] false, none⟩,
 ⟨some 8, .un .not (.t 7 false), none⟩,
 ⟨some 9, .mv (.t 8 true), none⟩,
 ⟨some 10, .load (.t 1 false) (.loc 1) 2 true false, (some (9, false))⟩,
 ⟨some 11, .call (.f n_saturateref05_Valid) [.t 10 true] false, (some (9, false))⟩,
 ⟨some 12, .un .not (.t 11 false), (some (9, false))⟩,
 ⟨some 13, .pick (.t 9 false) (.c (.bool true)) (.t 12 false), none⟩] [1, 13])
 (.cond (.t 13 false)
 (.seq (.region [⟨some 14, .call (.f n_saturatelaw05_live) [] false, none⟩,
 ⟨some 2, .mv (.t 14 true), none⟩] [2])
 (.ret))
 (.skip)))
 (.seq (.region [⟨some 16, .load (.t 1 false) (.loc 1) 2 true false, none⟩,
 ⟨some 17, .call (.f n_sexpr_Print) [.t 16 true] false, none⟩,
 ⟨some 18, .call (.f n_sexpr_Parse) [.t 17 true] false, none⟩,
 ⟨some 15, .mv (.t 18 true), none⟩,
 ⟨some 19, .extract (.t 15 false) 0, none⟩,
 ⟨some 20, .extract (.t 15 false) 1, none⟩,
 ⟨some 21, .extract (.t 15 true) 2, none⟩,
 ⟨some 3, .alloc false 0 [.str [], .list [] .nil], none⟩,
 ⟨none, .store (.t 3 false) (.loc 3) (.t 19 true) 2, none⟩,
 ⟨some 4, .mv (.t 20 true), none⟩,
 ⟨some 5, .mv (.t 21 true), none⟩] [1, 3, 4, 5])
 (.seq (.region [⟨some 22, .load (.t 1 false) (.loc 1) 2 true false, none⟩,
 ⟨some 23, .call (.f n_sexpr_Valid) [.t 22 true] false, none⟩,
 ⟨some 24, .mv (.t 23 true), none⟩,
 ⟨some 25, .load (.t 3 false) (.loc 3) 2 true false, (some (24, true))⟩,
 ⟨some 26, .load (.t 1 false) (.loc 1) 2 true false, (some (24, true))⟩,
 ⟨some 27, .call (.f n_saturateref05_Same) [.t 25 true, .t 26 true] false, (some (24, true))⟩,
 ⟨some 28, .pick (.t 24 false) (.t 27 false) (.c (.bool false)), none⟩,
 ⟨some 29, .mv (.t 28 true), none⟩,
 ⟨some 30, .mv (.t 4 true), (some (29, true))⟩,
 ⟨some 31, .bin .eql (.t 30 false) (.c (.int .i64 0)), (some (29, true))⟩,
 ⟨some 32, .pick (.t 29 false) (.t 31 false) (.c (.bool false)), none⟩,
 ⟨some 33, .mv (.t 32 true), none⟩,
 ⟨some 34, .mv (.t 5 true), (some (33, true))⟩,
 ⟨some 35, .bin .eql (.t 34 false) (.c (.int .i64 0)), (some (33, true))⟩,
 ⟨some 36, .pick (.t 33 false) (.t 35 false) (.c (.bool false)), none⟩,
 ⟨some 37, .mv (.t 36 true), none⟩,
 ⟨some 38, .call (.f n_saturatelaw05_live) [] false, (some (37, true))⟩,
 ⟨some 39, .pick (.t 37 false) (.t 38 false) (.c (.bool false)), none⟩,
 ⟨some 2, .mv (.t 39 true), none⟩] [2])
 (.ret)))),
 [.tmp 2], none, none, []⟩
def l_saturatelaw05_SexprTwice_0 : ICode :=
 .seq (.seq (.region [⟨some 23, .mv (.t 6 false), none⟩,
 ⟨some 24, .mv (.t 3 false), none⟩,
 ⟨some 25, .len (.t 24 false) .list, none⟩,
 ⟨some 26, .bin .lss (.t 23 false) (.t 25 false), none⟩] [3, 6, 26])
 (.cond (.t 26 false)
 (.skip)
 (.exit 0)))
 (.seq (.block 1
 (.seq (.region [⟨some 29, .mv (.t 3 false), none⟩,
 ⟨some 30, .mv (.t 6 false), none⟩,
 ⟨some 31, .iaddrL (.t 29 false) (.t 30 false) 2, none⟩,
 ⟨some 32, .load (.t 31 false) .elem 2 true false, none⟩,
 ⟨some 33, .call (.f n_sexpr_Valid) [.t 32 true] false, none⟩,
 ⟨some 34, .un .not (.t 33 false), none⟩] [3, 6, 34])
 (.cond (.t 34 false)
 (.seq (.region [⟨some 2, .mv (.c (.bool false)), none⟩] [2])
 (.ret))
 (.skip))))
 (.region [⟨some 27, .mv (.t 6 true), none⟩,
 ⟨some 28, .bin .add (.t 27 false) (.c (.int .i64 1)), none⟩,
 ⟨some 6, .mv (.t 28 true), none⟩] [3, 6]))
def i_saturatelaw05_SexprTwice : IFun := ⟨true, 1,
 .seq (.region [⟨some 2, .mv (.c (.bool false)), none⟩] [0])
 (.seq (.seq (.region [⟨some 10, .mv (.t 0 false), none⟩,
 ⟨some 11, .len (.t 10 false) .str, none⟩,
 ⟨some 12, .bin .gtr (.t 11 false) (.c (.int .i64 3000)), none⟩] [0, 12])
 (.cond (.t 12 false)
 (.seq (.region [⟨some 13, .call (.f n_saturatelaw05_live) [] false, none⟩,
 ⟨some 2, .mv (.t 13 true), none⟩] [2])
 (.ret))
 (.skip)))
 (.seq (.region [⟨some 15, .mv (.t 0 true), none⟩,
 ⟨some 16, .call (.f n_sexpr_ParseAll) [.t 15 true] false, none⟩,
 ⟨some 14, .mv (.t 16 true), none⟩,
 ⟨some 17, .extract (.t 14 false) 0, none⟩,
 ⟨some 18, .extract (.t 14 false) 1, none⟩,
 ⟨some 19, .extract (.t 14 true) 2, none⟩,
 ⟨some 3, .mv (.t 17 true), none⟩,
 ⟨some 4, .mv (.t 18 true), none⟩,
 ⟨some 5, .mv (.t 19 true), none⟩] [3, 5])
 (.seq (.seq (.region [⟨some 20, .mv (.t 5 true), none⟩,
 ⟨some 21, .bin .neq (.t 20 false) (.c (.int .i64 0)), none⟩] [3, 21])
 (.cond (.t 21 false)
 (.seq (.region [⟨some 22, .call (.f n_saturatelaw05_live) [] false, none⟩,
 ⟨some 2, .mv (.t 22 true), none⟩] [2])
 (.ret))
 (.skip)))
 (.seq (.seq (.region [⟨some 6, .mv (.c (.int .i64 0)), none⟩] [3, 6])
 (.block 0
 (.loop l_saturatelaw05_SexprTwice_0)))
 (.seq (.region [⟨some 36, .mv (.t 3 false), none⟩,
 ⟨some 37, .call (.f n_sexpr_PrintAll) [.t 36 true] false, none⟩,
 ⟨some 38, .call (.f n_sexpr_ParseAll) [.t 37 true] false, none⟩,
 ⟨some 35, .mv (.t 38 true), none⟩,
 ⟨some 39, .extract (.t 35 false) 0, none⟩,
 ⟨some 40, .extract (.t 35 false) 1, none⟩,
 ⟨some 41, .extract (.t 35 true) 2, none⟩,
 ⟨some 7, .mv (.t 39 true), none⟩,
 ⟨some 8, .mv (.t 40 true), none⟩,
 ⟨some 9, .mv (.t 41 true), none⟩] [3, 7, 8, 9])
 (.seq (.region [⟨some 42, .mv (.t 3 true), none⟩,
 ⟨some 43, .mv (.t 7 true), none⟩,
 ⟨some 44, .call (.f n_saturateref05_SameAll) [.t 42 true, .t 43 true] false, none⟩,
 ⟨some 45, .mv (.t 44 true), none⟩,
 ⟨some 46, .mv (.t 8 true), (some (45, true))⟩,
 ⟨some 47, .bin .eql (.t 46 false) (.c (.int .i64 0)), (some (45, true))⟩,
 ⟨some 48, .pick (.t 45 false) (.t 47 false) (.c (.bool false)), none⟩,
 ⟨some 49, .mv (.t 48 true), none⟩,
 ⟨some 50, .mv (.t 9 true), (some (49, true))⟩,
 ⟨some 51, .bin .eql (.t 50 false) (.c (.int .i64 0)), (some (49, true))⟩,
 ⟨some 52, .pick (.t 49 false) (.t 51 false) (.c (.bool false)), none⟩,
 ⟨some 53, .mv (.t 52 true), none⟩,
 ⟨some 54, .call (.f n_saturatelaw05_live) [] false, (some (53, true))⟩,
 ⟨some 55, .pick (.t 53 false) (.t 54 false) (.c (.bool false)), none⟩,
 ⟨some 2, .mv (.t 55 true), none⟩] [2])
 (.ret))))))),
 [.tmp 2], none, none, []⟩
def i_cost_Node : IFun := ⟨true, 2,
 .seq (.region [⟨some 2, .box false (.t 0 true), none⟩,
 ⟨some 4, .mv (.c (.int .i64 0)), none⟩] [1, 2])
 (.seq (.seq (.region [⟨some 5, .mv (.t 1 false), none⟩,
 ⟨some 6, .bin .lss (.t 5 false) (.c (.int .i64 1)), none⟩,
 ⟨some 7, .mv (.t 6 true), none⟩,
 ⟨some 8, .mv (.t 1 false), (some (7, false))⟩,
 ⟨some 9, .bin .gtr (.t 8 false) (.c (.int .i64 26)), (some (7, false))⟩,
 ⟨some 10, .pick (.t 7 false) (.c (.bool true)) (.t 9 false), none⟩] [1, 2, 10])
 (.cond (.t 10 false)
 (.seq (.region [⟨some 4, .mv (.c (.int .i64 1)), none⟩] [4])
 (.ret))
 (.skip)))
 (.seq (.region [⟨some 11, .mv (.t 1 true), none⟩,
 ⟨some 12, .iaddrA (.t 2 false) (.t 11 false) 32 1, none⟩,
 ⟨some 13, .load (.t 12 false) (.loc 2) 1 false false, none⟩,
 ⟨some 14, .max (.t 13 false) (.c (.int .i64 1)), none⟩,
 ⟨some 15, .min (.t 14 false) (.c (.int .i64 1048576)), none⟩,
 ⟨some 4, .mv (.t 15 true), none⟩] [4])
 (.ret))),
 [.tmp 4], none, none, []⟩
def i_saturateref10_Node : IFun := ⟨true, 2,
 .seq (.region [⟨some 2, .box false (.t 0 true), none⟩,
 ⟨some 4, .mv (.c (.int .i64 0)), none⟩] [1, 2])
 (.seq (.seq (.region [⟨some 5, .mv (.t 1 false), none⟩,
 ⟨some 6, .bin .lss (.t 5 false) (.c (.int .i64 1)), none⟩,
 ⟨some 7, .mv (.t 6 true), none⟩,
 ⟨some 8, .mv (.t 1 false), (some (7, false))⟩,
 ⟨some 9, .bin .gtr (.t 8 false) (.c (.int .i64 26)), (some (7, false))⟩,
 ⟨some 10, .pick (.t 7 false) (.c (.bool true)) (.t 9 false), none⟩] [1, 2, 10])
 (.cond (.t 10 false)
 (.seq (.region [⟨some 4, .mv (.c (.int .i64 1)), none⟩] [4])
 (.ret))
 (.skip)))
 (.seq (.region [⟨some 11, .mv (.t 1 true), none⟩,
 ⟨some 12, .iaddrA (.t 2 false) (.t 11 false) 32 1, none⟩,
 ⟨some 13, .load (.t 12 false) (.loc 2) 1 false false, none⟩,
 ⟨some 14, .max (.t 13 false) (.c (.int .i64 1)), none⟩,
 ⟨some 15, .min (.t 14 false) (.c (.int .i64 1048576)), none⟩,
 ⟨some 4, .mv (.t 15 true), none⟩] [4])
 (.ret))),
 [.tmp 4], none, none, []⟩
def i_cost_Add : IFun := ⟨true, 2,
 .seq (.region [⟨some 4, .mv (.c (.int .i64 0)), none⟩] [0, 1])
 (.seq (.region [⟨some 7, .mv (.t 0 true), none⟩,
 ⟨some 8, .call (.f n_cost_clamp) [.t 7 true] false, none⟩,
 ⟨some 9, .mv (.t 1 true), none⟩,
 ⟨some 10, .call (.f n_cost_clamp) [.t 9 true] false, none⟩,
 ⟨some 5, .mv (.t 8 true), none⟩,
 ⟨some 6, .mv (.t 10 true), none⟩] [5, 6])
 (.seq (.seq (.region [⟨some 11, .mv (.t 5 false), none⟩,
 ⟨some 12, .mv (.t 6 false), none⟩,
 ⟨some 13, .bin .sub (.c (.int .i64 4611686018427387904)) (.t 12 false), none⟩,
 ⟨some 14, .bin .gtr (.t 11 false) (.t 13 false), none⟩] [5, 6, 14])
 (.cond (.t 14 false)
 (.seq (.region [⟨some 4, .mv (.c (.int .i64 4611686018427387904)), none⟩] [4])
 (.ret))
 (.skip)))
 (.seq (.region [⟨some 15, .mv (.t 5 true), none⟩,
 ⟨some 16, .mv (.t 6 true), none⟩,
 ⟨some 17, .bin .add (.t 15 false) (.t 16 false), none⟩,
 ⟨some 4, .mv (.t 17 true), none⟩] [4])
 (.ret)))),
 [.tmp 4], none, none, []⟩
def i_saturateref10_Add : IFun := ⟨true, 2,
 .seq (.region [⟨some 4, .mv (.c (.int .i64 0)), none⟩] [0, 1])
 (.seq (.region [⟨some 5, .mv (.t 0 true), none⟩,
 ⟨some 6, .max (.t 5 false) (.c (.int .i64 0)), none⟩,
 ⟨some 7, .min (.t 6 false) (.c (.int .i64 4611686018427387904)), none⟩,
 ⟨some 8, .mv (.t 1 true), none⟩,
 ⟨some 9, .max (.t 8 false) (.c (.int .i64 0)), none⟩,
 ⟨some 10, .min (.t 9 false) (.c (.int .i64 4611686018427387904)), none⟩,
 ⟨some 0, .mv (.t 7 true), none⟩,
 ⟨some 1, .mv (.t 10 true), none⟩] [0, 1])
 (.seq (.seq (.region [⟨some 11, .mv (.t 0 false), none⟩,
 ⟨some 12, .mv (.t 1 false), none⟩,
 ⟨some 13, .bin .sub (.c (.int .i64 4611686018427387904)) (.t 12 false), none⟩,
 ⟨some 14, .bin .gtr (.t 11 false) (.t 13 false), none⟩] [0, 1, 14])
 (.cond (.t 14 false)
 (.seq (.region [⟨some 4, .mv (.c (.int .i64 4611686018427387904)), none⟩] [4])
 (.ret))
 (.skip)))
 (.seq (.region [⟨some 15, .mv (.t 0 true), none⟩,
 ⟨some 16, .mv (.t 1 true), none⟩,
 ⟨some 17, .bin .add (.t 15 false) (.t 16 false), none⟩,
 ⟨some 4, .mv (.t 17 true), none⟩] [4])
 (.ret)))),
 [.tmp 4], none, none, []⟩
def l_cost_Uniform_0 : ICode :=
 .seq (.region [⟨some 4, .bin .lss (.t 3 false) (.c (.int .i64 32)), none⟩] [0, 1, 3, 4])
 (.seq (.cond (.t 4 false)
 (.skip)
 (.exit 0))
 (.seq (.block 1
 (.seq (.region [⟨some 5, .mv (.t 3 false), none⟩,
 ⟨some 2, .mv (.t 5 true), none⟩] [0, 1, 2, 3])
 (.region [⟨some 6, .mv (.t 2 true), none⟩,
 ⟨some 7, .iaddrA (.t 1 false) (.t 6 false) 32 1, none⟩,
 ⟨none, .store (.t 7 false) (.loc 1) (.c (.int .i64 1)) 1, none⟩] [0, 1, 3])))
 (.region [⟨some 8, .bin .add (.t 3 false) (.c (.int .i64 1)), none⟩,
 ⟨some 3, .mv (.t 8 true), none⟩] [0, 1, 3])))
def i_cost_Uniform : IFun := ⟨true, 0,
 .seq (.region [⟨some 0, .alloc false 0 [.int .i64 0, .int .i64 0, .int .i64 0, .int .i64 0, .int .i64 0, .int .i64 0, .int .i64 0, .int .i64 0, .int .i64 0, .int .i64 0, .int .i64 0, .int .i64 0, .int .i64 0, .int .i64 0, .int .i64 0, .int .i64 0, .int .i64 0, .int .i64 0, .int .i64 0, .int .i64 0, .int .i64 0, .int .i64 0, .int .i64 0, .int .i64 0, .int .i64 0, .int .i64 0, .int .i64 0, .int .i64 0, .int .i64 0, .int .i64 0, .int .i64 0, .int .i64 0], none⟩] [0])
 (.seq (.region [⟨some 1, .alloc false 0 [.int .i64 0, .int .i64 0, .int .i64 0, .int .i64 0, .int .i64 0, .int .i64 0, .int .i64 0, .int .i64 0, .int .i64 0, .int .i64 0, .int .i64 0, .int .i64 0, .int .i64 0, .int .i64 0, .int .i64 0, .int .i64 0, .int .i64 0, .int .i64 0, .int .i64 0, .int .i64 0, .int .i64 0, .int .i64 0, .int .i64 0, .int .i64 0, .int .i64 0, .int .i64 0, .int .i64 0, .int .i64 0, .int .i64 0, .int .i64 0, .int .i64 0, .int .i64 0], none⟩] [0, 1])
 (.seq (.seq (.region [⟨some 3, .mv (.c (.int .i64 0)), none⟩] [0, 1, 3])
 (.block 0
 (.loop l_cost_Uniform_0)))
 (.seq (.region [⟨some 9, .load (.t 1 false) (.loc 1) 32 true false, none⟩,
 ⟨none, .store (.t 0 false) (.loc 0) (.t 9 true) 32, none⟩] [0])
 (.ret)))),
 [.cell 0 32 true], none, none, []⟩
def i_saturatelaw10_lives : IFun := ⟨true, 0,
 .seq (.region [⟨some 0, .mv (.c (.bool false)), none⟩] [])
 (.seq (.region [⟨some 3, .build [.int .i64 0, .int .i64 0, .int .u64 0, .str [], .list [] .nil] [(0, 1, .c (.int .i64 1)), (1, 1, .c (.int .i64 8)), (3, 1, .c (.str [120]))], none⟩,
 ⟨some 4, .build [.int .i64 0, .int .i64 0, .int .u64 0, .str [], .list [] .nil] [(0, 1, .c (.int .i64 1)), (1, 1, .c (.int .i64 8)), (3, 1, .c (.str [121]))], none⟩,
 ⟨some 5, .bslice (.agg [.int .i64 0, .int .i64 0, .int .u64 0, .str [], .list [] .nil]) 0 2 [(0, .t 3 true), (1, .t 4 true)], none⟩,
 ⟨some 6, .build [.int .i64 0, .int .i64 0, .int .u64 0, .str [], .list [] .nil] [(0, 1, .c (.int .i64 10)), (1, 1, .c (.int .i64 8)), (4, 1, .t 5 true)], none⟩,
 ⟨some 1, .alloc false 0 [.int .i64 0, .int .i64 0, .int .u64 0, .str [], .list [] .nil], none⟩,
 ⟨none, .store (.t 1 false) (.loc 1) (.t 6 true) 5, none⟩] [1])
 (.seq (.region [⟨some 7, .load (.t 1 false) (.loc 1) 5 true false, none⟩,
 ⟨some 8, .load (.t 1 false) (.loc 1) 5 true false, none⟩,
 ⟨some 9, .bslice (.agg [.int .i64 0, .int .i64 0, .int .u64 0, .str [], .list [] .nil]) 0 2 [(0, .t 7 true), (1, .t 8 true)], none⟩,
 ⟨some 10, .build [.int .i64 0, .int .i64 0, .int .u64 0, .str [], .list [] .nil] [(0, 1, .c (.int .i64 8)), (1, 1, .c (.int .i64 8)), (4, 1, .t 9 true)], none⟩,
 ⟨some 2, .alloc false 0 [.int .i64 0, .int .i64 0, .int .u64 0, .str [], .list [] .nil], none⟩,
 ⟨none, .store (.t 2 false) (.loc 2) (.t 10 true) 5, none⟩] [2])
 (.seq (.draw [⟨some 11, .call (.f n_cost_Uniform) [] true, none⟩,
 ⟨some 12, .load (.t 2 false) (.loc 2) 5 true false, none⟩,
 ⟨some 13, .call (.f n_cost_Tree) [.t 11 true, .t 12 true] true, none⟩,
 ⟨some 14, .bin .eql (.t 13 false) (.c (.int .i64 7)), none⟩,
 ⟨some 15, .mv (.t 14 true), none⟩,
 ⟨some 16, .call (.f n_cost_Uniform) [] true, (some (15, true))⟩,
 ⟨some 17, .load (.t 2 false) (.loc 2) 5 true false, (some (15, true))⟩,
 ⟨some 18, .bslice (.agg [.int .i64 0, .int .i64 0, .int .u64 0, .str [], .list [] .nil]) 0 1 [(0, .t 17 true)], (some (15, true))⟩,
 ⟨some 19, .call (.f n_cost_Dag) [.t 16 true, .t 18 true] true, (some (15, true))⟩,
 ⟨some 20, .bin .eql (.t 19 false) (.c (.int .i64 4)), (some (15, true))⟩,
 ⟨some 21, .pick (.t 15 false) (.t 20 false) (.c (.bool false)), none⟩,
 ⟨some 0, .mv (.t 21 true), none⟩] [1, 0, 2, 3, 4, 6, 7, 5, 8, 9, 10, 11] [0, 2, 5, 8] [0])
 (.ret)))),
 [.tmp 0], none, none, []⟩
def i_saturateref10_Small : IFun := ⟨true, 2,
 .seq (.region [⟨some 2, .box false (.t 0 true), none⟩,
 ⟨some 4, .mv (.c (.bool false)), none⟩] [1, 2])
 (.seq (.region [⟨some 5, .load (.t 2 false) (.loc 2) 5 true false, none⟩,
 ⟨some 6, .mv (.t 1 true), none⟩,
 ⟨some 7, .call (.f n_saturateref10_left) [.t 5 true, .t 6 true] false, none⟩,
 ⟨some 8, .bin .geq (.t 7 false) (.c (.int .i64 0)), none⟩,
 ⟨some 4, .mv (.t 8 true), none⟩] [4])
 (.ret)),
 [.tmp 4], none, none, []⟩
def l_cost_Tree_0 : ICode :=
 .seq (.region [⟨some 16, .bin .lss (.t 15 false) (.t 14 false), none⟩] [2, 5, 13, 14, 15, 16])
 (.seq (.cond (.t 16 false)
 (.skip)
 (.exit 0))
 (.seq (.block 1
 (.seq (.region [⟨some 17, .iaddrL (.t 13 false) (.t 15 false) 5, none⟩,
 ⟨some 18, .load (.t 17 false) .elem 5 true false, none⟩,
 ⟨some 7, .alloc false 0 [.int .i64 0, .int .i64 0, .int .u64 0, .str [], .list [] .nil], none⟩,
 ⟨none, .store (.t 7 false) (.loc 7) (.t 18 true) 5, none⟩] [2, 5, 7, 13, 14, 15])
 (.region [⟨some 19, .mv (.t 5 true), none⟩,
 ⟨some 20, .load (.t 2 false) (.loc 2) 32 true false, none⟩,
 ⟨some 21, .load (.t 7 false) (.loc 7) 5 true false, none⟩,
 ⟨some 22, .call (.f n_cost_Tree) [.t 20 true, .t 21 true] false, none⟩,
 ⟨some 23, .call (.f n_cost_Add) [.t 19 true, .t 22 true] false, none⟩,
 ⟨some 5, .mv (.t 23 true), none⟩] [2, 5, 13, 14, 15])))
 (.region [⟨some 24, .bin .add (.t 15 false) (.c (.int .i64 1)), none⟩,
 ⟨some 15, .mv (.t 24 true), none⟩] [2, 5, 13, 14, 15])))
def i_cost_Tree : IFun := ⟨true, 2,
 .seq (.region [⟨some 2, .box false (.t 0 true), none⟩,
 ⟨some 3, .box false (.t 1 true), none⟩,
 ⟨some 4, .mv (.c (.int .i64 0)), none⟩] [2, 3])
 (.seq (.region [⟨some 8, .load (.t 2 false) (.loc 2) 32 true false, none⟩,
 ⟨some 9, .faddr (.t 3 false) 0, none⟩,
 ⟨some 10, .load (.t 9 false) (.loc 3) 1 false false, none⟩,
 ⟨some 11, .call (.f n_cost_Node) [.t 8 true, .t 10 true] false, none⟩,
 ⟨some 5, .mv (.t 11 true), none⟩] [2, 3, 5])
 (.seq (.seq (.region [⟨some 12, .faddr (.t 3 false) 4, none⟩,
 ⟨some 13, .load (.t 12 false) (.loc 3) 1 false false, none⟩,
 ⟨some 14, .len (.t 13 false) .list, none⟩,
 ⟨some 15, .mv (.c (.int .i64 0)), none⟩] [2, 5, 13, 14, 15])
 (.block 0
 (.loop l_cost_Tree_0)))
 (.seq (.region [⟨some 25, .mv (.t 5 true), none⟩,
 ⟨some 4, .mv (.t 25 true), none⟩] [4])
 (.ret)))),
 [.tmp 4], none, none, []⟩
def l_saturateref10_Tree_0 : ICode :=
 .seq (.region [⟨some 15, .bin .lss (.t 14 false) (.t 13 false), none⟩] [2, 3, 5, 13, 14, 15])
 (.seq (.cond (.t 15 false)
 (.skip)
 (.exit 0))
 (.seq (.block 1
 (.seq (.region [⟨some 16, .mv (.t 14 false), none⟩,
 ⟨some 6, .mv (.t 16 true), none⟩] [2, 3, 5, 6, 13, 14])
 (.draw [⟨some 17, .mv (.t 5 true), none⟩,
 ⟨some 18, .load (.t 2 false) (.loc 2) 32 true false, none⟩,
 ⟨some 19, .faddr (.t 3 false) 4, none⟩,
 ⟨some 20, .load (.t 19 false) (.loc 3) 1 false false, none⟩,
 ⟨some 21, .mv (.t 6 true), none⟩,
 ⟨some 22, .iaddrL (.t 20 false) (.t 21 false) 5, none⟩,
 ⟨some 23, .load (.t 22 false) .elem 5 true false, none⟩,
 ⟨some 24, .call (.f n_saturateref10_Tree) [.t 18 true, .t 23 true] true, none⟩,
 ⟨some 25, .call (.f n_saturateref10_Add) [.t 17 true, .t 24 true] true, none⟩,
 ⟨some 5, .mv (.t 25 true), none⟩] [0, 1, 2, 3, 4, 5, 6, 7, 8, 9] [7, 8] [2, 3, 5, 13, 14])))
 (.region [⟨some 26, .bin .add (.t 14 false) (.c (.int .i64 1)), none⟩,
 ⟨some 14, .mv (.t 26 true), none⟩] [2, 3, 5, 13, 14])))
def i_saturateref10_Tree : IFun := ⟨true, 2,
 .seq (.region [⟨some 2, .box false (.t 0 true), none⟩,
 ⟨some 3, .box false (.t 1 true), none⟩,
 ⟨some 4, .mv (.c (.int .i64 0)), none⟩] [2, 3])
 (.seq (.region [⟨some 7, .load (.t 2 false) (.loc 2) 32 true false, none⟩,
 ⟨some 8, .faddr (.t 3 false) 0, none⟩,
 ⟨some 9, .load (.t 8 false) (.loc 3) 1 false false, none⟩,
 ⟨some 10, .call (.f n_saturateref10_Node) [.t 7 true, .t 9 true] false, none⟩,
 ⟨some 5, .mv (.t 10 true), none⟩] [2, 3, 5])
 (.seq (.seq (.region [⟨some 11, .faddr (.t 3 false) 4, none⟩,
 ⟨some 12, .load (.t 11 false) (.loc 3) 1 false false, none⟩,
 ⟨some 13, .len (.t 12 false) .list, none⟩,
 ⟨some 14, .mv (.c (.int .i64 0)), none⟩] [2, 3, 5, 13, 14])
 (.block 0
 (.loop l_saturateref10_Tree_0)))
 (.seq (.region [⟨some 27, .mv (.t 5 true), none⟩,
 ⟨some 4, .mv (.t 27 true), none⟩] [4])
 (.ret)))),
 [.tmp 4], none, none, []⟩
def l_cost_Dag_0 : ICode :=
 .seq (.region [⟨some 15, .bin .lss (.t 14 false) (.t 13 false), none⟩] [5, 12, 13, 14, 15])
 (.seq (.cond (.t 15 false)
 (.skip)
 (.exit 0))
 (.seq (.block 1
 (.seq (.region [⟨some 16, .iaddrL (.t 12 false) (.t 14 false) 5, none⟩,
 ⟨some 17, .load (.t 16 false) .elem 5 true false, none⟩,
 ⟨some 7, .alloc false 0 [.int .i64 0, .int .i64 0, .int .u64 0, .str [], .list [] .nil], none⟩,
 ⟨none, .store (.t 7 false) (.loc 7) (.t 17 true) 5, none⟩] [5, 7, 12, 13, 14])
 (.region [⟨some 18, .mv (.t 5 false), none⟩,
 ⟨some 19, .load (.t 7 false) (.loc 7) 5 true false, none⟩,
 ⟨some 20, .call (.f n_cost_shared_visit) [.t 18 true, .t 19 true] false, none⟩] [5, 12, 13, 14])))
 (.region [⟨some 21, .bin .add (.t 14 false) (.c (.int .i64 1)), none⟩,
 ⟨some 14, .mv (.t 21 true), none⟩] [5, 12, 13, 14])))
def i_cost_Dag : IFun := ⟨true, 2,
 .seq (.region [⟨some 2, .box false (.t 0 true), none⟩,
 ⟨some 4, .mv (.c (.int .i64 0)), none⟩] [1, 2])
 (.seq (.region [⟨some 8, .load (.t 2 false) (.loc 2) 32 true false, none⟩,
 ⟨some 9, .mkmap, none⟩,
 ⟨some 10, .build [.int .i64 0, .int .i64 0, .int .i64 0, .int .i64 0, .int .i64 0, .int .i64 0, .int .i64 0, .int .i64 0, .int .i64 0, .int .i64 0, .int .i64 0, .int .i64 0, .int .i64 0, .int .i64 0, .int .i64 0, .int .i64 0, .int .i64 0, .int .i64 0, .int .i64 0, .int .i64 0, .int .i64 0, .int .i64 0, .int .i64 0, .int .i64 0, .int .i64 0, .int .i64 0, .int .i64 0, .int .i64 0, .int .i64 0, .int .i64 0, .int .i64 0, .int .i64 0, .nilm, .int .i64 0] [(0, 32, .t 8 true), (32, 1, .t 9 true)], none⟩,
 ⟨some 11, .box true (.t 10 true), none⟩,
 ⟨some 5, .mv (.t 11 true), none⟩] [1, 5])
 (.seq (.seq (.region [⟨some 12, .mv (.t 1 true), none⟩,
 ⟨some 13, .len (.t 12 false) .list, none⟩,
 ⟨some 14, .mv (.c (.int .i64 0)), none⟩] [5, 12, 13, 14])
 (.block 0
 (.loop l_cost_Dag_0)))
 (.seq (.region [⟨some 22, .mv (.t 5 true), none⟩,
 ⟨some 23, .nilchk (.t 22 false), none⟩,
 ⟨some 24, .faddr (.t 23 false) 33, none⟩,
 ⟨some 25, .load (.t 24 false) .heap 1 false false, none⟩,
 ⟨some 4, .mv (.t 25 true), none⟩] [4])
 (.ret)))),
 [.tmp 4], none, none, []⟩
def l_saturateref10_Dag_1 : ICode :=
 .seq (.region [⟨some 24, .bin .lss (.t 23 false) (.t 22 false), none⟩] [2, 5, 7, 22, 23, 24])
 (.seq (.cond (.t 24 false)
 (.skip)
 (.exit 2))
 (.seq (.block 3
 (.seq (.region [⟨some 25, .mv (.t 23 false), none⟩,
 ⟨some 8, .mv (.t 25 true), none⟩] [2, 5, 7, 8, 22, 23])
 (.draw [⟨some 26, .mv (.t 7 true), none⟩,
 ⟨some 27, .load (.t 2 false) (.loc 2) 32 true false, none⟩,
 ⟨some 28, .mv (.t 5 false), none⟩,
 ⟨some 29, .mv (.t 8 true), none⟩,
 ⟨some 30, .iaddrL (.t 28 false) (.t 29 false) 5, none⟩,
 ⟨some 31, .faddr (.t 30 false) 0, none⟩,
 ⟨some 32, .load (.t 31 false) .elem 1 false false, none⟩,
 ⟨some 33, .call (.f n_saturateref10_Node) [.t 27 true, .t 32 true] true, none⟩,
 ⟨some 34, .call (.f n_saturateref10_Add) [.t 26 true, .t 33 true] true, none⟩,
 ⟨some 7, .mv (.t 34 true), none⟩] [0, 1, 2, 3, 4, 5, 6, 7, 8, 9] [7, 8] [2, 5, 7, 22, 23])))
 (.region [⟨some 35, .bin .add (.t 23 false) (.c (.int .i64 1)), none⟩,
 ⟨some 23, .mv (.t 35 true), none⟩] [2, 5, 7, 22, 23])))
def l_saturateref10_Dag_0 : ICode :=
 .seq (.region [⟨some 12, .bin .lss (.t 11 false) (.t 10 false), none⟩] [1, 2, 5, 10, 11, 12])
 (.seq (.cond (.t 12 false)
 (.skip)
 (.exit 0))
 (.seq (.block 1
 (.seq (.region [⟨some 13, .mv (.t 11 false), none⟩,
 ⟨some 6, .mv (.t 13 true), none⟩] [1, 2, 5, 6, 10, 11])
 (.region [⟨some 14, .mv (.t 5 true), none⟩,
 ⟨some 15, .mv (.t 1 false), none⟩,
 ⟨some 16, .mv (.t 6 true), none⟩,
 ⟨some 17, .iaddrL (.t 15 false) (.t 16 false) 5, none⟩,
 ⟨some 18, .load (.t 17 false) .elem 5 true false, none⟩,
 ⟨some 19, .call (.f n_saturateref10_Subterms) [.t 14 true, .t 18 true] false, none⟩,
 ⟨some 5, .mv (.t 19 true), none⟩] [1, 2, 5, 10, 11])))
 (.region [⟨some 20, .bin .add (.t 11 false) (.c (.int .i64 1)), none⟩,
 ⟨some 11, .mv (.t 20 true), none⟩] [1, 2, 5, 10, 11])))
def i_saturateref10_Dag : IFun := ⟨true, 2,
 .seq (.region [⟨some 2, .box false (.t 0 true), none⟩,
 ⟨some 4, .mv (.c (.int .i64 0)), none⟩] [1, 2])
 (.seq (.region [⟨some 5, .mv (.c (.list [] .nil)), none⟩] [1, 2, 5])
 (.seq (.seq (.region [⟨some 9, .mv (.t 1 false), none⟩,
 ⟨some 10, .len (.t 9 false) .list, none⟩,
 ⟨some 11, .mv (.c (.int .i64 0)), none⟩] [1, 2, 5, 10, 11])
 (.block 0
 (.loop l_saturateref10_Dag_0)))
 (.seq (.region [⟨some 7, .mv (.c (.int .i64 0)), none⟩] [2, 5, 7])
 (.seq (.seq (.region [⟨some 21, .mv (.t 5 false), none⟩,
 ⟨some 22, .len (.t 21 false) .list, none⟩,
 ⟨some 23, .mv (.c (.int .i64 0)), none⟩] [2, 5, 7, 22, 23])
 (.block 2
 (.loop l_saturateref10_Dag_1)))
 (.seq (.region [⟨some 36, .mv (.t 7 true), none⟩,
 ⟨some 4, .mv (.t 36 true), none⟩] [4])
 (.ret)))))),
 [.tmp 4], none, none, []⟩
def l_saturateref10_Subterms_1 : ICode :=
 .seq (.region [⟨some 25, .bin .lss (.t 24 false) (.t 23 false), none⟩] [0, 3, 23, 24, 25])
 (.seq (.cond (.t 25 false)
 (.skip)
 (.exit 2))
 (.seq (.block 3
 (.seq (.region [⟨some 26, .mv (.t 24 false), none⟩,
 ⟨some 6, .mv (.t 26 true), none⟩] [0, 3, 6, 23, 24])
 (.seq (.draw [⟨some 27, .mv (.t 0 false), none⟩,
 ⟨some 28, .mv (.t 6 true), none⟩,
 ⟨some 29, .iaddrL (.t 27 false) (.t 28 false) 5, none⟩,
 ⟨some 30, .load (.t 29 false) .elem 5 true false, none⟩,
 ⟨some 31, .load (.t 3 false) (.loc 3) 5 true false, none⟩,
 ⟨some 32, .call (.f n_saturateref10_Same) [.t 30 true, .t 31 true] true, none⟩] [0, 1, 2, 3, 4, 5] [5] [0, 3, 23, 24, 32])
 (.cond (.t 32 false)
 (.seq (.region [⟨some 33, .mv (.t 0 true), none⟩,
 ⟨some 4, .mv (.t 33 true), none⟩] [4])
 (.ret))
 (.skip)))))
 (.region [⟨some 34, .bin .add (.t 24 false) (.c (.int .i64 1)), none⟩,
 ⟨some 24, .mv (.t 34 true), none⟩] [0, 3, 23, 24])))
def l_saturateref10_Subterms_0 : ICode :=
 .seq (.region [⟨some 12, .bin .lss (.t 11 false) (.t 10 false), none⟩] [0, 3, 10, 11, 12])
 (.seq (.cond (.t 12 false)
 (.skip)
 (.exit 0))
 (.seq (.block 1
 (.seq (.region [⟨some 13, .mv (.t 11 false), none⟩,
 ⟨some 5, .mv (.t 13 true), none⟩] [0, 3, 5, 10, 11])
 (.region [⟨some 14, .mv (.t 0 true), none⟩,
 ⟨some 15, .faddr (.t 3 false) 4, none⟩,
 ⟨some 16, .load (.t 15 false) (.loc 3) 1 false false, none⟩,
 ⟨some 17, .mv (.t 5 true), none⟩,
 ⟨some 18, .iaddrL (.t 16 false) (.t 17 false) 5, none⟩,
 ⟨some 19, .load (.t 18 false) .elem 5 true false, none⟩,
 ⟨some 20, .call (.f n_saturateref10_Subterms) [.t 14 true, .t 19 true] false, none⟩,
 ⟨some 0, .mv (.t 20 true), none⟩] [0, 3, 10, 11])))
 (.region [⟨some 21, .bin .add (.t 11 false) (.c (.int .i64 1)), none⟩,
 ⟨some 11, .mv (.t 21 true), none⟩] [0, 3, 10, 11])))
def i_saturateref10_Subterms : IFun := ⟨true, 2,
 .seq (.region [⟨some 3, .box false (.t 1 true), none⟩,
 ⟨some 4, .mv (.c (.list [] .nil)), none⟩] [0, 3])
 (.seq (.seq (.region [⟨some 8, .faddr (.t 3 false) 4, none⟩,
 ⟨some 9, .load (.t 8 false) (.loc 3) 1 false false, none⟩,
 ⟨some 10, .len (.t 9 false) .list, none⟩,
 ⟨some 11, .mv (.c (.int .i64 0)), none⟩] [0, 3, 10, 11])
 (.block 0
 (.loop l_saturateref10_Subterms_0)))
 (.seq (.seq (.region [⟨some 22, .mv (.t 0 false), none⟩,
 ⟨some 23, .len (.t 22 false) .list, none⟩,
 ⟨some 24, .mv (.c (.int .i64 0)), none⟩] [0, 3, 23, 24])
 (.block 2
 (.loop l_saturateref10_Subterms_1)))
 (.seq (.region [⟨some 7, .mv (.c (.list [] .nil)), none⟩] [0, 3, 7])
 (.seq (.region [⟨some 35, .mv (.t 7 true), none⟩,
 ⟨some 36, .mv (.t 0 true), none⟩,
 ⟨some 37, .append (.t 35 true) (.t 36 false) 5 0 64 false, none⟩,
 ⟨some 7, .mv (.t 37 true), none⟩] [3, 7])
 (.seq (.region [⟨some 38, .mv (.t 7 true), none⟩,
 ⟨some 39, .load (.t 3 false) (.loc 3) 5 true false, none⟩,
 ⟨some 40, .bslice (.agg [.int .i64 0, .int .i64 0, .int .u64 0, .str [], .list [] .nil]) 0 1 [(0, .t 39 true)], none⟩,
 ⟨some 41, .append (.t 38 true) (.t 40 false) 5 0 64 false, none⟩,
 ⟨some 4, .mv (.t 41 true), none⟩] [4])
 (.ret)))))),
 [.tmp 4], none, none, []⟩
def l_saturateref10_Count_0 : ICode :=
 .seq (.region [⟨some 9, .bin .lss (.t 8 false) (.t 7 false), none⟩] [1, 3, 7, 8, 9])
 (.seq (.cond (.t 9 false)
 (.skip)
 (.exit 0))
 (.seq (.block 1
 (.seq (.region [⟨some 10, .mv (.t 8 false), none⟩,
 ⟨some 4, .mv (.t 10 true), none⟩] [1, 3, 4, 7, 8])
 (.region [⟨some 11, .mv (.t 3 true), none⟩,
 ⟨some 12, .faddr (.t 1 false) 4, none⟩,
 ⟨some 13, .load (.t 12 false) (.loc 1) 1 false false, none⟩,
 ⟨some 14, .mv (.t 4 true), none⟩,
 ⟨some 15, .iaddrL (.t 13 false) (.t 14 false) 5, none⟩,
 ⟨some 16, .load (.t 15 false) .elem 5 true false, none⟩,
 ⟨some 17, .call (.f n_saturateref10_Count) [.t 16 true] false, none⟩,
 ⟨some 18, .bin .add (.t 11 false) (.t 17 false), none⟩,
 ⟨some 3, .mv (.t 18 true), none⟩] [1, 3, 7, 8])))
 (.region [⟨some 19, .bin .add (.t 8 false) (.c (.int .i64 1)), none⟩,
 ⟨some 8, .mv (.t 19 true), none⟩] [1, 3, 7, 8])))
def i_saturateref10_Count : IFun := ⟨true, 1,
 .seq (.region [⟨some 1, .box false (.t 0 true), none⟩,
 ⟨some 2, .mv (.c (.int .i64 0)), none⟩] [1])
 (.seq (.region [⟨some 3, .mv (.c (.int .i64 1)), none⟩] [1, 3])
 (.seq (.seq (.region [⟨some 5, .faddr (.t 1 false) 4, none⟩,
 ⟨some 6, .load (.t 5 false) (.loc 1) 1 false false, none⟩,
 ⟨some 7, .len (.t 6 false) .list, none⟩,
 ⟨some 8, .mv (.c (.int .i64 0)), none⟩] [1, 3, 7, 8])
 (.block 0
 (.loop l_saturateref10_Count_0)))
 (.seq (.region [⟨some 20, .mv (.t 3 true), none⟩,
 ⟨some 2, .mv (.t 20 true), none⟩] [2])
 (.ret)))),
 [.tmp 2], none, none, []⟩
def i_saturatelaw05_live : IFun := ⟨true, 0,
 .seq (.region [⟨some 0, .mv (.c (.bool false)), none⟩] [])
 (.seq (.region [⟨some 14, .call (.f n_sexpr_Parse) [.c (.str [40, 97, 100, 100, 32, 120, 58, 56, 32, 59, 32, 115, 117, 109, 10, 32, 49, 58, 56, 41])] false, none⟩,
 ⟨some 13, .mv (.t 14 true), none⟩,
 ⟨some 15, .extract (.t 13 false) 0, none⟩,
 ⟨some 16, .extract (.t 13 false) 1, none⟩,
 ⟨some 17, .extract (.t 13 true) 2, none⟩,
 ⟨some 1, .alloc false 0 [.str [], .list [] .nil], none⟩,
 ⟨none, .store (.t 1 false) (.loc 1) (.t 15 true) 2, none⟩,
 ⟨some 2, .mv (.t 16 true), none⟩,
 ⟨some 3, .mv (.t 17 true), none⟩] [1, 2, 3])
 (.seq (.region [⟨some 19, .call (.f n_sexpr_Parse) [.c (.str [40, 97, 41, 41])] false, none⟩,
 ⟨some 18, .mv (.t 19 true), none⟩,
 ⟨some 20, .extract (.t 18 false) 0, none⟩,
 ⟨some 21, .extract (.t 18 false) 1, none⟩,
 ⟨some 22, .extract (.t 18 true) 2, none⟩,
 ⟨some 4, .alloc false 0 [.str [], .list [] .nil], none⟩,
 ⟨none, .store (.t 4 false) (.loc 4) (.t 20 true) 2, none⟩,
 ⟨some 5, .mv (.t 21 true), none⟩,
 ⟨some 6, .mv (.t 22 true), none⟩] [1, 2, 3, 5, 6])
 (.seq (.region [⟨some 24, .call (.f n_sexpr_Parse) [.c (.str [97, 32, 98])] false, none⟩,
 ⟨some 23, .mv (.t 24 true), none⟩,
 ⟨some 25, .extract (.t 23 false) 0, none⟩,
 ⟨some 26, .extract (.t 23 false) 1, none⟩,
 ⟨some 27, .extract (.t 23 true) 2, none⟩,
 ⟨some 7, .alloc false 0 [.str [], .list [] .nil], none⟩,
 ⟨none, .store (.t 7 false) (.loc 7) (.t 25 true) 2, none⟩,
 ⟨some 8, .mv (.t 26 true), none⟩,
 ⟨some 9, .mv (.t 27 true), none⟩] [1, 2, 3, 5, 6, 8, 9])
 (.seq (.region [⟨some 29, .call (.f n_sexpr_ParseAll) [.c (.str [97, 32, 98])] false, none⟩,
 ⟨some 28, .mv (.t 29 true), none⟩,
 ⟨some 30, .extract (.t 28 false) 0, none⟩,
 ⟨some 31, .extract (.t 28 false) 1, none⟩,
 ⟨some 32, .extract (.t 28 true) 2, none⟩,
 ⟨some 10, .mv (.t 30 true), none⟩,
 ⟨some 11, .mv (.t 31 true), none⟩,
 ⟨some 12, .mv (.t 32 true), none⟩] [1, 2, 3, 5, 6, 8, 9, 10, 12])
 (.seq (.region [⟨some 33, .faddr (.t 1 false) 1, none⟩,
 ⟨some 34, .load (.t 33 false) (.loc 1) 1 false false, none⟩,
 ⟨some 35, .len (.t 34 false) .list, none⟩,
 ⟨some 36, .bin .eql (.t 35 false) (.c (.int .i64 3)), none⟩,
 ⟨some 37, .mv (.t 36 true), none⟩,
 ⟨some 38, .faddr (.t 1 false) 1, (some (37, true))⟩,
 ⟨some 39, .load (.t 38 false) (.loc 1) 1 false false, (some (37, true))⟩,
 ⟨some 40, .iaddrL (.t 39 false) (.c (.int .i64 1)) 2, (some (37, true))⟩,
 ⟨some 41, .faddr (.t 40 false) 0, (some (37, true))⟩,
 ⟨some 42, .load (.t 41 false) .elem 1 false false, (some (37, true))⟩,
 ⟨some 43, .bin .eql (.t 42 false) (.c (.str [120, 58, 56])), (some (37, true))⟩,
 ⟨some 44, .pick (.t 37 false) (.t 43 false) (.c (.bool false)), none⟩,
 ⟨some 45, .mv (.t 44 true), none⟩,
 ⟨some 46, .mv (.t 2 true), (some (45, true))⟩,
 ⟨some 47, .bin .eql (.t 46 false) (.c (.int .i64 0)), (some (45, true))⟩,
 ⟨some 48, .pick (.t 45 false) (.t 47 false) (.c (.bool false)), none⟩,
 ⟨some 49, .mv (.t 48 true), none⟩,
 ⟨some 50, .mv (.t 3 true), (some (49, true))⟩,
 ⟨some 51, .bin .eql (.t 50 false) (.c (.int .i64 0)), (some (49, true))⟩,
 ⟨some 52, .pick (.t 49 false) (.t 51 false) (.c (.bool false)), none⟩,
 ⟨some 53, .mv (.t 52 true), none⟩,
 ⟨some 54, .mv (.t 5 true), (some (53, true))⟩,
 ⟨some 55, .bin .eql (.t 54 false) (.c (.int .i64 3)), (some (53, true))⟩,
 ⟨some 56, .pick (.t 53 false) (.t 55 false) (.c (.bool false)), none⟩,
 ⟨some 57, .mv (.t 56 true), none⟩,
 ⟨some 58, .mv (.t 6 true), (some (57, true))⟩,
 ⟨some 59, .bin .eql (.t 58 false) (.c (.int .i64 6)), (some (57, true))⟩,
 ⟨some 60, .pick (.t 57 false) (.t 59 false) (.c (.bool false)), none⟩,
 ⟨some 61, .mv (.t 60 true), none⟩,
 ⟨some 62, .mv (.t 8 true), (some (61, true))⟩,
 ⟨some 63, .bin .eql (.t 62 false) (.c (.int .i64 2)), (some (61, true))⟩,
 ⟨some 64, .pick (.t 61 false) (.t 63 false) (.c (.bool false)), none⟩,
 ⟨some 65, .mv (.t 64 true), none⟩,
 ⟨some 66, .mv (.t 9 true), (some (65, true))⟩,
 ⟨some 67, .bin .eql (.t 66 false) (.c (.int .i64 6)), (some (65, true))⟩,
 ⟨some 68, .pick (.t 65 false) (.t 67 false) (.c (.bool false)), none⟩,
 ⟨some 69, .mv (.t 68 true), none⟩,
 ⟨some 70, .mv (.t 10 true), (some (69, true))⟩,
 ⟨some 71, .len (.t 70 false) .list, (some (69, true))⟩,
 ⟨some 72, .bin .eql (.t 71 false) (.c (.int .i64 2)), (some (69, true))⟩,
 ⟨some 73, .pick (.t 69 false) (.t 72 false) (.c (.bool false)), none⟩,
 ⟨some 74, .mv (.t 73 true), none⟩,
 ⟨some 75, .mv (.t 12 true), (some (74, true))⟩,
 ⟨some 76, .bin .eql (.t 75 false) (.c (.int .i64 0)), (some (74, true))⟩,
 ⟨some 77, .pick (.t 74 false) (.t 76 false) (.c (.bool false)), none⟩,
 ⟨some 78, .mv (.t 77 true), none⟩,
 ⟨some 79, .build [.str [], .list [] .nil] [(0, 1, .c (.str [97]))], (some (78, true))⟩,
 ⟨some 80, .build [.str [], .list [] .nil] [], (some (78, true))⟩,
 ⟨some 81, .bslice (.agg [.str [], .list [] .nil]) 0 2 [(0, .t 79 true), (1, .t 80 true)], (some (78, true))⟩,
 ⟨some 82, .build [.str [], .list [] .nil] [(1, 1, .t 81 true)], (some (78, true))⟩,
 ⟨some 83, .call (.f n_sexpr_Print) [.t 82 true] false, (some (78, true))⟩,
 ⟨some 84, .bin .eql (.t 83 false) (.c (.str [40, 97, 32, 40, 41, 41])), (some (78, true))⟩,
 ⟨some 85, .pick (.t 78 false) (.t 84 false) (.c (.bool false)), none⟩,
 ⟨some 0, .mv (.t 85 true), none⟩] [0])
 (.ret)))))),
 [.tmp 0], none, none, []⟩
def i_sexpr_Parse : IFun := ⟨true, 1,
 .seq (.region [⟨some 2, .alloc false 0 [.str [], .list [] .nil], none⟩,
 ⟨some 3, .mv (.c (.int .i64 0)), none⟩,
 ⟨some 4, .mv (.c (.int .i64 0)), none⟩] [0, 2])
 (.seq (.region [⟨some 10, .mv (.t 0 false), none⟩,
 ⟨some 11, .call (.f n_sexpr_all) [.t 10 true] false, none⟩,
 ⟨some 9, .mv (.t 11 true), none⟩,
 ⟨some 12, .extract (.t 9 false) 0, none⟩,
 ⟨some 13, .extract (.t 9 false) 1, none⟩,
 ⟨some 14, .extract (.t 9 false) 2, none⟩,
 ⟨some 15, .extract (.t 9 true) 3, none⟩,
 ⟨some 5, .mv (.t 12 true), none⟩,
 ⟨some 6, .mv (.t 13 true), none⟩,
 ⟨some 7, .mv (.t 14 true), none⟩,
 ⟨some 8, .mv (.t 15 true), none⟩] [0, 2, 5, 6, 7, 8])
 (.seq (.block 0
 (.seq (.region [⟨some 17, .mv (.t 8 false), none⟩,
 ⟨some 18, .bin .neq (.t 17 false) (.c (.int .i64 0)), none⟩,
 ⟨some 16, .mv (.t 18 true), none⟩] [0, 2, 5, 6, 7, 8, 16])
 (.cond (.t 16 false)
 (.seq (.region [⟨some 19, .build [.str [], .list [] .nil] [], none⟩,
 ⟨some 20, .mv (.t 7 true), none⟩,
 ⟨some 21, .mv (.t 8 true), none⟩,
 ⟨none, .store (.t 2 false) (.loc 2) (.t 19 true) 2, none⟩,
 ⟨some 3, .mv (.t 20 true), none⟩,
 ⟨some 4, .mv (.t 21 true), none⟩] [2, 3, 4])
 (.ret))
 (.seq (.region [⟨some 23, .mv (.t 5 false), none⟩,
 ⟨some 24, .len (.t 23 false) .list, none⟩,
 ⟨some 25, .bin .eql (.t 24 false) (.c (.int .i64 0)), none⟩,
 ⟨some 22, .mv (.t 25 true), none⟩] [0, 2, 5, 6, 22])
 (.cond (.t 22 false)
 (.seq (.region [⟨some 26, .build [.str [], .list [] .nil] [], none⟩,
 ⟨some 27, .mv (.t 0 true), none⟩,
 ⟨some 28, .len (.t 27 false) .str, none⟩,
 ⟨none, .store (.t 2 false) (.loc 2) (.t 26 true) 2, none⟩,
 ⟨some 3, .mv (.t 28 true), none⟩,
 ⟨some 4, .mv (.c (.int .i64 6)), none⟩] [2, 3, 4])
 (.ret))
 (.seq (.region [⟨some 30, .mv (.t 5 false), none⟩,
 ⟨some 31, .len (.t 30 false) .list, none⟩,
 ⟨some 32, .bin .gtr (.t 31 false) (.c (.int .i64 1)), none⟩,
 ⟨some 29, .mv (.t 32 true), none⟩] [2, 5, 6, 29])
 (.cond (.t 29 false)
 (.seq (.draw [⟨some 33, .build [.str [], .list [] .nil] [], none⟩,
 ⟨some 34, .mv (.t 6 true), none⟩,
 ⟨some 35, .iaddrL (.t 34 false) (.c (.int .i64 1)) 1, none⟩,
 ⟨some 36, .load (.t 35 false) .elem 1 false false, none⟩,
 ⟨none, .store (.t 2 false) (.loc 2) (.t 33 true) 2, none⟩,
 ⟨some 3, .mv (.t 36 true), none⟩,
 ⟨some 4, .mv (.c (.int .i64 6)), none⟩] [0, 1, 2, 3, 4, 5, 6] [] [2, 3, 4])
 (.ret))
 (.skip))))))))
 (.seq (.region [⟨some 37, .mv (.t 5 true), none⟩,
 ⟨some 38, .iaddrL (.t 37 false) (.c (.int .i64 0)) 2, none⟩,
 ⟨some 39, .load (.t 38 false) .elem 2 true false, none⟩,
 ⟨none, .store (.t 2 false) (.loc 2) (.t 39 true) 2, none⟩,
 ⟨some 3, .mv (.c (.int .i64 0)), none⟩,
 ⟨some 4, .mv (.c (.int .i64 0)), none⟩] [2, 3, 4])
 (.ret)))),
 [.cell 2 2 true, .tmp 3, .tmp 4], none, none, []⟩
def i_saturateref05_Parse : IFun := ⟨true, 1,
 .seq (.region [⟨some 2, .alloc false 0 [.str [], .list [] .nil], none⟩,
 ⟨some 3, .mv (.c (.int .i64 0)), none⟩,
 ⟨some 4, .mv (.c (.int .i64 0)), none⟩] [0, 2])
 (.seq (.region [⟨some 12, .mv (.t 0 false), none⟩,
 ⟨some 13, .call (.f n_saturateref05_ParseAll) [.t 12 true] false, none⟩,
 ⟨some 11, .mv (.t 13 true), none⟩,
 ⟨some 14, .extract (.t 11 false) 0, none⟩,
 ⟨some 15, .extract (.t 11 false) 1, none⟩,
 ⟨some 16, .extract (.t 11 true) 2, none⟩,
 ⟨some 5, .mv (.t 14 true), none⟩,
 ⟨some 6, .mv (.t 15 true), none⟩,
 ⟨some 7, .mv (.t 16 true), none⟩] [0, 2, 5, 6, 7])
 (.seq (.seq (.region [⟨some 17, .mv (.t 7 false), none⟩,
 ⟨some 18, .bin .neq (.t 17 false) (.c (.int .i64 0)), none⟩] [0, 2, 5, 6, 7, 18])
 (.cond (.t 18 false)
 (.seq (.region [⟨some 19, .build [.str [], .list [] .nil] [], none⟩,
 ⟨some 20, .mv (.t 6 true), none⟩,
 ⟨some 21, .mv (.t 7 true), none⟩,
 ⟨none, .store (.t 2 false) (.loc 2) (.t 19 true) 2, none⟩,
 ⟨some 3, .mv (.t 20 true), none⟩,
 ⟨some 4, .mv (.t 21 true), none⟩] [2, 3, 4])
 (.ret))
 (.skip)))
 (.seq (.seq (.region [⟨some 22, .mv (.t 5 false), none⟩,
 ⟨some 23, .len (.t 22 false) .list, none⟩,
 ⟨some 24, .bin .eql (.t 23 false) (.c (.int .i64 0)), none⟩] [0, 2, 5, 24])
 (.cond (.t 24 false)
 (.seq (.region [⟨some 25, .build [.str [], .list [] .nil] [], none⟩,
 ⟨some 26, .mv (.t 0 true), none⟩,
 ⟨some 27, .len (.t 26 false) .str, none⟩,
 ⟨none, .store (.t 2 false) (.loc 2) (.t 25 true) 2, none⟩,
 ⟨some 3, .mv (.t 27 true), none⟩,
 ⟨some 4, .mv (.c (.int .i64 6)), none⟩] [2, 3, 4])
 (.ret))
 (.skip)))
 (.seq (.seq (.region [⟨some 28, .mv (.t 5 false), none⟩,
 ⟨some 29, .len (.t 28 false) .list, none⟩,
 ⟨some 30, .bin .gtr (.t 29 false) (.c (.int .i64 1)), none⟩] [0, 2, 5, 30])
 (.cond (.t 30 false)
 (.seq (.region [⟨some 32, .mv (.t 0 false), none⟩,
 ⟨some 33, .mv (.t 0 false), none⟩,
 ⟨some 34, .call (.f n_saturateref05_skip) [.t 33 true, .c (.int .i64 0)] false, none⟩,
 ⟨some 35, .call (.f n_saturateref05_one) [.t 32 true, .t 34 true, .c (.int .i64 0)] false, none⟩,
 ⟨some 31, .mv (.t 35 true), none⟩,
 ⟨some 36, .extract (.t 31 false) 0, none⟩,
 ⟨some 37, .extract (.t 31 false) 1, none⟩,
 ⟨some 38, .extract (.t 31 true) 2, none⟩,
 ⟨some 8, .alloc false 0 [.str [], .list [] .nil], none⟩,
 ⟨none, .store (.t 8 false) (.loc 8) (.t 36 true) 2, none⟩,
 ⟨some 9, .mv (.t 37 true), none⟩,
 ⟨some 10, .mv (.t 38 true), none⟩] [0, 2, 9])
 (.seq (.region [⟨some 39, .build [.str [], .list [] .nil] [], none⟩,
 ⟨some 40, .mv (.t 0 true), none⟩,
 ⟨some 41, .mv (.t 9 true), none⟩,
 ⟨some 42, .call (.f n_saturateref05_skip) [.t 40 true, .t 41 true] false, none⟩,
 ⟨none, .store (.t 2 false) (.loc 2) (.t 39 true) 2, none⟩,
 ⟨some 3, .mv (.t 42 true), none⟩,
 ⟨some 4, .mv (.c (.int .i64 6)), none⟩] [2, 3, 4])
 (.ret)))
 (.skip)))
 (.seq (.region [⟨some 43, .mv (.t 5 true), none⟩,
 ⟨some 44, .iaddrL (.t 43 false) (.c (.int .i64 0)) 2, none⟩,
 ⟨some 45, .load (.t 44 false) .elem 2 true false, none⟩,
 ⟨none, .store (.t 2 false) (.loc 2) (.t 45 true) 2, none⟩,
 ⟨some 3, .mv (.c (.int .i64 0)), none⟩,
 ⟨some 4, .mv (.c (.int .i64 0)), none⟩] [2, 3, 4])
 (.ret)))))),
 [.cell 2 2 true, .tmp 3, .tmp 4], none, none, []⟩
def i_sexpr_ParseAll : IFun := ⟨true, 1,
 .seq (.region [⟨some 2, .mv (.c (.list [] .nil)), none⟩,
 ⟨some 3, .mv (.c (.int .i64 0)), none⟩,
 ⟨some 4, .mv (.c (.int .i64 0)), none⟩] [0])
 (.seq (.region [⟨some 10, .mv (.t 0 true), none⟩,
 ⟨some 11, .call (.f n_sexpr_all) [.t 10 true] false, none⟩,
 ⟨some 9, .mv (.t 11 true), none⟩,
 ⟨some 12, .extract (.t 9 false) 0, none⟩,
 ⟨some 13, .extract (.t 9 false) 1, none⟩,
 ⟨some 14, .extract (.t 9 false) 2, none⟩,
 ⟨some 15, .extract (.t 9 true) 3, none⟩,
 ⟨some 5, .mv (.t 12 true), none⟩,
 ⟨some 6, .mv (.t 13 true), none⟩,
 ⟨some 7, .mv (.t 14 true), none⟩,
 ⟨some 8, .mv (.t 15 true), none⟩] [5, 7, 8])
 (.seq (.region [⟨some 16, .mv (.t 5 true), none⟩,
 ⟨some 17, .mv (.t 7 true), none⟩,
 ⟨some 18, .mv (.t 8 true), none⟩,
 ⟨some 2, .mv (.t 16 true), none⟩,
 ⟨some 3, .mv (.t 17 true), none⟩,
 ⟨some 4, .mv (.t 18 true), none⟩] [2, 3, 4])
 (.ret))),
 [.tmp 2, .tmp 3, .tmp 4], none, none, []⟩
def l_saturateref05_ParseAll_0 : ICode :=
 .seq (.seq (.region [⟨some 15, .mv (.t 6 false), none⟩,
 ⟨some 16, .mv (.t 0 false), none⟩,
 ⟨some 17, .len (.t 16 false) .str, none⟩,
 ⟨some 18, .bin .lss (.t 15 false) (.t 17 false), none⟩] [0, 5, 6, 18])
 (.cond (.t 18 false)
 (.skip)
 (.exit 0)))
 (.block 1
 (.seq (.region [⟨some 20, .mv (.t 0 false), none⟩,
 ⟨some 21, .mv (.t 6 true), none⟩,
 ⟨some 22, .call (.f n_saturateref05_one) [.t 20 true, .t 21 true, .c (.int .i64 0)] false, none⟩,
 ⟨some 19, .mv (.t 22 true), none⟩,
 ⟨some 23, .extract (.t 19 false) 0, none⟩,
 ⟨some 24, .extract (.t 19 false) 1, none⟩,
 ⟨some 25, .extract (.t 19 true) 2, none⟩,
 ⟨some 7, .alloc false 0 [.str [], .list [] .nil], none⟩,
 ⟨none, .store (.t 7 false) (.loc 7) (.t 23 true) 2, none⟩,
 ⟨some 8, .mv (.t 24 true), none⟩,
 ⟨some 9, .mv (.t 25 true), none⟩] [0, 5, 7, 8, 9])
 (.seq (.seq (.region [⟨some 26, .mv (.t 9 false), none⟩,
 ⟨some 27, .bin .neq (.t 26 false) (.c (.int .i64 0)), none⟩] [0, 5, 7, 8, 9, 27])
 (.cond (.t 27 false)
 (.seq (.region [⟨some 28, .mv (.t 8 true), none⟩,
 ⟨some 29, .mv (.t 9 true), none⟩,
 ⟨some 2, .mv (.c (.list [] .nil)), none⟩,
 ⟨some 3, .mv (.t 28 true), none⟩,
 ⟨some 4, .mv (.t 29 true), none⟩] [2, 3, 4])
 (.ret))
 (.skip)))
 (.seq (.region [⟨some 30, .mv (.t 5 true), none⟩,
 ⟨some 31, .load (.t 7 false) (.loc 7) 2 true false, none⟩,
 ⟨some 32, .bslice (.agg [.str [], .list [] .nil]) 0 1 [(0, .t 31 true)], none⟩,
 ⟨some 33, .append (.t 30 true) (.t 32 false) 2 0 40 false, none⟩,
 ⟨some 5, .mv (.t 33 true), none⟩] [0, 5, 8])
 (.region [⟨some 34, .mv (.t 0 false), none⟩,
 ⟨some 35, .mv (.t 8 true), none⟩,
 ⟨some 36, .call (.f n_saturateref05_skip) [.t 34 true, .t 35 true] false, none⟩,
 ⟨some 6, .mv (.t 36 true), none⟩] [0, 5, 6])))))
def i_saturateref05_ParseAll : IFun := ⟨true, 1,
 .seq (.region [⟨some 2, .mv (.c (.list [] .nil)), none⟩,
 ⟨some 3, .mv (.c (.int .i64 0)), none⟩,
 ⟨some 4, .mv (.c (.int .i64 0)), none⟩] [0])
 (.seq (.seq (.region [⟨some 10, .mv (.t 0 false), none⟩,
 ⟨some 11, .len (.t 10 false) .str, none⟩,
 ⟨some 12, .bin .gtr (.t 11 false) (.c (.int .i64 65536)), none⟩] [0, 12])
 (.cond (.t 12 false)
 (.seq (.region [⟨some 2, .mv (.c (.list [] .nil)), none⟩,
 ⟨some 3, .mv (.c (.int .i64 0)), none⟩,
 ⟨some 4, .mv (.c (.int .i64 7)), none⟩] [2, 3, 4])
 (.ret))
 (.skip)))
 (.seq (.region [⟨some 5, .mv (.c (.list [] .nil)), none⟩] [0, 5])
 (.seq (.region [⟨some 13, .mv (.t 0 false), none⟩,
 ⟨some 14, .call (.f n_saturateref05_skip) [.t 13 true, .c (.int .i64 0)] false, none⟩,
 ⟨some 6, .mv (.t 14 true), none⟩] [0, 5, 6])
 (.seq (.block 0
 (.loop l_saturateref05_ParseAll_0))
 (.seq (.region [⟨some 37, .mv (.t 5 true), none⟩,
 ⟨some 2, .mv (.t 37 true), none⟩,
 ⟨some 3, .mv (.c (.int .i64 0)), none⟩,
 ⟨some 4, .mv (.c (.int .i64 0)), none⟩] [2, 3, 4])
 (.ret)))))),
 [.tmp 2, .tmp 3, .tmp 4], none, none, []⟩
def i_saturateref05_Same : IFun := ⟨true, 2,
 .seq (.region [⟨some 2, .box false (.t 0 true), none⟩,
 ⟨some 3, .box false (.t 1 true), none⟩,
 ⟨some 4, .mv (.c (.bool false)), none⟩] [2, 3])
 (.seq (.region [⟨some 5, .faddr (.t 2 false) 0, none⟩,
 ⟨some 6, .load (.t 5 false) (.loc 2) 1 false false, none⟩,
 ⟨some 7, .faddr (.t 3 false) 0, none⟩,
 ⟨some 8, .load (.t 7 false) (.loc 3) 1 false false, none⟩,
 ⟨some 9, .bin .eql (.t 6 false) (.t 8 false), none⟩,
 ⟨some 10, .mv (.t 9 true), none⟩,
 ⟨some 11, .faddr (.t 2 false) 1, (some (10, true))⟩,
 ⟨some 12, .load (.t 11 false) (.loc 2) 1 false false, (some (10, true))⟩,
 ⟨some 13, .faddr (.t 3 false) 1, (some (10, true))⟩,
 ⟨some 14, .load (.t 13 false) (.loc 3) 1 false false, (some (10, true))⟩,
 ⟨some 15, .call (.f n_saturateref05_SameAll) [.t 12 true, .t 14 true] false, (some (10, true))⟩,
 ⟨some 16, .pick (.t 10 false) (.t 15 false) (.c (.bool false)), none⟩,
 ⟨some 4, .mv (.t 16 true), none⟩] [4])
 (.ret)),
 [.tmp 4], none, none, []⟩
def l_saturateref05_SameAll_0 : ICode :=
 .seq (.seq (.region [⟨some 11, .mv (.t 5 false), none⟩,
 ⟨some 12, .mv (.t 0 false), none⟩,
 ⟨some 13, .len (.t 12 false) .list, none⟩,
 ⟨some 14, .bin .lss (.t 11 false) (.t 13 false), none⟩] [0, 1, 5, 14])
 (.cond (.t 14 false)
 (.skip)
 (.exit 0)))
 (.seq (.block 1
 (.seq (.draw [⟨some 17, .mv (.t 0 false), none⟩,
 ⟨some 18, .mv (.t 5 false), none⟩,
 ⟨some 19, .iaddrL (.t 17 false) (.t 18 false) 2, none⟩,
 ⟨some 20, .load (.t 19 false) .elem 2 true false, none⟩,
 ⟨some 21, .mv (.t 1 false), none⟩,
 ⟨some 22, .mv (.t 5 false), none⟩,
 ⟨some 23, .iaddrL (.t 21 false) (.t 22 false) 2, none⟩,
 ⟨some 24, .load (.t 23 false) .elem 2 true false, none⟩,
 ⟨some 25, .call (.f n_saturateref05_Same) [.t 20 true, .t 24 true] true, none⟩,
 ⟨some 26, .un .not (.t 25 false), none⟩] [0, 1, 2, 3, 4, 5, 6, 7, 8, 9] [8] [0, 1, 5, 26])
 (.cond (.t 26 false)
 (.seq (.region [⟨some 4, .mv (.c (.bool false)), none⟩] [4])
 (.ret))
 (.skip))))
 (.region [⟨some 15, .mv (.t 5 true), none⟩,
 ⟨some 16, .bin .add (.t 15 false) (.c (.int .i64 1)), none⟩,
 ⟨some 5, .mv (.t 16 true), none⟩] [0, 1, 5]))
def i_saturateref05_SameAll : IFun := ⟨true, 2,
 .seq (.region [⟨some 4, .mv (.c (.bool false)), none⟩] [0, 1])
 (.seq (.seq (.region [⟨some 6, .mv (.t 0 false), none⟩,
 ⟨some 7, .len (.t 6 false) .list, none⟩,
 ⟨some 8, .mv (.t 1 false), none⟩,
 ⟨some 9, .len (.t 8 false) .list, none⟩,
 ⟨some 10, .bin .neq (.t 7 false) (.t 9 false), none⟩] [0, 1, 10])
 (.cond (.t 10 false)
 (.seq (.region [⟨some 4, .mv (.c (.bool false)), none⟩] [4])
 (.ret))
 (.skip)))
 (.seq (.seq (.region [⟨some 5, .mv (.c (.int .i64 0)), none⟩] [0, 1, 5])
 (.block 0
 (.loop l_saturateref05_SameAll_0)))
 (.seq (.region [⟨some 4, .mv (.c (.bool true)), none⟩] [4])
 (.ret)))),
 [.tmp 4], none, none, []⟩
def i_saturateref05_Few : IFun := ⟨true, 2,
 .seq (.region [⟨some 2, .box false (.t 0 true), none⟩,
 ⟨some 4, .mv (.c (.bool false)), none⟩] [1, 2])
 (.seq (.region [⟨some 5, .load (.t 2 false) (.loc 2) 2 true false, none⟩,
 ⟨some 6, .mv (.t 1 true), none⟩,
 ⟨some 7, .call (.f n_saturateref05_weigh) [.t 5 true, .t 6 true] false, none⟩,
 ⟨some 8, .bin .geq (.t 7 false) (.c (.int .i64 0)), none⟩,
 ⟨some 4, .mv (.t 8 true), none⟩] [4])
 (.ret)),
 [.tmp 4], none, none, []⟩
def i_saturateref05_Valid : IFun := ⟨true, 1,
 .seq (.region [⟨some 1, .box false (.t 0 true), none⟩,
 ⟨some 2, .mv (.c (.bool false)), none⟩] [1])
 (.seq (.region [⟨some 3, .load (.t 1 false) (.loc 1) 2 true false, none⟩,
 ⟨some 4, .call (.f n_saturateref05_right) [.t 3 true] false, none⟩,
 ⟨some 5, .mv (.t 4 true), none⟩,
 ⟨some 6, .load (.t 1 false) (.loc 1) 2 true false, (some (5, true))⟩,
 ⟨some 7, .call (.f n_saturateref05_Depth) [.t 6 true] false, (some (5, true))⟩,
 ⟨some 8, .bin .leq (.t 7 false) (.c (.int .i64 64)), (some (5, true))⟩,
 ⟨some 9, .pick (.t 5 false) (.t 8 false) (.c (.bool false)), none⟩,
 ⟨some 2, .mv (.t 9 true), none⟩] [2])
 (.ret)),
 [.tmp 2], none, none, []⟩
def i_saturateref05_Gap : IFun := ⟨true, 1,
 .seq (.region [⟨some 2, .mv (.c (.bool false)), none⟩] [0])
 (.seq (.region [⟨some 3, .mv (.t 0 false), none⟩,
 ⟨some 4, .bin .neq (.t 3 false) (.c (.str [])), none⟩,
 ⟨some 5, .mv (.t 4 true), none⟩,
 ⟨some 6, .mv (.t 0 false), (some (5, true))⟩,
 ⟨some 7, .idxS (.t 6 false) (.c (.int .i64 0)), (some (5, true))⟩,
 ⟨some 8, .call (.f n_saturateref05_blank) [.t 7 true] false, (some (5, true))⟩,
 ⟨some 9, .pick (.t 5 false) (.t 8 false) (.c (.bool false)), none⟩,
 ⟨some 10, .mv (.t 9 true), none⟩,
 ⟨some 11, .mv (.t 0 false), (some (10, true))⟩,
 ⟨some 12, .call (.f n_saturateref05_skip) [.t 11 true, .c (.int .i64 0)] false, (some (10, true))⟩,
 ⟨some 13, .mv (.t 0 false), (some (10, true))⟩,
 ⟨some 14, .len (.t 13 false) .str, (some (10, true))⟩,
 ⟨some 15, .bin .eql (.t 12 false) (.t 14 false), (some (10, true))⟩,
 ⟨some 16, .pick (.t 10 false) (.t 15 false) (.c (.bool false)), none⟩,
 ⟨some 17, .mv (.t 16 true), none⟩,
 ⟨some 18, .mv (.t 0 false), (some (17, true))⟩,
 ⟨some 19, .bin .add (.t 18 false) (.c (.str [97])), (some (17, true))⟩,
 ⟨some 20, .call (.f n_saturateref05_skip) [.t 19 true, .c (.int .i64 0)] false, (some (17, true))⟩,
 ⟨some 21, .mv (.t 0 true), (some (17, true))⟩,
 ⟨some 22, .len (.t 21 false) .str, (some (17, true))⟩,
 ⟨some 23, .bin .eql (.t 20 false) (.t 22 false), (some (17, true))⟩,
 ⟨some 24, .pick (.t 17 false) (.t 23 false) (.c (.bool false)), none⟩,
 ⟨some 2, .mv (.t 24 true), none⟩] [2])
 (.ret)),
 [.tmp 2], none, none, []⟩
def l_saturateref05_Spaced_0 : ICode :=
 .seq (.seq (.region [⟨some 20, .mv (.t 6 false), none⟩,
 ⟨some 21, .faddr (.t 2 false) 1, none⟩,
 ⟨some 22, .load (.t 21 false) (.loc 2) 1 false false, none⟩,
 ⟨some 23, .len (.t 22 false) .list, none⟩,
 ⟨some 24, .bin .lss (.t 20 false) (.t 23 false), none⟩] [1, 2, 5, 6, 24])
 (.cond (.t 24 false)
 (.skip)
 (.exit 0)))
 (.seq (.block 1
 (.region [⟨some 27, .mv (.t 5 true), none⟩,
 ⟨some 28, .faddr (.t 2 false) 1, none⟩,
 ⟨some 29, .load (.t 28 false) (.loc 2) 1 false false, none⟩,
 ⟨some 30, .mv (.t 6 false), none⟩,
 ⟨some 31, .iaddrL (.t 29 false) (.t 30 false) 2, none⟩,
 ⟨some 32, .load (.t 31 false) .elem 2 true false, none⟩,
 ⟨some 33, .mv (.t 1 false), none⟩,
 ⟨some 34, .call (.f n_saturateref05_Spaced) [.t 32 true, .t 33 true] false, none⟩,
 ⟨some 35, .bin .add (.t 27 false) (.t 34 false), none⟩,
 ⟨some 5, .mv (.t 35 true), none⟩] [1, 2, 5, 6]))
 (.region [⟨some 25, .mv (.t 6 true), none⟩,
 ⟨some 26, .bin .add (.t 25 false) (.c (.int .i64 1)), none⟩,
 ⟨some 6, .mv (.t 26 true), none⟩] [1, 2, 5, 6]))
def i_saturateref05_Spaced : IFun := ⟨true, 2,
 .seq (.region [⟨some 2, .box false (.t 0 true), none⟩,
 ⟨some 4, .mv (.c (.str [])), none⟩] [1, 2])
 (.seq (.seq (.region [⟨some 7, .faddr (.t 2 false) 0, none⟩,
 ⟨some 8, .load (.t 7 false) (.loc 2) 1 false false, none⟩,
 ⟨some 9, .bin .neq (.t 8 false) (.c (.str [])), none⟩] [1, 2, 9])
 (.cond (.t 9 false)
 (.seq (.region [⟨some 10, .mv (.t 1 false), none⟩,
 ⟨some 11, .faddr (.t 2 false) 0, none⟩,
 ⟨some 12, .load (.t 11 false) (.loc 2) 1 false false, none⟩,
 ⟨some 13, .bin .add (.t 10 false) (.t 12 false), none⟩,
 ⟨some 14, .mv (.t 1 true), none⟩,
 ⟨some 15, .bin .add (.t 13 false) (.t 14 false), none⟩,
 ⟨some 4, .mv (.t 15 true), none⟩] [4])
 (.ret))
 (.skip)))
 (.seq (.region [⟨some 16, .mv (.t 1 false), none⟩,
 ⟨some 17, .bin .add (.t 16 false) (.c (.str [40])), none⟩,
 ⟨some 18, .mv (.t 1 false), none⟩,
 ⟨some 19, .bin .add (.t 17 false) (.t 18 false), none⟩,
 ⟨some 5, .mv (.t 19 true), none⟩] [1, 2, 5])
 (.seq (.seq (.region [⟨some 6, .mv (.c (.int .i64 0)), none⟩] [1, 2, 5, 6])
 (.block 0
 (.loop l_saturateref05_Spaced_0)))
 (.seq (.region [⟨some 36, .mv (.t 5 true), none⟩,
 ⟨some 37, .mv (.t 1 false), none⟩,
 ⟨some 38, .bin .add (.t 36 false) (.t 37 false), none⟩,
 ⟨some 39, .bin .add (.t 38 false) (.c (.str [41])), none⟩,
 ⟨some 40, .mv (.t 1 true), none⟩,
 ⟨some 41, .bin .add (.t 39 false) (.t 40 false), none⟩,
 ⟨some 4, .mv (.t 41 true), none⟩] [4])
 (.ret))))),
 [.tmp 4], none, none, []⟩
def i_sexpr_Print : IFun := ⟨true, 1,
 .seq (.region [⟨some 1, .box false (.t 0 true), none⟩,
 ⟨some 2, .mv (.c (.str [])), none⟩] [1])
 (.seq (.region [⟨some 3, .alloc true 82 [.nilp, .list [] .nil], none⟩] [1, 3])
 (.seq (.region [⟨some 4, .load (.t 1 false) (.loc 1) 2 true false, none⟩,
 ⟨some 5, .call (.f n_sexpr_write) [.t 3 false, .t 4 true] false, none⟩] [3])
 (.seq (.region [⟨some 6, .call (.f n_strings_Builder_String) [.t 3 true] false, none⟩,
 ⟨some 2, .mv (.t 6 true), none⟩] [2])
 (.ret)))),
 [.tmp 2], none, none, []⟩
def l_saturateref05_Print_0 : ICode :=
 .seq (.seq (.region [⟨some 10, .mv (.t 4 false), none⟩,
 ⟨some 11, .faddr (.t 1 false) 1, none⟩,
 ⟨some 12, .load (.t 11 false) (.loc 1) 1 false false, none⟩,
 ⟨some 13, .len (.t 12 false) .list, none⟩,
 ⟨some 14, .bin .lss (.t 10 false) (.t 13 false), none⟩] [1, 3, 4, 14])
 (.cond (.t 14 false)
 (.skip)
 (.exit 0)))
 (.seq (.block 1
 (.seq (.seq (.region [⟨some 17, .mv (.t 4 false), none⟩,
 ⟨some 18, .bin .gtr (.t 17 false) (.c (.int .i64 0)), none⟩] [1, 3, 4, 18])
 (.cond (.t 18 false)
 (.region [⟨some 19, .mv (.t 3 true), none⟩,
 ⟨some 20, .bin .add (.t 19 false) (.c (.str [32])), none⟩,
 ⟨some 3, .mv (.t 20 true), none⟩] [1, 3, 4])
 (.skip)))
 (.region [⟨some 21, .mv (.t 3 true), none⟩,
 ⟨some 22, .faddr (.t 1 false) 1, none⟩,
 ⟨some 23, .load (.t 22 false) (.loc 1) 1 false false, none⟩,
 ⟨some 24, .mv (.t 4 false), none⟩,
 ⟨some 25, .iaddrL (.t 23 false) (.t 24 false) 2, none⟩,
 ⟨some 26, .load (.t 25 false) .elem 2 true false, none⟩,
 ⟨some 27, .call (.f n_saturateref05_Print) [.t 26 true] false, none⟩,
 ⟨some 28, .bin .add (.t 21 false) (.t 27 false), none⟩,
 ⟨some 3, .mv (.t 28 true), none⟩] [1, 3, 4])))
 (.region [⟨some 15, .mv (.t 4 true), none⟩,
 ⟨some 16, .bin .add (.t 15 false) (.c (.int .i64 1)), none⟩,
 ⟨some 4, .mv (.t 16 true), none⟩] [1, 3, 4]))
def i_saturateref05_Print : IFun := ⟨true, 1,
 .seq (.region [⟨some 1, .box false (.t 0 true), none⟩,
 ⟨some 2, .mv (.c (.str [])), none⟩] [1])
 (.seq (.seq (.region [⟨some 5, .faddr (.t 1 false) 0, none⟩,
 ⟨some 6, .load (.t 5 false) (.loc 1) 1 false false, none⟩,
 ⟨some 7, .bin .neq (.t 6 false) (.c (.str [])), none⟩] [1, 7])
 (.cond (.t 7 false)
 (.seq (.region [⟨some 8, .faddr (.t 1 false) 0, none⟩,
 ⟨some 9, .load (.t 8 false) (.loc 1) 1 false false, none⟩,
 ⟨some 2, .mv (.t 9 true), none⟩] [2])
 (.ret))
 (.skip)))
 (.seq (.region [⟨some 3, .mv (.c (.str [40])), none⟩] [1, 3])
 (.seq (.seq (.region [⟨some 4, .mv (.c (.int .i64 0)), none⟩] [1, 3, 4])
 (.block 0
 (.loop l_saturateref05_Print_0)))
 (.seq (.region [⟨some 29, .mv (.t 3 true), none⟩,
 ⟨some 30, .bin .add (.t 29 false) (.c (.str [41])), none⟩,
 ⟨some 2, .mv (.t 30 true), none⟩] [2])
 (.ret))))),
 [.tmp 2], none, none, []⟩
def l_sexpr_PrintAll_0 : ICode :=
 .seq (.region [⟨some 9, .bin .lss (.t 8 false) (.t 7 false), none⟩] [3, 6, 7, 8, 9])
 (.seq (.cond (.t 9 false)
 (.skip)
 (.exit 0))
 (.seq (.block 1
 (.seq (.region [⟨some 10, .iaddrL (.t 6 false) (.t 8 false) 2, none⟩,
 ⟨some 11, .load (.t 10 false) .elem 2 true false, none⟩,
 ⟨some 5, .alloc false 0 [.str [], .list [] .nil], none⟩,
 ⟨none, .store (.t 5 false) (.loc 5) (.t 11 true) 2, none⟩] [3, 5, 6, 7, 8])
 (.seq (.region [⟨some 12, .load (.t 5 false) (.loc 5) 2 true false, none⟩,
 ⟨some 13, .call (.f n_sexpr_write) [.t 3 false, .t 12 true] false, none⟩] [3, 6, 7, 8])
 (.region [⟨some 14, .call (.f n_strings_Builder_WriteByte) [.t 3 false, .c (.int .u8 10)] false, none⟩] [3, 6, 7, 8]))))
 (.region [⟨some 15, .bin .add (.t 8 false) (.c (.int .i64 1)), none⟩,
 ⟨some 8, .mv (.t 15 true), none⟩] [3, 6, 7, 8])))
def i_sexpr_PrintAll : IFun := ⟨true, 1,
 .seq (.region [⟨some 2, .mv (.c (.str [])), none⟩] [0])
 (.seq (.region [⟨some 3, .alloc true 82 [.nilp, .list [] .nil], none⟩] [0, 3])
 (.seq (.seq (.region [⟨some 6, .mv (.t 0 true), none⟩,
 ⟨some 7, .len (.t 6 false) .list, none⟩,
 ⟨some 8, .mv (.c (.int .i64 0)), none⟩] [3, 6, 7, 8])
 (.block 0
 (.loop l_sexpr_PrintAll_0)))
 (.seq (.region [⟨some 16, .call (.f n_strings_Builder_String) [.t 3 true] false, none⟩,
 ⟨some 2, .mv (.t 16 true), none⟩] [2])
 (.ret)))),
 [.tmp 2], none, none, []⟩
def l_saturateref05_PrintAll_0 : ICode :=
 .seq (.seq (.region [⟨some 5, .mv (.t 4 false), none⟩,
 ⟨some 6, .mv (.t 0 false), none⟩,
 ⟨some 7, .len (.t 6 false) .list, none⟩,
 ⟨some 8, .bin .lss (.t 5 false) (.t 7 false), none⟩] [0, 3, 4, 8])
 (.cond (.t 8 false)
 (.skip)
 (.exit 0)))
 (.seq (.block 1
 (.region [⟨some 11, .mv (.t 3 true), none⟩,
 ⟨some 12, .mv (.t 0 false), none⟩,
 ⟨some 13, .mv (.t 4 false), none⟩,
 ⟨some 14, .iaddrL (.t 12 false) (.t 13 false) 2, none⟩,
 ⟨some 15, .load (.t 14 false) .elem 2 true false, none⟩,
 ⟨some 16, .call (.f n_saturateref05_Print) [.t 15 true] false, none⟩,
 ⟨some 17, .bin .add (.t 16 false) (.c (.str [10])), none⟩,
 ⟨some 18, .bin .add (.t 11 false) (.t 17 false), none⟩,
 ⟨some 3, .mv (.t 18 true), none⟩] [0, 3, 4]))
 (.region [⟨some 9, .mv (.t 4 true), none⟩,
 ⟨some 10, .bin .add (.t 9 false) (.c (.int .i64 1)), none⟩,
 ⟨some 4, .mv (.t 10 true), none⟩] [0, 3, 4]))
def i_saturateref05_PrintAll : IFun := ⟨true, 1,
 .seq (.region [⟨some 2, .mv (.c (.str [])), none⟩] [0])
 (.seq (.region [⟨some 3, .mv (.c (.str [])), none⟩] [0, 3])
 (.seq (.seq (.region [⟨some 4, .mv (.c (.int .i64 0)), none⟩] [0, 3, 4])
 (.block 0
 (.loop l_saturateref05_PrintAll_0)))
 (.seq (.region [⟨some 19, .mv (.t 3 true), none⟩,
 ⟨some 2, .mv (.t 19 true), none⟩] [2])
 (.ret)))),
 [.tmp 2], none, none, []⟩
def i_sexpr_Valid : IFun := ⟨true, 1,
 .seq (.region [⟨some 1, .box false (.t 0 true), none⟩,
 ⟨some 2, .mv (.c (.bool false)), none⟩] [1])
 (.seq (.region [⟨some 3, .load (.t 1 false) (.loc 1) 2 true false, none⟩,
 ⟨some 4, .call (.f n_sexpr_valid) [.t 3 true, .c (.int .i64 0)] false, none⟩,
 ⟨some 2, .mv (.t 4 true), none⟩] [2])
 (.ret)),
 [.tmp 2], none, none, []⟩
def i_cost_clamp : IFun := ⟨true, 1,
 .seq (.region [⟨some 2, .mv (.c (.int .i64 0)), none⟩] [0])
 (.seq (.region [⟨some 3, .mv (.t 0 true), none⟩,
 ⟨some 4, .max (.t 3 false) (.c (.int .i64 0)), none⟩,
 ⟨some 5, .min (.t 4 false) (.c (.int .i64 4611686018427387904)), none⟩,
 ⟨some 2, .mv (.t 5 true), none⟩] [2])
 (.ret)),
 [.tmp 2], none, none, []⟩
def l_saturateref10_left_0 : ICode :=
 .seq (.region [⟨some 12, .bin .lss (.t 11 false) (.t 10 false), none⟩] [1, 2, 10, 11, 12])
 (.seq (.cond (.t 12 false)
 (.skip)
 (.exit 0))
 (.seq (.block 1
 (.seq (.region [⟨some 13, .mv (.t 11 false), none⟩,
 ⟨some 5, .mv (.t 13 true), none⟩] [1, 2, 5, 10, 11])
 (.seq (.seq (.region [⟨some 14, .mv (.t 1 false), none⟩,
 ⟨some 15, .bin .lss (.t 14 false) (.c (.int .i64 0)), none⟩] [1, 2, 5, 10, 11, 15])
 (.cond (.t 15 false)
 (.seq (.region [⟨some 4, .mv (.c (.int .i64 (-1))), none⟩] [4])
 (.ret))
 (.skip)))
 (.region [⟨some 16, .faddr (.t 2 false) 4, none⟩,
 ⟨some 17, .load (.t 16 false) (.loc 2) 1 false false, none⟩,
 ⟨some 18, .mv (.t 5 true), none⟩,
 ⟨some 19, .iaddrL (.t 17 false) (.t 18 false) 5, none⟩,
 ⟨some 20, .load (.t 19 false) .elem 5 true false, none⟩,
 ⟨some 21, .mv (.t 1 true), none⟩,
 ⟨some 22, .call (.f n_saturateref10_left) [.t 20 true, .t 21 true] false, none⟩,
 ⟨some 1, .mv (.t 22 true), none⟩] [1, 2, 10, 11]))))
 (.region [⟨some 23, .bin .add (.t 11 false) (.c (.int .i64 1)), none⟩,
 ⟨some 11, .mv (.t 23 true), none⟩] [1, 2, 10, 11])))
def i_saturateref10_left : IFun := ⟨true, 2,
 .seq (.region [⟨some 2, .box false (.t 0 true), none⟩,
 ⟨some 4, .mv (.c (.int .i64 0)), none⟩] [1, 2])
 (.seq (.region [⟨some 6, .mv (.t 1 true), none⟩,
 ⟨some 7, .bin .sub (.t 6 false) (.c (.int .i64 1)), none⟩,
 ⟨some 1, .mv (.t 7 true), none⟩] [1, 2])
 (.seq (.seq (.region [⟨some 8, .faddr (.t 2 false) 4, none⟩,
 ⟨some 9, .load (.t 8 false) (.loc 2) 1 false false, none⟩,
 ⟨some 10, .len (.t 9 false) .list, none⟩,
 ⟨some 11, .mv (.c (.int .i64 0)), none⟩] [1, 2, 10, 11])
 (.block 0
 (.loop l_saturateref10_left_0)))
 (.seq (.region [⟨some 24, .mv (.t 1 true), none⟩,
 ⟨some 4, .mv (.t 24 true), none⟩] [4])
 (.ret)))),
 [.tmp 4], none, none, []⟩
def l_cost_shared_visit_1 : ICode :=
 .seq (.region [⟨some 59, .bin .lss (.t 58 false) (.t 57 false), none⟩] [0, 56, 57, 58, 59])
 (.seq (.cond (.t 59 false)
 (.skip)
 (.exit 2))
 (.seq (.block 3
 (.seq (.region [⟨some 60, .iaddrL (.t 56 false) (.t 58 false) 5, none⟩,
 ⟨some 61, .load (.t 60 false) .elem 5 true false, none⟩,
 ⟨some 8, .alloc false 0 [.int .i64 0, .int .i64 0, .int .u64 0, .str [], .list [] .nil], none⟩,
 ⟨none, .store (.t 8 false) (.loc 8) (.t 61 true) 5, none⟩] [0, 8, 56, 57, 58])
 (.region [⟨some 62, .mv (.t 0 false), none⟩,
 ⟨some 63, .load (.t 8 false) (.loc 8) 5 true false, none⟩,
 ⟨some 64, .call (.f n_cost_shared_visit) [.t 62 true, .t 63 true] false, none⟩] [0, 56, 57, 58])))
 (.region [⟨some 65, .bin .add (.t 58 false) (.c (.int .i64 1)), none⟩,
 ⟨some 58, .mv (.t 65 true), none⟩] [0, 56, 57, 58])))
def l_cost_shared_visit_0 : ICode :=
 .seq (.region [⟨some 19, .bin .lss (.t 18 false) (.t 17 false), none⟩] [0, 3, 4, 16, 17, 18, 19])
 (.seq (.cond (.t 19 false)
 (.skip)
 (.exit 0))
 (.seq (.block 1
 (.seq (.region [⟨some 20, .iaddrL (.t 16 false) (.t 18 false) 5, none⟩,
 ⟨some 21, .load (.t 20 false) .elem 5 true false, none⟩,
 ⟨some 6, .alloc false 0 [.int .i64 0, .int .i64 0, .int .u64 0, .str [], .list [] .nil], none⟩,
 ⟨none, .store (.t 6 false) (.loc 6) (.t 21 true) 5, none⟩] [0, 3, 4, 6, 16, 17, 18])
 (.seq (.region [⟨some 22, .load (.t 3 false) (.loc 3) 5 true false, none⟩,
 ⟨some 23, .load (.t 6 false) (.loc 6) 5 true false, none⟩,
 ⟨some 24, .call (.f n_term_Same) [.t 22 true, .t 23 true] false, none⟩] [0, 3, 4, 16, 17, 18, 24])
 (.cond (.t 24 false)
 (.ret)
 (.skip)))))
 (.region [⟨some 25, .bin .add (.t 18 false) (.c (.int .i64 1)), none⟩,
 ⟨some 18, .mv (.t 25 true), none⟩] [0, 3, 4, 16, 17, 18])))
def i_cost_shared_visit : IFun := ⟨false, 2,
 .seq (.region [⟨some 3, .box false (.t 1 true), none⟩] [0, 3])
 (.seq (.region [⟨some 9, .load (.t 3 false) (.loc 3) 5 true false, none⟩,
 ⟨some 10, .call (.f n_term_Size) [.t 9 true] false, none⟩,
 ⟨some 4, .mv (.t 10 true), none⟩] [0, 3, 4])
 (.seq (.seq (.region [⟨some 11, .mv (.t 0 false), none⟩,
 ⟨some 12, .nilchk (.t 11 false), none⟩,
 ⟨some 13, .faddr (.t 12 false) 32, none⟩,
 ⟨some 14, .load (.t 13 false) .heap 1 false false, none⟩,
 ⟨some 15, .mv (.t 4 false), none⟩,
 ⟨some 16, .lookup .int (.t 14 false) (.t 15 false) (.list [] .nil) false false, none⟩,
 ⟨some 17, .len (.t 16 false) .list, none⟩,
 ⟨some 18, .mv (.c (.int .i64 0)), none⟩] [0, 3, 4, 16, 17, 18])
 (.block 0
 (.loop l_cost_shared_visit_0)))
 (.seq (.draw [⟨some 26, .mv (.t 0 false), none⟩,
 ⟨some 27, .nilchk (.t 26 false), none⟩,
 ⟨some 28, .faddr (.t 27 false) 32, none⟩,
 ⟨some 29, .load (.t 28 false) .heap 1 false false, none⟩,
 ⟨some 30, .mv (.t 4 false), none⟩,
 ⟨some 31, .mv (.t 0 false), none⟩,
 ⟨some 32, .nilchk (.t 31 false), none⟩,
 ⟨some 33, .faddr (.t 32 false) 32, none⟩,
 ⟨some 34, .load (.t 33 false) .heap 1 false false, none⟩,
 ⟨some 35, .mv (.t 4 false), none⟩,
 ⟨some 36, .lookup .int (.t 34 false) (.t 35 false) (.list [] .nil) false true, none⟩,
 ⟨some 37, .load (.t 3 false) (.loc 3) 5 true false, none⟩,
 ⟨some 38, .bslice (.agg [.int .i64 0, .int .i64 0, .int .u64 0, .str [], .list [] .nil]) 0 1 [(0, .t 37 true)], none⟩,
 ⟨some 39, .append (.t 36 true) (.t 38 false) 5 0 64 false, none⟩,
 ⟨none, .mapset .int (.t 29 false) (.t 30 false) (.t 39 true) (.list [] .nil), none⟩] [0, 1, 2, 3, 4, 5, 6, 7, 8, 9, 10, 11, 12, 13, 14] [] [0, 3])
 (.seq (.draw [⟨some 40, .mv (.t 0 false), none⟩,
 ⟨some 41, .mv (.t 0 false), none⟩,
 ⟨some 42, .nilchk (.t 41 false), none⟩,
 ⟨some 43, .faddr (.t 42 false) 33, none⟩,
 ⟨some 44, .load (.t 43 false) .heap 1 false false, none⟩,
 ⟨some 45, .mv (.t 0 false), none⟩,
 ⟨some 46, .nilchk (.t 45 false), none⟩,
 ⟨some 47, .faddr (.t 46 false) 0, none⟩,
 ⟨some 48, .load (.t 47 false) .heap 32 true false, none⟩,
 ⟨some 49, .faddr (.t 3 false) 0, none⟩,
 ⟨some 50, .load (.t 49 false) (.loc 3) 1 false false, none⟩,
 ⟨some 51, .call (.f n_cost_Node) [.t 48 true, .t 50 true] true, none⟩,
 ⟨some 52, .call (.f n_cost_Add) [.t 44 true, .t 51 true] true, none⟩,
 ⟨some 53, .nilchk (.t 40 false), none⟩,
 ⟨some 54, .faddr (.t 53 false) 33, none⟩,
 ⟨none, .store (.t 54 false) .heap (.t 52 true) 1, none⟩] [0, 1, 2, 3, 4, 5, 6, 7, 8, 9, 10, 11, 12, 13, 14, 15] [11, 12] [0, 3])
 (.seq (.region [⟨some 55, .faddr (.t 3 false) 4, none⟩,
 ⟨some 56, .load (.t 55 false) (.loc 3) 1 false false, none⟩,
 ⟨some 57, .len (.t 56 false) .list, none⟩,
 ⟨some 58, .mv (.c (.int .i64 0)), none⟩] [0, 56, 57, 58])
 (.block 2
 (.loop l_cost_shared_visit_1))))))),
 [], none, none, []⟩
def l_saturateref10_Same_0 : ICode :=
 .seq (.region [⟨some 45, .bin .lss (.t 44 false) (.t 43 false), none⟩] [2, 3, 43, 44, 45])
 (.seq (.cond (.t 45 false)
 (.skip)
 (.exit 0))
 (.seq (.block 1
 (.seq (.region [⟨some 46, .mv (.t 44 false), none⟩,
 ⟨some 5, .mv (.t 46 true), none⟩] [2, 3, 5, 43, 44])
 (.seq (.draw [⟨some 47, .faddr (.t 2 false) 4, none⟩,
 ⟨some 48, .load (.t 47 false) (.loc 2) 1 false false, none⟩,
 ⟨some 49, .mv (.t 5 false), none⟩,
 ⟨some 50, .iaddrL (.t 48 false) (.t 49 false) 5, none⟩,
 ⟨some 51, .load (.t 50 false) .elem 5 true false, none⟩,
 ⟨some 52, .faddr (.t 3 false) 4, none⟩,
 ⟨some 53, .load (.t 52 false) (.loc 3) 1 false false, none⟩,
 ⟨some 54, .mv (.t 5 false), none⟩,
 ⟨some 55, .iaddrL (.t 53 false) (.t 54 false) 5, none⟩,
 ⟨some 56, .load (.t 55 false) .elem 5 true false, none⟩,
 ⟨some 57, .call (.f n_saturateref10_Same) [.t 51 true, .t 56 true] true, none⟩,
 ⟨some 58, .un .not (.t 57 false), none⟩] [0, 1, 2, 3, 4, 5, 6, 7, 8, 9, 10, 11] [10] [2, 3, 43, 44, 58])
 (.cond (.t 58 false)
 (.seq (.region [⟨some 4, .mv (.c (.bool false)), none⟩] [4])
 (.ret))
 (.skip)))))
 (.region [⟨some 59, .bin .add (.t 44 false) (.c (.int .i64 1)), none⟩,
 ⟨some 44, .mv (.t 59 true), none⟩] [2, 3, 43, 44])))
def i_saturateref10_Same : IFun := ⟨true, 2,
 .seq (.region [⟨some 2, .box false (.t 0 true), none⟩,
 ⟨some 3, .box false (.t 1 true), none⟩,
 ⟨some 4, .mv (.c (.bool false)), none⟩] [2, 3])
 (.seq (.seq (.region [⟨some 6, .faddr (.t 2 false) 0, none⟩,
 ⟨some 7, .load (.t 6 false) (.loc 2) 1 false false, none⟩,
 ⟨some 8, .faddr (.t 3 false) 0, none⟩,
 ⟨some 9, .load (.t 8 false) (.loc 3) 1 false false, none⟩,
 ⟨some 10, .bin .neq (.t 7 false) (.t 9 false), none⟩,
 ⟨some 11, .mv (.t 10 true), none⟩,
 ⟨some 12, .faddr (.t 2 false) 1, (some (11, false))⟩,
 ⟨some 13, .load (.t 12 false) (.loc 2) 1 false false, (some (11, false))⟩,
 ⟨some 14, .faddr (.t 3 false) 1, (some (11, false))⟩,
 ⟨some 15, .load (.t 14 false) (.loc 3) 1 false false, (some (11, false))⟩,
 ⟨some 16, .bin .neq (.t 13 false) (.t 15 false), (some (11, false))⟩,
 ⟨some 17, .pick (.t 11 false) (.c (.bool true)) (.t 16 false), none⟩,
 ⟨some 18, .mv (.t 17 true), none⟩,
 ⟨some 19, .faddr (.t 2 false) 2, (some (18, false))⟩,
 ⟨some 20, .load (.t 19 false) (.loc 2) 1 false false, (some (18, false))⟩,
 ⟨some 21, .faddr (.t 3 false) 2, (some (18, false))⟩,
 ⟨some 22, .load (.t 21 false) (.loc 3) 1 false false, (some (18, false))⟩,
 ⟨some 23, .bin .neq (.t 20 false) (.t 22 false), (some (18, false))⟩,
 ⟨some 24, .pick (.t 18 false) (.c (.bool true)) (.t 23 false), none⟩,
 ⟨some 25, .mv (.t 24 true), none⟩,
 ⟨some 26, .faddr (.t 2 false) 3, (some (25, false))⟩,
 ⟨some 27, .load (.t 26 false) (.loc 2) 1 false false, (some (25, false))⟩,
 ⟨some 28, .faddr (.t 3 false) 3, (some (25, false))⟩,
 ⟨some 29, .load (.t 28 false) (.loc 3) 1 false false, (some (25, false))⟩,
 ⟨some 30, .bin .neq (.t 27 false) (.t 29 false), (some (25, false))⟩,
 ⟨some 31, .pick (.t 25 false) (.c (.bool true)) (.t 30 false), none⟩,
 ⟨some 32, .mv (.t 31 true), none⟩,
 ⟨some 33, .faddr (.t 2 false) 4, (some (32, false))⟩,
 ⟨some 34, .load (.t 33 false) (.loc 2) 1 false false, (some (32, false))⟩,
 ⟨some 35, .len (.t 34 false) .list, (some (32, false))⟩,
 ⟨some 36, .faddr (.t 3 false) 4, (some (32, false))⟩,
 ⟨some 37, .load (.t 36 false) (.loc 3) 1 false false, (some (32, false))⟩,
 ⟨some 38, .len (.t 37 false) .list, (some (32, false))⟩,
 ⟨some 39, .bin .neq (.t 35 false) (.t 38 false), (some (32, false))⟩,
 ⟨some 40, .pick (.t 32 false) (.c (.bool true)) (.t 39 false), none⟩] [2, 3, 40])
 (.cond (.t 40 false)
 (.seq (.region [⟨some 4, .mv (.c (.bool false)), none⟩] [4])
 (.ret))
 (.skip)))
 (.seq (.seq (.region [⟨some 41, .faddr (.t 2 false) 4, none⟩,
 ⟨some 42, .load (.t 41 false) (.loc 2) 1 false false, none⟩,
 ⟨some 43, .len (.t 42 false) .list, none⟩,
 ⟨some 44, .mv (.c (.int .i64 0)), none⟩] [2, 3, 43, 44])
 (.block 0
 (.loop l_saturateref10_Same_0)))
 (.seq (.region [⟨some 4, .mv (.c (.bool true)), none⟩] [4])
 (.ret)))),
 [.tmp 4], none, none, []⟩
def l_sexpr_all_0 : ICode :=
 .seq (.seq (.region [⟨some 16, .mv (.t 6 false), none⟩,
 ⟨some 17, .nilchk (.t 16 false), none⟩,
 ⟨some 18, .faddr (.t 17 false) 1, none⟩,
 ⟨some 19, .load (.t 18 false) .heap 1 false false, none⟩,
 ⟨some 20, .mv (.t 0 false), none⟩,
 ⟨some 21, .len (.t 20 false) .str, none⟩,
 ⟨some 22, .bin .lss (.t 19 false) (.t 21 false), none⟩] [0, 2, 3, 4, 5, 6, 22])
 (.cond (.t 22 false)
 (.skip)
 (.exit 0)))
 (.seq (.block 1
 (.seq (.draw [⟨some 25, .load (.t 3 false) (.loc 3) 1 false true, none⟩,
 ⟨some 26, .mv (.t 6 false), none⟩,
 ⟨some 27, .nilchk (.t 26 false), none⟩,
 ⟨some 28, .faddr (.t 27 false) 1, none⟩,
 ⟨some 29, .load (.t 28 false) .heap 1 false false, none⟩,
 ⟨some 30, .bslice (.int .i64 0) 0 1 [(0, .t 29 true)], none⟩,
 ⟨some 31, .append (.t 25 true) (.t 30 false) 1 0 8 false, none⟩,
 ⟨none, .store (.t 3 false) (.loc 3) (.t 31 true) 1, none⟩] [0, 1, 2, 3, 4, 5, 6, 7] [] [0, 2, 3, 4, 5, 6])
 (.draw [⟨some 32, .load (.t 2 false) (.loc 2) 1 false true, none⟩,
 ⟨some 33, .mv (.t 6 false), none⟩,
 ⟨some 34, .call (.f n_sexpr_parser_expression) [.t 33 true, .c (.int .i64 0)] false, none⟩,
 ⟨some 35, .len (.t 32 false) .list, none⟩,
 ⟨some 36, .bslice (.agg [.str [], .list [] .nil]) 0 1 [(0, .c (.agg [.str [], .list [] .nil]))], none⟩,
 ⟨some 37, .append (.t 32 true) (.t 36 false) 2 0 40 true, none⟩,
 ⟨some 38, .iaddrL (.t 37 false) (.t 35 false) 2, none⟩,
 ⟨none, .store (.t 38 false) (.last 37) (.t 34 true) 2, none⟩,
 ⟨none, .store (.t 2 false) (.loc 2) (.t 37 true) 1, none⟩] [0, 1, 3, 4, 2, 5, 6, 7, 8] [2] [0, 2, 3, 4, 5, 6])))
 (.region [⟨some 23, .mv (.t 6 false), none⟩,
 ⟨some 24, .call (.f n_sexpr_parser_skip) [.t 23 true] false, none⟩] [0, 2, 3, 4, 5, 6]))
def i_sexpr_all : IFun := ⟨true, 1,
 .seq (.region [⟨some 2, .alloc false 0 [.list [] .nil], none⟩,
 ⟨some 3, .alloc false 0 [.list [] .nil], none⟩,
 ⟨some 4, .alloc false 0 [.int .i64 0], none⟩,
 ⟨some 5, .alloc false 0 [.int .i64 0], none⟩] [0, 2, 3, 4, 5])
 (.seq (.seq (.region [⟨some 7, .mv (.t 0 false), none⟩,
 ⟨some 8, .len (.t 7 false) .str, none⟩,
 ⟨some 9, .bin .gtr (.t 8 false) (.c (.int .i64 65536)), none⟩] [0, 2, 3, 4, 5, 9])
 (.cond (.t 9 false)
 (.seq (.region [⟨none, .store (.t 2 false) (.loc 2) (.c (.list [] .nil)) 1, none⟩,
 ⟨none, .store (.t 3 false) (.loc 3) (.c (.list [] .nil)) 1, none⟩,
 ⟨none, .store (.t 4 false) (.loc 4) (.c (.int .i64 0)) 1, none⟩,
 ⟨none, .store (.t 5 false) (.loc 5) (.c (.int .i64 7)) 1, none⟩] [2, 3, 4, 5])
 (.ret))
 (.skip)))
 (.skip)),
 [.cell 2 1 false, .cell 3 1 false, .cell 4 1 false, .cell 5 1 false], none, some ⟨n_sexpr_all_1, [2, 3, 4, 5], 10,
 .seq (.region [⟨some 11, .mv (.t 0 false), none⟩,
 ⟨some 12, .build [.str [], .int .i64 0, .list [] .nil] [(0, 1, .t 11 true)], none⟩,
 ⟨some 13, .box true (.t 12 true), none⟩,
 ⟨some 6, .mv (.t 13 true), none⟩] [0, 2, 3, 4, 5, 6])
 (.seq (.seq (.region [⟨some 14, .mv (.t 6 false), none⟩,
 ⟨some 15, .call (.f n_sexpr_parser_skip) [.t 14 true] false, none⟩] [0, 2, 3, 4, 5, 6])
 (.block 0
 (.loop l_sexpr_all_0)))
 (.seq (.draw [⟨some 39, .load (.t 2 false) (.loc 2) 1 false false, none⟩,
 ⟨some 40, .load (.t 3 false) (.loc 3) 1 false false, none⟩,
 ⟨none, .store (.t 2 false) (.loc 2) (.t 39 true) 1, none⟩,
 ⟨none, .store (.t 3 false) (.loc 3) (.t 40 true) 1, none⟩,
 ⟨none, .store (.t 4 false) (.loc 4) (.c (.int .i64 0)) 1, none⟩,
 ⟨none, .store (.t 5 false) (.loc 5) (.c (.int .i64 0)) 1, none⟩] [0, 1, 2, 3, 4, 5] [] [2, 3, 4, 5])
 (.ret)))⟩, []⟩
def l_saturateref05_one_0 : ICode :=
 .seq (.seq (.region [⟨some 54, .mv (.t 1 false), none⟩,
 ⟨some 55, .mv (.t 0 false), none⟩,
 ⟨some 56, .len (.t 55 false) .str, none⟩,
 ⟨some 57, .bin .lss (.t 54 false) (.t 56 false), none⟩,
 ⟨some 58, .mv (.t 57 true), none⟩,
 ⟨some 59, .mv (.t 0 false), (some (58, true))⟩,
 ⟨some 60, .mv (.t 1 false), (some (58, true))⟩,
 ⟨some 61, .idxS (.t 59 false) (.t 60 false), (some (58, true))⟩,
 ⟨some 62, .bin .neq (.t 61 false) (.c (.int .u8 41)), (some (58, true))⟩,
 ⟨some 63, .pick (.t 58 false) (.t 62 false) (.c (.bool false)), none⟩] [0, 1, 2, 6, 10, 63])
 (.cond (.t 63 false)
 (.skip)
 (.exit 0)))
 (.block 1
 (.seq (.region [⟨some 65, .mv (.t 0 false), none⟩,
 ⟨some 66, .mv (.t 1 true), none⟩,
 ⟨some 67, .mv (.t 2 false), none⟩,
 ⟨some 68, .bin .add (.t 67 false) (.c (.int .i64 1)), none⟩,
 ⟨some 69, .call (.f n_saturateref05_one) [.t 65 true, .t 66 true, .t 68 true] false, none⟩,
 ⟨some 64, .mv (.t 69 true), none⟩,
 ⟨some 70, .extract (.t 64 false) 0, none⟩,
 ⟨some 71, .extract (.t 64 false) 1, none⟩,
 ⟨some 72, .extract (.t 64 true) 2, none⟩,
 ⟨some 11, .alloc false 0 [.str [], .list [] .nil], none⟩,
 ⟨none, .store (.t 11 false) (.loc 11) (.t 70 true) 2, none⟩,
 ⟨some 12, .mv (.t 71 true), none⟩,
 ⟨some 13, .mv (.t 72 true), none⟩] [0, 2, 6, 10, 11, 12, 13])
 (.seq (.seq (.region [⟨some 73, .mv (.t 13 false), none⟩,
 ⟨some 74, .bin .neq (.t 73 false) (.c (.int .i64 0)), none⟩] [0, 2, 6, 10, 11, 12, 13, 74])
 (.cond (.t 74 false)
 (.seq (.region [⟨some 75, .build [.str [], .list [] .nil] [], none⟩,
 ⟨some 76, .mv (.t 12 true), none⟩,
 ⟨some 77, .mv (.t 13 true), none⟩,
 ⟨none, .store (.t 6 false) (.loc 6) (.t 75 true) 2, none⟩,
 ⟨some 7, .mv (.t 76 true), none⟩,
 ⟨some 8, .mv (.t 77 true), none⟩] [6, 7, 8])
 (.ret))
 (.skip)))
 (.seq (.region [⟨some 78, .mv (.t 10 true), none⟩,
 ⟨some 79, .load (.t 11 false) (.loc 11) 2 true false, none⟩,
 ⟨some 80, .bslice (.agg [.str [], .list [] .nil]) 0 1 [(0, .t 79 true)], none⟩,
 ⟨some 81, .append (.t 78 true) (.t 80 false) 2 0 40 false, none⟩,
 ⟨some 10, .mv (.t 81 true), none⟩] [0, 2, 6, 10, 12])
 (.region [⟨some 82, .mv (.t 0 false), none⟩,
 ⟨some 83, .mv (.t 12 true), none⟩,
 ⟨some 84, .call (.f n_saturateref05_skip) [.t 82 true, .t 83 true] false, none⟩,
 ⟨some 1, .mv (.t 84 true), none⟩] [0, 1, 2, 6, 10])))))
def i_saturateref05_one : IFun := ⟨true, 3,
 .seq (.region [⟨some 6, .alloc false 0 [.str [], .list [] .nil], none⟩,
 ⟨some 7, .mv (.c (.int .i64 0)), none⟩,
 ⟨some 8, .mv (.c (.int .i64 0)), none⟩] [0, 1, 2, 6])
 (.seq (.seq (.region [⟨some 14, .mv (.t 0 false), none⟩,
 ⟨some 15, .mv (.t 1 false), none⟩,
 ⟨some 16, .idxS (.t 14 false) (.t 15 false), none⟩,
 ⟨some 17, .bin .eql (.t 16 false) (.c (.int .u8 41)), none⟩,
 ⟨some 18, .mv (.t 17 true), none⟩,
 ⟨some 19, .mv (.t 0 false), (some (18, false))⟩,
 ⟨some 20, .mv (.t 1 false), (some (18, false))⟩,
 ⟨some 21, .idxS (.t 19 false) (.t 20 false), (some (18, false))⟩,
 ⟨some 22, .bin .neq (.t 21 false) (.c (.int .u8 40)), (some (18, false))⟩,
 ⟨some 23, .mv (.t 22 true), (some (18, false))⟩,
 ⟨some 24, .mv (.t 0 false), (some (23, true))⟩,
 ⟨some 25, .mv (.t 1 false), (some (23, true))⟩,
 ⟨some 26, .idxS (.t 24 false) (.t 25 false), (some (23, true))⟩,
 ⟨some 27, .call (.f n_saturateref05_Byte) [.t 26 true] false, (some (23, true))⟩,
 ⟨some 28, .un .not (.t 27 false), (some (23, true))⟩,
 ⟨some 29, .pick (.t 23 false) (.t 28 false) (.c (.bool false)), (some (18, false))⟩,
 ⟨some 30, .pick (.t 18 false) (.c (.bool true)) (.t 29 false), none⟩] [0, 1, 2, 6, 30])
 (.cond (.t 30 false)
 (.seq (.region [⟨some 31, .build [.str [], .list [] .nil] [], none⟩,
 ⟨some 32, .mv (.t 1 true), none⟩,
 ⟨none, .store (.t 6 false) (.loc 6) (.t 31 true) 2, none⟩,
 ⟨some 7, .mv (.t 32 true), none⟩,
 ⟨some 8, .mv (.c (.int .i64 6)), none⟩] [6, 7, 8])
 (.ret))
 (.skip)))
 (.seq (.seq (.region [⟨some 33, .mv (.t 2 false), none⟩,
 ⟨some 34, .bin .geq (.t 33 false) (.c (.int .i64 64)), none⟩] [0, 1, 2, 6, 34])
 (.cond (.t 34 false)
 (.seq (.region [⟨some 35, .build [.str [], .list [] .nil] [], none⟩,
 ⟨some 36, .mv (.t 1 true), none⟩,
 ⟨none, .store (.t 6 false) (.loc 6) (.t 35 true) 2, none⟩,
 ⟨some 7, .mv (.t 36 true), none⟩,
 ⟨some 8, .mv (.c (.int .i64 7)), none⟩] [6, 7, 8])
 (.ret))
 (.skip)))
 (.seq (.seq (.region [⟨some 37, .mv (.t 0 false), none⟩,
 ⟨some 38, .mv (.t 1 false), none⟩,
 ⟨some 39, .idxS (.t 37 false) (.t 38 false), none⟩,
 ⟨some 40, .bin .neq (.t 39 false) (.c (.int .u8 40)), none⟩] [0, 1, 2, 6, 40])
 (.cond (.t 40 false)
 (.seq (.region [⟨some 41, .mv (.t 0 false), none⟩,
 ⟨some 42, .mv (.t 1 false), none⟩,
 ⟨some 43, .call (.f n_saturateref05_atom) [.t 41 true, .t 42 true] false, none⟩,
 ⟨some 9, .mv (.t 43 true), none⟩] [0, 1, 6, 9])
 (.seq (.region [⟨some 44, .mv (.t 0 true), none⟩,
 ⟨some 45, .mv (.t 1 true), none⟩,
 ⟨some 46, .mv (.t 9 false), none⟩,
 ⟨some 47, .slcS (.t 44 false) (some (.t 45 false)) (some (.t 46 false)), none⟩,
 ⟨some 48, .build [.str [], .list [] .nil] [(0, 1, .t 47 true)], none⟩,
 ⟨some 49, .mv (.t 9 true), none⟩,
 ⟨none, .store (.t 6 false) (.loc 6) (.t 48 true) 2, none⟩,
 ⟨some 7, .mv (.t 49 true), none⟩,
 ⟨some 8, .mv (.c (.int .i64 0)), none⟩] [6, 7, 8])
 (.ret)))
 (.skip)))
 (.seq (.region [⟨some 10, .mv (.c (.list [] .nil)), none⟩] [0, 1, 2, 6, 10])
 (.seq (.region [⟨some 50, .mv (.t 0 false), none⟩,
 ⟨some 51, .mv (.t 1 true), none⟩,
 ⟨some 52, .bin .add (.t 51 false) (.c (.int .i64 1)), none⟩,
 ⟨some 53, .call (.f n_saturateref05_skip) [.t 50 true, .t 52 true] false, none⟩,
 ⟨some 1, .mv (.t 53 true), none⟩] [0, 1, 2, 6, 10])
 (.seq (.block 0
 (.loop l_saturateref05_one_0))
 (.seq (.seq (.region [⟨some 85, .mv (.t 1 false), none⟩,
 ⟨some 86, .mv (.t 0 true), none⟩,
 ⟨some 87, .len (.t 86 false) .str, none⟩,
 ⟨some 88, .bin .eql (.t 85 false) (.t 87 false), none⟩] [1, 6, 10, 88])
 (.cond (.t 88 false)
 (.seq (.region [⟨some 89, .build [.str [], .list [] .nil] [], none⟩,
 ⟨some 90, .mv (.t 1 true), none⟩,
 ⟨none, .store (.t 6 false) (.loc 6) (.t 89 true) 2, none⟩,
 ⟨some 7, .mv (.t 90 true), none⟩,
 ⟨some 8, .mv (.c (.int .i64 6)), none⟩] [6, 7, 8])
 (.ret))
 (.skip)))
 (.seq (.region [⟨some 91, .mv (.t 10 true), none⟩,
 ⟨some 92, .build [.str [], .list [] .nil] [(1, 1, .t 91 true)], none⟩,
 ⟨some 93, .mv (.t 1 true), none⟩,
 ⟨some 94, .bin .add (.t 93 false) (.c (.int .i64 1)), none⟩,
 ⟨none, .store (.t 6 false) (.loc 6) (.t 92 true) 2, none⟩,
 ⟨some 7, .mv (.t 94 true), none⟩,
 ⟨some 8, .mv (.c (.int .i64 0)), none⟩] [6, 7, 8])
 (.ret))))))))),
 [.cell 6 2 true, .tmp 7, .tmp 8], none, none, []⟩
def l_saturateref05_skip_1 : ICode :=
 .seq (.seq (.region [⟨some 25, .mv (.t 1 false), none⟩,
 ⟨some 26, .mv (.t 0 false), none⟩,
 ⟨some 27, .len (.t 26 false) .str, none⟩,
 ⟨some 28, .bin .lss (.t 25 false) (.t 27 false), none⟩,
 ⟨some 29, .mv (.t 28 true), none⟩,
 ⟨some 30, .mv (.t 0 false), (some (29, true))⟩,
 ⟨some 31, .mv (.t 1 false), (some (29, true))⟩,
 ⟨some 32, .idxS (.t 30 false) (.t 31 false), (some (29, true))⟩,
 ⟨some 33, .bin .neq (.t 32 false) (.c (.int .u8 10)), (some (29, true))⟩,
 ⟨some 34, .pick (.t 29 false) (.t 33 false) (.c (.bool false)), none⟩] [0, 1, 34])
 (.cond (.t 34 false)
 (.skip)
 (.exit 2)))
 (.block 3
 (.region [⟨some 35, .mv (.t 1 true), none⟩,
 ⟨some 36, .bin .add (.t 35 false) (.c (.int .i64 1)), none⟩,
 ⟨some 1, .mv (.t 36 true), none⟩] [0, 1]))
def l_saturateref05_skip_0 : ICode :=
 .seq (.seq (.region [⟨some 5, .mv (.t 1 false), none⟩,
 ⟨some 6, .mv (.t 0 false), none⟩,
 ⟨some 7, .len (.t 6 false) .str, none⟩,
 ⟨some 8, .bin .lss (.t 5 false) (.t 7 false), none⟩,
 ⟨some 9, .mv (.t 8 true), none⟩,
 ⟨some 10, .mv (.t 0 false), (some (9, true))⟩,
 ⟨some 11, .mv (.t 1 false), (some (9, true))⟩,
 ⟨some 12, .idxS (.t 10 false) (.t 11 false), (some (9, true))⟩,
 ⟨some 13, .call (.f n_saturateref05_blank) [.t 12 true] false, (some (9, true))⟩,
 ⟨some 14, .mv (.t 13 true), (some (9, true))⟩,
 ⟨some 15, .mv (.t 0 false), (some (14, false))⟩,
 ⟨some 16, .mv (.t 1 false), (some (14, false))⟩,
 ⟨some 17, .idxS (.t 15 false) (.t 16 false), (some (14, false))⟩,
 ⟨some 18, .bin .eql (.t 17 false) (.c (.int .u8 59)), (some (14, false))⟩,
 ⟨some 19, .pick (.t 14 false) (.c (.bool true)) (.t 18 false), (some (9, true))⟩,
 ⟨some 20, .pick (.t 9 false) (.t 19 false) (.c (.bool false)), none⟩] [0, 1, 20])
 (.cond (.t 20 false)
 (.skip)
 (.exit 0)))
 (.block 1
 (.seq (.region [⟨some 21, .mv (.t 0 false), none⟩,
 ⟨some 22, .mv (.t 1 false), none⟩,
 ⟨some 23, .idxS (.t 21 false) (.t 22 false), none⟩,
 ⟨some 24, .bin .eql (.t 23 false) (.c (.int .u8 59)), none⟩] [0, 1, 24])
 (.cond (.t 24 false)
 (.block 2
 (.loop l_saturateref05_skip_1))
 (.region [⟨some 37, .mv (.t 1 true), none⟩,
 ⟨some 38, .bin .add (.t 37 false) (.c (.int .i64 1)), none⟩,
 ⟨some 1, .mv (.t 38 true), none⟩] [0, 1]))))
def i_saturateref05_skip : IFun := ⟨true, 2,
 .seq (.region [⟨some 4, .mv (.c (.int .i64 0)), none⟩] [0, 1])
 (.seq (.block 0
 (.loop l_saturateref05_skip_0))
 (.seq (.region [⟨some 39, .mv (.t 1 true), none⟩,
 ⟨some 4, .mv (.t 39 true), none⟩] [4])
 (.ret))),
 [.tmp 4], none, none, []⟩
def l_saturateref05_weigh_0 : ICode :=
 .seq (.seq (.region [⟨some 13, .mv (.t 5 false), none⟩,
 ⟨some 14, .faddr (.t 2 false) 1, none⟩,
 ⟨some 15, .load (.t 14 false) (.loc 2) 1 false false, none⟩,
 ⟨some 16, .len (.t 15 false) .list, none⟩,
 ⟨some 17, .bin .lss (.t 13 false) (.t 16 false), none⟩,
 ⟨some 18, .mv (.t 17 true), none⟩,
 ⟨some 19, .mv (.t 1 false), (some (18, true))⟩,
 ⟨some 20, .bin .geq (.t 19 false) (.c (.int .i64 0)), (some (18, true))⟩,
 ⟨some 21, .pick (.t 18 false) (.t 20 false) (.c (.bool false)), none⟩] [1, 2, 5, 21])
 (.cond (.t 21 false)
 (.skip)
 (.exit 0)))
 (.seq (.block 1
 (.region [⟨some 24, .faddr (.t 2 false) 1, none⟩,
 ⟨some 25, .load (.t 24 false) (.loc 2) 1 false false, none⟩,
 ⟨some 26, .mv (.t 5 false), none⟩,
 ⟨some 27, .iaddrL (.t 25 false) (.t 26 false) 2, none⟩,
 ⟨some 28, .load (.t 27 false) .elem 2 true false, none⟩,
 ⟨some 29, .mv (.t 1 true), none⟩,
 ⟨some 30, .call (.f n_saturateref05_weigh) [.t 28 true, .t 29 true] false, none⟩,
 ⟨some 1, .mv (.t 30 true), none⟩] [1, 2, 5]))
 (.region [⟨some 22, .mv (.t 5 true), none⟩,
 ⟨some 23, .bin .add (.t 22 false) (.c (.int .i64 1)), none⟩,
 ⟨some 5, .mv (.t 23 true), none⟩] [1, 2, 5]))
def i_saturateref05_weigh : IFun := ⟨true, 2,
 .seq (.region [⟨some 2, .box false (.t 0 true), none⟩,
 ⟨some 4, .mv (.c (.int .i64 0)), none⟩] [1, 2])
 (.seq (.region [⟨some 6, .mv (.t 1 true), none⟩,
 ⟨some 7, .bin .sub (.t 6 false) (.c (.int .i64 1)), none⟩,
 ⟨some 8, .faddr (.t 2 false) 0, none⟩,
 ⟨some 9, .load (.t 8 false) (.loc 2) 1 false false, none⟩,
 ⟨some 10, .len (.t 9 false) .str, none⟩,
 ⟨some 11, .bin .quo (.t 10 false) (.c (.int .i64 100)), none⟩,
 ⟨some 12, .bin .sub (.t 7 false) (.t 11 false), none⟩,
 ⟨some 1, .mv (.t 12 true), none⟩] [1, 2])
 (.seq (.seq (.region [⟨some 5, .mv (.c (.int .i64 0)), none⟩] [1, 2, 5])
 (.block 0
 (.loop l_saturateref05_weigh_0)))
 (.seq (.region [⟨some 31, .mv (.t 1 true), none⟩,
 ⟨some 4, .mv (.t 31 true), none⟩] [4])
 (.ret)))),
 [.tmp 4], none, none, []⟩
def l_saturateref05_right_0 : ICode :=
 .seq (.seq (.region [⟨some 20, .mv (.t 3 false), none⟩,
 ⟨some 21, .faddr (.t 1 false) 1, none⟩,
 ⟨some 22, .load (.t 21 false) (.loc 1) 1 false false, none⟩,
 ⟨some 23, .len (.t 22 false) .list, none⟩,
 ⟨some 24, .bin .lss (.t 20 false) (.t 23 false), none⟩] [1, 3, 24])
 (.cond (.t 24 false)
 (.skip)
 (.exit 0)))
 (.seq (.block 1
 (.seq (.region [⟨some 27, .faddr (.t 1 false) 1, none⟩,
 ⟨some 28, .load (.t 27 false) (.loc 1) 1 false false, none⟩,
 ⟨some 29, .mv (.t 3 false), none⟩,
 ⟨some 30, .iaddrL (.t 28 false) (.t 29 false) 2, none⟩,
 ⟨some 31, .load (.t 30 false) .elem 2 true false, none⟩,
 ⟨some 32, .call (.f n_saturateref05_right) [.t 31 true] false, none⟩,
 ⟨some 33, .un .not (.t 32 false), none⟩] [1, 3, 33])
 (.cond (.t 33 false)
 (.seq (.region [⟨some 2, .mv (.c (.bool false)), none⟩] [2])
 (.ret))
 (.skip))))
 (.region [⟨some 25, .mv (.t 3 true), none⟩,
 ⟨some 26, .bin .add (.t 25 false) (.c (.int .i64 1)), none⟩,
 ⟨some 3, .mv (.t 26 true), none⟩] [1, 3]))
def i_saturateref05_right : IFun := ⟨true, 1,
 .seq (.region [⟨some 1, .box false (.t 0 true), none⟩,
 ⟨some 2, .mv (.c (.bool false)), none⟩] [1])
 (.seq (.seq (.region [⟨some 4, .faddr (.t 1 false) 0, none⟩,
 ⟨some 5, .load (.t 4 false) (.loc 1) 1 false false, none⟩,
 ⟨some 6, .bin .neq (.t 5 false) (.c (.str [])), none⟩] [1, 6])
 (.cond (.t 6 false)
 (.seq (.draw [⟨some 7, .faddr (.t 1 false) 1, none⟩,
 ⟨some 8, .load (.t 7 false) (.loc 1) 1 false false, none⟩,
 ⟨some 9, .len (.t 8 false) .list, none⟩,
 ⟨some 10, .bin .eql (.t 9 false) (.c (.int .i64 0)), none⟩,
 ⟨some 11, .mv (.t 10 true), none⟩,
 ⟨some 12, .faddr (.t 1 false) 0, (some (11, true))⟩,
 ⟨some 13, .load (.t 12 false) (.loc 1) 1 false false, (some (11, true))⟩,
 ⟨some 14, .call (.f n_saturateref05_atom) [.t 13 true, .c (.int .i64 0)] true, (some (11, true))⟩,
 ⟨some 15, .faddr (.t 1 false) 0, (some (11, true))⟩,
 ⟨some 16, .load (.t 15 false) (.loc 1) 1 false false, (some (11, true))⟩,
 ⟨some 17, .len (.t 16 false) .str, (some (11, true))⟩,
 ⟨some 18, .bin .eql (.t 14 false) (.t 17 false), (some (11, true))⟩,
 ⟨some 19, .pick (.t 11 false) (.t 18 false) (.c (.bool false)), none⟩,
 ⟨some 2, .mv (.t 19 true), none⟩] [0, 1, 2, 3, 4, 5, 6, 8, 9, 10, 7, 11, 12, 13] [7] [2])
 (.ret))
 (.skip)))
 (.seq (.seq (.region [⟨some 3, .mv (.c (.int .i64 0)), none⟩] [1, 3])
 (.block 0
 (.loop l_saturateref05_right_0)))
 (.seq (.region [⟨some 2, .mv (.c (.bool true)), none⟩] [2])
 (.ret)))),
 [.tmp 2], none, none, []⟩
def l_saturateref05_Depth_0 : ICode :=
 .seq (.seq (.region [⟨some 8, .mv (.t 4 false), none⟩,
 ⟨some 9, .faddr (.t 1 false) 1, none⟩,
 ⟨some 10, .load (.t 9 false) (.loc 1) 1 false false, none⟩,
 ⟨some 11, .len (.t 10 false) .list, none⟩,
 ⟨some 12, .bin .lss (.t 8 false) (.t 11 false), none⟩] [1, 3, 4, 12])
 (.cond (.t 12 false)
 (.skip)
 (.exit 0)))
 (.seq (.block 1
 (.region [⟨some 15, .mv (.t 3 true), none⟩,
 ⟨some 16, .faddr (.t 1 false) 1, none⟩,
 ⟨some 17, .load (.t 16 false) (.loc 1) 1 false false, none⟩,
 ⟨some 18, .mv (.t 4 false), none⟩,
 ⟨some 19, .iaddrL (.t 17 false) (.t 18 false) 2, none⟩,
 ⟨some 20, .load (.t 19 false) .elem 2 true false, none⟩,
 ⟨some 21, .call (.f n_saturateref05_Depth) [.t 20 true] false, none⟩,
 ⟨some 22, .max (.t 15 false) (.t 21 false), none⟩,
 ⟨some 3, .mv (.t 22 true), none⟩] [1, 3, 4]))
 (.region [⟨some 13, .mv (.t 4 true), none⟩,
 ⟨some 14, .bin .add (.t 13 false) (.c (.int .i64 1)), none⟩,
 ⟨some 4, .mv (.t 14 true), none⟩] [1, 3, 4]))
def i_saturateref05_Depth : IFun := ⟨true, 1,
 .seq (.region [⟨some 1, .box false (.t 0 true), none⟩,
 ⟨some 2, .mv (.c (.int .i64 0)), none⟩] [1])
 (.seq (.region [⟨some 3, .mv (.c (.int .i64 0)), none⟩] [1, 3])
 (.seq (.seq (.region [⟨some 5, .faddr (.t 1 false) 0, none⟩,
 ⟨some 6, .load (.t 5 false) (.loc 1) 1 false false, none⟩,
 ⟨some 7, .bin .eql (.t 6 false) (.c (.str [])), none⟩] [1, 3, 7])
 (.cond (.t 7 false)
 (.seq (.region [⟨some 4, .mv (.c (.int .i64 0)), none⟩] [1, 3, 4])
 (.block 0
 (.loop l_saturateref05_Depth_0)))
 (.skip)))
 (.seq (.region [⟨some 23, .mv (.t 3 true), none⟩,
 ⟨some 24, .bin .add (.t 23 false) (.c (.int .i64 1)), none⟩,
 ⟨some 2, .mv (.t 24 true), none⟩] [2])
 (.ret)))),
 [.tmp 2], none, none, []⟩
def i_saturateref05_blank : IFun := ⟨true, 1,
 .seq (.region [⟨some 2, .mv (.c (.bool false)), none⟩] [0])
 (.seq (.region [⟨some 3, .mv (.t 0 false), none⟩,
 ⟨some 4, .bin .eql (.t 3 false) (.c (.int .u8 32)), none⟩,
 ⟨some 5, .mv (.t 4 true), none⟩,
 ⟨some 6, .mv (.t 0 false), (some (5, false))⟩,
 ⟨some 7, .bin .eql (.t 6 false) (.c (.int .u8 9)), (some (5, false))⟩,
 ⟨some 8, .pick (.t 5 false) (.c (.bool true)) (.t 7 false), none⟩,
 ⟨some 9, .mv (.t 8 true), none⟩,
 ⟨some 10, .mv (.t 0 false), (some (9, false))⟩,
 ⟨some 11, .bin .eql (.t 10 false) (.c (.int .u8 10)), (some (9, false))⟩,
 ⟨some 12, .pick (.t 9 false) (.c (.bool true)) (.t 11 false), none⟩,
 ⟨some 13, .mv (.t 12 true), none⟩,
 ⟨some 14, .mv (.t 0 true), (some (13, false))⟩,
 ⟨some 15, .bin .eql (.t 14 false) (.c (.int .u8 13)), (some (13, false))⟩,
 ⟨some 16, .pick (.t 13 false) (.c (.bool true)) (.t 15 false), none⟩,
 ⟨some 2, .mv (.t 16 true), none⟩] [2])
 (.ret)),
 [.tmp 2], none, none, []⟩
def l_sexpr_write_0 : ICode :=
 .seq (.region [⟨some 19, .bin .lss (.t 18 false) (.t 17 false), none⟩] [0, 16, 17, 18, 19])
 (.seq (.cond (.t 19 false)
 (.skip)
 (.exit 0))
 (.seq (.block 1
 (.seq (.region [⟨some 20, .mv (.t 18 false), none⟩,
 ⟨some 21, .iaddrL (.t 16 false) (.t 18 false) 2, none⟩,
 ⟨some 22, .load (.t 21 false) .elem 2 true false, none⟩,
 ⟨some 5, .alloc false 0 [.str [], .list [] .nil], none⟩,
 ⟨some 4, .mv (.t 20 true), none⟩,
 ⟨none, .store (.t 5 false) (.loc 5) (.t 22 true) 2, none⟩] [0, 4, 5, 16, 17, 18])
 (.seq (.seq (.region [⟨some 23, .mv (.t 4 true), none⟩,
 ⟨some 24, .bin .gtr (.t 23 false) (.c (.int .i64 0)), none⟩] [0, 5, 16, 17, 18, 24])
 (.cond (.t 24 false)
 (.region [⟨some 25, .mv (.t 0 false), none⟩,
 ⟨some 26, .call (.f n_strings_Builder_WriteByte) [.t 25 true, .c (.int .u8 32)] false, none⟩] [0, 5, 16, 17, 18])
 (.skip)))
 (.region [⟨some 27, .mv (.t 0 false), none⟩,
 ⟨some 28, .load (.t 5 false) (.loc 5) 2 true false, none⟩,
 ⟨some 29, .call (.f n_sexpr_write) [.t 27 true, .t 28 true] false, none⟩] [0, 16, 17, 18]))))
 (.region [⟨some 30, .bin .add (.t 18 false) (.c (.int .i64 1)), none⟩,
 ⟨some 18, .mv (.t 30 true), none⟩] [0, 16, 17, 18])))
def i_sexpr_write : IFun := ⟨false, 2,
 .seq (.region [⟨some 3, .box false (.t 1 true), none⟩] [0, 3])
 (.seq (.seq (.region [⟨some 6, .faddr (.t 3 false) 0, none⟩,
 ⟨some 7, .load (.t 6 false) (.loc 3) 1 false false, none⟩,
 ⟨some 8, .bin .neq (.t 7 false) (.c (.str [])), none⟩] [0, 3, 8])
 (.cond (.t 8 false)
 (.seq (.region [⟨some 9, .mv (.t 0 true), none⟩,
 ⟨some 10, .faddr (.t 3 false) 0, none⟩,
 ⟨some 11, .load (.t 10 false) (.loc 3) 1 false false, none⟩,
 ⟨some 12, .call (.f n_strings_Builder_WriteString) [.t 9 true, .t 11 true] false, none⟩] [])
 (.ret))
 (.skip)))
 (.seq (.region [⟨some 13, .mv (.t 0 false), none⟩,
 ⟨some 14, .call (.f n_strings_Builder_WriteByte) [.t 13 true, .c (.int .u8 40)] false, none⟩] [0, 3])
 (.seq (.seq (.region [⟨some 15, .faddr (.t 3 false) 1, none⟩,
 ⟨some 16, .load (.t 15 false) (.loc 3) 1 false false, none⟩,
 ⟨some 17, .len (.t 16 false) .list, none⟩,
 ⟨some 18, .mv (.c (.int .i64 0)), none⟩] [0, 16, 17, 18])
 (.block 0
 (.loop l_sexpr_write_0)))
 (.region [⟨some 31, .mv (.t 0 true), none⟩,
 ⟨some 32, .call (.f n_strings_Builder_WriteByte) [.t 31 true, .c (.int .u8 41)] false, none⟩] [])))),
 [], none, none, []⟩
def i_strings_Builder_String : IFun := ⟨false, 1,
 .seq (.region [⟨some 2, .mv (.c (.str [])), none⟩] [0])
 (.seq (.draw [⟨some 3, .mv (.t 0 false), none⟩,
 ⟨some 4, .nilchk (.t 3 false), none⟩,
 ⟨some 5, .faddr (.t 4 false) 1, none⟩,
 ⟨some 6, .load (.t 5 false) .heap 1 false false, none⟩,
 ⟨some 7, .sdata (.t 6 false) 5, none⟩,
 ⟨some 8, .mv (.t 0 false), none⟩,
 ⟨some 9, .nilchk (.t 8 false), none⟩,
 ⟨some 10, .faddr (.t 9 false) 1, none⟩,
 ⟨some 11, .load (.t 10 false) .heap 1 false false, none⟩,
 ⟨some 12, .len (.t 11 false) .list, none⟩,
 ⟨some 13, .ustr (.t 7 false) (.t 12 false) 5, none⟩,
 ⟨some 2, .mv (.t 13 true), none⟩] [0, 1, 2, 3, 4, 5, 6, 7, 8, 9, 10, 11] [] [2])
 (.ret)),
 [.tmp 2], none, none, []⟩
def i_strings_Builder_WriteByte : IFun := ⟨false, 2,
 .seq (.region [⟨some 4, .mv (.c (.nili)), none⟩] [0, 1])
 (.seq (.region [⟨some 5, .mv (.t 0 false), none⟩,
 ⟨some 6, .call (.f n_strings_Builder_copyCheck) [.t 5 true] false, none⟩] [0, 1])
 (.seq (.region [⟨some 7, .mv (.t 0 false), none⟩,
 ⟨some 8, .mv (.t 0 true), none⟩,
 ⟨some 9, .nilchk (.t 8 false), none⟩,
 ⟨some 10, .faddr (.t 9 false) 1, none⟩,
 ⟨some 11, .load (.t 10 false) .heap 1 false true, none⟩,
 ⟨some 12, .mv (.t 1 true), none⟩,
 ⟨some 13, .bslice (.int .u8 0) 5 1 [(0, .t 12 true)], none⟩,
 ⟨some 14, .append (.t 11 true) (.t 13 false) 1 5 1 false, none⟩,
 ⟨some 15, .nilchk (.t 7 false), none⟩,
 ⟨some 16, .faddr (.t 15 false) 1, none⟩,
 ⟨none, .store (.t 16 false) .heap (.t 14 true) 1, none⟩] [])
 (.seq (.region [⟨some 4, .mv (.c (.nili)), none⟩] [4])
 (.ret)))),
 [.tmp 4], none, none, []⟩
def l_sexpr_valid_1 : ICode :=
 .seq (.region [⟨some 35, .bin .lss (.t 34 false) (.t 33 false), none⟩] [1, 32, 33, 34, 35])
 (.seq (.cond (.t 35 false)
 (.skip)
 (.exit 2))
 (.seq (.block 3
 (.seq (.region [⟨some 36, .iaddrL (.t 32 false) (.t 34 false) 2, none⟩,
 ⟨some 37, .load (.t 36 false) .elem 2 true false, none⟩,
 ⟨some 7, .alloc false 0 [.str [], .list [] .nil], none⟩,
 ⟨none, .store (.t 7 false) (.loc 7) (.t 37 true) 2, none⟩] [1, 7, 32, 33, 34])
 (.seq (.region [⟨some 38, .load (.t 7 false) (.loc 7) 2 true false, none⟩,
 ⟨some 39, .mv (.t 1 false), none⟩,
 ⟨some 40, .bin .add (.t 39 false) (.c (.int .i64 1)), none⟩,
 ⟨some 41, .call (.f n_sexpr_valid) [.t 38 true, .t 40 true] false, none⟩,
 ⟨some 42, .un .not (.t 41 false), none⟩] [1, 32, 33, 34, 42])
 (.cond (.t 42 false)
 (.seq (.region [⟨some 4, .mv (.c (.bool false)), none⟩] [4])
 (.ret))
 (.skip)))))
 (.region [⟨some 43, .bin .add (.t 34 false) (.c (.int .i64 1)), none⟩,
 ⟨some 34, .mv (.t 43 true), none⟩] [1, 32, 33, 34])))
def l_sexpr_valid_0 : ICode :=
 .seq (.region [⟨some 18, .bin .lss (.t 17 false) (.t 16 false), none⟩] [2, 16, 17, 18])
 (.seq (.cond (.t 18 false)
 (.skip)
 (.exit 0))
 (.seq (.block 1
 (.seq (.region [⟨some 19, .mv (.t 17 false), none⟩,
 ⟨some 5, .mv (.t 19 true), none⟩] [2, 5, 16, 17])
 (.seq (.region [⟨some 20, .faddr (.t 2 false) 0, none⟩,
 ⟨some 21, .load (.t 20 false) (.loc 2) 1 false false, none⟩,
 ⟨some 22, .mv (.t 5 true), none⟩,
 ⟨some 23, .idxS (.t 21 false) (.t 22 false), none⟩,
 ⟨some 24, .call (.f n_sexpr_plain) [.t 23 true] false, none⟩,
 ⟨some 25, .un .not (.t 24 false), none⟩] [2, 16, 17, 25])
 (.cond (.t 25 false)
 (.seq (.region [⟨some 4, .mv (.c (.bool false)), none⟩] [4])
 (.ret))
 (.skip)))))
 (.region [⟨some 26, .bin .add (.t 17 false) (.c (.int .i64 1)), none⟩,
 ⟨some 17, .mv (.t 26 true), none⟩] [2, 16, 17])))
def i_sexpr_valid : IFun := ⟨true, 2,
 .seq (.region [⟨some 2, .box false (.t 0 true), none⟩,
 ⟨some 4, .mv (.c (.bool false)), none⟩] [1, 2])
 (.seq (.seq (.region [⟨some 8, .mv (.t 1 false), none⟩,
 ⟨some 9, .bin .add (.t 8 false) (.c (.int .i64 1)), none⟩,
 ⟨some 10, .bin .gtr (.t 9 false) (.c (.int .i64 64)), none⟩] [1, 2, 10])
 (.cond (.t 10 false)
 (.seq (.region [⟨some 4, .mv (.c (.bool false)), none⟩] [4])
 (.ret))
 (.skip)))
 (.seq (.seq (.region [⟨some 11, .faddr (.t 2 false) 0, none⟩,
 ⟨some 12, .load (.t 11 false) (.loc 2) 1 false false, none⟩,
 ⟨some 13, .bin .neq (.t 12 false) (.c (.str [])), none⟩] [1, 2, 13])
 (.cond (.t 13 false)
 (.seq (.seq (.region [⟨some 14, .faddr (.t 2 false) 0, none⟩,
 ⟨some 15, .load (.t 14 false) (.loc 2) 1 false false, none⟩,
 ⟨some 16, .len (.t 15 false) .str, none⟩,
 ⟨some 17, .mv (.c (.int .i64 0)), none⟩] [2, 16, 17])
 (.block 0
 (.loop l_sexpr_valid_0)))
 (.seq (.region [⟨some 27, .faddr (.t 2 false) 1, none⟩,
 ⟨some 28, .load (.t 27 false) (.loc 2) 1 false false, none⟩,
 ⟨some 29, .len (.t 28 false) .list, none⟩,
 ⟨some 30, .bin .eql (.t 29 false) (.c (.int .i64 0)), none⟩,
 ⟨some 4, .mv (.t 30 true), none⟩] [4])
 (.ret)))
 (.skip)))
 (.seq (.seq (.region [⟨some 31, .faddr (.t 2 false) 1, none⟩,
 ⟨some 32, .load (.t 31 false) (.loc 2) 1 false false, none⟩,
 ⟨some 33, .len (.t 32 false) .list, none⟩,
 ⟨some 34, .mv (.c (.int .i64 0)), none⟩] [1, 32, 33, 34])
 (.block 2
 (.loop l_sexpr_valid_1)))
 (.seq (.region [⟨some 4, .mv (.c (.bool true)), none⟩] [4])
 (.ret))))),
 [.tmp 4], none, none, []⟩
def l_term_Size_0 : ICode :=
 .seq (.region [⟨some 10, .bin .lss (.t 9 false) (.t 8 false), none⟩] [3, 7, 8, 9, 10])
 (.seq (.cond (.t 10 false)
 (.skip)
 (.exit 0))
 (.seq (.block 1
 (.seq (.region [⟨some 11, .iaddrL (.t 7 false) (.t 9 false) 5, none⟩,
 ⟨some 12, .load (.t 11 false) .elem 5 true false, none⟩,
 ⟨some 5, .alloc false 0 [.int .i64 0, .int .i64 0, .int .u64 0, .str [], .list [] .nil], none⟩,
 ⟨none, .store (.t 5 false) (.loc 5) (.t 12 true) 5, none⟩] [3, 5, 7, 8, 9])
 (.region [⟨some 13, .mv (.t 3 true), none⟩,
 ⟨some 14, .load (.t 5 false) (.loc 5) 5 true false, none⟩,
 ⟨some 15, .call (.f n_term_Size) [.t 14 true] false, none⟩,
 ⟨some 16, .bin .add (.t 13 false) (.t 15 false), none⟩,
 ⟨some 3, .mv (.t 16 true), none⟩] [3, 7, 8, 9])))
 (.region [⟨some 17, .bin .add (.t 9 false) (.c (.int .i64 1)), none⟩,
 ⟨some 9, .mv (.t 17 true), none⟩] [3, 7, 8, 9])))
def i_term_Size : IFun := ⟨true, 1,
 .seq (.region [⟨some 1, .box false (.t 0 true), none⟩,
 ⟨some 2, .mv (.c (.int .i64 0)), none⟩] [1])
 (.seq (.region [⟨some 3, .mv (.c (.int .i64 1)), none⟩] [1, 3])
 (.seq (.seq (.region [⟨some 6, .faddr (.t 1 false) 4, none⟩,
 ⟨some 7, .load (.t 6 false) (.loc 1) 1 false false, none⟩,
 ⟨some 8, .len (.t 7 false) .list, none⟩,
 ⟨some 9, .mv (.c (.int .i64 0)), none⟩] [3, 7, 8, 9])
 (.block 0
 (.loop l_term_Size_0)))
 (.seq (.region [⟨some 18, .mv (.t 3 true), none⟩,
 ⟨some 2, .mv (.t 18 true), none⟩] [2])
 (.ret)))),
 [.tmp 2], none, none, []⟩
def i_term_Same : IFun := ⟨true, 2,
 .seq (.region [⟨some 2, .box false (.t 0 true), none⟩,
 ⟨some 3, .box false (.t 1 true), none⟩,
 ⟨some 4, .mv (.c (.bool false)), none⟩] [2, 3])
 (.seq (.seq (.region [⟨some 5, .faddr (.t 2 false) 0, none⟩,
 ⟨some 6, .load (.t 5 false) (.loc 2) 1 false false, none⟩,
 ⟨some 7, .faddr (.t 3 false) 0, none⟩,
 ⟨some 8, .load (.t 7 false) (.loc 3) 1 false false, none⟩,
 ⟨some 9, .bin .neq (.t 6 false) (.t 8 false), none⟩,
 ⟨some 10, .mv (.t 9 true), none⟩,
 ⟨some 11, .faddr (.t 2 false) 1, (some (10, false))⟩,
 ⟨some 12, .load (.t 11 false) (.loc 2) 1 false false, (some (10, false))⟩,
 ⟨some 13, .faddr (.t 3 false) 1, (some (10, false))⟩,
 ⟨some 14, .load (.t 13 false) (.loc 3) 1 false false, (some (10, false))⟩,
 ⟨some 15, .bin .neq (.t 12 false) (.t 14 false), (some (10, false))⟩,
 ⟨some 16, .pick (.t 10 false) (.c (.bool true)) (.t 15 false), none⟩,
 ⟨some 17, .mv (.t 16 true), none⟩,
 ⟨some 18, .faddr (.t 2 false) 2, (some (17, false))⟩,
 ⟨some 19, .load (.t 18 false) (.loc 2) 1 false false, (some (17, false))⟩,
 ⟨some 20, .faddr (.t 3 false) 2, (some (17, false))⟩,
 ⟨some 21, .load (.t 20 false) (.loc 3) 1 false false, (some (17, false))⟩,
 ⟨some 22, .bin .neq (.t 19 false) (.t 21 false), (some (17, false))⟩,
 ⟨some 23, .pick (.t 17 false) (.c (.bool true)) (.t 22 false), none⟩,
 ⟨some 24, .mv (.t 23 true), none⟩,
 ⟨some 25, .faddr (.t 2 false) 3, (some (24, false))⟩,
 ⟨some 26, .load (.t 25 false) (.loc 2) 1 false false, (some (24, false))⟩,
 ⟨some 27, .faddr (.t 3 false) 3, (some (24, false))⟩,
 ⟨some 28, .load (.t 27 false) (.loc 3) 1 false false, (some (24, false))⟩,
 ⟨some 29, .bin .neq (.t 26 false) (.t 28 false), (some (24, false))⟩,
 ⟨some 30, .pick (.t 24 false) (.c (.bool true)) (.t 29 false), none⟩] [2, 3, 30])
 (.cond (.t 30 false)
 (.seq (.region [⟨some 4, .mv (.c (.bool false)), none⟩] [4])
 (.ret))
 (.skip)))
 (.seq (.region [⟨some 31, .faddr (.t 2 false) 4, none⟩,
 ⟨some 32, .load (.t 31 false) (.loc 2) 1 false false, none⟩,
 ⟨some 33, .faddr (.t 3 false) 4, none⟩,
 ⟨some 34, .load (.t 33 false) (.loc 3) 1 false false, none⟩,
 ⟨some 35, .call (.f n_slices_EqualFunc_Term_Term_Term_Term) [.t 32 true, .t 34 true, .f n_term_Same] false, none⟩,
 ⟨some 4, .mv (.t 35 true), none⟩] [4])
 (.ret))),
 [.tmp 4], none, none, []⟩
def i_sexpr_all_1 : IFun := ⟨false, 4,
 .block 0
 (.seq (.region [⟨some 9, .eq false .iface (.t 7 false) (.c (.nili)), none⟩] [0, 1, 2, 3, 7, 9])
 (.cond (.t 9 false)
 (.region [⟨some 4, .mv (.t 7 true), none⟩] [])
 (.seq (.region [⟨some 10, .assert (.t 7 false) 89 (.agg [.int .i64 0, .int .i64 0]) true, none⟩,
 ⟨some 11, .extract (.t 10 false) 1, none⟩,
 ⟨some 12, .extract (.t 10 true) 0, none⟩] [0, 1, 2, 3, 7, 11, 12])
 (.cond (.t 11 false)
 (.seq (.region [⟨some 5, .alloc false 0 [.int .i64 0, .int .i64 0], none⟩,
 ⟨none, .store (.t 5 false) (.loc 5) (.t 12 true) 2, none⟩] [0, 1, 2, 3, 5])
 (.draw [⟨some 13, .faddr (.t 5 false) 0, none⟩,
 ⟨some 14, .load (.t 13 false) (.loc 5) 1 false false, none⟩,
 ⟨some 15, .faddr (.t 5 false) 1, none⟩,
 ⟨some 16, .load (.t 15 false) (.loc 5) 1 false false, none⟩,
 ⟨none, .store (.t 0 false) .heap (.c (.list [] .nil)) 1, none⟩,
 ⟨none, .store (.t 1 false) .heap (.c (.list [] .nil)) 1, none⟩,
 ⟨none, .store (.t 2 false) .heap (.t 14 true) 1, none⟩,
 ⟨none, .store (.t 3 false) .heap (.t 16 true) 1, none⟩] [0, 1, 2, 3, 4, 5, 6, 7] [] []))
 (.seq (.region [⟨some 6, .mv (.t 7 true), none⟩] [6])
 (.region [⟨some 8, .mv (.t 6 true), none⟩,
 ⟨none, .panic (.t 8 false), none⟩] [])))))),
 [], some 7, none, []⟩
def l_sexpr_parser_skip_1 : ICode :=
 .seq (.seq (.draw [⟨some 35, .mv (.t 0 false), none⟩,
 ⟨some 36, .nilchk (.t 35 false), none⟩,
 ⟨some 37, .faddr (.t 36 false) 1, none⟩,
 ⟨some 38, .load (.t 37 false) .heap 1 false false, none⟩,
 ⟨some 39, .mv (.t 0 false), none⟩,
 ⟨some 40, .nilchk (.t 39 false), none⟩,
 ⟨some 41, .faddr (.t 40 false) 0, none⟩,
 ⟨some 42, .load (.t 41 false) .heap 1 false false, none⟩,
 ⟨some 43, .len (.t 42 false) .str, none⟩,
 ⟨some 44, .bin .lss (.t 38 false) (.t 43 false), none⟩,
 ⟨some 45, .mv (.t 44 true), none⟩,
 ⟨some 46, .mv (.t 0 false), (some (45, true))⟩,
 ⟨some 47, .nilchk (.t 46 false), (some (45, true))⟩,
 ⟨some 48, .faddr (.t 47 false) 0, (some (45, true))⟩,
 ⟨some 49, .load (.t 48 false) .heap 1 false false, (some (45, true))⟩,
 ⟨some 50, .mv (.t 0 false), (some (45, true))⟩,
 ⟨some 51, .nilchk (.t 50 false), (some (45, true))⟩,
 ⟨some 52, .faddr (.t 51 false) 1, (some (45, true))⟩,
 ⟨some 53, .load (.t 52 false) .heap 1 false false, (some (45, true))⟩,
 ⟨some 54, .idxS (.t 49 false) (.t 53 false), (some (45, true))⟩,
 ⟨some 55, .bin .neq (.t 54 false) (.c (.int .u8 10)), (some (45, true))⟩,
 ⟨some 56, .pick (.t 45 false) (.t 55 false) (.c (.bool false)), none⟩] [0, 1, 2, 3, 4, 5, 6, 7, 8, 9, 10, 11, 12, 13, 14, 15, 16, 17, 18, 19, 20, 21] [] [0, 56])
 (.cond (.t 56 false)
 (.skip)
 (.exit 3)))
 (.block 4
 (.region [⟨some 57, .mv (.t 0 false), none⟩,
 ⟨some 58, .nilchk (.t 57 false), none⟩,
 ⟨some 59, .faddr (.t 58 false) 1, none⟩,
 ⟨some 60, .load (.t 59 false) .heap 1 false false, none⟩,
 ⟨some 61, .bin .add (.t 60 false) (.c (.int .i64 1)), none⟩,
 ⟨some 62, .nilchk (.t 57 false), none⟩,
 ⟨some 63, .faddr (.t 62 false) 1, none⟩,
 ⟨none, .store (.t 63 false) .heap (.t 61 true) 1, none⟩] [0]))
def l_sexpr_parser_skip_0 : ICode :=
 .seq (.seq (.draw [⟨some 2, .mv (.t 0 false), none⟩,
 ⟨some 3, .nilchk (.t 2 false), none⟩,
 ⟨some 4, .faddr (.t 3 false) 1, none⟩,
 ⟨some 5, .load (.t 4 false) .heap 1 false false, none⟩,
 ⟨some 6, .mv (.t 0 false), none⟩,
 ⟨some 7, .nilchk (.t 6 false), none⟩,
 ⟨some 8, .faddr (.t 7 false) 0, none⟩,
 ⟨some 9, .load (.t 8 false) .heap 1 false false, none⟩,
 ⟨some 10, .len (.t 9 false) .str, none⟩,
 ⟨some 11, .bin .lss (.t 5 false) (.t 10 false), none⟩] [0, 1, 2, 3, 4, 5, 6, 7, 8, 9] [] [0, 11])
 (.cond (.t 11 false)
 (.skip)
 (.exit 0)))
 (.block 1
 (.seq (.draw [⟨some 12, .mv (.t 0 false), none⟩,
 ⟨some 13, .nilchk (.t 12 false), none⟩,
 ⟨some 14, .faddr (.t 13 false) 0, none⟩,
 ⟨some 15, .load (.t 14 false) .heap 1 false false, none⟩,
 ⟨some 16, .mv (.t 0 false), none⟩,
 ⟨some 17, .nilchk (.t 16 false), none⟩,
 ⟨some 18, .faddr (.t 17 false) 1, none⟩,
 ⟨some 19, .load (.t 18 false) .heap 1 false false, none⟩,
 ⟨some 20, .idxS (.t 15 false) (.t 19 false), none⟩] [0, 1, 2, 3, 4, 5, 6, 7, 8] [] [0, 20])
 (.block 2
 (.seq (.seq (.region [⟨some 22, .bin .eql (.t 20 false) (.c (.int .u8 32)), none⟩,
 ⟨some 21, .mv (.t 22 true), none⟩] [0, 20, 21])
 (.cond (.t 21 false)
 (.skip)
 (.seq (.region [⟨some 23, .bin .eql (.t 20 false) (.c (.int .u8 9)), none⟩,
 ⟨some 21, .mv (.t 23 true), none⟩] [0, 20, 21])
 (.cond (.t 21 false)
 (.skip)
 (.seq (.region [⟨some 24, .bin .eql (.t 20 false) (.c (.int .u8 10)), none⟩,
 ⟨some 21, .mv (.t 24 true), none⟩] [0, 20, 21])
 (.cond (.t 21 false)
 (.skip)
 (.region [⟨some 25, .bin .eql (.t 20 false) (.c (.int .u8 13)), none⟩,
 ⟨some 21, .mv (.t 25 true), none⟩] [0, 20, 21])))))))
 (.cond (.t 21 false)
 (.region [⟨some 26, .mv (.t 0 false), none⟩,
 ⟨some 27, .nilchk (.t 26 false), none⟩,
 ⟨some 28, .faddr (.t 27 false) 1, none⟩,
 ⟨some 29, .load (.t 28 false) .heap 1 false false, none⟩,
 ⟨some 30, .bin .add (.t 29 false) (.c (.int .i64 1)), none⟩,
 ⟨some 31, .nilchk (.t 26 false), none⟩,
 ⟨some 32, .faddr (.t 31 false) 1, none⟩,
 ⟨none, .store (.t 32 false) .heap (.t 30 true) 1, none⟩] [0])
 (.seq (.region [⟨some 34, .bin .eql (.t 20 false) (.c (.int .u8 59)), none⟩,
 ⟨some 33, .mv (.t 34 true), none⟩] [0, 33])
 (.cond (.t 33 false)
 (.block 3
 (.loop l_sexpr_parser_skip_1))
 (.ret))))))))
def i_sexpr_parser_skip : IFun := ⟨false, 1,
 .block 0
 (.loop l_sexpr_parser_skip_0),
 [], none, none, []⟩
def l_sexpr_parser_expression_1 : ICode :=
 .block 3
 (.seq (.region [⟨some 92, .mv (.t 0 false), none⟩,
 ⟨some 93, .call (.f n_sexpr_parser_skip) [.t 92 true] false, none⟩] [0, 1, 4, 7])
 (.seq (.seq (.draw [⟨some 94, .mv (.t 0 false), none⟩,
 ⟨some 95, .nilchk (.t 94 false), none⟩,
 ⟨some 96, .faddr (.t 95 false) 1, none⟩,
 ⟨some 97, .load (.t 96 false) .heap 1 false false, none⟩,
 ⟨some 98, .mv (.t 0 false), none⟩,
 ⟨some 99, .nilchk (.t 98 false), none⟩,
 ⟨some 100, .faddr (.t 99 false) 0, none⟩,
 ⟨some 101, .load (.t 100 false) .heap 1 false false, none⟩,
 ⟨some 102, .len (.t 101 false) .str, none⟩,
 ⟨some 103, .bin .eql (.t 97 false) (.t 102 false), none⟩] [0, 1, 2, 3, 4, 5, 6, 7, 8, 9] [] [0, 1, 4, 7, 103])
 (.cond (.t 103 false)
 (.region [⟨some 104, .mv (.t 0 false), none⟩,
 ⟨some 105, .mv (.t 0 false), none⟩,
 ⟨some 106, .nilchk (.t 105 false), none⟩,
 ⟨some 107, .faddr (.t 106 false) 1, none⟩,
 ⟨some 108, .load (.t 107 false) .heap 1 false false, none⟩,
 ⟨some 109, .call (.f n_sexpr_parser_fail) [.t 104 true, .t 108 true, .c (.int .i64 6)] false, none⟩] [0, 1, 4, 7])
 (.skip)))
 (.seq (.seq (.draw [⟨some 110, .mv (.t 0 false), none⟩,
 ⟨some 111, .nilchk (.t 110 false), none⟩,
 ⟨some 112, .faddr (.t 111 false) 0, none⟩,
 ⟨some 113, .load (.t 112 false) .heap 1 false false, none⟩,
 ⟨some 114, .mv (.t 0 false), none⟩,
 ⟨some 115, .nilchk (.t 114 false), none⟩,
 ⟨some 116, .faddr (.t 115 false) 1, none⟩,
 ⟨some 117, .load (.t 116 false) .heap 1 false false, none⟩,
 ⟨some 118, .idxS (.t 113 false) (.t 117 false), none⟩,
 ⟨some 119, .bin .eql (.t 118 false) (.c (.int .u8 41)), none⟩] [0, 1, 2, 3, 4, 5, 6, 7, 8, 9] [] [0, 1, 4, 7, 119])
 (.cond (.t 119 false)
 (.seq (.region [⟨some 120, .mv (.t 0 true), none⟩,
 ⟨some 121, .nilchk (.t 120 false), none⟩,
 ⟨some 122, .faddr (.t 121 false) 1, none⟩,
 ⟨some 123, .load (.t 122 false) .heap 1 false false, none⟩,
 ⟨some 124, .bin .add (.t 123 false) (.c (.int .i64 1)), none⟩,
 ⟨some 125, .nilchk (.t 120 false), none⟩,
 ⟨some 126, .faddr (.t 125 false) 1, none⟩,
 ⟨none, .store (.t 126 false) .heap (.t 124 true) 1, none⟩] [4, 7])
 (.seq (.region [⟨some 127, .load (.t 7 false) (.loc 7) 2 true false, none⟩,
 ⟨none, .store (.t 4 false) (.loc 4) (.t 127 true) 2, none⟩] [4])
 (.ret)))
 (.skip)))
 (.draw [⟨some 128, .faddr (.t 7 false) 1, none⟩,
 ⟨some 129, .load (.t 128 false) (.loc 7) 1 false true, none⟩,
 ⟨some 130, .mv (.t 0 false), none⟩,
 ⟨some 131, .mv (.t 1 false), none⟩,
 ⟨some 132, .bin .add (.t 131 false) (.c (.int .i64 1)), none⟩,
 ⟨some 133, .call (.f n_sexpr_parser_expression) [.t 130 true, .t 132 true] false, none⟩,
 ⟨some 134, .bslice (.agg [.str [], .list [] .nil]) 0 1 [(0, .t 133 true)], none⟩,
 ⟨some 135, .append (.t 129 true) (.t 134 false) 2 0 40 false, none⟩,
 ⟨some 136, .faddr (.t 7 false) 1, none⟩,
 ⟨none, .store (.t 136 false) (.loc 7) (.t 135 true) 1, none⟩] [0, 1, 2, 3, 4, 5, 6, 7, 8, 9] [5] [0, 1, 4, 7]))))
def l_sexpr_parser_expression_0 : ICode :=
 .seq (.seq (.draw [⟨some 45, .mv (.t 0 false), none⟩,
 ⟨some 46, .nilchk (.t 45 false), none⟩,
 ⟨some 47, .faddr (.t 46 false) 1, none⟩,
 ⟨some 48, .load (.t 47 false) .heap 1 false false, none⟩,
 ⟨some 49, .mv (.t 0 false), none⟩,
 ⟨some 50, .nilchk (.t 49 false), none⟩,
 ⟨some 51, .faddr (.t 50 false) 0, none⟩,
 ⟨some 52, .load (.t 51 false) .heap 1 false false, none⟩,
 ⟨some 53, .len (.t 52 false) .str, none⟩,
 ⟨some 54, .bin .lss (.t 48 false) (.t 53 false), none⟩,
 ⟨some 55, .mv (.t 54 true), none⟩,
 ⟨some 56, .mv (.t 0 false), (some (55, true))⟩,
 ⟨some 57, .nilchk (.t 56 false), (some (55, true))⟩,
 ⟨some 58, .faddr (.t 57 false) 0, (some (55, true))⟩,
 ⟨some 59, .load (.t 58 false) .heap 1 false false, (some (55, true))⟩,
 ⟨some 60, .mv (.t 0 false), (some (55, true))⟩,
 ⟨some 61, .nilchk (.t 60 false), (some (55, true))⟩,
 ⟨some 62, .faddr (.t 61 false) 1, (some (55, true))⟩,
 ⟨some 63, .load (.t 62 false) .heap 1 false false, (some (55, true))⟩,
 ⟨some 64, .idxS (.t 59 false) (.t 63 false), (some (55, true))⟩,
 ⟨some 65, .call (.f n_sexpr_plain) [.t 64 true] true, (some (55, true))⟩,
 ⟨some 66, .pick (.t 55 false) (.t 65 false) (.c (.bool false)), none⟩] [0, 1, 2, 3, 4, 5, 6, 7, 8, 9, 10, 11, 12, 13, 14, 15, 16, 17, 18, 19, 20, 21] [20] [0, 4, 6, 66])
 (.cond (.t 66 false)
 (.skip)
 (.exit 0)))
 (.block 1
 (.region [⟨some 67, .mv (.t 0 false), none⟩,
 ⟨some 68, .nilchk (.t 67 false), none⟩,
 ⟨some 69, .faddr (.t 68 false) 1, none⟩,
 ⟨some 70, .load (.t 69 false) .heap 1 false false, none⟩,
 ⟨some 71, .bin .add (.t 70 false) (.c (.int .i64 1)), none⟩,
 ⟨some 72, .nilchk (.t 67 false), none⟩,
 ⟨some 73, .faddr (.t 72 false) 1, none⟩,
 ⟨none, .store (.t 73 false) .heap (.t 71 true) 1, none⟩] [0, 4, 6]))
def i_sexpr_parser_expression : IFun := ⟨false, 2,
 .seq (.region [⟨some 4, .alloc false 0 [.str [], .list [] .nil], none⟩] [0, 1, 4])
 (.seq (.draw [⟨some 8, .mv (.t 0 false), none⟩,
 ⟨some 9, .nilchk (.t 8 false), none⟩,
 ⟨some 10, .faddr (.t 9 false) 0, none⟩,
 ⟨some 11, .load (.t 10 false) .heap 1 false false, none⟩,
 ⟨some 12, .mv (.t 0 false), none⟩,
 ⟨some 13, .nilchk (.t 12 false), none⟩,
 ⟨some 14, .faddr (.t 13 false) 1, none⟩,
 ⟨some 15, .load (.t 14 false) .heap 1 false false, none⟩,
 ⟨some 16, .idxS (.t 11 false) (.t 15 false), none⟩,
 ⟨some 5, .mv (.t 16 true), none⟩] [0, 1, 2, 3, 4, 5, 6, 7, 8, 9] [] [0, 1, 4, 5])
 (.seq (.seq (.region [⟨some 17, .mv (.t 5 false), none⟩,
 ⟨some 18, .bin .neq (.t 17 false) (.c (.int .u8 40)), none⟩,
 ⟨some 19, .mv (.t 18 true), none⟩,
 ⟨some 20, .mv (.t 5 false), (some (19, true))⟩,
 ⟨some 21, .call (.f n_sexpr_plain) [.t 20 true] false, (some (19, true))⟩,
 ⟨some 22, .un .not (.t 21 false), (some (19, true))⟩,
 ⟨some 23, .pick (.t 19 false) (.t 22 false) (.c (.bool false)), none⟩] [0, 1, 4, 5, 23])
 (.cond (.t 23 false)
 (.region [⟨some 24, .mv (.t 0 false), none⟩,
 ⟨some 25, .mv (.t 0 false), none⟩,
 ⟨some 26, .nilchk (.t 25 false), none⟩,
 ⟨some 27, .faddr (.t 26 false) 1, none⟩,
 ⟨some 28, .load (.t 27 false) .heap 1 false false, none⟩,
 ⟨some 29, .call (.f n_sexpr_parser_fail) [.t 24 true, .t 28 true, .c (.int .i64 6)] false, none⟩] [0, 1, 4, 5])
 (.skip)))
 (.seq (.seq (.region [⟨some 30, .mv (.t 1 false), none⟩,
 ⟨some 31, .bin .add (.t 30 false) (.c (.int .i64 1)), none⟩,
 ⟨some 32, .bin .gtr (.t 31 false) (.c (.int .i64 64)), none⟩] [0, 1, 4, 5, 32])
 (.cond (.t 32 false)
 (.region [⟨some 33, .mv (.t 0 false), none⟩,
 ⟨some 34, .mv (.t 0 false), none⟩,
 ⟨some 35, .nilchk (.t 34 false), none⟩,
 ⟨some 36, .faddr (.t 35 false) 1, none⟩,
 ⟨some 37, .load (.t 36 false) .heap 1 false false, none⟩,
 ⟨some 38, .call (.f n_sexpr_parser_fail) [.t 33 true, .t 37 true, .c (.int .i64 7)] false, none⟩] [0, 1, 4, 5])
 (.skip)))
 (.seq (.seq (.region [⟨some 39, .mv (.t 5 true), none⟩,
 ⟨some 40, .bin .neq (.t 39 false) (.c (.int .u8 40)), none⟩] [0, 1, 4, 40])
 (.cond (.t 40 false)
 (.seq (.region [⟨some 41, .mv (.t 0 false), none⟩,
 ⟨some 42, .nilchk (.t 41 false), none⟩,
 ⟨some 43, .faddr (.t 42 false) 1, none⟩,
 ⟨some 44, .load (.t 43 false) .heap 1 false false, none⟩,
 ⟨some 6, .mv (.t 44 true), none⟩] [0, 4, 6])
 (.seq (.block 0
 (.loop l_sexpr_parser_expression_0))
 (.seq (.draw [⟨some 74, .mv (.t 0 false), none⟩,
 ⟨some 75, .nilchk (.t 74 false), none⟩,
 ⟨some 76, .faddr (.t 75 false) 0, none⟩,
 ⟨some 77, .load (.t 76 false) .heap 1 false false, none⟩,
 ⟨some 78, .mv (.t 6 true), none⟩,
 ⟨some 79, .mv (.t 0 false), none⟩,
 ⟨some 80, .nilchk (.t 79 false), none⟩,
 ⟨some 81, .faddr (.t 80 false) 1, none⟩,
 ⟨some 82, .load (.t 81 false) .heap 1 false false, none⟩,
 ⟨some 83, .slcS (.t 77 false) (some (.t 78 false)) (some (.t 82 false)), none⟩,
 ⟨some 84, .build [.str [], .list [] .nil] [(0, 1, .t 83 true)], none⟩,
 ⟨none, .store (.t 4 false) (.loc 4) (.t 84 true) 2, none⟩] [0, 1, 2, 3, 4, 5, 6, 7, 8, 9, 10, 11] [] [4])
 (.ret))))
 (.skip)))
 (.seq (.region [⟨some 85, .mv (.t 0 false), none⟩,
 ⟨some 86, .nilchk (.t 85 false), none⟩,
 ⟨some 87, .faddr (.t 86 false) 1, none⟩,
 ⟨some 88, .load (.t 87 false) .heap 1 false false, none⟩,
 ⟨some 89, .bin .add (.t 88 false) (.c (.int .i64 1)), none⟩,
 ⟨some 90, .nilchk (.t 85 false), none⟩,
 ⟨some 91, .faddr (.t 90 false) 1, none⟩,
 ⟨none, .store (.t 91 false) .heap (.t 89 true) 1, none⟩] [0, 1, 4])
 (.seq (.region [⟨some 7, .alloc false 0 [.str [], .list [] .nil], none⟩] [0, 1, 4, 7])
 (.block 2
 (.loop l_sexpr_parser_expression_1)))))))),
 [.cell 4 2 true], none, none, []⟩
def i_saturateref05_Byte : IFun := ⟨true, 1,
 .seq (.region [⟨some 2, .mv (.c (.bool false)), none⟩] [0])
 (.seq (.region [⟨some 3, .mv (.t 0 false), none⟩,
 ⟨some 4, .bin .geq (.t 3 false) (.c (.int .u8 33)), none⟩,
 ⟨some 5, .mv (.t 4 true), none⟩,
 ⟨some 6, .mv (.t 0 false), (some (5, true))⟩,
 ⟨some 7, .bin .leq (.t 6 false) (.c (.int .u8 126)), (some (5, true))⟩,
 ⟨some 8, .pick (.t 5 false) (.t 7 false) (.c (.bool false)), none⟩,
 ⟨some 9, .mv (.t 8 true), none⟩,
 ⟨some 10, .mv (.t 0 false), (some (9, true))⟩,
 ⟨some 11, .bin .neq (.t 10 false) (.c (.int .u8 40)), (some (9, true))⟩,
 ⟨some 12, .pick (.t 9 false) (.t 11 false) (.c (.bool false)), none⟩,
 ⟨some 13, .mv (.t 12 true), none⟩,
 ⟨some 14, .mv (.t 0 false), (some (13, true))⟩,
 ⟨some 15, .bin .neq (.t 14 false) (.c (.int .u8 41)), (some (13, true))⟩,
 ⟨some 16, .pick (.t 13 false) (.t 15 false) (.c (.bool false)), none⟩,
 ⟨some 17, .mv (.t 16 true), none⟩,
 ⟨some 18, .mv (.t 0 true), (some (17, true))⟩,
 ⟨some 19, .bin .neq (.t 18 false) (.c (.int .u8 59)), (some (17, true))⟩,
 ⟨some 20, .pick (.t 17 false) (.t 19 false) (.c (.bool false)), none⟩,
 ⟨some 2, .mv (.t 20 true), none⟩] [2])
 (.ret)),
 [.tmp 2], none, none, []⟩
def l_saturateref05_atom_0 : ICode :=
 .seq (.seq (.region [⟨some 5, .mv (.t 1 false), none⟩,
 ⟨some 6, .mv (.t 0 false), none⟩,
 ⟨some 7, .len (.t 6 false) .str, none⟩,
 ⟨some 8, .bin .lss (.t 5 false) (.t 7 false), none⟩,
 ⟨some 9, .mv (.t 8 true), none⟩,
 ⟨some 10, .mv (.t 0 false), (some (9, true))⟩,
 ⟨some 11, .mv (.t 1 false), (some (9, true))⟩,
 ⟨some 12, .idxS (.t 10 false) (.t 11 false), (some (9, true))⟩,
 ⟨some 13, .call (.f n_saturateref05_Byte) [.t 12 true] false, (some (9, true))⟩,
 ⟨some 14, .pick (.t 9 false) (.t 13 false) (.c (.bool false)), none⟩] [0, 1, 14])
 (.cond (.t 14 false)
 (.skip)
 (.exit 0)))
 (.block 1
 (.region [⟨some 15, .mv (.t 1 true), none⟩,
 ⟨some 16, .bin .add (.t 15 false) (.c (.int .i64 1)), none⟩,
 ⟨some 1, .mv (.t 16 true), none⟩] [0, 1]))
def i_saturateref05_atom : IFun := ⟨true, 2,
 .seq (.region [⟨some 4, .mv (.c (.int .i64 0)), none⟩] [0, 1])
 (.seq (.block 0
 (.loop l_saturateref05_atom_0))
 (.seq (.region [⟨some 17, .mv (.t 1 true), none⟩,
 ⟨some 4, .mv (.t 17 true), none⟩] [4])
 (.ret))),
 [.tmp 4], none, none, []⟩
def i_strings_Builder_WriteString : IFun := ⟨false, 2,
 .seq (.region [⟨some 4, .mv (.c (.int .i64 0)), none⟩,
 ⟨some 5, .mv (.c (.nili)), none⟩] [0, 1])
 (.seq (.region [⟨some 6, .mv (.t 0 false), none⟩,
 ⟨some 7, .call (.f n_strings_Builder_copyCheck) [.t 6 true] false, none⟩] [0, 1])
 (.seq (.region [⟨some 8, .mv (.t 0 false), none⟩,
 ⟨some 9, .mv (.t 0 true), none⟩,
 ⟨some 10, .nilchk (.t 9 false), none⟩,
 ⟨some 11, .faddr (.t 10 false) 1, none⟩,
 ⟨some 12, .load (.t 11 false) .heap 1 false true, none⟩,
 ⟨some 13, .mv (.t 1 false), none⟩,
 ⟨some 14, .append (.t 12 true) (.t 13 false) 1 5 1 false, none⟩,
 ⟨some 15, .nilchk (.t 8 false), none⟩,
 ⟨some 16, .faddr (.t 15 false) 1, none⟩,
 ⟨none, .store (.t 16 false) .heap (.t 14 true) 1, none⟩] [1])
 (.seq (.region [⟨some 17, .mv (.t 1 true), none⟩,
 ⟨some 18, .len (.t 17 false) .str, none⟩,
 ⟨some 4, .mv (.t 18 true), none⟩,
 ⟨some 5, .mv (.c (.nili)), none⟩] [4, 5])
 (.ret)))),
 [.tmp 4, .tmp 5], none, none, []⟩
def i_strings_Builder_copyCheck : IFun := ⟨false, 1,
 .seq (.region [⟨some 2, .mv (.t 0 false), none⟩,
 ⟨some 3, .nilchk (.t 2 false), none⟩,
 ⟨some 4, .faddr (.t 3 false) 0, none⟩,
 ⟨some 5, .load (.t 4 false) .heap 1 false false, none⟩,
 ⟨some 6, .eq false .ptr (.t 5 false) (.c (.nilp)), none⟩] [0, 6])
 (.cond (.t 6 false)
 (.region [⟨some 7, .mv (.t 0 false), none⟩,
 ⟨some 8, .mv (.t 0 true), none⟩,
 ⟨some 9, .uptr (.t 8 false) 82 2, none⟩,
 ⟨some 10, .ident n_internal_abi_NoEscape (.t 9 false), none⟩,
 ⟨some 11, .uptr (.t 10 false) 82 2, none⟩,
 ⟨some 12, .nilchk (.t 7 false), none⟩,
 ⟨some 13, .faddr (.t 12 false) 0, none⟩,
 ⟨none, .store (.t 13 false) .heap (.t 11 true) 1, none⟩] [])
 (.seq (.region [⟨some 14, .mv (.t 0 false), none⟩,
 ⟨some 15, .nilchk (.t 14 false), none⟩,
 ⟨some 16, .faddr (.t 15 false) 0, none⟩,
 ⟨some 17, .load (.t 16 false) .heap 1 false false, none⟩,
 ⟨some 18, .mv (.t 0 true), none⟩,
 ⟨some 19, .eq true .ptr (.t 17 false) (.t 18 false), none⟩] [19])
 (.cond (.t 19 false)
 (.stuck)
 (.skip)))),
 [], none, none, []⟩
def i_sexpr_plain : IFun := ⟨true, 1,
 .seq (.region [⟨some 2, .mv (.c (.bool false)), none⟩] [0])
 (.seq (.region [⟨some 3, .mv (.t 0 false), none⟩,
 ⟨some 4, .bin .geq (.t 3 false) (.c (.int .u8 33)), none⟩,
 ⟨some 5, .mv (.t 4 true), none⟩,
 ⟨some 6, .mv (.t 0 false), (some (5, true))⟩,
 ⟨some 7, .bin .leq (.t 6 false) (.c (.int .u8 126)), (some (5, true))⟩,
 ⟨some 8, .pick (.t 5 false) (.t 7 false) (.c (.bool false)), none⟩,
 ⟨some 9, .mv (.t 8 true), none⟩,
 ⟨some 10, .mv (.t 0 false), (some (9, true))⟩,
 ⟨some 11, .bin .neq (.t 10 false) (.c (.int .u8 40)), (some (9, true))⟩,
 ⟨some 12, .pick (.t 9 false) (.t 11 false) (.c (.bool false)), none⟩,
 ⟨some 13, .mv (.t 12 true), none⟩,
 ⟨some 14, .mv (.t 0 false), (some (13, true))⟩,
 ⟨some 15, .bin .neq (.t 14 false) (.c (.int .u8 41)), (some (13, true))⟩,
 ⟨some 16, .pick (.t 13 false) (.t 15 false) (.c (.bool false)), none⟩,
 ⟨some 17, .mv (.t 16 true), none⟩,
 ⟨some 18, .mv (.t 0 true), (some (17, true))⟩,
 ⟨some 19, .bin .neq (.t 18 false) (.c (.int .u8 59)), (some (17, true))⟩,
 ⟨some 20, .pick (.t 17 false) (.t 19 false) (.c (.bool false)), none⟩,
 ⟨some 2, .mv (.t 20 true), none⟩] [2])
 (.ret)),
 [.tmp 2], none, none, []⟩
def l_slices_EqualFunc_Term_Term_Term_Term_0 : ICode :=
 .seq (.region [⟨some 18, .bin .lss (.t 17 false) (.t 16 false), none⟩] [1, 2, 15, 16, 17, 18])
 (.seq (.cond (.t 18 false)
 (.skip)
 (.exit 0))
 (.seq (.block 1
 (.seq (.region [⟨some 19, .mv (.t 17 false), none⟩,
 ⟨some 20, .iaddrL (.t 15 false) (.t 17 false) 5, none⟩,
 ⟨some 21, .load (.t 20 false) .elem 5 true false, none⟩,
 ⟨some 8, .alloc false 0 [.int .i64 0, .int .i64 0, .int .u64 0, .str [], .list [] .nil], none⟩,
 ⟨some 7, .mv (.t 19 true), none⟩,
 ⟨none, .store (.t 8 false) (.loc 8) (.t 21 true) 5, none⟩] [1, 2, 7, 8, 15, 16, 17])
 (.seq (.region [⟨some 22, .mv (.t 1 false), none⟩,
 ⟨some 23, .mv (.t 7 true), none⟩,
 ⟨some 24, .iaddrL (.t 22 false) (.t 23 false) 5, none⟩,
 ⟨some 25, .load (.t 24 false) .elem 5 true false, none⟩,
 ⟨some 9, .alloc false 0 [.int .i64 0, .int .i64 0, .int .u64 0, .str [], .list [] .nil], none⟩,
 ⟨none, .store (.t 9 false) (.loc 9) (.t 25 true) 5, none⟩] [1, 2, 8, 9, 15, 16, 17])
 (.seq (.region [⟨some 26, .mv (.t 2 false), none⟩,
 ⟨some 27, .load (.t 8 false) (.loc 8) 5 true false, none⟩,
 ⟨some 28, .load (.t 9 false) (.loc 9) 5 true false, none⟩,
 ⟨some 29, .call (.t 26 false) [.t 27 true, .t 28 true] false, none⟩,
 ⟨some 30, .un .not (.t 29 false), none⟩] [1, 2, 15, 16, 17, 30])
 (.cond (.t 30 false)
 (.seq (.region [⟨some 6, .mv (.c (.bool false)), none⟩] [6])
 (.ret))
 (.skip))))))
 (.region [⟨some 31, .bin .add (.t 17 false) (.c (.int .i64 1)), none⟩,
 ⟨some 17, .mv (.t 31 true), none⟩] [1, 2, 15, 16, 17])))
def i_slices_EqualFunc_Term_Term_Term_Term : IFun := ⟨true, 3,
 .seq (.region [⟨some 6, .mv (.c (.bool false)), none⟩] [0, 1, 2])
 (.seq (.seq (.region [⟨some 10, .mv (.t 0 false), none⟩,
 ⟨some 11, .len (.t 10 false) .list, none⟩,
 ⟨some 12, .mv (.t 1 false), none⟩,
 ⟨some 13, .len (.t 12 false) .list, none⟩,
 ⟨some 14, .bin .neq (.t 11 false) (.t 13 false), none⟩] [0, 1, 2, 14])
 (.cond (.t 14 false)
 (.seq (.region [⟨some 6, .mv (.c (.bool false)), none⟩] [6])
 (.ret))
 (.skip)))
 (.seq (.seq (.region [⟨some 15, .mv (.t 0 true), none⟩,
 ⟨some 16, .len (.t 15 false) .list, none⟩,
 ⟨some 17, .mv (.c (.int .i64 0)), none⟩] [1, 2, 15, 16, 17])
 (.block 0
 (.loop l_slices_EqualFunc_Term_Term_Term_Term_0)))
 (.seq (.region [⟨some 6, .mv (.c (.bool true)), none⟩] [6])
 (.ret)))),
 [.tmp 6], none, none, []⟩
def i_sexpr_parser_fail : IFun := ⟨false, 3,
 .region [⟨some 6, .mv (.t 1 true), none⟩,
 ⟨some 7, .mv (.t 2 true), none⟩,
 ⟨some 8, .build [.int .i64 0, .int .i64 0] [(0, 1, .t 6 true), (1, 1, .t 7 true)], none⟩,
 ⟨some 9, .mkiface 89 (.t 8 true), none⟩,
 ⟨none, .panic (.t 9 false), none⟩] [],
 [], none, none, []⟩
def IPT : IT :=
  .node 36 i_saturateref05_Valid (.node 19 i_cost_Uniform (.node 10 i_saturatelaw05_SexprGaps (.node 6 i_saturatelaw10_CostShared (.node 4 i_saturatelaw10_CostTrees (.node 3 i_saturatelaw10_CostNodes (.node 2 i_gosem_cut_init .leaf .leaf) .leaf) (.node 5 i_saturatelaw10_CostDags .leaf .leaf)) (.node 8 i_saturatelaw10_CostGrows (.node 7 i_saturatelaw10_CostOrder .leaf .leaf) (.node 9 i_saturatelaw05_SexprParses .leaf .leaf))) (.node 15 i_cost_Node (.node 13 i_saturatelaw05_SexprBack (.node 12 i_saturatelaw05_SexprPrints (.node 11 i_saturatelaw05_SexprLong .leaf .leaf) .leaf) (.node 14 i_saturatelaw05_SexprTwice .leaf .leaf)) (.node 17 i_cost_Add (.node 16 i_saturateref10_Node .leaf .leaf) (.node 18 i_saturateref10_Add .leaf .leaf)))) (.node 28 i_saturatelaw05_live (.node 24 i_cost_Dag (.node 22 i_cost_Tree (.node 21 i_saturateref10_Small (.node 20 i_saturatelaw10_lives .leaf .leaf) .leaf) (.node 23 i_saturateref10_Tree .leaf .leaf)) (.node 26 i_saturateref10_Subterms (.node 25 i_saturateref10_Dag .leaf .leaf) (.node 27 i_saturateref10_Count .leaf .leaf))) (.node 32 i_saturateref05_ParseAll (.node 30 i_saturateref05_Parse (.node 29 i_sexpr_Parse .leaf .leaf) (.node 31 i_sexpr_ParseAll .leaf .leaf)) (.node 34 i_saturateref05_SameAll (.node 33 i_saturateref05_Same .leaf .leaf) (.node 35 i_saturateref05_Few .leaf .leaf))))) (.node 54 i_saturateref05_blank (.node 45 i_saturateref10_left (.node 41 i_sexpr_PrintAll (.node 39 i_sexpr_Print (.node 38 i_saturateref05_Spaced (.node 37 i_saturateref05_Gap .leaf .leaf) .leaf) (.node 40 i_saturateref05_Print .leaf .leaf)) (.node 43 i_sexpr_Valid (.node 42 i_saturateref05_PrintAll .leaf .leaf) (.node 44 i_cost_clamp .leaf .leaf))) (.node 50 i_saturateref05_skip (.node 48 i_sexpr_all (.node 47 i_saturateref10_Same (.node 46 i_cost_shared_visit .leaf .leaf) .leaf) (.node 49 i_saturateref05_one .leaf .leaf)) (.node 52 i_saturateref05_right (.node 51 i_saturateref05_weigh .leaf .leaf) (.node 53 i_saturateref05_Depth .leaf .leaf)))) (.node 63 i_sexpr_parser_expression (.node 59 i_term_Size (.node 57 i_strings_Builder_WriteByte (.node 56 i_strings_Builder_String (.node 55 i_sexpr_write .leaf .leaf) .leaf) (.node 58 i_sexpr_valid .leaf .leaf)) (.node 61 i_sexpr_all_1 (.node 60 i_term_Same .leaf .leaf) (.node 62 i_sexpr_parser_skip .leaf .leaf))) (.node 67 i_strings_Builder_copyCheck (.node 65 i_saturateref05_atom (.node 64 i_saturateref05_Byte .leaf .leaf) (.node 66 i_strings_Builder_WriteString .leaf .leaf)) (.node 69 i_slices_EqualFunc_Term_Term_Term_Term (.node 68 i_sexpr_plain .leaf .leaf) (.node 70 i_sexpr_parser_fail .leaf .leaf)))))
def IP : IProg := IPT.get
def G0 : Nat → Option (List AV) := fun _ => none
theorem IP_gosem_cut_init : IP n_gosem_cut_init = some i_gosem_cut_init := rfl
theorem IP_saturatelaw10_CostNodes : IP n_saturatelaw10_CostNodes = some i_saturatelaw10_CostNodes := rfl
theorem IP_saturatelaw10_CostTrees : IP n_saturatelaw10_CostTrees = some i_saturatelaw10_CostTrees := rfl
theorem IP_saturatelaw10_CostDags : IP n_saturatelaw10_CostDags = some i_saturatelaw10_CostDags := rfl
theorem IP_saturatelaw10_CostShared : IP n_saturatelaw10_CostShared = some i_saturatelaw10_CostShared := rfl
theorem IP_saturatelaw10_CostOrder : IP n_saturatelaw10_CostOrder = some i_saturatelaw10_CostOrder := rfl
theorem IP_saturatelaw10_CostGrows : IP n_saturatelaw10_CostGrows = some i_saturatelaw10_CostGrows := rfl
theorem IP_saturatelaw05_SexprParses : IP n_saturatelaw05_SexprParses = some i_saturatelaw05_SexprParses := rfl
theorem IP_saturatelaw05_SexprGaps : IP n_saturatelaw05_SexprGaps = some i_saturatelaw05_SexprGaps := rfl
theorem IP_saturatelaw05_SexprLong : IP n_saturatelaw05_SexprLong = some i_saturatelaw05_SexprLong := rfl
theorem IP_saturatelaw05_SexprPrints : IP n_saturatelaw05_SexprPrints = some i_saturatelaw05_SexprPrints := rfl
theorem IP_saturatelaw05_SexprBack : IP n_saturatelaw05_SexprBack = some i_saturatelaw05_SexprBack := rfl
theorem IP_saturatelaw05_SexprTwice : IP n_saturatelaw05_SexprTwice = some i_saturatelaw05_SexprTwice := rfl
theorem IP_cost_Node : IP n_cost_Node = some i_cost_Node := rfl
theorem IP_saturateref10_Node : IP n_saturateref10_Node = some i_saturateref10_Node := rfl
theorem IP_cost_Add : IP n_cost_Add = some i_cost_Add := rfl
theorem IP_saturateref10_Add : IP n_saturateref10_Add = some i_saturateref10_Add := rfl
theorem IP_cost_Uniform : IP n_cost_Uniform = some i_cost_Uniform := rfl
theorem IP_saturatelaw10_lives : IP n_saturatelaw10_lives = some i_saturatelaw10_lives := rfl
theorem IP_saturateref10_Small : IP n_saturateref10_Small = some i_saturateref10_Small := rfl
theorem IP_cost_Tree : IP n_cost_Tree = some i_cost_Tree := rfl
theorem IP_saturateref10_Tree : IP n_saturateref10_Tree = some i_saturateref10_Tree := rfl
theorem IP_cost_Dag : IP n_cost_Dag = some i_cost_Dag := rfl
theorem IP_saturateref10_Dag : IP n_saturateref10_Dag = some i_saturateref10_Dag := rfl
theorem IP_saturateref10_Subterms : IP n_saturateref10_Subterms = some i_saturateref10_Subterms := rfl
theorem IP_saturateref10_Count : IP n_saturateref10_Count = some i_saturateref10_Count := rfl
theorem IP_saturatelaw05_live : IP n_saturatelaw05_live = some i_saturatelaw05_live := rfl
theorem IP_sexpr_Parse : IP n_sexpr_Parse = some i_sexpr_Parse := rfl
theorem IP_saturateref05_Parse : IP n_saturateref05_Parse = some i_saturateref05_Parse := rfl
theorem IP_sexpr_ParseAll : IP n_sexpr_ParseAll = some i_sexpr_ParseAll := rfl
theorem IP_saturateref05_ParseAll : IP n_saturateref05_ParseAll = some i_saturateref05_ParseAll := rfl
theorem IP_saturateref05_Same : IP n_saturateref05_Same = some i_saturateref05_Same := rfl
theorem IP_saturateref05_SameAll : IP n_saturateref05_SameAll = some i_saturateref05_SameAll := rfl
theorem IP_saturateref05_Few : IP n_saturateref05_Few = some i_saturateref05_Few := rfl
theorem IP_saturateref05_Valid : IP n_saturateref05_Valid = some i_saturateref05_Valid := rfl
theorem IP_saturateref05_Gap : IP n_saturateref05_Gap = some i_saturateref05_Gap := rfl
theorem IP_saturateref05_Spaced : IP n_saturateref05_Spaced = some i_saturateref05_Spaced := rfl
theorem IP_sexpr_Print : IP n_sexpr_Print = some i_sexpr_Print := rfl
theorem IP_saturateref05_Print : IP n_saturateref05_Print = some i_saturateref05_Print := rfl
theorem IP_sexpr_PrintAll : IP n_sexpr_PrintAll = some i_sexpr_PrintAll := rfl
theorem IP_saturateref05_PrintAll : IP n_saturateref05_PrintAll = some i_saturateref05_PrintAll := rfl
theorem IP_sexpr_Valid : IP n_sexpr_Valid = some i_sexpr_Valid := rfl
theorem IP_cost_clamp : IP n_cost_clamp = some i_cost_clamp := rfl
theorem IP_saturateref10_left : IP n_saturateref10_left = some i_saturateref10_left := rfl
theorem IP_cost_shared_visit : IP n_cost_shared_visit = some i_cost_shared_visit := rfl
theorem IP_saturateref10_Same : IP n_saturateref10_Same = some i_saturateref10_Same := rfl
theorem IP_sexpr_all : IP n_sexpr_all = some i_sexpr_all := rfl
theorem IP_saturateref05_one : IP n_saturateref05_one = some i_saturateref05_one := rfl
theorem IP_saturateref05_skip : IP n_saturateref05_skip = some i_saturateref05_skip := rfl
theorem IP_saturateref05_weigh : IP n_saturateref05_weigh = some i_saturateref05_weigh := rfl
theorem IP_saturateref05_right : IP n_saturateref05_right = some i_saturateref05_right := rfl
theorem IP_saturateref05_Depth : IP n_saturateref05_Depth = some i_saturateref05_Depth := rfl
theorem IP_saturateref05_blank : IP n_saturateref05_blank = some i_saturateref05_blank := rfl
theorem IP_sexpr_write : IP n_sexpr_write = some i_sexpr_write := rfl
theorem IP_strings_Builder_String : IP n_strings_Builder_String = some i_strings_Builder_String := rfl
theorem IP_strings_Builder_WriteByte : IP n_strings_Builder_WriteByte = some i_strings_Builder_WriteByte := rfl
theorem IP_sexpr_valid : IP n_sexpr_valid = some i_sexpr_valid := rfl
theorem IP_term_Size : IP n_term_Size = some i_term_Size := rfl
theorem IP_term_Same : IP n_term_Same = some i_term_Same := rfl
theorem IP_sexpr_all_1 : IP n_sexpr_all_1 = some i_sexpr_all_1 := rfl
theorem IP_sexpr_parser_skip : IP n_sexpr_parser_skip = some i_sexpr_parser_skip := rfl
theorem IP_sexpr_parser_expression : IP n_sexpr_parser_expression = some i_sexpr_parser_expression := rfl
theorem IP_saturateref05_Byte : IP n_saturateref05_Byte = some i_saturateref05_Byte := rfl
theorem IP_saturateref05_atom : IP n_saturateref05_atom = some i_saturateref05_atom := rfl
theorem IP_strings_Builder_WriteString : IP n_strings_Builder_WriteString = some i_strings_Builder_WriteString := rfl
theorem IP_strings_Builder_copyCheck : IP n_strings_Builder_copyCheck = some i_strings_Builder_copyCheck := rfl
theorem IP_sexpr_plain : IP n_sexpr_plain = some i_sexpr_plain := rfl
theorem IP_slices_EqualFunc_Term_Term_Term_Term : IP n_slices_EqualFunc_Term_Term_Term_Term = some i_slices_EqualFunc_Term_Term_Term_Term := rfl
theorem IP_sexpr_parser_fail : IP n_sexpr_parser_fail = some i_sexpr_parser_fail := rfl
end Go.Proofs.Ytajlmldpbhendaa.Rf
end

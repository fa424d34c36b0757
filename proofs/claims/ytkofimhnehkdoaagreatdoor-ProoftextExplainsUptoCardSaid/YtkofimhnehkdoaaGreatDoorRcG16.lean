/- A part of the proof: see the last text. -/
import Derived.Test.YtkofimhnehkdoaaGreatDoorRcG15
section
set_option linter.unusedSimpArgs false
set_option linter.unusedVariables false
set_option maxRecDepth 100000
namespace Go.Proofs.YtkofimhnehkdoaaGreatDoor.Rf
abbrev n_sl36_ProoftextConcls : Nat := 12
abbrev n_sl36_ProoftextExplains : Nat := 13
abbrev n_tt_Read : Nat := 16
abbrev n_sr07_Write : Nat := 22
abbrev n_tt_Write : Nat := 24
abbrev n_tt_Print : Nat := 25
abbrev n_sr05_Print : Nat := 26
abbrev n_sl36_live : Nat := 29
abbrev n_pt_Parse : Nat := 30
abbrev n_sr36_Light : Nat := 33
abbrev n_pt_Line : Nat := 34
abbrev n_sr06_Light : Nat := 40
abbrev n_pt_Concl : Nat := 41
abbrev n_sr36_Concl : Nat := 42
abbrev n_pt_Explain : Nat := 43
abbrev n_sr36_Explain : Nat := 44
abbrev n_tt_Read_1 : Nat := 46
abbrev n_tt_read : Nat := 47
abbrev n_sr04_Leaf : Nat := 50
abbrev n_sr07_plain : Nat := 51
abbrev n_sr04_Arity : Nat := 52
abbrev n_sr07_Notable : Nat := 58
abbrev n_sr02_Int : Nat := 59
abbrev n_sr02_Dec : Nat := 60
abbrev n_sr04_Name : Nat := 61
abbrev n_tt_notable : Nat := 63
abbrev n_tt_atom : Nat := 64
abbrev n_digits_Int : Nat := 65
abbrev n_digits_Dec : Nat := 66
abbrev n_oi_Name : Nat := 67
abbrev n_tt_numerals : Nat := 68
abbrev n_sx_Print : Nat := 69
abbrev n_sx_ParseAll : Nat := 70
abbrev n_pt_read : Nat := 71
abbrev n_proof_Check : Nat := 72
abbrev n_proof_Kind : Nat := 77
abbrev n_pt_number : Nat := 78
abbrev n_pt_list : Nat := 79
abbrev n_pt_atom : Nat := 80
abbrev n_sr34_Kind : Nat := 81
abbrev n_sb_WriteString : Nat := 85
abbrev n_sb_WriteByte : Nat := 86
abbrev n_sb_String : Nat := 87
abbrev n_sr06_count : Nat := 92
abbrev n_pt_join : Nat := 93
abbrev n_sr36_text : Nat := 94
abbrev n_tt_leaf : Nat := 95
abbrev n_tt_must : Nat := 96
abbrev n_oi_Of : Nat := 97
abbrev n_oi_Leaf : Nat := 98
abbrev n_oi_Arity : Nat := 99
abbrev n_tt_number : Nat := 100
abbrev n_oi_Width : Nat := 101
abbrev n_tt_fail : Nat := 102
abbrev n_sr07_Name : Nat := 107
abbrev n_sr04_Is : Nat := 108
abbrev n_sx_all : Nat := 113
abbrev n_sr02_write : Nat := 116
abbrev n_term_Name : Nat := 117
abbrev n_sc_Itoa : Nat := 118
abbrev n_sc_FormatUint : Nat := 119
abbrev n_oi_known : Nat := 120
abbrev n_sx_write : Nat := 121
abbrev n_pt_step : Nat := 122
abbrev n_proof_right : Nat := 123
abbrev n_sb_copyCheck : Nat := 125
abbrev n_ss_Join : Nat := 129
abbrev n_ss_Cut : Nat := 130
abbrev n_tt_numeral : Nat := 131
abbrev n_tt_constant : Nat := 132
abbrev n_ss_HasPrefix : Nat := 133
abbrev n_oi_inside : Nat := 134
abbrev n_oi_leaf : Nat := 135
abbrev n_oi_resized : Nat := 136
abbrev n_oi_agreed : Nat := 137
abbrev n_sx_all_1 : Nat := 139
abbrev n_sp_skip : Nat := 140
abbrev n_sp_expression : Nat := 141
abbrev n_isc_Itoa : Nat := 145
abbrev n_isc_FormatUint : Nat := 146
abbrev n_pt_kind : Nat := 147
abbrev n_pt_integer : Nat := 148
abbrev n_pt_pairs : Nat := 149
abbrev n_proof_Refs : Nat := 150
abbrev n_internal_abi_NoEscape : Nat := 156
abbrev n_sb_Grow : Nat := 158
abbrev n_isl_Cut : Nat := 159
abbrev n_digits_Parse : Nat := 160
abbrev n_isl_HasPrefix : Nat := 161
abbrev n_sx_plain : Nat := 163
abbrev n_sp_fail : Nat := 164
abbrev n_isc_FormatInt : Nat := 165
abbrev n_isc_small : Nat := 166
abbrev n_isc_numDigits : Nat := 167
abbrev n_isc_formatBase10 : Nat := 168
abbrev n_isc_formatBits : Nat := 169
abbrev n_digits_ParseInt : Nat := 170
abbrev n_sb_grow : Nat := 174
abbrev n_isl_Index : Nat := 175
abbrev n_ss_CutPrefix : Nat := 176
abbrev n_digits_numeral : Nat := 177
abbrev n_sc_ParseUint : Nat := 178
abbrev n_isc_log10Pow2 : Nat := 180
abbrev n_math_bits_Len64 : Nat := 181
abbrev n_isc_bool2_int : Nat := 182
abbrev n_sc_ParseInt : Nat := 185
abbrev n_isl_IndexByte : Nat := 187
abbrev n_iba_IndexString : Nat := 188
abbrev n_iba_Cutover : Nat := 189
abbrev n_iba_IndexRabinKarp_string : Nat := 190
abbrev n_isl_CutPrefix : Nat := 191
abbrev n_ss_IndexByte : Nat := 192
abbrev n_isc_ParseUint : Nat := 193
abbrev n_sc_toError : Nat := 194
abbrev n_isc_ParseInt : Nat := 197
abbrev n_isc_lower : Nat := 200
abbrev n_isc_underscoreOK : Nat := 201
abbrev n_sc_syntaxError : Nat := 202
abbrev n_sc_rangeError : Nat := 203
abbrev n_sc_baseError : Nat := 204
abbrev n_sc_bitSizeError : Nat := 205
abbrev n_isl_Clone : Nat := 206
def smalls2 : List UInt8 := [48,48,48,49,48,50,48,51,48,52,48,53,48,54,48,55,48,56,48,57,49,48,49,49,49,50,49,51,49,52,49,53,49,54,49,55,49,56,49,57,50,48,50,49,50,50,50,51,50,52,50,53,50,54,50,55,50,56,50,57,51,48,51,49,51,50,51,51,51,52,51,53,51,54,51,55,51,56,51,57,52,48,52,49,52,50,52,51,52,52,52,53,52,54,52,55,52,56,52,57,53,48,53,49,53,50,53,51,53,52,53,53,53,54,53,55,53,56,53,57,54,48,54,49,54,50,54,51,54,52,54,53,54,54,54,55,54,56,54,57,55,48,55,49,55,50,55,51,55,52,55,53,55,54,55,55,55,56,55,57,56,48,56,49,56,50,56,51,56,52,56,53,56,54,56,55,56,56,56,57,57,48,57,49,57,50,57,51,57,52,57,53,57,54,57,55,57,56,57,57]
def len8t : List UInt8 := [0,1,2,2,3,3,3,3,4,4,4,4,4,4,4,4,5,5,5,5,5,5,5,5,5,5,5,5,5,5,5,5,6,6,6,6,6,6,6,6,6,6,6,6,6,6,6,6,6,6,6,6,6,6,6,6,6,6,6,6,6,6,6,6,7,7,7,7,7,7,7,7,7,7,7,7,7,7,7,7,7,7,7,7,7,7,7,7,7,7,7,7,7,7,7,7,7,7,7,7,7,7,7,7,7,7,7,7,7,7,7,7,7,7,7,7,7,7,7,7,7,7,7,7,7,7,7,7,8,8,8,8,8,8,8,8,8,8,8,8,8,8,8,8,8,8,8,8,8,8,8,8,8,8,8,8,8,8,8,8,8,8,8,8,8,8,8,8,8,8,8,8,8,8,8,8,8,8,8,8,8,8,8,8,8,8,8,8,8,8,8,8,8,8,8,8,8,8,8,8,8,8,8,8,8,8,8,8,8,8,8,8,8,8,8,8,8,8,8,8,8,8,8,8,8,8,8,8,8,8,8,8,8,8,8,8,8,8,8,8,8,8,8,8,8,8,8,8,8,8,8,8,8,8,8,8]
@[simp] abbrev oO (k:Nat) (x:IOp) : IOper := ⟨some k,x,none⟩
@[simp] abbrev oZ (x:IOp) : IOper := ⟨none,x,none⟩
@[simp] abbrev tU (k:Nat) : Opd := .t k false
@[simp] abbrev tV (k:Nat) : Opd := .t k true
@[simp] abbrev qU (k a:Nat) : IOper := oO k (.mv (tU a))
@[simp] abbrev qV (k a:Nat) : IOper := oO k (.mv (tV a))
@[simp] abbrev qf (k a i:Nat) : IOper := oO k (.faddr (tU a) i)
@[simp] abbrev ql (k a r n:Nat) (x y:Bool) : IOper := oO k (.load (tU a) (.loc r) n x y)
@[simp] abbrev qe (k a n:Nat) (x y:Bool) : IOper := oO k (.load (tU a) .elem n x y)
@[simp] abbrev qx (k a i:Nat) : IOper := oO k (.extract (tU a) i)
@[simp] abbrev qy (k a i:Nat) : IOper := oO k (.extract (tV a) i)
@[simp] abbrev qi (k a b n:Nat) : IOper := oO k (.iaddrL (tU a) (tU b) n)
@[simp] abbrev qS (a r v n:Nat) : IOper := oZ (.store (tU a) (.loc r) (tV v) n)
@[simp] abbrev qg (k:Nat) (x:IOp) (a:Nat) (b:Bool) : IOper := ⟨some k,x,some (a,b)⟩
@[simp] abbrev qn (k a:Nat) : IOper := oO k (.len (tU a) .list)
@[simp] abbrev qb (k:Nat) (o:BinOp) (a b:Nat) : IOper := oO k (.bin o (tU a) (tU b))
@[simp] abbrev qc (k:Nat) (o:BinOp) (a:Nat) (c:Int) : IOper := oO k (.bin o (tU a) (.c (.int .i64 c)))
@[simp] abbrev qI (k:Nat) (c:Int) : IOper := oO k (.mv (.c (.int .i64 c)))
@[simp] abbrev qB (k:Nat) (c:Bool) : IOper := oO k (.mv (.c (.bool c)))
@[simp] abbrev qk (k f:Nat) (xs:List Opd) (b:Bool) : IOper := oO k (.call (.f f) xs b)
@[simp] abbrev qr (a:List IOper) (l:List Nat) (b:ICode) : ICode := .seq (.region a l) b
@[simp] abbrev qz : List AV := [.int .i64 0,.list [] .nil,.int .i64 0,.list [] .nil,.int .i64 0,.int .i64 0,.int .u64 0,.str [],.list [] .nil,.int .i64 0,.int .i64 0,.int .u64 0,.str [],.list [] .nil]
@[simp] abbrev qt : List AV := [.int .i64 0,.int .i64 0,.int .u64 0,.str [],.list [] .nil]
@[simp] abbrev qh (k a g:Nat) (b:Bool) : IOper := ⟨some k,.mv (tU a),some (g,b)⟩
@[simp] abbrev qH (k a g:Nat) (b:Bool) : IOper := ⟨some k,.mv (tV a),some (g,b)⟩
@[simp] abbrev qF (k a i g:Nat) (b:Bool) : IOper := ⟨some k,.faddr (tU a) i,some (g,b)⟩
@[simp] abbrev qE (k a n:Nat) (x y:Bool) (g:Nat) (b:Bool) : IOper := ⟨some k,.load (tU a) .elem n x y,some (g,b)⟩
@[simp] abbrev qL (k a r n:Nat) (x y:Bool) (g:Nat) (b:Bool) : IOper := ⟨some k,.load (tU a) (.loc r) n x y,some (g,b)⟩
@[simp] abbrev qJ (k a c n g:Nat) (b:Bool) : IOper := ⟨some k,.iaddrL (tU a) (tU c) n,some (g,b)⟩
@[simp] abbrev qC (k:Nat) (o:BinOp) (a:Nat) (c:Int) (g:Nat) (b:Bool) : IOper := ⟨some k,.bin o (tU a) (.c (.int .i64 c)),some (g,b)⟩
@[simp] abbrev qp (k a b:Nat) (v:Bool) : IOper := oO k (.pick (tU a) (tU b) (.c (.bool v)))
@[simp] abbrev qP (k a:Nat) (v:Bool) (b:Nat) : IOper := oO k (.pick (tU a) (.c (.bool v)) (tU b))
@[simp] abbrev qa (k:Nat) (z:List AV) : IOper := oO k (.alloc false 0 z)
@[simp] abbrev qd (k:Nat) (a b:ICode) : ICode := .cond (tU k) a b
def i_sl36_ProoftextConcls : IFun := ⟨true,1,
 qr [oO 1 (.box false (tV 0)),
 qB 2 false] [1]
 (qr [qf 8 1 1,
 ql 9 8 1 5 true false,
 qk 10 n_sr06_Light [tV 9,.c (.int .i64 66),.c (.int .i64 100)] false,
 qV 7 10,
 qx 11 7 0,
 qy 12 7 1,
 qa 3 qt,
 qS 3 3 11 5,
 qV 4 12] [1,4]
 (qr [qf 14 1 6,
 ql 15 14 1 5 true false,
 qk 16 n_sr06_Light [tV 15,.c (.int .i64 66),.c (.int .i64 100)] false,
 qV 13 16,
 qx 17 13 0,
 qy 18 13 1,
 qa 5 qt,
 qS 5 5 17 5,
 qV 6 18] [1,4,6]
 (.seq (qr [qV 19 4,
 oO 20 (.un .not (tU 19)),
 qV 21 20,
 qH 22 6 21 false,
 qg 23 (.un .not (tU 22)) 21 false,
 qP 24 21 true 23] [1,24]
 (qd 24
 (qr [qk 25 n_sl36_live [] false,
 qV 2 25] [2]
 (.ret))
 (.skip)))
 (.seq (.draw [ql 26 1 1 16 true false,
 qk 27 n_pt_Concl [tV 26] true,
 ql 28 1 1 16 true false,
 qk 29 n_sr36_Concl [tV 28] true,
 qb 30 .eql 27 29,
 qV 31 30,
 qg 32 (.call (.f n_sl36_live) [] true) 31 true,
 qp 33 31 32 false,
 qV 2 33] [0,2,1,3,4,5,6,7,8] [1,3,6] [2])
 (.ret))))),
 [.tmp 2],none,none,[]⟩
def l_sl36_ProoftextExplains_0 : ICode :=
 .seq (qr [qU 26 7,
 qU 27 2,
 qn 28 27,
 qb 29 .lss 26 28] [0,1,2,7,29]
 (qd 29
 (.skip)
 (.exit 0)))
 (.seq (.block 1
 (qr [qU 33 2,
 qU 34 7,
 qi 35 33 34 16,
 qf 36 35 1,
 qe 37 36 5 true false,
 qk 38 n_sr06_Light [tV 37,.c (.int .i64 40),.c (.int .i64 40)] false,
 qV 32 38,
 qx 39 32 0,
 qy 40 32 1,
 qa 8 qt,
 qS 8 8 39 5,
 qV 9 40] [0,1,2,7,9]
 (qr [qU 42 2,
 qU 43 7,
 qi 44 42 43 16,
 qf 45 44 6,
 qe 46 45 5 true false,
 qk 47 n_sr06_Light [tV 46,.c (.int .i64 40),.c (.int .i64 40)] false,
 qV 41 47,
 qx 48 41 0,
 qy 49 41 1,
 qa 10 qt,
 qS 10 10 48 5,
 qV 11 49] [0,1,2,7,9,11]
 (qr [qV 50 9,
 oO 51 (.un .not (tU 50)),
 qV 52 51,
 qH 53 11 52 false,
 qg 54 (.un .not (tU 53)) 52 false,
 qP 55 52 true 54] [0,1,2,7,55]
 (qd 55
 (qr [qk 56 n_sl36_live [] false,
 qV 6 56] [6]
 (.ret))
 (.skip))))))
 (.region [qV 30 7,
 qc 31 .add 30 1,
 qV 7 31] [0,1,2,7]))
def i_sl36_ProoftextExplains : IFun := ⟨true,3,
 qr [qB 6 false] [0,1,2]
 (.seq (qr [qU 12 1,
 qk 13 n_sr36_Light [tV 12,.c (.int .i64 20),.c (.int .i64 40)] false,
 oO 14 (.un .not (tU 13)),
 qV 15 14,
 qh 16 2 15 false,
 qg 17 (.len (tU 16) .list) 15 false,
 qC 18 .gtr 17 20 15 false,
 qP 19 15 true 18,
 qV 20 19,
 qh 21 0 20 false,
 qg 22 (.len (tU 21) .list) 20 false,
 qC 23 .gtr 22 20 20 false,
 qP 24 20 true 23] [0,1,2,24]
 (qd 24
 (qr [qk 25 n_sl36_live [] false,
 qV 6 25] [6]
 (.ret))
 (.skip)))
 (.seq (qr [qI 7 0] [0,1,2,7]
 (.block 0
 (.loop l_sl36_ProoftextExplains_0)))
 (qr [qU 57 0,
 qU 58 1,
 qU 59 2,
 qk 60 n_pt_Explain [tV 57,tV 58,tV 59] false,
 qV 61 0,
 qV 62 1,
 qV 63 2,
 qk 64 n_sr36_Explain [tV 61,tV 62,tV 63] false,
 qb 65 .eql 60 64,
 qV 66 65,
 qg 67 (.call (.f n_sl36_live) [] false) 66 true,
 qp 68 66 67 false,
 qV 6 68] [6]
 (.ret)))),
 [.tmp 6],none,none,[]⟩
def i_tt_Read : IFun := ⟨true,1,
 qr [oO 1 (.box false (tV 0)),
 qa 2 qt,
 qa 3 [.int .i64 0]] [1,2,3]
 (.skip),
 [.cell 2 5 true,.cell 3 1 false],none,some ⟨n_tt_Read_1,[2,3],4,
 qr [ql 5 1 1 2 true false,
 qk 6 n_tt_read [tV 5] false,
 qS 2 2 6 5,
 oZ (.store (tU 3) (.loc 3) (.c (.int .i64 0)) 1)] [2,3]
 (.ret)⟩,[]⟩
def l_sr07_Write_0 : ICode :=
 .seq (qr [qU 73 5,
 qf 74 1 4,
 ql 75 74 1 1 false false,
 qn 76 75,
 qb 77 .lss 73 76] [1,2,4,5,77]
 (qd 77
 (.skip)
 (.exit 1)))
 (.seq (.block 2
 (.region [qV 80 4,
 qf 81 1 4,
 ql 82 81 1 1 false false,
 qU 83 5,
 qi 84 82 83 5,
 qe 85 84 5 true false,
 qk 86 n_sr07_Write [tV 85] false,
 oO 87 (.bslice (.agg [.str [],.list [] .nil]) 0 1 [(0,.t 86 true)]),
 oO 88 (.append (tV 80) (tU 87) 2 0 40 false),
 qV 4 88] [1,2,4,5]))
 (.region [qV 78 5,
 qc 79 .add 78 1,
 qV 5 79] [1,2,4,5]))
def i_sr07_Write : IFun := ⟨true,1,
 qr [oO 1 (.box false (tV 0)),
 qa 2 [.str [],.list [] .nil]] [1,2]
 (.seq (qr [ql 6 1 1 5 true false,
 qk 7 n_sr07_Notable [tV 6] false,
 oO 8 (.un .not (tU 7))] [1,2,8]
 (qd 8
 (qr [oO 9 (.build [.str [],.list [] .nil] [(0,1,.c (.str [63]))]),
 qS 2 2 9 2] [2]
 (.ret))
 (.skip)))
 (qr [qf 10 1 1,
 ql 11 10 1 1 false false,
 qk 12 n_sr02_Int [tV 11] false,
 oO 13 (.bin .add (.c (.str [58])) (tU 12)),
 qV 3 13] [1,2,3]
 (.seq (qr [qf 14 1 0,
 ql 15 14 1 1 false false] [1,2,3,15]
 (.block 0
 (qr [qc 17 .eql 15 1,
 qV 16 17] [1,2,3,15,16]
 (qd 16
 (qr [qf 18 1 3,
 ql 19 18 1 1 false false,
 qV 20 3,
 qb 21 .add 19 20,
 oO 22 (.build [.str [],.list [] .nil] [(0,1,.t 21 true)]),
 qS 2 2 22 2] [2]
 (.ret))
 (qr [qc 24 .eql 15 24,
 qV 23 24] [1,2,3,15,23]
 (qd 23
 (qr [qf 25 1 3,
 ql 26 25 1 1 false false,
 oO 27 (.bin .add (.c (.str [63])) (tU 26)),
 qV 28 3,
 qb 29 .add 27 28,
 oO 30 (.build [.str [],.list [] .nil] [(0,1,.t 29 true)]),
 qS 2 2 30 2] [2]
 (.ret))
 (qr [qc 32 .eql 15 25,
 qV 31 32] [1,2,3,15,31]
 (qd 31
 (qr [qf 33 1 3,
 ql 34 33 1 1 false false,
 oO 35 (.bin .add (.c (.str [35])) (tU 34)),
 qV 36 3,
 qb 37 .add 35 36,
 oO 38 (.build [.str [],.list [] .nil] [(0,1,.t 37 true)]),
 qS 2 2 38 2] [2]
 (.ret))
 (qr [qc 40 .eql 15 2,
 qV 39 40] [1,2,3,39]
 (qd 39
 (qr [qf 41 1 2,
 ql 42 41 1 1 false false,
 qk 43 n_sr02_Dec [tV 42] false,
 qV 44 3,
 qb 45 .add 43 44,
 oO 46 (.build [.str [],.list [] .nil] [(0,1,.t 45 true)]),
 qS 2 2 46 2] [2]
 (.ret))
 (.skip)))))))))))
 (qr [qf 47 1 0,
 ql 48 47 1 1 false false,
 qk 49 n_sr04_Name [tV 48] false,
 oO 50 (.build [.str [],.list [] .nil] [(0,1,.t 49 true)]),
 oO 51 (.bslice (.agg [.str [],.list [] .nil]) 0 1 [(0,.t 50 true)]),
 qV 4 51] [1,2,4]
 (.seq (qr [qf 52 1 0,
 ql 53 52 1 1 false false,
 qc 54 .eql 53 21] [1,2,4,54]
 (qd 54
 (.region [qV 55 4,
 qf 56 1 2,
 ql 57 56 1 1 false false,
 qk 58 n_sr02_Dec [tV 57] false,
 oO 59 (.build [.str [],.list [] .nil] [(0,1,.t 58 true)]),
 oO 60 (.bslice (.agg [.str [],.list [] .nil]) 0 1 [(0,.t 59 true)]),
 oO 61 (.append (tV 55) (tU 60) 2 0 40 false),
 qV 4 61] [1,2,4])
 (.skip)))
 (.seq (qr [qf 62 1 0,
 ql 63 62 1 1 false false,
 qk 64 n_sr07_plain [tV 63] false,
 qc 65 .gtr 64 0] [1,2,4,65]
 (qd 65
 (.region [qV 66 4,
 qf 67 1 1,
 ql 68 67 1 1 false false,
 qk 69 n_sr02_Int [tV 68] false,
 oO 70 (.build [.str [],.list [] .nil] [(0,1,.t 69 true)]),
 oO 71 (.bslice (.agg [.str [],.list [] .nil]) 0 1 [(0,.t 70 true)]),
 oO 72 (.append (tV 66) (tU 71) 2 0 40 false),
 qV 4 72] [1,2,4])
 (.skip)))
 (.seq (qr [qI 5 0] [1,2,4,5]
 (.block 1
 (.loop l_sr07_Write_0)))
 (qr [qV 89 4,
 oO 90 (.build [.str [],.list [] .nil] [(1,1,.t 89 true)]),
 qS 2 2 90 2] [2]
 (.ret))))))))),
 [.cell 2 2 true],none,none,[]⟩
def l_tt_Write_0 : ICode :=
 qr [qb 79 .lss 78 77] [2,4,76,77,78,79]
 (.seq (qd 79
 (.skip)
 (.exit 1))
 (.seq (.block 2
 (qr [qi 80 76 78 5,
 qe 81 80 5 true false,
 qa 6 qt,
 qS 6 6 81 5] [2,4,6,76,77,78]
 (.region [qV 82 4,
 ql 83 6 6 5 true false,
 qk 84 n_tt_Write [tV 83] false,
 oO 85 (.bslice (.agg [.str [],.list [] .nil]) 0 1 [(0,.t 84 true)]),
 oO 86 (.append (tV 82) (tU 85) 2 0 40 false),
 qV 4 86] [2,4,76,77,78])))
 (.region [qc 87 .add 78 1,
 qV 78 87] [2,4,76,77,78])))
def i_tt_Write : IFun := ⟨true,1,
 qr [oO 1 (.box false (tV 0)),
 qa 2 [.str [],.list [] .nil]] [1,2]
 (.seq (qr [ql 7 1 1 5 true false,
 qk 8 n_tt_notable [tV 7] false,
 oO 9 (.un .not (tU 8))] [1,2,9]
 (qd 9
 (qr [oO 10 (.call (.f n_tt_atom) [.c (.str [63])] false),
 qS 2 2 10 2] [2]
 (.ret))
 (.skip)))
 (qr [qf 11 1 1,
 ql 12 11 1 1 false false,
 qk 13 n_digits_Int [tV 12] false,
 qV 3 13] [1,2,3]
 (.seq (qr [qf 14 1 0,
 ql 15 14 1 1 false false] [1,2,3,15]
 (.block 0
 (qr [qc 17 .eql 15 1,
 qV 16 17] [1,2,3,15,16]
 (qd 16
 (qr [qf 18 1 3,
 ql 19 18 1 1 false false,
 oO 20 (.bin .add (tU 19) (.c (.str [58]))),
 qV 21 3,
 qb 22 .add 20 21,
 qk 23 n_tt_atom [tV 22] false,
 qS 2 2 23 2] [2]
 (.ret))
 (qr [qc 25 .eql 15 24,
 qV 24 25] [1,2,3,15,24]
 (qd 24
 (qr [qf 26 1 3,
 ql 27 26 1 1 false false,
 oO 28 (.bin .add (.c (.str [63])) (tU 27)),
 oO 29 (.bin .add (tU 28) (.c (.str [58]))),
 qV 30 3,
 qb 31 .add 29 30,
 qk 32 n_tt_atom [tV 31] false,
 qS 2 2 32 2] [2]
 (.ret))
 (qr [qc 34 .eql 15 25,
 qV 33 34] [1,2,3,15,33]
 (qd 33
 (qr [qf 35 1 3,
 ql 36 35 1 1 false false,
 oO 37 (.bin .add (.c (.str [35])) (tU 36)),
 oO 38 (.bin .add (tU 37) (.c (.str [58]))),
 qV 39 3,
 qb 40 .add 38 39,
 qk 41 n_tt_atom [tV 40] false,
 qS 2 2 41 2] [2]
 (.ret))
 (qr [qc 43 .eql 15 2,
 qV 42 43] [1,2,3,42]
 (qd 42
 (qr [qf 44 1 2,
 ql 45 44 1 1 false false,
 qk 46 n_digits_Dec [tV 45] false,
 oO 47 (.bin .add (tU 46) (.c (.str [58]))),
 qV 48 3,
 qb 49 .add 47 48,
 qk 50 n_tt_atom [tV 49] false,
 qS 2 2 50 2] [2]
 (.ret))
 (.skip)))))))))))
 (qr [qf 51 1 0,
 ql 52 51 1 1 false false,
 qk 53 n_oi_Name [tV 52] false,
 qk 54 n_tt_atom [tV 53] false,
 oO 55 (.bslice (.agg [.str [],.list [] .nil]) 0 1 [(0,.t 54 true)]),
 qV 4 55] [1,2,3,4]
 (.seq (qr [qf 56 1 0,
 ql 57 56 1 1 false false,
 qc 58 .eql 57 21] [1,2,3,4,58]
 (qd 58
 (.region [qV 59 4,
 qf 60 1 2,
 ql 61 60 1 1 false false,
 qk 62 n_digits_Dec [tV 61] false,
 qk 63 n_tt_atom [tV 62] false,
 oO 64 (.bslice (.agg [.str [],.list [] .nil]) 0 1 [(0,.t 63 true)]),
 oO 65 (.append (tV 59) (tU 64) 2 0 40 false),
 qV 4 65] [1,2,3,4])
 (.skip)))
 (.seq (qr [qf 66 1 0,
 ql 67 66 1 1 false false,
 qk 68 n_tt_numerals [tV 67] false,
 qc 69 .gtr 68 0] [1,2,3,4,69]
 (qd 69
 (.region [qV 70 4,
 qV 71 3,
 qk 72 n_tt_atom [tV 71] false,
 oO 73 (.bslice (.agg [.str [],.list [] .nil]) 0 1 [(0,.t 72 true)]),
 oO 74 (.append (tV 70) (tU 73) 2 0 40 false),
 qV 4 74] [1,2,4])
 (.skip)))
 (.seq (qr [qf 75 1 4,
 ql 76 75 1 1 false false,
 qn 77 76,
 qI 78 0] [2,4,76,77,78]
 (.block 1
 (.loop l_tt_Write_0)))
 (qr [qV 88 4,
 oO 89 (.build [.str [],.list [] .nil] [(1,1,.t 88 true)]),
 qS 2 2 89 2] [2]
 (.ret))))))))),
 [.cell 2 2 true],none,none,[]⟩
def i_tt_Print : IFun := ⟨true,1,
 qr [oO 1 (.box false (tV 0)),
 oO 2 (.mv (.c (.str [])))] [1]
 (qr [ql 3 1 1 5 true false,
 qk 4 n_tt_Write [tV 3] false,
 qk 5 n_sx_Print [tV 4] false,
 qV 2 5] [2]
 (.ret)),
 [.tmp 2],none,none,[]⟩
def l_sr05_Print_0 : ICode :=
 .seq (qr [qU 10 4,
 qf 11 1 1,
 ql 12 11 1 1 false false,
 qn 13 12,
 qb 14 .lss 10 13] [1,3,4,14]
 (qd 14
 (.skip)
 (.exit 0)))
 (.seq (.block 1
 (.seq (qr [qU 17 4,
 qc 18 .gtr 17 0] [1,3,4,18]
 (qd 18
 (.region [qV 19 3,
 oO 20 (.bin .add (tU 19) (.c (.str [32]))),
 qV 3 20] [1,3,4])
 (.skip)))
 (.region [qV 21 3,
 qf 22 1 1,
 ql 23 22 1 1 false false,
 qU 24 4,
 qi 25 23 24 2,
 qe 26 25 2 true false,
 qk 27 n_sr05_Print [tV 26] false,
 qb 28 .add 21 27,
 qV 3 28] [1,3,4])))
 (.region [qV 15 4,
 qc 16 .add 15 1,
 qV 4 16] [1,3,4]))
def i_sr05_Print : IFun := ⟨true,1,
 qr [oO 1 (.box false (tV 0)),
 oO 2 (.mv (.c (.str [])))] [1]
 (.seq (qr [qf 5 1 0,
 ql 6 5 1 1 false false,
 oO 7 (.bin .neq (tU 6) (.c (.str [])))] [1,7]
 (qd 7
 (qr [qf 8 1 0,
 ql 9 8 1 1 false false,
 qV 2 9] [2]
 (.ret))
 (.skip)))
 (qr [oO 3 (.mv (.c (.str [40])))] [1,3]
 (.seq (qr [qI 4 0] [1,3,4]
 (.block 0
 (.loop l_sr05_Print_0)))
 (qr [qV 29 3,
 oO 30 (.bin .add (tU 29) (.c (.str [41]))),
 qV 2 30] [2]
 (.ret))))),
 [.tmp 2],none,none,[]⟩
def i_sl36_live : IFun := ⟨true,0,
 qr [qB 0 false] []
 (qr [oO 8 (.build qt [(0,1,.c (.int .i64 1)),(1,1,.c (.int .i64 8)),(3,1,.c (.str [120]))]),
 qa 1 qt,
 qS 1 1 8 5] [1]
 (qr [oO 10 (.call (.f n_pt_Parse) [.c (.str [40,114,101,102,108,32,40,41,32,120,58,56,41,32,40,115,121,109,32,40,49,41,41])] false),
 qV 9 10,
 qx 11 9 0,
 qx 12 9 1,
 qy 13 9 2,
 qV 2 11,
 qV 3 12,
 qV 4 13] [1,3,4]
 (qr [oO 15 (.call (.f n_pt_Parse) [.c (.str [40,114,101,102,108,32,120,58,56,41])] false),
 qV 14 15,
 qx 16 14 0,
 qx 17 14 1,
 qy 18 14 2,
 qV 5 16,
 qV 6 17,
 qV 7 18] [1,3,4,6,7]
 (qr [oO 19 (.bslice (.int .i64 0) 0 2 [(0,.c (.int .i64 0)),(1,.c (.int .i64 1))]),
 oO 20 (.build qz [(0,1,.c (.int .i64 3)),(1,1,.t 19 true)]),
 qk 21 n_pt_Line [tV 20] false,
 oO 22 (.bin .eql (tU 21) (.c (.str [40,116,114,97,110,115,32,40,48,32,49,41,41]))),
 qV 23 22,
 qL 24 1 1 5 true false 23 true,
 qg 25 (.build [.str [],.int .i64 0,.int .i64 0,.int .u64 0,.str [],.list [] .nil] [(0,1,.c (.str [97])),(1,5,.t 24 true)]) 23 true,
 qg 26 (.bslice (.agg [.str [],.int .i64 0,.int .i64 0,.int .u64 0,.str [],.list [] .nil]) 0 1 [(0,.t 25 true)]) 23 true,
 qg 27 (.build qz [(0,1,.c (.int .i64 5)),(2,1,.c (.int .i64 2)),(3,1,.t 26 true)]) 23 true,
 qg 28 (.call (.f n_pt_Line) [tV 27] false) 23 true,
 qg 29 (.bin .eql (tU 28) (.c (.str [40,114,117,108,101,32,40,41,32,50,32,40,40,97,32,120,58,56,41,41,41]))) 23 true,
 qp 30 23 29 false,
 qV 31 30,
 qH 32 3 31 true,
 qC 33 .eql 32 1 31 true,
 qp 34 31 33 false,
 qV 35 34,
 qH 36 4 35 true,
 qC 37 .eql 36 14 35 true,
 qp 38 35 37 false,
 qV 39 38,
 qH 40 6 39 true,
 qC 41 .eql 40 0 39 true,
 qp 42 39 41 false,
 qV 43 42,
 qH 44 7 43 true,
 qC 45 .eql 44 6 43 true,
 qp 46 43 45 false,
 qV 0 46] [0]
 (.ret))))),
 [.tmp 0],none,none,[]⟩
def l_pt_Parse_0 : ICode :=
 qr [qb 28 .lss 27 26] [8,25,26,27,28]
 (.seq (qd 28
 (.skip)
 (.exit 0))
 (.seq (.block 1
 (qr [qU 29 27,
 qi 30 25 27 2,
 qe 31 30 2 true false,
 qa 10 [.str [],.list [] .nil],
 qV 9 29,
 qS 10 10 31 2] [8,9,10,25,26,27]
 (qr [ql 33 10 10 2 true false,
 qk 34 n_pt_read [tV 33] false,
 qV 32 34,
 qx 35 32 0,
 qy 36 32 1,
 qa 11 qz,
 qS 11 11 35 14,
 qV 12 36] [8,9,11,12,25,26,27]
 (.seq (qr [qU 37 12,
 qc 38 .neq 37 0] [8,9,11,12,25,26,27,38]
 (qd 38
 (qr [qV 39 9,
 qV 40 12,
 oO 2 (.mv (.c (.list [] .nil))),
 qV 3 39,
 qV 4 40] [2,3,4]
 (.ret))
 (.skip)))
 (.region [qV 41 8,
 ql 42 11 11 14 true false,
 oO 43 (.bslice (.agg qz) 0 1 [(0,.t 42 true)]),
 oO 44 (.append (tV 41) (tU 43) 14 0 192 false),
 qV 8 44] [8,25,26,27])))))
 (.region [qc 45 .add 27 1,
 qV 27 45] [8,25,26,27])))
def i_pt_Parse : IFun := ⟨true,1,
 qr [oO 2 (.mv (.c (.list [] .nil))),
 qI 3 0,
 qI 4 0] [0]
 (qr [qV 16 0,
 qk 17 n_sx_ParseAll [tV 16] false,
 qV 15 17,
 qx 18 15 0,
 qx 19 15 1,
 qy 20 15 2,
 qV 5 18,
 qV 6 19,
 qV 7 20] [5,6,7]
 (.seq (qr [qU 21 7,
 qc 22 .neq 21 0] [5,6,7,22]
 (qd 22
 (qr [qV 23 6,
 qV 24 7,
 oO 2 (.mv (.c (.list [] .nil))),
 qV 3 23,
 qV 4 24] [2,3,4]
 (.ret))
 (.skip)))
 (qr [oO 8 (.mv (.c (.list [] .nil)))] [5,8]
 (.seq (qr [qV 25 5,
 qn 26 25,
 qI 27 0] [8,25,26,27]
 (.block 0
 (.loop l_pt_Parse_0)))
 (.seq (qr [qU 47 8,
 qk 48 n_proof_Check [tV 47] false,
 qV 46 48,
 qx 49 46 0,
 qy 50 46 1,
 qV 13 49,
 qV 14 50] [8,13,14]
 (qr [qU 51 14,
 qc 52 .neq 51 0] [8,13,14,52]
 (qd 52
 (qr [qV 53 13,
 qV 54 14,
 oO 2 (.mv (.c (.list [] .nil))),
 qV 3 53,
 qV 4 54] [2,3,4]
 (.ret))
 (.skip))))
 (qr [qV 55 8,
 qV 2 55,
 qI 3 0,
 qI 4 0] [2,3,4]
 (.ret))))))),
 [.tmp 2,.tmp 3,.tmp 4],none,none,[]⟩
def l_sr36_Light_1 : ICode :=
 .seq (qr [qU 69 12,
 qU 70 0,
 qU 71 7,
 qi 72 70 71 14,
 qf 73 72 3,
 qe 74 73 1 false false,
 qn 75 74,
 qb 76 .lss 69 75] [0,2,7,12,76]
 (qd 76
 (.skip)
 (.exit 2)))
 (.seq (.block 3
 (qr [qU 80 0,
 qU 81 7,
 qi 82 80 81 14,
 qf 83 82 3,
 qe 84 83 1 false false,
 qU 85 12,
 qi 86 84 85 6,
 qf 87 86 1,
 qe 88 87 5 true false,
 qU 89 2,
 qk 90 n_sr06_Light [tV 88,.c (.int .i64 40),tV 89] false,
 qV 79 90,
 qx 91 79 0,
 qy 92 79 1,
 qa 13 qt,
 qS 13 13 91 5,
 qV 14 92] [0,2,7,12,14]
 (qr [qV 93 14,
 oO 94 (.un .not (tU 93))] [0,2,7,12,94]
 (qd 94
 (qr [qB 6 false] [6]
 (.ret))
 (.skip)))))
 (.region [qV 77 12,
 qc 78 .add 77 1,
 qV 12 78] [0,2,7,12]))
def l_sr36_Light_0 : ICode :=
 .seq (qr [qU 19 7,
 qU 20 0,
 qn 21 20,
 qb 22 .lss 19 21] [0,2,7,22]
 (qd 22
 (.skip)
 (.exit 0)))
 (.seq (.block 1
 (qr [qU 26 0,
 qU 27 7,
 qi 28 26 27 14,
 qf 29 28 4,
 qe 30 29 5 true false,
 qU 31 2,
 qk 32 n_sr06_Light [tV 30,.c (.int .i64 40),tV 31] false,
 qV 25 32,
 qx 33 25 0,
 qy 34 25 1,
 qa 8 qt,
 qS 8 8 33 5,
 qV 9 34] [0,2,7,9]
 (qr [qU 36 0,
 qU 37 7,
 qi 38 36 37 14,
 qf 39 38 9,
 qe 40 39 5 true false,
 qU 41 2,
 qk 42 n_sr06_Light [tV 40,.c (.int .i64 40),tV 41] false,
 qV 35 42,
 qx 43 35 0,
 qy 44 35 1,
 qa 10 qt,
 qS 10 10 43 5,
 qV 11 44] [0,2,7,9,11]
 (.seq (qr [qV 45 9,
 oO 46 (.un .not (tU 45)),
 qV 47 46,
 qH 48 11 47 false,
 qg 49 (.un .not (tU 48)) 47 false,
 qP 50 47 true 49,
 qV 51 50,
 qh 52 0 51 false,
 qh 53 7 51 false,
 qJ 54 52 53 14 51 false,
 qF 55 54 1 51 false,
 qE 56 55 1 false false 51 false,
 qg 57 (.len (tU 56) .list) 51 false,
 qC 58 .gtr 57 20 51 false,
 qP 59 51 true 58,
 qV 60 59,
 qh 61 0 60 false,
 qh 62 7 60 false,
 qJ 63 61 62 14 60 false,
 qF 64 63 3 60 false,
 qE 65 64 1 false false 60 false,
 qg 66 (.len (tU 65) .list) 60 false,
 qC 67 .gtr 66 20 60 false,
 qP 68 60 true 67] [0,2,7,68]
 (qd 68
 (qr [qB 6 false] [6]
 (.ret))
 (.skip)))
 (qr [qI 12 0] [0,2,7,12]
 (.block 2
 (.loop l_sr36_Light_1)))))))
 (.region [qV 23 7,
 qc 24 .add 23 1,
 qV 7 24] [0,2,7]))
def i_sr36_Light : IFun := ⟨true,3,
 qr [qB 6 false] [0,1,2]
 (.seq (qr [qU 15 0,
 qn 16 15,
 qV 17 1,
 qb 18 .gtr 16 17] [0,2,18]
 (qd 18
 (qr [qB 6 false] [6]
 (.ret))
 (.skip)))
 (.seq (qr [qI 7 0] [0,2,7]
 (.block 0
 (.loop l_sr36_Light_0)))
 (qr [qB 6 true] [6]
 (.ret)))),
 [.tmp 6],none,none,[]⟩
def l_pt_Line_1 : ICode :=
 qr [qb 44 .lss 43 42] [1,7,8,41,42,43,44]
 (.seq (qd 44
 (.skip)
 (.exit 3))
 (.seq (.block 4
 (qr [qi 45 41 43 6,
 qe 46 45 6 true false,
 qa 10 [.str [],.int .i64 0,.int .i64 0,.int .u64 0,.str [],.list [] .nil],
 qS 10 10 46 6] [1,7,8,10,41,42,43]
 (.draw [qf 47 8 1,
 ql 48 47 8 1 false true,
 qf 49 10 0,
 ql 50 49 10 1 false false,
 qk 51 n_pt_atom [tV 50] true,
 qf 52 10 1,
 ql 53 52 10 5 true false,
 qk 54 n_tt_Write [tV 53] true,
 oO 55 (.bslice (.agg [.str [],.list [] .nil]) 999999 2 [(0,.t 51 true),(1,.t 54 true)]),
 qk 56 n_pt_list [tV 55] true,
 oO 57 (.bslice (.agg [.str [],.list [] .nil]) 0 1 [(0,.t 56 true)]),
 oO 58 (.append (tV 48) (tU 57) 2 0 40 false),
 qf 59 8 1,
 qS 59 8 58 1] [0,1,2,3,5,6,4,7,8,9,10,11,12,13] [4,7,9] [1,7,8,41,42,43])))
 (.region [qc 60 .add 43 1,
 qV 43 60] [1,7,8,41,42,43])))
def l_pt_Line_0 : ICode :=
 qr [qb 20 .lss 19 18] [1,3,4,17,18,19,20]
 (.seq (qd 20
 (.skip)
 (.exit 0))
 (.seq (.block 1
 (qr [qi 21 17 19 1,
 qe 22 21 1 false false,
 qV 6 22] [1,3,4,6,17,18,19]
 (.draw [qf 23 4 1,
 ql 24 23 4 1 false true,
 qV 25 6,
 qk 26 n_pt_number [tV 25] true,
 oO 27 (.bslice (.agg [.str [],.list [] .nil]) 0 1 [(0,.t 26 true)]),
 oO 28 (.append (tV 24) (tU 27) 2 0 40 false),
 qf 29 4 1,
 qS 29 4 28 1] [0,1,2,3,4,5,6,7] [3] [1,3,4,17,18,19])))
 (.region [qc 30 .add 19 1,
 qV 19 30] [1,3,4,17,18,19])))
def i_pt_Line : IFun := ⟨true,1,
 qr [oO 1 (.box false (tV 0)),
 oO 2 (.mv (.c (.str [])))] [1]
 (qr [qf 11 1 0,
 ql 12 11 1 1 false false,
 qk 13 n_proof_Kind [tV 12] false,
 qV 3 13] [1,3]
 (.seq (qr [qU 14 3,
 oO 15 (.bin .eql (tU 14) (.c (.str [])))] [1,3,15]
 (qd 15
 (qr [oO 2 (.mv (.c (.str [])))] [2]
 (.ret))
 (.skip)))
 (qr [qa 4 [.str [],.list [] .nil]] [1,3,4]
 (.seq (qr [qf 16 1 1,
 ql 17 16 1 1 false false,
 qn 18 17,
 qI 19 0] [1,3,4,17,18,19]
 (.block 0
 (.loop l_pt_Line_0)))
 (.seq (.draw [qV 31 3,
 qk 32 n_pt_atom [tV 31] true,
 ql 33 4 4 2 true false,
 oO 34 (.bslice (.agg [.str [],.list [] .nil]) 999999 2 [(0,.t 32 true),(1,.t 33 true)]),
 qk 35 n_pt_list [tV 34] true,
 qa 7 [.str [],.list [] .nil],
 qS 7 7 35 2] [0,2,5,1,3,4,6] [1,4] [1,7])
 (.seq (qr [qf 36 1 0,
 ql 37 36 1 1 false false] [1,7,37]
 (.block 2
 (qr [qc 39 .eql 37 5,
 qV 38 39] [1,7,37,38]
 (qd 38
 (qr [qa 8 [.str [],.list [] .nil]] [1,7,8]
 (.seq (qr [qf 40 1 3,
 ql 41 40 1 1 false false,
 qn 42 41,
 qI 43 0] [1,7,8,41,42,43]
 (.block 3
 (.loop l_pt_Line_1)))
 (.draw [qf 61 7 1,
 ql 62 61 7 1 false true,
 qf 63 1 2,
 ql 64 63 1 1 false false,
 qk 65 n_pt_number [tV 64] true,
 ql 66 8 8 2 true false,
 oO 67 (.bslice (.agg [.str [],.list [] .nil]) 0 2 [(0,.t 65 true),(1,.t 66 true)]),
 oO 68 (.append (tV 62) (tU 67) 2 0 40 false),
 qf 69 7 1,
 qS 69 7 68 1] [0,1,2,3,5,4,6,7,8,9] [4] [7])))
 (qr [qc 71 .eql 37 12,
 qV 70 71] [1,7,37,70]
 (qd 70
 (.draw [qf 72 7 1,
 ql 73 72 7 1 false true,
 qf 74 1 2,
 ql 75 74 1 1 false false,
 qk 76 n_pt_number [tV 75] true,
 oO 77 (.bslice (.agg [.str [],.list [] .nil]) 0 1 [(0,.t 76 true)]),
 oO 78 (.append (tV 73) (tU 77) 2 0 40 false),
 qf 79 7 1,
 qS 79 7 78 1] [0,1,2,3,4,5,6,7,8] [4] [7])
 (.seq (qr [qc 81 .eql 37 1,
 qV 80 81] [1,7,37,80]
 (qd 80
 (.skip)
 (qr [qc 82 .eql 37 6,
 qV 80 82] [1,7,37,80]
 (qd 80
 (.skip)
 (qr [qc 83 .eql 37 7,
 qV 80 83] [1,7,37,80]
 (qd 80
 (.skip)
 (.region [qc 84 .eql 37 8,
 qV 80 84] [1,7,37,80])))))))
 (qd 80
 (.draw [qf 85 7 1,
 ql 86 85 7 1 false true,
 qf 87 1 4,
 ql 88 87 1 5 true false,
 qk 89 n_tt_Write [tV 88] true,
 oO 90 (.bslice (.agg [.str [],.list [] .nil]) 0 1 [(0,.t 89 true)]),
 oO 91 (.append (tV 86) (tU 90) 2 0 40 false),
 qf 92 7 1,
 qS 92 7 91 1] [0,1,2,3,4,5,6,7,8] [4] [7])
 (qr [qc 94 .eql 37 4,
 qV 93 94] [1,7,93]
 (qd 93
 (.draw [qf 95 7 1,
 ql 96 95 7 1 false true,
 qf 97 1 4,
 ql 98 97 1 5 true false,
 qk 99 n_tt_Write [tV 98] true,
 qf 100 1 9,
 ql 101 100 1 5 true false,
 qk 102 n_tt_Write [tV 101] true,
 oO 103 (.bslice (.agg [.str [],.list [] .nil]) 0 2 [(0,.t 99 true),(1,.t 102 true)]),
 oO 104 (.append (tV 96) (tU 103) 2 0 40 false),
 qf 105 7 1,
 qS 105 7 104 1] [0,1,2,3,5,6,4,7,8,9,10,11] [4,7] [7])
 (.skip)))))))))))
 (qr [ql 106 7 7 2 true false,
 qk 107 n_sx_Print [tV 106] false,
 qV 2 107] [2]
 (.ret)))))))),
 [.tmp 2],none,none,[]⟩
def i_sr06_Light : IFun := ⟨true,3,
 qr [oO 3 (.box false (tV 0)),
 qa 6 qt,
 qB 7 false] [1,2,3,6]
 (.seq (qr [ql 8 3 3 5 true false,
 qV 9 1,
 qV 10 2,
 qk 11 n_sr06_count [tV 8,tV 9,tV 10] false,
 qc 12 .lss 11 0] [3,6,12]
 (qd 12
 (qr [oO 13 (.build qt []),
 qS 6 6 13 5,
 qB 7 false] [6,7]
 (.ret))
 (.skip)))
 (qr [ql 14 3 3 5 true false,
 qS 6 6 14 5,
 qB 7 true] [6,7]
 (.ret))),
 [.cell 6 5 true,.tmp 7],none,none,[]⟩
def i_pt_Concl : IFun := ⟨true,1,
 qr [oO 1 (.box false (tV 0)),
 oO 2 (.mv (.c (.str [])))] [1]
 (.seq (qr [qf 4 1 0,
 ql 5 4 1 1 false false,
 oO 6 (.un .not (tU 5))] [1,6]
 (qd 6
 (.seq (.draw [qf 7 1 1,
 ql 8 7 1 5 true false,
 qk 9 n_tt_Print [tV 8] true,
 qf 10 1 6,
 ql 11 10 1 5 true false,
 qk 12 n_tt_Print [tV 11] true,
 oO 13 (.bslice (.str []) 0 3 [(0,.t 9 true),(1,.c (.str [32,61,32])),(2,.t 12 true)]),
 qk 14 n_pt_join [tV 13] true,
 qV 2 14] [0,1,3,4,2,5,6,7,8] [2,5,7] [2])
 (.ret))
 (.skip)))
 (qr [qf 15 1 11,
 ql 16 15 1 5 true false,
 qa 3 [.int .i64 0,.int .u64 0,.int .u64 0,.int .u64 0,.int .u64 0],
 qS 3 3 16 5] [1,3]
 (.seq (.draw [qf 17 1 1,
 ql 18 17 1 5 true false,
 qk 19 n_tt_Print [tV 18] true,
 qf 20 3 1,
 qf 21 20 0,
 ql 22 21 3 1 false false,
 qk 23 n_digits_Dec [tV 22] true,
 qf 24 3 1,
 qf 25 24 1,
 ql 26 25 3 1 false false,
 qk 27 n_digits_Dec [tV 26] true,
 qf 28 3 3,
 qf 29 28 0,
 ql 30 29 3 1 false false,
 qk 31 n_digits_Dec [tV 30] true,
 qf 32 3 3,
 qf 33 32 1,
 ql 34 33 3 1 false false,
 qk 35 n_digits_Dec [tV 34] true,
 oO 36 (.bslice (.str []) 0 9 [(0,.t 19 true),(1,.c (.str [32,105,110,32])),(2,.t 23 true),(3,.c (.str [32])),(4,.t 27 true),(5,.c (.str [32])),(6,.t 31 true),(7,.c (.str [32])),(8,.t 35 true)]),
 qk 37 n_pt_join [tV 36] true,
 qV 2 37] [0,1,3,4,5,7,8,9,11,12,13,15,16,17,2,6,10,14,18,19,20,21] [2,6,10,14,18,20] [2])
 (.ret)))),
 [.tmp 2],none,none,[]⟩
def i_sr36_Concl : IFun := ⟨true,1,
 qr [oO 1 (.box false (tV 0)),
 oO 2 (.mv (.c (.str [])))] [1]
 (.seq (qr [qf 4 1 0,
 ql 5 4 1 1 false false,
 oO 6 (.un .not (tU 5))] [1,6]
 (qd 6
 (.seq (.draw [qf 7 1 1,
 ql 8 7 1 5 true false,
 qk 9 n_sr36_text [tV 8] true,
 oO 10 (.bin .add (tU 9) (.c (.str [32,61,32]))),
 qf 11 1 6,
 ql 12 11 1 5 true false,
 qk 13 n_sr36_text [tV 12] true,
 qb 14 .add 10 13,
 qV 2 14] [0,1,4,5,2,3,6,7,8] [2,6] [2])
 (.ret))
 (.skip)))
 (qr [qf 15 1 11,
 ql 16 15 1 5 true false,
 qa 3 [.int .i64 0,.int .u64 0,.int .u64 0,.int .u64 0,.int .u64 0],
 qS 3 3 16 5] [1,3]
 (.seq (.draw [qf 17 1 1,
 ql 18 17 1 5 true false,
 qk 19 n_sr36_text [tV 18] true,
 oO 20 (.bin .add (tU 19) (.c (.str [32,105,110,32]))),
 qf 21 3 1,
 qf 22 21 0,
 ql 23 22 3 1 false false,
 qk 24 n_sr02_Dec [tV 23] true,
 qb 25 .add 20 24,
 oO 26 (.bin .add (tU 25) (.c (.str [32]))),
 qf 27 3 1,
 qf 28 27 1,
 ql 29 28 3 1 false false,
 qk 30 n_sr02_Dec [tV 29] true,
 qb 31 .add 26 30,
 oO 32 (.bin .add (tU 31) (.c (.str [32]))),
 qf 33 3 3,
 qf 34 33 0,
 ql 35 34 3 1 false false,
 qk 36 n_sr02_Dec [tV 35] true,
 qb 37 .add 32 36,
 oO 38 (.bin .add (tU 37) (.c (.str [32]))),
 qf 39 3 3,
 qf 40 39 1,
 ql 41 40 3 1 false false,
 qk 42 n_sr02_Dec [tV 41] true,
 qb 43 .add 38 42,
 qV 2 43] [0,1,4,5,6,10,11,12,16,17,18,22,23,24,2,3,7,8,9,13,14,15,19,20,21,25,26,27] [2,7,13,19,25] [2])
 (.ret)))),
 [.tmp 2],none,none,[]⟩
def l_pt_Explain_1 : ICode :=
 qr [qb 65 .lss 64 63] [0,1,2,7,17,18,62,63,64,65]
 (.seq (qd 65
 (.skip)
 (.exit 2))
 (.seq (.block 3
 (qr [qi 66 62 64 1,
 qe 67 66 1 false false,
 qV 12 67] [0,1,2,7,12,17,18,62,63,64]
 (.region [qV 68 12,
 qk 69 n_digits_Int [tV 68] false,
 oO 70 (.bslice (.str []) 0 2 [(0,.c (.str [32])),(1,.t 69 true)]),
 qk 71 n_pt_join [tV 70] false,
 qk 72 n_sb_WriteString [tU 7,tV 71] false] [0,1,2,7,17,18,62,63,64])))
 (.region [qc 73 .add 64 1,
 qV 64 73] [0,1,2,7,17,18,62,63,64])))
def l_pt_Explain_0 : ICode :=
 qr [qb 19 .lss 18 17] [0,1,2,7,17,18,19]
 (.seq (qd 19
 (.skip)
 (.exit 0))
 (.seq (.block 1
 (qr [qU 20 18,
 qV 8 20] [0,1,2,7,8,17,18]
 (qr [qU 21 1,
 qU 22 8,
 qi 23 21 22 14,
 qe 24 23 14 true false,
 qa 9 qz,
 qS 9 9 24 14] [0,1,2,7,8,9,17,18]
 (.seq (.draw [qU 25 8,
 qk 26 n_digits_Int [tV 25] true,
 qU 27 2,
 qU 28 8,
 qi 29 27 28 16,
 qe 30 29 16 true false,
 qk 31 n_pt_Concl [tV 30] true,
 qf 32 9 0,
 ql 33 32 9 1 false false,
 qk 34 n_proof_Kind [tV 33] true,
 oO 35 (.bslice (.str []) 0 5 [(0,.t 26 true),(1,.c (.str [58,32])),(2,.t 31 true),(3,.c (.str [32,32])),(4,.t 34 true)]),
 qk 36 n_pt_join [tV 35] true,
 qk 37 n_sb_WriteString [tU 7,tV 36] false] [0,2,3,4,5,7,8,1,6,9,10,11,12] [1,6,9,11,12] [0,1,2,7,9,17,18])
 (.seq (qr [qf 38 9 0,
 ql 39 38 9 1 false false,
 qc 40 .eql 39 5] [0,1,2,7,9,17,18,40]
 (qd 40
 (qr [oO 10 (.mv (.c (.str [63])))] [0,1,2,7,9,10,17,18]
 (.seq (qr [qf 41 9 2,
 ql 42 41 9 1 false false,
 qc 43 .geq 42 0,
 qV 44 43,
 qF 45 9 2 44 true,
 qL 46 45 9 1 false false 44 true,
 qh 47 0 44 true,
 qg 48 (.len (tU 47) .list) 44 true,
 qg 49 (.bin .lss (tU 46) (tU 48)) 44 true,
 qp 50 44 49 false] [0,1,2,7,9,10,17,18,50]
 (qd 50
 (.region [qU 51 0,
 qf 52 9 2,
 ql 53 52 9 1 false false,
 qi 54 51 53 8,
 qf 55 54 0,
 qe 56 55 1 false false,
 qV 10 56] [0,1,2,7,9,10,17,18])
 (.skip)))
 (.region [qV 57 10,
 oO 58 (.bslice (.str []) 0 2 [(0,.c (.str [32])),(1,.t 57 true)]),
 qk 59 n_pt_join [tV 58] false,
 qk 60 n_sb_WriteString [tU 7,tV 59] false] [0,1,2,7,9,17,18])))
 (.skip)))
 (.seq (qr [qf 61 9 1,
 ql 62 61 9 1 false false,
 qn 63 62,
 qI 64 0] [0,1,2,7,17,18,62,63,64]
 (.block 2
 (.loop l_pt_Explain_1)))
 (.region [qk 74 n_sb_WriteByte [tU 7,.c (.int .u8 10)] false] [0,1,2,7,17,18])))))))
 (.region [qc 75 .add 18 1,
 qV 18 75] [0,1,2,7,17,18])))
def i_pt_Explain : IFun := ⟨true,3,
 qr [oO 6 (.mv (.c (.str [])))] [0,1,2]
 (qr [oO 7 (.alloc true 110 [.nilp,.list [] .nil])] [0,1,2,7]
 (.seq (qr [qU 13 1,
 qn 14 13,
 qU 15 2,
 qn 16 15,
 oO 17 (.min (tU 14) (tU 16)),
 qI 18 0] [0,1,2,7,17,18]
 (.block 0
 (.loop l_pt_Explain_0)))
 (qr [qk 76 n_sb_String [tV 7] false,
 qV 6 76] [6]
 (.ret)))),
 [.tmp 6],none,none,[]⟩
def l_sr36_Explain_1 : ICode :=
 .seq (qr [qU 77 10,
 qU 78 1,
 qU 79 8,
 qi 80 78 79 14,
 qf 81 80 1,
 qe 82 81 1 false false,
 qn 83 82,
 qb 84 .lss 77 83] [0,1,2,7,8,10,84]
 (qd 84
 (.skip)
 (.exit 2)))
 (.seq (.block 3
 (.region [qV 87 7,
 qU 88 1,
 qU 89 8,
 qi 90 88 89 14,
 qf 91 90 1,
 qe 92 91 1 false false,
 qU 93 10,
 qi 94 92 93 1,
 qe 95 94 1 false false,
 qk 96 n_sr02_Int [tV 95] false,
 oO 97 (.bin .add (.c (.str [32])) (tU 96)),
 qb 98 .add 87 97,
 qV 7 98] [0,1,2,7,8,10]))
 (.region [qV 85 10,
 qc 86 .add 85 1,
 qV 10 86] [0,1,2,7,8,10]))
def l_sr36_Explain_0 : ICode :=
 .seq (qr [qU 11 8,
 qU 12 1,
 qn 13 12,
 qb 14 .lss 11 13,
 qV 15 14,
 qh 16 8 15 true,
 qh 17 2 15 true,
 qg 18 (.len (tU 17) .list) 15 true,
 qg 19 (.bin .lss (tU 16) (tU 18)) 15 true,
 qp 20 15 19 false] [0,1,2,7,8,20]
 (qd 20
 (.skip)
 (.exit 0)))
 (.seq (.block 1
 (.seq (.draw [qV 23 7,
 qU 24 8,
 qk 25 n_sr02_Int [tV 24] true,
 oO 26 (.bin .add (tU 25) (.c (.str [58,32]))),
 qU 27 2,
 qU 28 8,
 qi 29 27 28 16,
 qe 30 29 16 true false,
 qk 31 n_sr36_Concl [tV 30] true,
 qb 32 .add 26 31,
 oO 33 (.bin .add (tU 32) (.c (.str [32,32]))),
 qU 34 1,
 qU 35 8,
 qi 36 34 35 14,
 qf 37 36 0,
 qe 38 37 1 false false,
 qk 39 n_sr34_Kind [tV 38] true,
 qb 40 .add 33 39,
 qb 41 .add 23 40,
 qV 7 41] [0,1,4,5,6,7,11,12,13,14,15,2,3,8,9,10,16,17,18,19] [2,8,16] [0,1,2,7,8])
 (.seq (qr [qU 42 1,
 qU 43 8,
 qi 44 42 43 14,
 qf 45 44 0,
 qe 46 45 1 false false,
 qc 47 .eql 46 5] [0,1,2,7,8,47]
 (qd 47
 (qr [oO 9 (.mv (.c (.str [63])))] [0,1,2,7,8,9]
 (.seq (qr [qU 48 1,
 qU 49 8,
 qi 50 48 49 14,
 qf 51 50 2,
 qe 52 51 1 false false,
 qc 53 .geq 52 0,
 qV 54 53,
 qh 55 1 54 true,
 qh 56 8 54 true,
 qJ 57 55 56 14 54 true,
 qF 58 57 2 54 true,
 qE 59 58 1 false false 54 true,
 qh 60 0 54 true,
 qg 61 (.len (tU 60) .list) 54 true,
 qg 62 (.bin .lss (tU 59) (tU 61)) 54 true,
 qp 63 54 62 false] [0,1,2,7,8,9,63]
 (qd 63
 (.region [qU 64 0,
 qU 65 1,
 qU 66 8,
 qi 67 65 66 14,
 qf 68 67 2,
 qe 69 68 1 false false,
 qi 70 64 69 8,
 qf 71 70 0,
 qe 72 71 1 false false,
 qV 9 72] [0,1,2,7,8,9])
 (.skip)))
 (.region [qV 73 7,
 qV 74 9,
 oO 75 (.bin .add (.c (.str [32])) (tU 74)),
 qb 76 .add 73 75,
 qV 7 76] [0,1,2,7,8])))
 (.skip)))
 (.seq (qr [qI 10 0] [0,1,2,7,8,10]
 (.block 2
 (.loop l_sr36_Explain_1)))
 (.region [qV 99 7,
 oO 100 (.bin .add (tU 99) (.c (.str [10]))),
 qV 7 100] [0,1,2,7,8])))))
 (.region [qV 21 8,
 qc 22 .add 21 1,
 qV 8 22] [0,1,2,7,8]))
def i_sr36_Explain : IFun := ⟨true,3,
 qr [oO 6 (.mv (.c (.str [])))] [0,1,2]
 (qr [oO 7 (.mv (.c (.str [])))] [0,1,2,7]
 (.seq (qr [qI 8 0] [0,1,2,7,8]
 (.block 0
 (.loop l_sr36_Explain_0)))
 (qr [qV 101 7,
 qV 6 101] [6]
 (.ret)))),
 [.tmp 6],none,none,[]⟩
def i_tt_Read_1 : IFun := ⟨false,2,
 .block 0
 (qr [oO 7 (.eq false .iface (tU 5) (.c (.nili)))] [0,1,5,7]
 (qd 7
 (.region [qV 2 5] [])
 (qr [oO 8 (.assert (tU 5) 78 (.agg [.int .i64 0]) true),
 qx 9 8 1,
 qy 10 8 0] [0,1,5,9,10]
 (qd 9
 (qr [qa 3 [.int .i64 0],
 qS 3 3 10 1] [0,1,3]
 (.draw [oO 11 (.build qt []),
 qf 12 3 0,
 ql 13 12 3 1 false false,
 oZ (.store (tU 0) .heap (tV 11) 5),
 oZ (.store (tU 1) .heap (tV 13) 1)] [0,1,2,3,4] [] []))
 (qr [qV 4 5] [4]
 (.region [qV 6 4,
 oZ (.panic (tU 6))] [])))))),
 [],some 5,none,[]⟩
def l_tt_read_0 : ICode :=
 qr [qb 78 .lss 77 76] [2,3,7,8,75,76,77,78]
 (.seq (qd 78
 (.skip)
 (.exit 0))
 (.seq (.block 1
 (qr [qi 79 75 77 2,
 qe 80 79 2 true false,
 qa 10 [.str [],.list [] .nil],
 qS 10 10 80 2] [2,3,7,8,10,75,76,77]
 (qr [ql 81 10 10 2 true false,
 qk 82 n_tt_read [tV 81] false,
 qa 11 qt,
 qS 11 11 82 5] [2,3,7,8,11,75,76,77]
 (qr [qf 83 7 4,
 ql 84 83 7 1 false true,
 ql 85 11 11 5 true false,
 oO 86 (.bslice (.agg qt) 0 1 [(0,.t 85 true)]),
 oO 87 (.append (tV 84) (tU 86) 5 0 64 false),
 qf 88 7 4,
 qS 88 7 87 1] [2,3,7,8,11,75,76,77]
 (.region [qV 89 8,
 qf 90 11 1,
 ql 91 90 11 1 false false,
 oO 92 (.bslice (.int .i64 0) 0 1 [(0,.t 91 true)]),
 oO 93 (.append (tV 89) (tU 92) 1 0 8 false),
 qV 8 93] [2,3,7,8,75,76,77])))))
 (.region [qc 94 .add 77 1,
 qV 77 94] [2,3,7,8,75,76,77])))
def i_tt_read : IFun := ⟨true,1,
 qr [oO 1 (.box false (tV 0)),
 qa 2 qt] [1,2]
 (.seq (qr [qf 14 1 0,
 ql 15 14 1 1 false false,
 oO 16 (.bin .neq (tU 15) (.c (.str [])))] [1,2,16]
 (qd 16
 (qr [qf 17 1 0,
 ql 18 17 1 1 false false,
 qk 19 n_tt_leaf [tV 18] false,
 qS 2 2 19 5] [2]
 (.ret))
 (.skip)))
 (qr [qf 20 1 1,
 ql 21 20 1 1 false false,
 qn 22 21,
 qc 23 .gtr 22 0,
 qk 24 n_tt_must [tV 23,.c (.int .i64 6)] false] [1,2]
 (qr [qf 26 1 1,
 ql 27 26 1 1 false false,
 oO 28 (.iaddrL (tU 27) (.c (.int .i64 0)) 2),
 qf 29 28 0,
 qe 30 29 1 false false,
 qk 31 n_oi_Of [tV 30] false,
 qV 25 31,
 qx 32 25 0,
 qy 33 25 1,
 qV 3 32,
 qV 4 33] [1,2,3,4]
 (qr [qV 34 4,
 qV 35 34,
 qh 36 3 35 true,
 qg 37 (.call (.f n_oi_Leaf) [tV 36] false) 35 true,
 qg 38 (.un .not (tU 37)) 35 true,
 qp 39 35 38 false,
 qk 40 n_tt_must [tV 39,.c (.int .i64 6)] false] [1,2,3]
 (qr [qf 41 1 1,
 ql 42 41 1 1 false false,
 oO 43 (.slcL (tU 42) (some (.c (.int .i64 1))) none 2),
 qV 5 43] [2,3,5]
 (qr [qU 44 3,
 qk 45 n_tt_numerals [tV 44] false,
 qV 6 45] [2,3,5,6]
 (qr [qU 46 5,
 qn 47 46,
 qU 48 6,
 qU 49 3,
 qk 50 n_oi_Arity [tV 49] false,
 qb 51 .add 48 50,
 qb 52 .eql 47 51,
 qk 53 n_tt_must [tV 52,.c (.int .i64 6)] false] [2,3,5,6]
 (qr [qU 54 3,
 oO 55 (.build qt [(0,1,.t 54 true)]),
 qa 7 qt,
 qS 7 7 55 5] [2,3,5,6,7]
 (.seq (qr [qU 56 6,
 qc 57 .eql 56 2] [2,3,5,6,7,57]
 (qd 57
 (.region [qU 58 5,
 oO 59 (.iaddrL (tU 58) (.c (.int .i64 0)) 2),
 qe 60 59 2 true false,
 qk 61 n_tt_number [tV 60,.c (.int .u64 18446744073709551615)] false,
 qf 62 7 2,
 qS 62 7 61 1] [2,3,5,6,7])
 (.skip)))
 (.seq (qr [qU 63 6,
 qc 64 .gtr 63 0] [2,3,5,6,7,64]
 (qd 64
 (.region [qU 65 5,
 qU 66 6,
 qc 67 .sub 66 1,
 qi 68 65 67 2,
 qe 69 68 2 true false,
 qk 70 n_tt_number [tV 69,.c (.int .u64 64)] false,
 oO 71 (.conv .i64 (tU 70)),
 qf 72 7 1,
 qS 72 7 71 1] [2,3,5,6,7])
 (.skip)))
 (qr [oO 8 (.mv (.c (.list [] .nil)))] [2,3,5,6,7,8]
 (.seq (qr [qV 73 5,
 qV 74 6,
 oO 75 (.slcL (tU 73) (some (tU 74)) none 2),
 qn 76 75,
 qI 77 0] [2,3,7,8,75,76,77]
 (.block 0
 (.loop l_tt_read_0)))
 (qr [qV 96 3,
 qf 97 7 1,
 ql 98 97 7 1 false false,
 qf 99 7 2,
 ql 100 99 7 1 false false,
 qV 101 8,
 qk 102 n_oi_Width [tV 96,tV 98,tV 100,tV 101] false,
 qV 95 102,
 qx 103 95 0,
 qy 104 95 1,
 qV 12 103,
 qV 13 104] [2,7,12,13]
 (qr [qV 105 13,
 qk 106 n_tt_fail [tV 105] false] [2,7,12]
 (qr [qV 107 12,
 qf 108 7 1,
 qS 108 7 107 1] [2,7]
 (qr [ql 109 7 7 5 true false,
 qS 2 2 109 5] [2]
 (.ret))))))))))))))))),
 [.cell 2 5 true],none,none,[]⟩
def i_sr04_Leaf : IFun := ⟨true,1,
 qr [qB 2 false] [0]
 (qr [qV 3 0,
 oO 4 (.bslice (.int .i64 0) 0 4 [(0,.c (.int .i64 1)),(1,.c (.int .i64 2)),(2,.c (.int .i64 24)),(3,.c (.int .i64 25))]),
 qk 5 n_sr04_Is [tV 3,tV 4] false,
 qV 2 5] [2]
 (.ret)),
 [.tmp 2],none,none,[]⟩
def i_sr07_plain : IFun := ⟨true,1,
 qr [qI 2 0] [0]
 (.seq (qr [qU 3 0,
 qc 4 .eql 3 21] [0,4]
 (qd 4
 (qr [qI 2 2] [2]
 (.ret))
 (.skip)))
 (.seq (qr [qU 5 0,
 qc 6 .eql 5 22,
 qV 7 6,
 qH 8 0 7 false,
 qC 9 .eql 8 23 7 false,
 qP 10 7 true 9] [10]
 (qd 10
 (qr [qI 2 1] [2]
 (.ret))
 (.skip)))
 (qr [qI 2 0] [2]
 (.ret)))),
 [.tmp 2],none,none,[]⟩
def i_sr04_Arity : IFun := ⟨true,1,
 qr [qI 2 0] [0]
 (.seq (qr [qU 3 0,
 qc 4 .lss 3 1,
 qV 5 4,
 qh 6 0 5 false,
 qC 7 .gtr 6 26 5 false,
 qP 8 5 true 7] [0,8]
 (qd 8
 (qr [qI 2 (-1)] [2]
 (.ret))
 (.skip)))
 (.seq (qr [qU 9 0,
 qk 10 n_sr04_Leaf [tV 9] false] [0,10]
 (qd 10
 (qr [qI 2 0] [2]
 (.ret))
 (.skip)))
 (.seq (qr [qU 11 0,
 oO 12 (.bslice (.int .i64 0) 0 6 [(0,.c (.int .i64 3)),(1,.c (.int .i64 4)),(2,.c (.int .i64 21)),(3,.c (.int .i64 22)),(4,.c (.int .i64 23)),(5,.c (.int .i64 26))]),
 qk 13 n_sr04_Is [tV 11,tV 12] false] [0,13]
 (qd 13
 (qr [qI 2 1] [2]
 (.ret))
 (.skip)))
 (.seq (qr [qV 14 0,
 qc 15 .eql 14 19] [15]
 (qd 15
 (qr [qI 2 3] [2]
 (.ret))
 (.skip)))
 (qr [qI 2 2] [2]
 (.ret)))))),
 [.tmp 2],none,none,[]⟩
def i_sr07_Notable : IFun := ⟨true,1,
 qr [oO 1 (.box false (tV 0)),
 qB 2 false] [1]
 (.seq (qr [qf 3 1 1,
 ql 4 3 1 1 false false,
 qc 5 .lss 4 0,
 qV 6 5,
 qF 7 1 1 6 false,
 qL 8 7 1 1 false false 6 false,
 qC 9 .gtr 8 64 6 false,
 qP 10 6 true 9] [1,10]
 (qd 10
 (qr [qB 2 false] [2]
 (.ret))
 (.skip)))
 (.seq (qr [qf 11 1 0,
 ql 12 11 1 1 false false] [1,12]
 (.block 0
 (.seq (qr [qc 14 .eql 12 1,
 qV 13 14] [1,12,13]
 (qd 13
 (.skip)
 (qr [qc 15 .eql 12 24,
 qV 13 15] [1,12,13]
 (qd 13
 (.skip)
 (.region [qc 16 .eql 12 25,
 qV 13 16] [1,12,13])))))
 (qd 13
 (qr [qf 17 1 3,
 ql 18 17 1 1 false false,
 qk 19 n_sr07_Name [tV 18] false,
 qV 20 19,
 qF 21 1 2 20 true,
 qL 22 21 1 1 false false 20 true,
 qg 23 (.bin .eql (tU 22) (.c (.int .u64 0))) 20 true,
 qp 24 20 23 false,
 qV 25 24,
 qF 26 1 4 25 true,
 qL 27 26 1 1 false false 25 true,
 qg 28 (.len (tU 27) .list) 25 true,
 qC 29 .eql 28 0 25 true,
 qp 30 25 29 false,
 qV 2 30] [2]
 (.ret))
 (qr [qc 32 .eql 12 2,
 qV 31 32] [1,31]
 (qd 31
 (qr [qf 33 1 3,
 ql 34 33 1 1 false false,
 oO 35 (.bin .eql (tU 34) (.c (.str []))),
 qV 36 35,
 qF 37 1 4 36 true,
 qL 38 37 1 1 false false 36 true,
 qg 39 (.len (tU 38) .list) 36 true,
 qC 40 .eql 39 0 36 true,
 qp 41 36 40 false,
 qV 2 41] [2]
 (.ret))
 (.skip)))))))
 (.seq (.draw [qf 42 1 3,
 ql 43 42 1 1 false false,
 oO 44 (.bin .eql (tU 43) (.c (.str []))),
 qV 45 44,
 qF 46 1 2 45 true,
 qL 47 46 1 1 false false 45 true,
 qg 48 (.bin .eql (tU 47) (.c (.int .u64 0))) 45 true,
 qH 49 48 45 true,
 qF 50 1 0 49 false,
 qL 51 50 1 1 false false 49 false,
 qC 52 .eql 51 21 49 false,
 qg 53 (.pick (tU 49) (.c (.bool true)) (tU 52)) 45 true,
 qp 54 45 53 false,
 qV 55 54,
 qF 56 1 4 55 true,
 qL 57 56 1 1 false false 55 true,
 qg 58 (.len (tU 57) .list) 55 true,
 qC 59 .gtr 58 0 55 true,
 qp 60 55 59 false,
 qV 61 60,
 qF 62 1 4 61 true,
 qL 63 62 1 1 false false 61 true,
 qg 64 (.len (tU 63) .list) 61 true,
 qF 65 1 0 61 true,
 qL 66 65 1 1 false false 61 true,
 qg 67 (.call (.f n_sr04_Arity) [tV 66] true) 61 true,
 qg 68 (.bin .eql (tU 64) (tU 67)) 61 true,
 qp 69 61 68 false,
 qV 2 69] [0,1,2,3,4,5,6,7,8,9,10,11,12,13,14,15,16,17,18,19,20,21,22,23,24,25,26,27,28] [25] [2])
 (.ret)))),
 [.tmp 2],none,none,[]⟩
def i_sr02_Int : IFun := ⟨true,1,
 qr [oO 2 (.mv (.c (.str [])))] [0]
 (.seq (qr [qU 3 0,
 qc 4 .geq 3 0] [0,4]
 (qd 4
 (qr [qV 5 0,
 oO 6 (.conv .u64 (tU 5)),
 qk 7 n_sr02_Dec [tV 6] false,
 qV 2 7] [2]
 (.ret))
 (.skip)))
 (qr [qV 8 0,
 qc 9 .add 8 1,
 oO 10 (.un .neg (tU 9)),
 oO 11 (.conv .u64 (tU 10)),
 oO 12 (.bin .add (tU 11) (.c (.int .u64 1))),
 qk 13 n_sr02_Dec [tV 12] false,
 oO 14 (.bin .add (.c (.str [45])) (tU 13)),
 qV 2 14] [2]
 (.ret))),
 [.tmp 2],none,none,[]⟩
def i_sr02_Dec : IFun := ⟨true,1,
 qr [oO 2 (.mv (.c (.str [])))] [0]
 (qr [qV 3 0,
 qk 4 n_sr02_write [tV 3,.c (.int .u64 10)] false,
 qV 2 4] [2]
 (.ret)),
 [.tmp 2],none,none,[]⟩
def i_sr04_Name : IFun := ⟨true,1,
 qr [oO 2 (.mv (.c (.str [])))] [0]
 (qr [oO 4 (.bslice (.str []) 0 27 [(0,.c (.str [])),(1,.c (.str [118,97,114])),(2,.c (.str [99,111,110,115,116])),(3,.c (.str [110,111,116])),(4,.c (.str [110,101,103])),(5,.c (.str [97,110,100])),(6,.c (.str [111,114])),(7,.c (.str [120,111,114])),(8,.c (.str [97,100,100])),(9,.c (.str [115,117,98])),(10,.c (.str [109,117,108])),(11,.c (.str [117,100,105,118])),(12,.c (.str [117,114,101,109])),(13,.c (.str [115,104,108])),(14,.c (.str [108,115,104,114])),(15,.c (.str [97,115,104,114])),(16,.c (.str [101,113])),(17,.c (.str [117,108,116])),(18,.c (.str [115,108,116])),(19,.c (.str [105,116,101])),(20,.c (.str [99,111,110,99,97,116])),(21,.c (.str [101,120,116,114,97,99,116])),(22,.c (.str [122,101,120,116])),(23,.c (.str [115,101,120,116])),(24,.c (.str [104,111,108,101])),(25,.c (.str [110,117,109])),(26,.c (.str [101,118,97,108]))]),
 qV 3 4] [0,3]
 (.seq (qr [qU 5 0,
 qc 6 .lss 5 1,
 qV 7 6,
 qh 8 0 7 false,
 qC 9 .gtr 8 26 7 false,
 qP 10 7 true 9] [0,3,10]
 (qd 10
 (qr [oO 2 (.mv (.c (.str [])))] [2]
 (.ret))
 (.skip)))
 (qr [qV 11 3,
 qV 12 0,
 qi 13 11 12 1,
 qe 14 13 1 false false,
 qV 2 14] [2]
 (.ret)))),
 [.tmp 2],none,none,[]⟩
def i_tt_notable : IFun := ⟨true,1,
 qr [oO 1 (.box false (tV 0)),
 qB 2 false] [1]
 (.seq (.seq (.draw [qf 3 1 1,
 ql 4 3 1 1 false false,
 qc 5 .lss 4 0,
 qV 6 5,
 qF 7 1 1 6 false,
 qL 8 7 1 1 false false 6 false,
 qC 9 .gtr 8 64 6 false,
 qP 10 6 true 9,
 qV 11 10,
 qF 12 1 4 11 false,
 qL 13 12 1 1 false false 11 false,
 qg 14 (.len (tU 13) .list) 11 false,
 qF 15 1 0 11 false,
 qL 16 15 1 1 false false 11 false,
 qg 17 (.call (.f n_oi_Arity) [tV 16] true) 11 false,
 qg 18 (.bin .neq (tU 14) (tU 17)) 11 false,
 qP 19 11 true 18] [0,1,2,3,4,5,6,7,8,9,10,11,12,13,14,15,16] [14] [1,19])
 (qd 19
 (qr [qB 2 false] [2]
 (.ret))
 (.skip)))
 (.seq (qr [qf 20 1 0,
 ql 21 20 1 1 false false] [1,21]
 (.block 0
 (.seq (qr [qc 23 .eql 21 1,
 qV 22 23] [1,21,22]
 (qd 22
 (.skip)
 (qr [qc 24 .eql 21 24,
 qV 22 24] [1,21,22]
 (qd 22
 (.skip)
 (.region [qc 25 .eql 21 25,
 qV 22 25] [1,21,22])))))
 (qd 22
 (qr [qf 26 1 3,
 ql 27 26 1 1 false false,
 qk 28 n_term_Name [tV 27] false,
 qV 29 28,
 qF 30 1 2 29 true,
 qL 31 30 1 1 false false 29 true,
 qg 32 (.bin .eql (tU 31) (.c (.int .u64 0))) 29 true,
 qp 33 29 32 false,
 qV 2 33] [2]
 (.ret))
 (.seq (qr [qc 35 .eql 21 2,
 qV 34 35] [1,21,34]
 (qd 34
 (.skip)
 (.region [qc 36 .eql 21 21,
 qV 34 36] [1,34])))
 (qd 34
 (qr [qf 37 1 3,
 ql 38 37 1 1 false false,
 oO 39 (.bin .eql (tU 38) (.c (.str []))),
 qV 2 39] [2]
 (.ret))
 (.skip)))))))
 (qr [qf 40 1 3,
 ql 41 40 1 1 false false,
 oO 42 (.bin .eql (tU 41) (.c (.str []))),
 qV 43 42,
 qF 44 1 2 43 true,
 qL 45 44 1 1 false false 43 true,
 qg 46 (.bin .eql (tU 45) (.c (.int .u64 0))) 43 true,
 qp 47 43 46 false,
 qV 2 47] [2]
 (.ret)))),
 [.tmp 2],none,none,[]⟩
def i_tt_atom : IFun := ⟨true,1,
 qr [qa 2 [.str [],.list [] .nil]] [0,2]
 (qr [qV 3 0,
 oO 4 (.build [.str [],.list [] .nil] [(0,1,.t 3 true)]),
 qS 2 2 4 2] [2]
 (.ret)),
 [.cell 2 2 true],none,none,[]⟩
def i_digits_Int : IFun := ⟨true,1,
 qr [oO 2 (.mv (.c (.str [])))] [0]
 (qr [qV 3 0,
 qk 4 n_sc_Itoa [tV 3] false,
 qV 2 4] [2]
 (.ret)),
 [.tmp 2],none,none,[]⟩
def i_digits_Dec : IFun := ⟨true,1,
 qr [oO 2 (.mv (.c (.str [])))] [0]
 (qr [qV 3 0,
 qk 4 n_sc_FormatUint [tV 3,.c (.int .i64 10)] false,
 qV 2 4] [2]
 (.ret)),
 [.tmp 2],none,none,[]⟩
def i_oi_Name : IFun := ⟨true,1,
 qr [oO 2 (.mv (.c (.str [])))] [0]
 (.seq (qr [qU 3 0,
 qk 4 n_oi_known [tV 3] false,
 oO 5 (.un .not (tU 4))] [0,5]
 (qd 5
 (qr [oO 2 (.mv (.c (.str [])))] [2]
 (.ret))
 (.skip)))
 (qr [qV 6 0,
 oO 7 (.iaddrA (.g 0) (tU 6) 27 1),
 oO 8 (.load (tU 7) .heap 1 false false),
 qV 2 8] [2]
 (.ret))),
 [.tmp 2],none,none,[]⟩
def i_tt_numerals : IFun := ⟨true,1,
 qr [qI 2 0] [0]
 (.seq (qr [qV 3 0] [3]
 (.block 0
 (qr [qc 5 .eql 3 21,
 qV 4 5] [3,4]
 (qd 4
 (qr [qI 2 2] [2]
 (.ret))
 (.seq (qr [qc 7 .eql 3 22,
 qV 6 7] [3,6]
 (qd 6
 (.skip)
 (.region [qc 8 .eql 3 23,
 qV 6 8] [6])))
 (qd 6
 (qr [qI 2 1] [2]
 (.ret))
 (.skip)))))))
 (qr [qI 2 0] [2]
 (.ret))),
 [.tmp 2],none,none,[]⟩
def i_sx_Print : IFun := ⟨true,1,
 qr [oO 1 (.box false (tV 0)),
 oO 2 (.mv (.c (.str [])))] [1]
 (qr [oO 3 (.alloc true 110 [.nilp,.list [] .nil])] [1,3]
 (qr [ql 4 1 1 2 true false,
 qk 5 n_sx_write [tU 3,tV 4] false] [3]
 (qr [qk 6 n_sb_String [tV 3] false,
 qV 2 6] [2]
 (.ret)))),
 [.tmp 2],none,none,[]⟩
def i_sx_ParseAll : IFun := ⟨true,1,
 qr [oO 2 (.mv (.c (.list [] .nil))),
 qI 3 0,
 qI 4 0] [0]
 (qr [qV 10 0,
 qk 11 n_sx_all [tV 10] false,
 qV 9 11,
 qx 12 9 0,
 qx 13 9 1,
 qx 14 9 2,
 qy 15 9 3,
 qV 5 12,
 qV 6 13,
 qV 7 14,
 qV 8 15] [5,7,8]
 (qr [qV 16 5,
 qV 17 7,
 qV 18 8,
 qV 2 16,
 qV 3 17,
 qV 4 18] [2,3,4]
 (.ret))),
 [.tmp 2,.tmp 3,.tmp 4],none,none,[]⟩
def l_pt_read_0 : ICode :=
 qr [qb 23 .lss 22 21] [2,4,20,21,22,23]
 (.seq (qd 23
 (.skip)
 (.exit 0))
 (.seq (.block 1
 (qr [qU 24 22,
 qi 25 20 22 2,
 qe 26 25 2 true false,
 qa 8 [.str [],.list [] .nil],
 qV 7 24,
 qS 8 8 26 2] [2,4,7,8,20,21,22]
 (qr [ql 28 8 8 2 true false,
 qk 29 n_tt_Read [tV 28] false,
 qV 27 29,
 qx 30 27 0,
 qy 31 27 1,
 qa 9 qt,
 qS 9 9 30 5,
 qV 10 31] [2,4,7,9,10,20,21,22]
 (.seq (qr [qU 32 10,
 qc 33 .neq 32 0] [2,4,7,9,10,20,21,22,33]
 (qd 33
 (qr [oO 34 (.build qz []),
 qV 35 10,
 qS 2 2 34 14,
 qV 3 35] [2,3]
 (.ret))
 (.skip)))
 (.block 2
 (qr [qf 39 4 0,
 ql 40 39 4 1 false false,
 qc 41 .eql 40 5,
 qV 38 41] [2,4,7,9,20,21,22,38]
 (qd 38
 (.region [qf 42 4 3,
 ql 43 42 4 1 false false,
 qV 44 7,
 ql 45 9 9 5 true false,
 qi 46 43 44 6,
 qf 47 46 1,
 oZ (.store (tU 47) .heap (tV 45) 5)] [2,4,20,21,22])
 (qr [qV 49 7,
 qc 50 .eql 49 0,
 qV 48 50] [2,4,9,20,21,22,48]
 (qd 48
 (.region [ql 51 9 9 5 true false,
 qf 52 4 4,
 qS 52 4 51 5] [2,4,20,21,22])
 (.region [ql 36 9 9 5 true false,
 qf 37 4 9,
 qS 37 4 36 5] [2,4,20,21,22]))))))))))
 (.region [qc 53 .add 22 1,
 qV 22 53] [2,4,20,21,22])))
def i_pt_read : IFun := ⟨true,1,
 qr [oO 1 (.box false (tV 0)),
 qa 2 qz,
 qI 3 0] [1,2]
 (qr [ql 12 1 1 2 true false,
 qk 13 n_pt_step [tV 12] false,
 qV 11 13,
 qx 14 11 0,
 qx 15 11 1,
 qy 16 11 2,
 qa 4 qz,
 qS 4 4 14 14,
 qV 5 15,
 qV 6 16] [2,4,5,6]
 (.seq (qr [qV 17 6,
 oO 18 (.un .not (tU 17))] [2,4,5,18]
 (qd 18
 (qr [oO 19 (.build qz []),
 qS 2 2 19 14,
 qI 3 6] [2,3]
 (.ret))
 (.skip)))
 (.seq (qr [qV 20 5,
 qn 21 20,
 qI 22 0] [2,4,20,21,22]
 (.block 0
 (.loop l_pt_read_0)))
 (qr [ql 54 4 4 14 true false,
 qS 2 2 54 14,
 qI 3 0] [2,3]
 (.ret))))),
 [.cell 2 14 true,.tmp 3],none,none,[(2,3,6,true)]⟩
def l_proof_Check_0 : ICode :=
 qr [qb 17 .lss 16 15] [14,15,16,17]
 (.seq (qd 17
 (.skip)
 (.exit 1))
 (.seq (.block 2
 (qr [qU 18 16,
 qi 19 14 16 14,
 qe 20 19 14 true false,
 qa 5 qz,
 qV 4 18,
 qS 5 5 20 14] [4,5,14,15,16]
 (qr [ql 21 5 5 14 true false,
 qU 22 4,
 qk 23 n_proof_right [tV 21,tV 22] false,
 oO 24 (.un .not (tU 23))] [4,14,15,16,24]
 (qd 24
 (qr [qV 25 4,
 qV 2 25,
 qI 3 14] [2,3]
 (.ret))
 (.skip)))))
 (.region [qc 26 .add 16 1,
 qV 16 26] [14,15,16])))
def i_proof_Check : IFun := ⟨true,1,
 qr [qI 2 0,
 qI 3 0] [0]
 (.seq (.block 0
 (qr [qU 7 0,
 qn 8 7,
 qc 9 .gtr 8 65536,
 qV 6 9] [0,6]
 (qd 6
 (qr [qI 2 0,
 qI 3 7] [2,3]
 (.ret))
 (qr [qU 11 0,
 qn 12 11,
 qc 13 .eql 12 0,
 qV 10 13] [0,10]
 (qd 10
 (qr [qI 2 0,
 qI 3 8] [2,3]
 (.ret))
 (.skip))))))
 (.seq (qr [qV 14 0,
 qn 15 14,
 qI 16 0] [14,15,16]
 (.block 1
 (.loop l_proof_Check_0)))
 (qr [qI 2 0,
 qI 3 0] [2,3]
 (.ret)))),
 [.tmp 2,.tmp 3],none,none,[]⟩
def i_proof_Kind : IFun := ⟨true,1,
 qr [oO 2 (.mv (.c (.str [])))] [0]
 (.seq (qr [qU 3 0,
 qc 4 .lss 3 1,
 qV 5 4,
 qh 6 0 5 false,
 qC 7 .gtr 6 12 5 false,
 qP 8 5 true 7] [0,8]
 (qd 8
 (qr [oO 2 (.mv (.c (.str [])))] [2]
 (.ret))
 (.skip)))
 (qr [qV 9 0,
 oO 10 (.iaddrA (.g 1) (tU 9) 13 3),
 qf 11 10 0,
 oO 12 (.load (tU 11) .heap 1 false false),
 qV 2 12] [2]
 (.ret))),
 [.tmp 2],none,none,[]⟩
def i_pt_number : IFun := ⟨true,1,
 qr [qa 2 [.str [],.list [] .nil]] [0,2]
 (qr [qV 3 0,
 qk 4 n_digits_Int [tV 3] false,
 qk 5 n_pt_atom [tV 4] false,
 qS 2 2 5 2] [2]
 (.ret)),
 [.cell 2 2 true],none,none,[]⟩
def i_pt_list : IFun := ⟨true,1,
 qr [qa 2 [.str [],.list [] .nil]] [0,2]
 (qr [qV 3 0,
 oO 4 (.build [.str [],.list [] .nil] [(1,1,.t 3 true)]),
 qS 2 2 4 2] [2]
 (.ret)),
 [.cell 2 2 true],none,none,[]⟩
def i_pt_atom : IFun := ⟨true,1,
 qr [qa 2 [.str [],.list [] .nil]] [0,2]
 (qr [qV 3 0,
 oO 4 (.build [.str [],.list [] .nil] [(0,1,.t 3 true)]),
 qS 2 2 4 2] [2]
 (.ret)),
 [.cell 2 2 true],none,none,[]⟩
def i_sr34_Kind : IFun := ⟨true,1,
 qr [oO 2 (.mv (.c (.str [])))] [0]
 (qr [oO 4 (.bslice (.str []) 0 12 [(0,.c (.str [114,101,102,108])),(1,.c (.str [115,121,109])),(2,.c (.str [116,114,97,110,115])),(3,.c (.str [99,111,110,103])),(4,.c (.str [114,117,108,101])),(5,.c (.str [102,111,108,100])),(6,.c (.str [116,111,112])),(7,.c (.str [110,111,100,101])),(8,.c (.str [109,101,101,116])),(9,.c (.str [109,111,118,101])),(10,.c (.str [115,105,110,103,108,101])),(11,.c (.str [103,105,118,101,110]))]),
 qV 3 4] [0,3]
 (.seq (qr [qU 5 0,
 qc 6 .lss 5 1,
 qV 7 6,
 qh 8 0 7 false,
 qh 9 3 7 false,
 qg 10 (.len (tU 9) .list) 7 false,
 qg 11 (.bin .gtr (tU 8) (tU 10)) 7 false,
 qP 12 7 true 11] [0,3,12]
 (qd 12
 (qr [oO 2 (.mv (.c (.str [])))] [2]
 (.ret))
 (.skip)))
 (qr [qV 13 3,
 qV 14 0,
 qc 15 .sub 14 1,
 qi 16 13 15 1,
 qe 17 16 1 false false,
 qV 2 17] [2]
 (.ret)))),
 [.tmp 2],none,none,[]⟩
def i_sb_WriteString : IFun := ⟨false,2,
 qr [qI 4 0,
 oO 5 (.mv (.c (.nili)))] [0,1]
 (qr [qU 6 0,
 qk 7 n_sb_copyCheck [tV 6] false] [0,1]
 (qr [qU 8 0,
 qV 9 0,
 oO 10 (.nilchk (tU 9)),
 qf 11 10 1,
 oO 12 (.load (tU 11) .heap 1 false true),
 qU 13 1,
 oO 14 (.append (tV 12) (tU 13) 1 5 1 false),
 oO 15 (.nilchk (tU 8)),
 qf 16 15 1,
 oZ (.store (tU 16) .heap (tV 14) 1)] [1]
 (qr [qV 17 1,
 oO 18 (.len (tU 17) .str),
 qV 4 18,
 oO 5 (.mv (.c (.nili)))] [4,5]
 (.ret)))),
 [.tmp 4,.tmp 5],none,none,[]⟩
def i_sb_WriteByte : IFun := ⟨false,2,
 qr [oO 4 (.mv (.c (.nili)))] [0,1]
 (qr [qU 5 0,
 qk 6 n_sb_copyCheck [tV 5] false] [0,1]
 (qr [qU 7 0,
 qV 8 0,
 oO 9 (.nilchk (tU 8)),
 qf 10 9 1,
 oO 11 (.load (tU 10) .heap 1 false true),
 qV 12 1,
 oO 13 (.bslice (.int .u8 0) 5 1 [(0,.t 12 true)]),
 oO 14 (.append (tV 11) (tU 13) 1 5 1 false),
 oO 15 (.nilchk (tU 7)),
 qf 16 15 1,
 oZ (.store (tU 16) .heap (tV 14) 1)] []
 (qr [oO 4 (.mv (.c (.nili)))] [4]
 (.ret)))),
 [.tmp 4],none,none,[]⟩
def i_sb_String : IFun := ⟨false,1,
 qr [oO 2 (.mv (.c (.str [])))] [0]
 (.seq (.draw [qU 3 0,
 oO 4 (.nilchk (tU 3)),
 qf 5 4 1,
 oO 6 (.load (tU 5) .heap 1 false false),
 oO 7 (.sdata (tU 6) 5),
 qU 8 0,
 oO 9 (.nilchk (tU 8)),
 qf 10 9 1,
 oO 11 (.load (tU 10) .heap 1 false false),
 qn 12 11,
 oO 13 (.ustr (tU 7) (tU 12) 5),
 qV 2 13] [0,1,2,3,4,5,6,7,8,9,10,11] [] [2])
 (.ret)),
 [.tmp 2],none,none,[]⟩
def l_sr06_count_0 : ICode :=
 .seq (qr [qU 16 7,
 qf 17 3 4,
 ql 18 17 3 1 false false,
 qn 19 18,
 qb 20 .lss 16 19,
 qV 21 20,
 qh 22 2 21 true,
 qC 23 .geq 22 0 21 true,
 qp 24 21 23 false] [1,2,3,7,24]
 (qd 24
 (.skip)
 (.exit 0)))
 (.seq (.block 1
 (.region [qf 27 3 4,
 ql 28 27 3 1 false false,
 qU 29 7,
 qi 30 28 29 5,
 qe 31 30 5 true false,
 qU 32 1,
 qc 33 .sub 32 1,
 qV 34 2,
 qk 35 n_sr06_count [tV 31,tV 33,tV 34] false,
 qV 2 35] [1,2,3,7]))
 (.region [qV 25 7,
 qc 26 .add 25 1,
 qV 7 26] [1,2,3,7]))
def i_sr06_count : IFun := ⟨true,3,
 qr [oO 3 (.box false (tV 0)),
 qI 6 0] [1,2,3]
 (.seq (qr [qU 8 1,
 qc 9 .lss 8 1,
 qV 10 9,
 qh 11 2 10 false,
 qC 12 .lss 11 1 10 false,
 qP 13 10 true 12] [1,2,3,13]
 (qd 13
 (qr [qI 6 (-1)] [6]
 (.ret))
 (.skip)))
 (qr [qV 14 2,
 qc 15 .sub 14 1,
 qV 2 15] [1,2,3]
 (.seq (qr [qI 7 0] [1,2,3,7]
 (.block 0
 (.loop l_sr06_count_0)))
 (qr [qV 36 2,
 qV 6 36] [6]
 (.ret))))),
 [.tmp 6],none,none,[]⟩
def i_pt_join : IFun := ⟨true,1,
 qr [oO 2 (.mv (.c (.str [])))] [0]
 (qr [qV 3 0,
 oO 4 (.call (.f n_ss_Join) [tV 3,.c (.str [])] false),
 qV 2 4] [2]
 (.ret)),
 [.tmp 2],none,none,[]⟩
def i_sr36_text : IFun := ⟨true,1,
 qr [oO 1 (.box false (tV 0)),
 oO 2 (.mv (.c (.str [])))] [1]
 (qr [ql 3 1 1 5 true false,
 qk 4 n_sr07_Write [tV 3] false,
 qk 5 n_sr05_Print [tV 4] false,
 qV 2 5] [2]
 (.ret)),
 [.tmp 2],none,none,[]⟩
def i_tt_leaf : IFun := ⟨true,1,
 qr [qa 2 qt] [0,2]
 (qr [qU 10 0,
 oO 11 (.call (.f n_ss_Cut) [tV 10,.c (.str [58])] false),
 qV 9 11,
 qx 12 9 0,
 qx 13 9 1,
 qy 14 9 2,
 qV 3 12,
 qV 4 13,
 qV 5 14] [0,2,3,4,5]
 (qr [qV 16 4,
 qk 17 n_tt_numeral [tV 16] false,
 qV 15 17,
 qx 18 15 0,
 qy 19 15 1,
 qV 6 18,
 qV 7 19] [0,2,3,5,6,7]
 (qr [qV 20 5,
 qV 21 20,
 qh 22 7 21 true,
 qC 23 .neq 22 6 21 true,
 qp 24 21 23 false,
 qk 25 n_tt_must [tV 24,.c (.int .i64 6)] false] [0,2,3,6,7]
 (.seq (qr [qU 26 0,
 oO 27 (.idxS (tU 26) (.c (.int .i64 0))),
 oO 28 (.bin .geq (tU 27) (.c (.int .u8 48))),
 qV 29 28,
 qH 30 0 29 true,
 qg 31 (.idxS (tU 30) (.c (.int .i64 0))) 29 true,
 qg 32 (.bin .leq (tU 31) (.c (.int .u8 57))) 29 true,
 qp 33 29 32 false] [2,3,6,7,33]
 (qd 33
 (qr [qV 34 3,
 qV 35 6,
 qV 36 7,
 qk 37 n_tt_constant [tV 34,tV 35,tV 36] false,
 qS 2 2 37 5] [2]
 (.ret))
 (.skip)))
 (qr [qU 38 3,
 oO 39 (.build qt [(0,1,.c (.int .i64 1)),(3,1,.t 38 true)]),
 qa 8 qt,
 qS 8 8 39 5] [2,3,6,7,8]
 (.seq (qr [qU 40 3,
 oO 41 (.call (.f n_ss_HasPrefix) [tV 40,.c (.str [63])] false),
 qV 42 41,
 qh 43 3 42 false,
 qg 44 (.call (.f n_ss_HasPrefix) [tV 43,.c (.str [35])] false) 42 false,
 qP 45 42 true 44] [2,3,6,7,8,45]
 (qd 45
 (qr [qf 46 8 0,
 oZ (.store (tU 46) (.loc 8) (.c (.int .i64 24)) 1)] [2,3,6,7,8]
 (.seq (qr [qU 47 3,
 oO 48 (.idxS (tU 47) (.c (.int .i64 0))),
 oO 49 (.bin .eql (tU 48) (.c (.int .u8 35)))] [2,3,6,7,8,49]
 (qd 49
 (.region [qf 50 8 0,
 oZ (.store (tU 50) (.loc 8) (.c (.int .i64 25)) 1)] [2,3,6,7,8])
 (.skip)))
 (.region [qV 51 3,
 oO 52 (.slcS (tU 51) (some (.c (.int .i64 1))) none),
 qf 53 8 3,
 qS 53 8 52 1] [2,6,7,8])))
 (.skip)))
 (qr [qf 54 8 3,
 ql 55 54 8 1 false false,
 qk 56 n_term_Name [tV 55] false,
 qk 57 n_tt_must [tV 56,.c (.int .i64 5)] false] [2,6,7,8]
 (qr [qV 58 7,
 qc 59 .eql 58 0,
 qV 60 59,
 qh 61 6 60 true,
 qg 62 (.bin .leq (tU 61) (.c (.int .u64 64))) 60 true,
 qp 63 60 62 false,
 qk 64 n_tt_must [tV 63,.c (.int .i64 2)] false] [2,6,8]
 (qr [qV 65 6,
 oO 66 (.conv .i64 (tU 65)),
 qf 67 8 1,
 qS 67 8 66 1] [2,8]
 (qr [ql 68 8 8 5 true false,
 qS 2 2 68 5] [2]
 (.ret))))))))))),
 [.cell 2 5 true],none,none,[]⟩
def i_tt_must : IFun := ⟨true,2,
 qr [qV 4 0,
 oO 5 (.un .not (tU 4))] [1,5]
 (qd 5
 (.region [qV 6 1,
 oO 7 (.build [.int .i64 0] [(0,1,.t 6 true)]),
 oO 8 (.mkiface 78 (tV 7)),
 oZ (.panic (tU 8))] [])
 (.skip)),
 [],none,none,[]⟩
def l_oi_Of_0 : ICode :=
 .seq (qr [qU 5 4,
 qc 6 .leq 5 26] [0,4,6]
 (qd 6
 (.skip)
 (.exit 0)))
 (.seq (.block 1
 (qr [qU 9 4,
 oO 10 (.iaddrA (.g 0) (tU 9) 27 1),
 oO 11 (.load (tU 10) .heap 1 false false),
 qU 12 0,
 qb 13 .eql 11 12] [0,4,13]
 (qd 13
 (qr [qV 14 4,
 qV 2 14,
 qB 3 true] [2,3]
 (.ret))
 (.skip))))
 (.region [qV 7 4,
 qc 8 .add 7 1,
 qV 4 8] [0,4]))
def i_oi_Of : IFun := ⟨true,1,
 qr [qI 2 0,
 qB 3 false] [0]
 (.seq (qr [qI 4 1] [0,4]
 (.block 0
 (.loop l_oi_Of_0)))
 (qr [qI 2 0,
 qB 3 false] [2,3]
 (.ret))),
 [.tmp 2,.tmp 3],none,none,[]⟩
def i_oi_Leaf : IFun := ⟨true,1,
 qr [qB 2 false] [0]
 (qr [qV 3 0,
 qk 4 n_oi_Arity [tV 3] false,
 qc 5 .eql 4 0,
 qV 2 5] [2]
 (.ret)),
 [.tmp 2],none,none,[]⟩
def i_oi_Arity : IFun := ⟨true,1,
 qr [qI 2 0] [0]
 (qr [qI 3 0] [0,3]
 (.seq (qr [qV 4 0] [3,4]
 (.block 0
 (.seq (.block 4
 (.seq (.block 3
 (.seq (.block 2
 (.seq (.block 1
 (.seq (.seq (qr [qc 6 .eql 4 19,
 qV 5 6] [3,4,5]
 (qd 5
 (.exit 1)
 (.skip)))
 (.seq (.seq (qr [qc 8 .eql 4 5,
 qV 7 8] [3,4,7]
 (qd 7
 (.skip)
 (qr [qc 9 .eql 4 6,
 qV 7 9] [3,4,7]
 (qd 7
 (.skip)
 (qr [qc 10 .eql 4 7,
 qV 7 10] [3,4,7]
 (qd 7
 (.skip)
 (qr [qc 11 .eql 4 8,
 qV 7 11] [3,4,7]
 (qd 7
 (.skip)
 (qr [qc 12 .eql 4 9,
 qV 7 12] [3,4,7]
 (qd 7
 (.skip)
 (qr [qc 13 .eql 4 10,
 qV 7 13] [3,4,7]
 (qd 7
 (.skip)
 (qr [qc 14 .eql 4 11,
 qV 7 14] [3,4,7]
 (qd 7
 (.skip)
 (qr [qc 15 .eql 4 12,
 qV 7 15] [3,4,7]
 (qd 7
 (.skip)
 (qr [qc 16 .eql 4 13,
 qV 7 16] [3,4,7]
 (qd 7
 (.skip)
 (qr [qc 17 .eql 4 14,
 qV 7 17] [3,4,7]
 (qd 7
 (.skip)
 (qr [qc 18 .eql 4 15,
 qV 7 18] [3,4,7]
 (qd 7
 (.skip)
 (qr [qc 19 .eql 4 16,
 qV 7 19] [3,4,7]
 (qd 7
 (.skip)
 (qr [qc 20 .eql 4 17,
 qV 7 20] [3,4,7]
 (qd 7
 (.skip)
 (qr [qc 21 .eql 4 18,
 qV 7 21] [3,4,7]
 (qd 7
 (.skip)
 (.region [qc 22 .eql 4 20,
 qV 7 22] [3,4,7])))))))))))))))))))))))))))))
 (qd 7
 (.exit 2)
 (.skip)))
 (.seq (.seq (qr [qc 24 .eql 4 3,
 qV 23 24] [3,4,23]
 (qd 23
 (.skip)
 (qr [qc 25 .eql 4 4,
 qV 23 25] [3,4,23]
 (qd 23
 (.skip)
 (qr [qc 26 .eql 4 21,
 qV 23 26] [3,4,23]
 (qd 23
 (.skip)
 (qr [qc 27 .eql 4 22,
 qV 23 27] [3,4,23]
 (qd 23
 (.skip)
 (qr [qc 28 .eql 4 23,
 qV 23 28] [3,4,23]
 (qd 23
 (.skip)
 (.region [qc 29 .eql 4 26,
 qV 23 29] [3,4,23])))))))))))
 (qd 23
 (.exit 3)
 (.skip)))
 (.seq (qr [qc 31 .eql 4 1,
 qV 30 31] [3,4,30]
 (qd 30
 (.skip)
 (qr [qc 32 .eql 4 2,
 qV 30 32] [3,4,30]
 (qd 30
 (.skip)
 (qr [qc 33 .eql 4 24,
 qV 30 33] [3,4,30]
 (qd 30
 (.skip)
 (.region [qc 34 .eql 4 25,
 qV 30 34] [3,30])))))))
 (qd 30
 (.exit 4)
 (.skip))))))
 (.exit 0)))
 (.region [qV 35 3,
 qc 36 .add 35 1,
 qV 3 36] [3])))
 (.region [qV 37 3,
 qc 38 .add 37 1,
 qV 3 38] [3])))
 (.region [qV 39 3,
 qc 40 .add 39 1,
 qV 3 40] [3])))
 (.seq (qr [qV 41 3,
 qV 2 41] [2]
 (.ret))
 (.exit 0)))))
 (qr [qI 2 (-1)] [2]
 (.ret)))),
 [.tmp 2],none,none,[]⟩
def i_tt_number : IFun := ⟨true,2,
 qr [oO 2 (.box false (tV 0)),
 oO 4 (.mv (.c (.int .u64 0)))] [1,2]
 (qr [qf 7 2 0,
 ql 8 7 2 1 false false,
 oO 9 (.bin .neq (tU 8) (.c (.str []))),
 qk 10 n_tt_must [tV 9,.c (.int .i64 6)] false] [1,2]
 (qr [qf 12 2 0,
 ql 13 12 2 1 false false,
 qk 14 n_tt_numeral [tV 13] false,
 qV 11 14,
 qx 15 11 0,
 qy 16 11 1,
 qV 5 15,
 qV 6 16] [1,5,6]
 (qr [qU 17 6,
 qc 18 .neq 17 6,
 qk 19 n_tt_must [tV 18,.c (.int .i64 6)] false] [1,5,6]
 (qr [qV 20 6,
 qc 21 .eql 20 0,
 qV 22 21,
 qh 23 5 22 true,
 qH 24 1 22 true,
 qg 25 (.bin .leq (tU 23) (tU 24)) 22 true,
 qp 26 22 25 false,
 qk 27 n_tt_must [tV 26,.c (.int .i64 2)] false] [5]
 (qr [qV 28 5,
 qV 4 28] [4]
 (.ret)))))),
 [.tmp 4],none,none,[]⟩
def l_oi_Width_0 : ICode :=
 qr [qb 25 .lss 24 23] [0,1,2,3,22,23,24,25]
 (.seq (qd 25
 (.skip)
 (.exit 0))
 (.seq (.block 1
 (qr [qi 26 22 24 1,
 qe 27 26 1 false false,
 qV 11 27] [0,1,2,3,11,22,23,24]
 (qr [qV 28 11,
 qk 29 n_oi_inside [tV 28] false,
 oO 30 (.un .not (tU 29))] [0,1,2,3,22,23,24,30]
 (qd 30
 (qr [qI 8 0,
 qI 9 3] [8,9]
 (.ret))
 (.skip)))))
 (.region [qc 31 .add 24 1,
 qV 24 31] [0,1,2,3,22,23,24])))
def i_oi_Width : IFun := ⟨true,4,
 qr [qI 8 0,
 qI 9 0] [0,1,2,3]
 (.seq (qr [qU 12 0,
 qk 13 n_oi_known [tV 12] false,
 oO 14 (.un .not (tU 13)),
 qV 15 14,
 qh 16 3 15 false,
 qg 17 (.len (tU 16) .list) 15 false,
 qh 18 0 15 false,
 qg 19 (.call (.f n_oi_Arity) [tV 18] false) 15 false,
 qg 20 (.bin .neq (tU 17) (tU 19)) 15 false,
 qP 21 15 true 20] [0,1,2,3,21]
 (qd 21
 (qr [qI 8 0,
 qI 9 4] [8,9]
 (.ret))
 (.skip)))
 (.seq (qr [qU 22 3,
 qn 23 22,
 qI 24 0] [0,1,2,3,22,23,24]
 (.block 0
 (.loop l_oi_Width_0)))
 (.seq (qr [qU 32 0] [0,1,2,3,32]
 (.block 2
 (.seq (qr [qc 34 .eql 32 1,
 qV 33 34] [0,1,2,3,32,33]
 (qd 33
 (.skip)
 (qr [qc 35 .eql 32 2,
 qV 33 35] [0,1,2,3,32,33]
 (qd 33
 (.skip)
 (qr [qc 36 .eql 32 24,
 qV 33 36] [0,1,2,3,32,33]
 (qd 33
 (.skip)
 (.region [qc 37 .eql 32 25,
 qV 33 37] [0,1,2,3,32,33])))))))
 (qd 33
 (qr [qV 38 0,
 qV 39 1,
 qV 40 2,
 qk 41 n_oi_leaf [tV 38,tV 39,tV 40] false,
 qx 42 41 0,
 qy 43 41 1,
 qV 8 42,
 qV 9 43] [8,9]
 (.ret))
 (.seq (qr [qc 45 .eql 32 3,
 qV 44 45] [0,1,2,3,32,44]
 (qd 44
 (.skip)
 (qr [qc 46 .eql 32 4,
 qV 44 46] [0,1,2,3,32,44]
 (qd 44
 (.skip)
 (.region [qc 47 .eql 32 26,
 qV 44 47] [0,1,2,3,32,44])))))
 (qd 44
 (qr [qV 48 3,
 oO 49 (.iaddrL (tU 48) (.c (.int .i64 0)) 1),
 qe 50 49 1 false false,
 qV 8 50,
 qI 9 0] [8,9]
 (.ret))
 (.seq (qr [qc 52 .eql 32 21,
 qV 51 52] [0,1,2,3,32,51]
 (qd 51
 (.skip)
 (qr [qc 53 .eql 32 22,
 qV 51 53] [0,1,2,3,32,51]
 (qd 51
 (.skip)
 (.region [qc 54 .eql 32 23,
 qV 51 54] [0,1,2,3,32,51])))))
 (qd 51
 (qr [qV 55 0,
 qV 56 1,
 qV 57 2,
 qV 58 3,
 oO 59 (.iaddrL (tU 58) (.c (.int .i64 0)) 1),
 qe 60 59 1 false false,
 qk 61 n_oi_resized [tV 55,tV 56,tV 57,tV 60] false,
 qx 62 61 0,
 qy 63 61 1,
 qV 8 62,
 qV 9 63] [8,9]
 (.ret))
 (qr [qc 65 .eql 32 19,
 qV 64 65] [3,32,64]
 (qd 64
 (.seq (.draw [qU 66 3,
 oO 67 (.iaddrL (tU 66) (.c (.int .i64 0)) 1),
 qe 68 67 1 false false,
 qc 69 .eql 68 1,
 qV 70 69,
 qh 71 3 70 true,
 qg 72 (.iaddrL (tU 71) (.c (.int .i64 1)) 1) 70 true,
 qE 73 72 1 false false 70 true,
 qh 74 3 70 true,
 qg 75 (.iaddrL (tU 74) (.c (.int .i64 2)) 1) 70 true,
 qE 76 75 1 false false 70 true,
 qg 77 (.bin .eql (tU 73) (tU 76)) 70 true,
 qp 78 70 77 false,
 qU 79 3,
 oO 80 (.iaddrL (tU 79) (.c (.int .i64 1)) 1),
 qe 81 80 1 false false,
 qk 82 n_oi_agreed [tV 78,tV 81] true,
 qx 83 82 0,
 qx 84 82 1,
 qV 8 83,
 qV 9 84] [0,1,2,3,4,5,6,7,8,9,10,11,12,13,14,15,16,17,18,19,20] [16] [8,9])
 (.ret))
 (qr [qc 86 .eql 32 20,
 qV 85 86] [3,32,85]
 (qd 85
 (.seq (.draw [qU 87 3,
 oO 88 (.iaddrL (tU 87) (.c (.int .i64 0)) 1),
 qe 89 88 1 false false,
 qc 90 .geq 89 1,
 qV 91 90,
 qh 92 3 91 true,
 qg 93 (.iaddrL (tU 92) (.c (.int .i64 1)) 1) 91 true,
 qE 94 93 1 false false 91 true,
 qC 95 .geq 94 1 91 true,
 qp 96 91 95 false,
 qV 97 96,
 qh 98 3 97 true,
 qg 99 (.iaddrL (tU 98) (.c (.int .i64 0)) 1) 97 true,
 qE 100 99 1 false false 97 true,
 qh 101 3 97 true,
 qg 102 (.iaddrL (tU 101) (.c (.int .i64 1)) 1) 97 true,
 qE 103 102 1 false false 97 true,
 qg 104 (.bin .add (tU 100) (tU 103)) 97 true,
 qC 105 .leq 104 64 97 true,
 qp 106 97 105 false,
 qU 107 3,
 oO 108 (.iaddrL (tU 107) (.c (.int .i64 0)) 1),
 qe 109 108 1 false false,
 qU 110 3,
 oO 111 (.iaddrL (tU 110) (.c (.int .i64 1)) 1),
 qe 112 111 1 false false,
 qb 113 .add 109 112,
 qk 114 n_oi_agreed [tV 106,tV 113] true,
 qx 115 114 0,
 qx 116 114 1,
 qV 8 115,
 qV 9 116] [0,1,2,3,4,5,6,7,8,9,10,11,12,13,14,15,16,17,18,19,20,21,22,23,24,25,26,27,28,29,30,31] [27] [8,9])
 (.ret))
 (.seq (qr [qc 118 .eql 32 16,
 qV 117 118] [3,32,117]
 (qd 117
 (.skip)
 (qr [qc 119 .eql 32 17,
 qV 117 119] [3,32,117]
 (qd 117
 (.skip)
 (.region [qc 120 .eql 32 18,
 qV 117 120] [3,117])))))
 (qd 117
 (.seq (.draw [qU 121 3,
 oO 122 (.iaddrL (tU 121) (.c (.int .i64 0)) 1),
 qe 123 122 1 false false,
 qU 124 3,
 oO 125 (.iaddrL (tU 124) (.c (.int .i64 1)) 1),
 qe 126 125 1 false false,
 qb 127 .eql 123 126,
 qk 128 n_oi_agreed [tV 127,.c (.int .i64 1)] true,
 qx 129 128 0,
 qx 130 128 1,
 qV 8 129,
 qV 9 130] [0,1,2,3,4,5,6,7,8,9,10,11] [7] [8,9])
 (.ret))
 (.skip)))))))))))))))
 (.seq (.draw [qU 131 3,
 oO 132 (.iaddrL (tU 131) (.c (.int .i64 0)) 1),
 qe 133 132 1 false false,
 qU 134 3,
 oO 135 (.iaddrL (tU 134) (.c (.int .i64 1)) 1),
 qe 136 135 1 false false,
 qb 137 .eql 133 136,
 qU 138 3,
 oO 139 (.iaddrL (tU 138) (.c (.int .i64 0)) 1),
 qe 140 139 1 false false,
 qk 141 n_oi_agreed [tV 137,tV 140] true,
 qx 142 141 0,
 qx 143 141 1,
 qV 8 142,
 qV 9 143] [0,1,2,3,4,5,6,7,8,9,10,11,12,13,14] [10] [8,9])
 (.ret))))),
 [.tmp 8,.tmp 9],none,none,[]⟩
def i_tt_fail : IFun := ⟨true,1,
 qr [qU 2 0,
 qc 3 .neq 2 0] [0,3]
 (qd 3
 (.region [qV 4 0,
 oO 5 (.build [.int .i64 0] [(0,1,.t 4 true)]),
 oO 6 (.mkiface 78 (tV 5)),
 oZ (.panic (tU 6))] [])
 (.skip)),
 [],none,none,[]⟩
def l_sr07_Name_0 : ICode :=
 .seq (qr [qU 23 3,
 qU 24 0,
 oO 25 (.len (tU 24) .str),
 qb 26 .lss 23 25] [0,3,26]
 (qd 26
 (.skip)
 (.exit 0)))
 (.seq (.block 1
 (qr [qU 29 0,
 qU 30 3,
 oO 31 (.idxS (tU 29) (tU 30)),
 qV 4 31] [0,3,4]
 (qr [qU 32 4,
 oO 33 (.bin .geq (tU 32) (.c (.int .u8 97))),
 qV 34 33,
 qh 35 4 34 true,
 qg 36 (.bin .leq (tU 35) (.c (.int .u8 122))) 34 true,
 qp 37 34 36 false,
 oO 38 (.un .not (tU 37)),
 qV 39 38,
 qh 40 4 39 true,
 qg 41 (.bin .geq (tU 40) (.c (.int .u8 48))) 39 true,
 qH 42 41 39 true,
 qh 43 4 42 true,
 qg 44 (.bin .leq (tU 43) (.c (.int .u8 57))) 42 true,
 qg 45 (.pick (tU 42) (tU 44) (.c (.bool false))) 39 true,
 qg 46 (.un .not (tU 45)) 39 true,
 qp 47 39 46 false,
 qV 48 47,
 qH 49 4 48 true,
 qg 50 (.bin .neq (tU 49) (.c (.int .u8 95))) 48 true,
 qp 51 48 50 false] [0,3,51]
 (qd 51
 (qr [qB 2 false] [2]
 (.ret))
 (.skip)))))
 (.region [qV 27 3,
 qc 28 .add 27 1,
 qV 3 28] [0,3]))
def i_sr07_Name : IFun := ⟨true,1,
 qr [qB 2 false] [0]
 (.seq (qr [qU 5 0,
 oO 6 (.len (tU 5) .str),
 qc 7 .lss 6 1,
 qV 8 7,
 qh 9 0 8 false,
 qg 10 (.len (tU 9) .str) 8 false,
 qC 11 .gtr 10 16 8 false,
 qP 12 8 true 11,
 qV 13 12,
 qh 14 0 13 false,
 qg 15 (.idxS (tU 14) (.c (.int .i64 0))) 13 false,
 qg 16 (.bin .lss (tU 15) (.c (.int .u8 97))) 13 false,
 qP 17 13 true 16,
 qV 18 17,
 qh 19 0 18 false,
 qg 20 (.idxS (tU 19) (.c (.int .i64 0))) 18 false,
 qg 21 (.bin .gtr (tU 20) (.c (.int .u8 122))) 18 false,
 qP 22 18 true 21] [0,22]
 (qd 22
 (qr [qB 2 false] [2]
 (.ret))
 (.skip)))
 (.seq (qr [qI 3 0] [0,3]
 (.block 0
 (.loop l_sr07_Name_0)))
 (qr [qB 2 true] [2]
 (.ret)))),
 [.tmp 2],none,none,[]⟩
def l_sr04_Is_0 : ICode :=
 qr [qb 9 .lss 8 7] [0,1,7,8,9]
 (.seq (qd 9
 (.skip)
 (.exit 0))
 (.seq (.block 1
 (qr [qU 10 8,
 qV 5 10] [0,1,5,7,8]
 (qr [qU 11 1,
 qV 12 5,
 qi 13 11 12 1,
 qe 14 13 1 false false,
 qU 15 0,
 qb 16 .eql 14 15] [0,1,7,8,16]
 (qd 16
 (qr [qB 4 true] [4]
 (.ret))
 (.skip)))))
 (.region [qc 17 .add 8 1,
 qV 8 17] [0,1,7,8])))
def i_sr04_Is : IFun := ⟨true,2,
 qr [qB 4 false] [0,1]
 (.seq (qr [qU 6 1,
 qn 7 6,
 qI 8 0] [0,1,7,8]
 (.block 0
 (.loop l_sr04_Is_0)))
 (qr [qB 4 false] [4]
 (.ret))),
 [.tmp 4],none,none,[]⟩
def l_sx_all_0 : ICode :=
 .seq (qr [qU 16 6,
 oO 17 (.nilchk (tU 16)),
 qf 18 17 1,
 oO 19 (.load (tU 18) .heap 1 false false),
 qU 20 0,
 oO 21 (.len (tU 20) .str),
 qb 22 .lss 19 21] [0,2,3,4,5,6,22]
 (qd 22
 (.skip)
 (.exit 0)))
 (.seq (.block 1
 (.seq (.draw [ql 25 3 3 1 false true,
 qU 26 6,
 oO 27 (.nilchk (tU 26)),
 qf 28 27 1,
 oO 29 (.load (tU 28) .heap 1 false false),
 oO 30 (.bslice (.int .i64 0) 0 1 [(0,.t 29 true)]),
 oO 31 (.append (tV 25) (tU 30) 1 0 8 false),
 qS 3 3 31 1] [0,1,2,3,4,5,6,7] [] [0,2,3,4,5,6])
 (.draw [ql 32 2 2 1 false true,
 qU 33 6,
 qk 34 n_sp_expression [tV 33,.c (.int .i64 0)] false,
 qn 35 32,
 oO 36 (.bslice (.agg [.str [],.list [] .nil]) 0 1 [(0,.c (.agg [.str [],.list [] .nil]))]),
 oO 37 (.append (tV 32) (tU 36) 2 0 40 true),
 qi 38 37 35 2,
 oZ (.store (tU 38) (.last 37) (tV 34) 2),
 qS 2 2 37 1] [0,1,3,4,2,5,6,7,8] [2] [0,2,3,4,5,6])))
 (.region [qU 23 6,
 qk 24 n_sp_skip [tV 23] false] [0,2,3,4,5,6]))
def i_sx_all : IFun := ⟨true,1,
 qr [qa 2 [.list [] .nil],
 qa 3 [.list [] .nil],
 qa 4 [.int .i64 0],
 qa 5 [.int .i64 0]] [0,2,3,4,5]
 (.seq (qr [qU 7 0,
 oO 8 (.len (tU 7) .str),
 qc 9 .gtr 8 65536] [0,2,3,4,5,9]
 (qd 9
 (qr [oZ (.store (tU 2) (.loc 2) (.c (.list [] .nil)) 1),
 oZ (.store (tU 3) (.loc 3) (.c (.list [] .nil)) 1),
 oZ (.store (tU 4) (.loc 4) (.c (.int .i64 0)) 1),
 oZ (.store (tU 5) (.loc 5) (.c (.int .i64 7)) 1)] [2,3,4,5]
 (.ret))
 (.skip)))
 (.skip)),
 [.cell 2 1 false,.cell 3 1 false,.cell 4 1 false,.cell 5 1 false],none,some ⟨n_sx_all_1,[2,3,4,5],10,
 qr [qU 11 0,
 oO 12 (.build [.str [],.int .i64 0,.list [] .nil] [(0,1,.t 11 true)]),
 oO 13 (.box true (tV 12)),
 qV 6 13] [0,2,3,4,5,6]
 (.seq (qr [qU 14 6,
 qk 15 n_sp_skip [tV 14] false] [0,2,3,4,5,6]
 (.block 0
 (.loop l_sx_all_0)))
 (.seq (.draw [ql 39 2 2 1 false false,
 ql 40 3 3 1 false false,
 qS 2 2 39 1,
 qS 3 3 40 1,
 oZ (.store (tU 4) (.loc 4) (.c (.int .i64 0)) 1),
 oZ (.store (tU 5) (.loc 5) (.c (.int .i64 0)) 1)] [0,1,2,3,4,5] [] [2,3,4,5])
 (.ret)))⟩,[]⟩
def l_sr02_write_0 : ICode :=
 .seq (qr [qU 14 0,
 qU 15 1,
 qb 16 .geq 14 15] [0,1,5,16]
 (qd 16
 (.skip)
 (.exit 0)))
 (.block 1
 (qr [qV 17 0,
 qU 18 1,
 qb 19 .quo 17 18,
 qV 0 19] [0,1,5]
 (.draw [qU 20 0,
 qU 21 1,
 qb 22 .rem 20 21,
 qU 23 0,
 qU 24 1,
 qb 25 .rem 23 24,
 oO 26 (.bin .add (tU 25) (.c (.int .u64 1))),
 oO 27 (.slcS (.c (.str [48,49,50,51,52,53,54,55,56,57,97,98,99,100,101,102])) (some (tU 22)) (some (tU 26))),
 qV 28 5,
 qb 29 .add 27 28,
 qV 5 29] [0,1,2,3,4,5,6,7,8,9,10] [] [0,1,5])))
def i_sr02_write : IFun := ⟨true,2,
 qr [oO 4 (.mv (.c (.str [])))] [0,1]
 (.seq (.draw [qU 6 0,
 qU 7 1,
 qb 8 .rem 6 7,
 qU 9 0,
 qU 10 1,
 qb 11 .rem 9 10,
 oO 12 (.bin .add (tU 11) (.c (.int .u64 1))),
 oO 13 (.slcS (.c (.str [48,49,50,51,52,53,54,55,56,57,97,98,99,100,101,102])) (some (tU 8)) (some (tU 12))),
 qV 5 13] [0,1,2,3,4,5,6,7,8] [] [0,1,5])
 (.seq (.block 0
 (.loop l_sr02_write_0))
 (qr [qV 30 5,
 qV 4 30] [4]
 (.ret)))),
 [.tmp 4],none,none,[]⟩
def l_term_Name_0 : ICode :=
 qr [qb 26 .lss 25 24] [0,24,25,26]
 (.seq (qd 26
 (.skip)
 (.exit 0))
 (.seq (.block 1
 (qr [qU 27 25,
 qV 3 27] [0,3,24,25]
 (qr [qU 28 0,
 qV 29 3,
 oO 30 (.idxS (tU 28) (tU 29)),
 qV 4 30] [0,4,24,25]
 (qr [qU 31 4,
 oO 32 (.bin .lss (tU 31) (.c (.int .u8 97))),
 qV 33 32,
 qh 34 4 33 false,
 qg 35 (.bin .gtr (tU 34) (.c (.int .u8 122))) 33 false,
 qP 36 33 true 35,
 qV 37 36,
 qh 38 4 37 true,
 qg 39 (.bin .lss (tU 38) (.c (.int .u8 48))) 37 true,
 qH 40 39 37 true,
 qh 41 4 40 false,
 qg 42 (.bin .gtr (tU 41) (.c (.int .u8 57))) 40 false,
 qg 43 (.pick (tU 40) (.c (.bool true)) (tU 42)) 37 true,
 qp 44 37 43 false,
 qV 45 44,
 qH 46 4 45 true,
 qg 47 (.bin .neq (tU 46) (.c (.int .u8 95))) 45 true,
 qp 48 45 47 false] [0,24,25,48]
 (qd 48
 (qr [qB 2 false] [2]
 (.ret))
 (.skip))))))
 (.region [qc 49 .add 25 1,
 qV 25 49] [0,24,25])))
def i_term_Name : IFun := ⟨true,1,
 qr [qB 2 false] [0]
 (.seq (qr [qU 5 0,
 oO 6 (.len (tU 5) .str),
 qc 7 .lss 6 1,
 qV 8 7,
 qh 9 0 8 false,
 qg 10 (.len (tU 9) .str) 8 false,
 qC 11 .gtr 10 16 8 false,
 qP 12 8 true 11,
 qV 13 12,
 qh 14 0 13 false,
 qg 15 (.idxS (tU 14) (.c (.int .i64 0))) 13 false,
 qg 16 (.bin .lss (tU 15) (.c (.int .u8 97))) 13 false,
 qP 17 13 true 16,
 qV 18 17,
 qh 19 0 18 false,
 qg 20 (.idxS (tU 19) (.c (.int .i64 0))) 18 false,
 qg 21 (.bin .gtr (tU 20) (.c (.int .u8 122))) 18 false,
 qP 22 18 true 21] [0,22]
 (qd 22
 (qr [qB 2 false] [2]
 (.ret))
 (.skip)))
 (.seq (qr [qU 23 0,
 oO 24 (.len (tU 23) .str),
 qI 25 0] [0,24,25]
 (.block 0
 (.loop l_term_Name_0)))
 (qr [qB 2 true] [2]
 (.ret)))),
 [.tmp 2],none,none,[]⟩
def i_sc_Itoa : IFun := ⟨true,1,
 qr [oO 2 (.mv (.c (.str [])))] [0]
 (qr [qV 3 0,
 qk 4 n_isc_Itoa [tV 3] false,
 qV 2 4] [2]
 (.ret)),
 [.tmp 2],none,none,[]⟩
def i_sc_FormatUint : IFun := ⟨true,2,
 qr [oO 4 (.mv (.c (.str [])))] [0,1]
 (qr [qV 5 0,
 qV 6 1,
 qk 7 n_isc_FormatUint [tV 5,tV 6] false,
 qV 4 7] [4]
 (.ret)),
 [.tmp 4],none,none,[]⟩
def i_oi_known : IFun := ⟨true,1,
 qr [qB 2 false] [0]
 (qr [qU 3 0,
 qc 4 .geq 3 1,
 qV 5 4,
 qH 6 0 5 true,
 qC 7 .leq 6 26 5 true,
 qp 8 5 7 false,
 qV 2 8] [2]
 (.ret)),
 [.tmp 2],none,none,[]⟩
def l_sx_write_0 : ICode :=
 qr [qb 19 .lss 18 17] [0,16,17,18,19]
 (.seq (qd 19
 (.skip)
 (.exit 0))
 (.seq (.block 1
 (qr [qU 20 18,
 qi 21 16 18 2,
 qe 22 21 2 true false,
 qa 5 [.str [],.list [] .nil],
 qV 4 20,
 qS 5 5 22 2] [0,4,5,16,17,18]
 (.seq (qr [qV 23 4,
 qc 24 .gtr 23 0] [0,5,16,17,18,24]
 (qd 24
 (.region [qU 25 0,
 qk 26 n_sb_WriteByte [tV 25,.c (.int .u8 32)] false] [0,5,16,17,18])
 (.skip)))
 (.region [qU 27 0,
 ql 28 5 5 2 true false,
 qk 29 n_sx_write [tV 27,tV 28] false] [0,16,17,18]))))
 (.region [qc 30 .add 18 1,
 qV 18 30] [0,16,17,18])))
def i_sx_write : IFun := ⟨false,2,
 qr [oO 3 (.box false (tV 1))] [0,3]
 (.seq (qr [qf 6 3 0,
 ql 7 6 3 1 false false,
 oO 8 (.bin .neq (tU 7) (.c (.str [])))] [0,3,8]
 (qd 8
 (qr [qV 9 0,
 qf 10 3 0,
 ql 11 10 3 1 false false,
 qk 12 n_sb_WriteString [tV 9,tV 11] false] []
 (.ret))
 (.skip)))
 (qr [qU 13 0,
 qk 14 n_sb_WriteByte [tV 13,.c (.int .u8 40)] false] [0,3]
 (.seq (qr [qf 15 3 1,
 ql 16 15 3 1 false false,
 qn 17 16,
 qI 18 0] [0,16,17,18]
 (.block 0
 (.loop l_sx_write_0)))
 (.region [qV 31 0,
 qk 32 n_sb_WriteByte [tV 31,.c (.int .u8 41)] false] [])))),
 [],none,none,[]⟩
def l_pt_step_0 : ICode :=
 qr [qb 50 .lss 49 48] [1,2,5,47,48,49,50]
 (.seq (qd 50
 (.skip)
 (.exit 0))
 (.seq (.block 1
 (qr [qi 51 47 49 2,
 qe 52 51 2 true false,
 qa 7 [.str [],.list [] .nil],
 qS 7 7 52 2] [1,2,5,7,47,48,49]
 (qr [ql 54 7 7 2 true false,
 qk 55 n_pt_integer [tV 54] false,
 qV 53 55,
 qx 56 53 0,
 qy 57 53 1,
 qV 8 56,
 qV 9 57] [1,2,5,8,9,47,48,49]
 (.seq (qr [qV 58 9,
 oO 59 (.un .not (tU 58))] [1,2,5,8,47,48,49,59]
 (qd 59
 (qr [ql 60 5 5 14 true false,
 qS 2 2 60 14,
 oO 3 (.mv (.c (.list [] .nil))),
 qB 4 false] [2,3,4]
 (.ret))
 (.skip)))
 (.region [qf 61 5 1,
 ql 62 61 5 1 false true,
 qV 63 8,
 oO 64 (.bslice (.int .i64 0) 0 1 [(0,.t 63 true)]),
 oO 65 (.append (tV 62) (tU 64) 1 0 8 false),
 qf 66 5 1,
 qS 66 5 65 1] [1,2,5,47,48,49])))))
 (.region [qc 67 .add 49 1,
 qV 49 67] [1,2,5,47,48,49])))
def i_pt_step : IFun := ⟨false,1,
 qr [oO 1 (.box false (tV 0)),
 qa 2 qz,
 oO 3 (.mv (.c (.list [] .nil))),
 qB 4 false] [1,2]
 (qr [qa 5 qz] [1,2,5]
 (.seq (qr [qf 14 1 0,
 ql 15 14 1 1 false false,
 oO 16 (.bin .neq (tU 15) (.c (.str []))),
 qV 17 16,
 qF 18 1 1 17 false,
 qL 19 18 1 1 false false 17 false,
 qg 20 (.len (tU 19) .list) 17 false,
 qC 21 .lss 20 2 17 false,
 qP 22 17 true 21,
 qV 23 22,
 qF 24 1 1 23 false,
 qL 25 24 1 1 false false 23 false,
 qg 26 (.iaddrL (tU 25) (.c (.int .i64 1)) 2) 23 false,
 qF 27 26 0 23 false,
 qE 28 27 1 false false 23 false,
 qg 29 (.bin .neq (tU 28) (.c (.str []))) 23 false,
 qP 30 23 true 29] [1,2,5,30]
 (qd 30
 (qr [ql 31 5 5 14 true false,
 qS 2 2 31 14,
 oO 3 (.mv (.c (.list [] .nil))),
 qB 4 false] [2,3,4]
 (.ret))
 (.skip)))
 (.seq (qr [qf 32 1 1,
 ql 33 32 1 1 false false,
 oO 34 (.iaddrL (tU 33) (.c (.int .i64 0)) 2),
 qf 35 34 0,
 qe 36 35 1 false false,
 qk 37 n_pt_kind [tV 36] false,
 qf 38 5 0,
 qS 38 5 37 1] [1,2,5]
 (qr [qf 39 5 0,
 ql 40 39 5 1 false false,
 qc 41 .eql 40 0] [1,2,5,41]
 (qd 41
 (qr [ql 42 5 5 14 true false,
 qS 2 2 42 14,
 oO 3 (.mv (.c (.list [] .nil))),
 qB 4 false] [2,3,4]
 (.ret))
 (.skip))))
 (.seq (qr [qf 43 1 1,
 ql 44 43 1 1 false false,
 oO 45 (.iaddrL (tU 44) (.c (.int .i64 1)) 2),
 qf 46 45 1,
 qe 47 46 1 false false,
 qn 48 47,
 qI 49 0] [1,2,5,47,48,49]
 (.block 0
 (.loop l_pt_step_0)))
 (qr [qf 68 1 1,
 ql 69 68 1 1 false false,
 oO 70 (.slcL (tU 69) (some (.c (.int .i64 2))) none 2),
 qV 10 70] [2,5,10]
 (qr [qI 11 0] [2,5,10,11]
 (.seq (qr [qf 71 5 0,
 ql 72 71 5 1 false false] [2,5,10,11,72]
 (.block 2
 (.seq (qr [qc 74 .eql 72 5,
 qV 73 74] [2,5,10,11,72,73]
 (qd 73
 (.skip)
 (.region [qc 75 .eql 72 4,
 qV 73 75] [2,5,10,11,72,73])))
 (qd 73
 (.region [qI 11 2] [2,5,10,11])
 (.seq (qr [qc 77 .eql 72 12,
 qV 76 77] [2,5,10,11,72,76]
 (qd 76
 (.skip)
 (qr [qc 78 .eql 72 1,
 qV 76 78] [2,5,10,11,72,76]
 (qd 76
 (.skip)
 (qr [qc 79 .eql 72 6,
 qV 76 79] [2,5,10,11,72,76]
 (qd 76
 (.skip)
 (qr [qc 80 .eql 72 7,
 qV 76 80] [2,5,10,11,72,76]
 (qd 76
 (.skip)
 (.region [qc 81 .eql 72 8,
 qV 76 81] [2,5,10,11,76])))))))))
 (qd 76
 (.region [qI 11 1] [2,5,10,11])
 (.skip)))))))
 (.seq (qr [qU 82 10,
 qn 83 82,
 qV 84 11,
 qb 85 .neq 83 84] [2,5,10,85]
 (qd 85
 (qr [ql 86 5 5 14 true false,
 qS 2 2 86 14,
 oO 3 (.mv (.c (.list [] .nil))),
 qB 4 false] [2,3,4]
 (.ret))
 (.skip)))
 (qr [qB 12 true] [2,5,10]
 (.seq (qr [qf 87 5 0,
 ql 88 87 5 1 false false] [2,5,10,88]
 (.block 3
 (qr [qc 90 .eql 88 12,
 qV 89 90] [2,5,10,88,89]
 (qd 89
 (qr [qV 92 10,
 oO 93 (.iaddrL (tU 92) (.c (.int .i64 0)) 2),
 qe 94 93 2 true false,
 qk 95 n_pt_integer [tV 94] false,
 qV 91 95,
 qx 96 91 0,
 qy 97 91 1,
 qf 98 5 2,
 qS 98 5 96 1,
 qV 12 97] [2,5,12]
 (qr [ql 99 5 5 14 true false,
 qV 100 12,
 qS 2 2 99 14,
 oO 3 (.mv (.c (.list [] .nil))),
 qV 4 100] [2,3,4]
 (.ret)))
 (qr [qc 102 .eql 88 5,
 qV 101 102] [2,5,10,101]
 (qd 101
 (qr [oO 13 (.mv (.c (.list [] .nil)))] [2,5,10,13]
 (qr [qU 104 10,
 oO 105 (.iaddrL (tU 104) (.c (.int .i64 0)) 2),
 qe 106 105 2 true false,
 qk 107 n_pt_integer [tV 106] false,
 qV 103 107,
 qx 108 103 0,
 qy 109 103 1,
 qf 110 5 2,
 qS 110 5 108 1,
 qV 12 109] [2,5,10,12,13]
 (.seq (qr [qU 111 12] [2,5,10,12,13,111]
 (qd 111
 (.region [qV 113 10,
 oO 114 (.iaddrL (tU 113) (.c (.int .i64 1)) 2),
 qe 115 114 2 true false,
 qk 116 n_pt_pairs [tV 115] false,
 qV 112 116,
 qx 117 112 0,
 qx 118 112 1,
 qy 119 112 2,
 qf 120 5 3,
 qS 120 5 117 1,
 qV 13 118,
 qV 12 119] [2,5,12,13])
 (.skip)))
 (qr [ql 121 5 5 14 true false,
 qV 122 13,
 qV 123 12,
 qS 2 2 121 14,
 qV 3 122,
 qV 4 123] [2,3,4]
 (.ret)))))
 (.skip)))))))
 (qr [ql 124 5 5 14 true false,
 qV 125 10,
 qS 2 2 124 14,
 qV 3 125,
 qB 4 true] [2,3,4]
 (.ret)))))))))))),
 [.cell 2 14 true,.tmp 3,.tmp 4],none,none,[]⟩
def l_proof_right_0 : ICode :=
 qr [qb 50 .lss 49 48] [1,47,48,49,50]
 (.seq (qd 50
 (.skip)
 (.exit 0))
 (.seq (.block 1
 (qr [qi 51 47 49 1,
 qe 52 51 1 false false,
 qV 8 52] [1,8,47,48,49]
 (qr [qU 53 8,
 qc 54 .lss 53 0,
 qV 55 54,
 qH 56 8 55 false,
 qh 57 1 55 false,
 qg 58 (.bin .geq (tU 56) (tU 57)) 55 false,
 qP 59 55 true 58] [1,47,48,49,59]
 (qd 59
 (qr [qB 4 false] [4]
 (.ret))
 (.skip)))))
 (.region [qc 60 .add 49 1,
 qV 49 60] [1,47,48,49])))
def i_proof_right : IFun := ⟨true,2,
 qr [oO 2 (.box false (tV 0)),
 qB 4 false] [1,2]
 (qr [qf 10 2 0,
 ql 11 10 2 1 false false,
 qk 12 n_proof_Refs [tV 11] false,
 qV 9 12,
 qx 13 9 0,
 qy 14 9 1,
 qV 5 13,
 qV 6 14] [1,2,5,6]
 (.seq (qr [qf 15 2 0,
 ql 16 15 2 1 false false,
 qc 17 .eql 16 4,
 qV 18 17,
 qF 19 2 0 18 false,
 qL 20 19 2 1 false false 18 false,
 qC 21 .eql 20 8 18 false,
 qP 22 18 true 21] [1,2,5,6,22]
 (qd 22
 (qr [qf 23 2 4,
 qf 24 23 4,
 ql 25 24 2 1 false false,
 qn 26 25,
 qV 5 26] [1,2,5,6]
 (.region [qV 27 6,
 qU 28 5,
 oO 29 (.min (tU 27) (tU 28)),
 qV 6 29] [1,2,5,6]))
 (.skip)))
 (.seq (qr [qU 30 5,
 qc 31 .lss 30 0,
 qV 32 31,
 qF 33 2 1 32 false,
 qL 34 33 2 1 false false 32 false,
 qg 35 (.len (tU 34) .list) 32 false,
 qH 36 5 32 false,
 qg 37 (.bin .lss (tU 35) (tU 36)) 32 false,
 qP 38 32 true 37,
 qV 39 38,
 qF 40 2 1 39 false,
 qL 41 40 2 1 false false 39 false,
 qg 42 (.len (tU 41) .list) 39 false,
 qH 43 6 39 false,
 qg 44 (.bin .gtr (tU 42) (tU 43)) 39 false,
 qP 45 39 true 44] [1,2,45]
 (qd 45
 (qr [qB 4 false] [4]
 (.ret))
 (.skip)))
 (.seq (qr [qf 46 2 1,
 ql 47 46 2 1 false false,
 qn 48 47,
 qI 49 0] [1,47,48,49]
 (.block 0
 (.loop l_proof_right_0)))
 (qr [qB 4 true] [4]
 (.ret)))))),
 [.tmp 4],none,none,[]⟩
def i_sb_copyCheck : IFun := ⟨false,1,
 qr [qU 2 0,
 oO 3 (.nilchk (tU 2)),
 qf 4 3 0,
 oO 5 (.load (tU 4) .heap 1 false false),
 oO 6 (.eq false .ptr (tU 5) (.c (.nilp)))] [0,6]
 (qd 6
 (.region [qU 7 0,
 qV 8 0,
 oO 9 (.uptr (tU 8) 110 2),
 oO 10 (.ident n_internal_abi_NoEscape (tU 9)),
 oO 11 (.uptr (tU 10) 110 2),
 oO 12 (.nilchk (tU 7)),
 qf 13 12 0,
 oZ (.store (tU 13) .heap (tV 11) 1)] [])
 (qr [qU 14 0,
 oO 15 (.nilchk (tU 14)),
 qf 16 15 0,
 oO 17 (.load (tU 16) .heap 1 false false),
 qV 18 0,
 oO 19 (.eq true .ptr (tU 17) (tU 18))] [19]
 (qd 19
 (.stuck)
 (.skip)))),
 [],none,none,[]⟩
def l_ss_Join_1 : ICode :=
 qr [qb 66 .lss 65 64] [1,8,63,64,65,66]
 (.seq (qd 66
 (.skip)
 (.exit 3))
 (.seq (.block 4
 (qr [qi 67 63 65 1,
 qe 68 67 1 false false,
 qV 10 68] [1,8,10,63,64,65]
 (qr [qU 69 1,
 qk 70 n_sb_WriteString [tU 8,tV 69] false] [1,8,10,63,64,65]
 (.region [qV 71 10,
 qk 72 n_sb_WriteString [tU 8,tV 71] false] [1,8,63,64,65]))))
 (.region [qc 73 .add 65 1,
 qV 65 73] [1,8,63,64,65])))
def l_ss_Join_0 : ICode :=
 qr [qb 42 .lss 41 40] [0,1,5,39,40,41,42]
 (.seq (qd 42
 (.skip)
 (.exit 1))
 (.seq (.block 2
 (qr [qi 43 39 41 1,
 qe 44 43 1 false false,
 qV 7 44] [0,1,5,7,39,40,41]
 (.seq (qr [qU 45 7,
 oO 46 (.len (tU 45) .str),
 qU 47 5,
 oO 48 (.bin .sub (.c (.int .i64 9223372036854775807)) (tU 47)),
 qb 49 .gtr 46 48] [0,1,5,7,39,40,41,49]
 (qd 49
 (.region [oO 50 (.mkiface 9 (.c (.str [115,116,114,105,110,103,115,58,32,74,111,105,110,32,111,117,116,112,117,116,32,108,101,110,103,116,104,32,111,118,101,114,102,108,111,119]))),
 oZ (.panic (tU 50))] [0,1,5,7,39,40,41])
 (.skip)))
 (.region [qV 51 5,
 qV 52 7,
 oO 53 (.len (tU 52) .str),
 qb 54 .add 51 53,
 qV 5 54] [0,1,5,39,40,41]))))
 (.region [qc 55 .add 41 1,
 qV 41 55] [0,1,5,39,40,41])))
def i_ss_Join : IFun := ⟨true,2,
 qr [oO 4 (.mv (.c (.str [])))] [0,1]
 (.seq (qr [qU 11 0,
 qn 12 11] [0,1,12]
 (.block 0
 (qr [qc 14 .eql 12 0,
 qV 13 14] [0,1,12,13]
 (qd 13
 (qr [oO 4 (.mv (.c (.str [])))] [4]
 (.ret))
 (qr [qc 16 .eql 12 1,
 qV 15 16] [0,1,15]
 (qd 15
 (qr [qV 17 0,
 oO 18 (.iaddrL (tU 17) (.c (.int .i64 0)) 1),
 qe 19 18 1 false false,
 qV 4 19] [4]
 (.ret))
 (.skip)))))))
 (qr [qI 5 0] [0,1,5]
 (.seq (qr [qU 20 1,
 oO 21 (.len (tU 20) .str),
 qc 22 .gtr 21 0] [0,1,5,22]
 (qd 22
 (.seq (qr [qU 23 1,
 oO 24 (.len (tU 23) .str),
 qU 25 0,
 qn 26 25,
 qc 27 .sub 26 1,
 oO 28 (.bin .quo (.c (.int .i64 9223372036854775807)) (tU 27)),
 qb 29 .geq 24 28] [0,1,5,29]
 (qd 29
 (.region [oO 30 (.mkiface 9 (.c (.str [115,116,114,105,110,103,115,58,32,74,111,105,110,32,111,117,116,112,117,116,32,108,101,110,103,116,104,32,111,118,101,114,102,108,111,119]))),
 oZ (.panic (tU 30))] [0,1,5])
 (.skip)))
 (.region [qV 31 5,
 qU 32 1,
 oO 33 (.len (tU 32) .str),
 qU 34 0,
 qn 35 34,
 qc 36 .sub 35 1,
 qb 37 .mul 33 36,
 qb 38 .add 31 37,
 qV 5 38] [0,1,5]))
 (.skip)))
 (.seq (qr [qU 39 0,
 qn 40 39,
 qI 41 0] [0,1,5,39,40,41]
 (.block 1
 (.loop l_ss_Join_0)))
 (qr [oO 8 (.alloc true 110 [.nilp,.list [] .nil])] [0,1,5,8]
 (qr [qV 56 5,
 qk 57 n_sb_Grow [tU 8,tV 56] false] [0,1,8]
 (qr [qU 58 0,
 oO 59 (.iaddrL (tU 58) (.c (.int .i64 0)) 1),
 qe 60 59 1 false false,
 qk 61 n_sb_WriteString [tU 8,tV 60] false] [0,1,8]
 (.seq (qr [qV 62 0,
 oO 63 (.slcL (tU 62) (some (.c (.int .i64 1))) none 1),
 qn 64 63,
 qI 65 0] [1,8,63,64,65]
 (.block 3
 (.loop l_ss_Join_1)))
 (qr [qk 74 n_sb_String [tV 8] false,
 qV 4 74] [4]
 (.ret)))))))))),
 [.tmp 4],none,none,[]⟩
def i_ss_Cut : IFun := ⟨true,2,
 qr [oO 4 (.mv (.c (.str []))),
 oO 5 (.mv (.c (.str []))),
 qB 6 false] [0,1]
 (qr [qV 7 0,
 qV 8 1,
 qk 9 n_isl_Cut [tV 7,tV 8] false,
 qx 10 9 0,
 qx 11 9 1,
 qy 12 9 2,
 qV 4 10,
 qV 5 11,
 qV 6 12] [4,5,6]
 (.ret)),
 [.tmp 4,.tmp 5,.tmp 6],none,none,[]⟩
def i_tt_numeral : IFun := ⟨true,1,
 qr [oO 2 (.mv (.c (.int .u64 0))),
 qI 3 0] [0]
 (.seq (qr [qU 4 0,
 oO 5 (.call (.f n_ss_HasPrefix) [tV 4,.c (.str [48,120])] false)] [0,5]
 (qd 5
 (qr [oO 2 (.mv (.c (.int .u64 0))),
 qI 3 6] [2,3]
 (.ret))
 (.skip)))
 (qr [qV 6 0,
 qk 7 n_digits_Parse [tV 6] false,
 qx 8 7 0,
 qy 9 7 1,
 qV 2 8,
 qV 3 9] [2,3]
 (.ret))),
 [.tmp 2,.tmp 3],none,none,[]⟩
def i_tt_constant : IFun := ⟨true,3,
 qr [qa 6 qt] [0,1,2,6]
 (qr [qV 12 0,
 qk 13 n_tt_numeral [tV 12] false,
 qV 11 13,
 qx 14 11 0,
 qy 15 11 1,
 qV 7 14,
 qV 8 15] [1,2,6,7,8]
 (qr [qU 16 8,
 qc 17 .neq 16 6,
 qk 18 n_tt_must [tV 17,.c (.int .i64 6)] false] [1,2,6,7,8]
 (qr [qV 19 2,
 qc 20 .eql 19 0,
 qV 21 20,
 qH 22 8 21 true,
 qC 23 .eql 22 0 21 true,
 qp 24 21 23 false,
 qV 25 24,
 qh 26 1 25 true,
 qg 27 (.bin .leq (tU 26) (.c (.int .u64 64))) 25 true,
 qp 28 25 27 false,
 qk 29 n_tt_must [tV 28,.c (.int .i64 2)] false] [1,6,7]
 (qr [qU 31 1,
 oO 32 (.conv .i64 (tU 31)),
 qU 33 7,
 oO 34 (.call (.f n_oi_Width) [.c (.int .i64 2),tV 32,tV 33,.c (.list [] .nil)] false),
 qV 30 34,
 qx 35 30 0,
 qy 36 30 1,
 qV 9 35,
 qV 10 36] [1,6,7,10]
 (qr [qV 37 10,
 qk 38 n_tt_fail [tV 37] false] [1,6,7]
 (qr [qV 39 1,
 oO 40 (.conv .i64 (tU 39)),
 qV 41 7,
 oO 42 (.build qt [(0,1,.c (.int .i64 2)),(1,1,.t 40 true),(2,1,.t 41 true)]),
 qS 6 6 42 5] [6]
 (.ret))))))),
 [.cell 6 5 true],none,none,[]⟩
def i_ss_HasPrefix : IFun := ⟨true,2,
 qr [qB 4 false] [0,1]
 (qr [qV 5 0,
 qV 6 1,
 qk 7 n_isl_HasPrefix [tV 5,tV 6] false,
 qV 4 7] [4]
 (.ret)),
 [.tmp 4],none,none,[]⟩
def i_oi_inside : IFun := ⟨true,1,
 qr [qB 2 false] [0]
 (qr [qU 3 0,
 qc 4 .geq 3 0,
 qV 5 4,
 qH 6 0 5 true,
 qC 7 .leq 6 64 5 true,
 qp 8 5 7 false,
 qV 2 8] [2]
 (.ret)),
 [.tmp 2],none,none,[]⟩
def i_oi_leaf : IFun := ⟨true,3,
 qr [qI 6 0,
 qI 7 0] [0,1,2]
 (.seq (qr [qU 8 1,
 qk 9 n_oi_inside [tV 8] false,
 oO 10 (.un .not (tU 9)),
 qV 11 10,
 qH 12 0 11 false,
 qC 13 .eql 12 2 11 false,
 qH 14 13 11 false,
 qh 15 1 14 true,
 qC 16 .gtr 15 0 14 true,
 qg 17 (.pick (tU 14) (tU 16) (.c (.bool false))) 11 false,
 qH 18 17 11 false,
 qH 19 2 18 true,
 qh 20 1 18 true,
 qg 21 (.bin .shr (tU 19) (tU 20)) 18 true,
 qg 22 (.bin .neq (tU 21) (.c (.int .u64 0))) 18 true,
 qg 23 (.pick (tU 18) (tU 22) (.c (.bool false))) 11 false,
 qP 24 11 true 23] [1,24]
 (qd 24
 (qr [qI 6 0,
 qI 7 3] [6,7]
 (.ret))
 (.skip)))
 (qr [qV 25 1,
 qV 6 25,
 qI 7 0] [6,7]
 (.ret))),
 [.tmp 6,.tmp 7],none,none,[]⟩
def i_oi_resized : IFun := ⟨true,4,
 qr [qI 8 0,
 qI 9 0] [0,1,2,3]
 (.seq (qr [qU 10 1,
 qc 11 .lss 10 1,
 qV 12 11,
 qh 13 1 12 false,
 qC 14 .gtr 13 64 12 false,
 qP 15 12 true 14,
 qV 16 15,
 qh 17 3 16 false,
 qC 18 .lss 17 1 16 false,
 qP 19 16 true 18] [0,1,2,3,19]
 (qd 19
 (qr [qI 8 0,
 qI 9 3] [8,9]
 (.ret))
 (.skip)))
 (.seq (qr [qU 20 0,
 qc 21 .neq 20 21,
 qV 22 21,
 qh 23 1 22 true,
 qh 24 3 22 true,
 qg 25 (.bin .lss (tU 23) (tU 24)) 22 true,
 qp 26 22 25 false,
 qV 27 26,
 qH 28 0 27 false,
 qC 29 .eql 28 21 27 false,
 qH 30 29 27 false,
 qh 31 1 30 true,
 qh 32 3 30 true,
 qg 33 (.bin .gtr (tU 31) (tU 32)) 30 true,
 qH 34 33 30 true,
 qH 35 2 34 false,
 qH 36 3 34 false,
 qh 37 1 34 false,
 qg 38 (.bin .sub (tU 36) (tU 37)) 34 false,
 qg 39 (.conv .u64 (tU 38)) 34 false,
 qg 40 (.bin .gtr (tU 35) (tU 39)) 34 false,
 qg 41 (.pick (tU 34) (.c (.bool true)) (tU 40)) 30 true,
 qg 42 (.pick (tU 30) (tU 41) (.c (.bool false))) 27 false,
 qP 43 27 true 42] [1,43]
 (qd 43
 (qr [qI 8 0,
 qI 9 3] [8,9]
 (.ret))
 (.skip)))
 (qr [qV 44 1,
 qV 8 44,
 qI 9 0] [8,9]
 (.ret)))),
 [.tmp 8,.tmp 9],none,none,[]⟩
def i_oi_agreed : IFun := ⟨true,2,
 qr [qI 4 0,
 qI 5 0] [0,1]
 (.seq (qr [qV 6 0,
 oO 7 (.un .not (tU 6))] [1,7]
 (qd 7
 (qr [qI 4 0,
 qI 5 3] [4,5]
 (.ret))
 (.skip)))
 (qr [qV 8 1,
 qV 4 8,
 qI 5 0] [4,5]
 (.ret))),
 [.tmp 4,.tmp 5],none,none,[]⟩
def i_sx_all_1 : IFun := ⟨false,4,
 .block 0
 (qr [oO 9 (.eq false .iface (tU 7) (.c (.nili)))] [0,1,2,3,7,9]
 (qd 9
 (.region [qV 4 7] [])
 (qr [oO 10 (.assert (tU 7) 168 (.agg [.int .i64 0,.int .i64 0]) true),
 qx 11 10 1,
 qy 12 10 0] [0,1,2,3,7,11,12]
 (qd 11
 (qr [qa 5 [.int .i64 0,.int .i64 0],
 qS 5 5 12 2] [0,1,2,3,5]
 (.draw [qf 13 5 0,
 ql 14 13 5 1 false false,
 qf 15 5 1,
 ql 16 15 5 1 false false,
 oZ (.store (tU 0) .heap (.c (.list [] .nil)) 1),
 oZ (.store (tU 1) .heap (.c (.list [] .nil)) 1),
 oZ (.store (tU 2) .heap (tV 14) 1),
 oZ (.store (tU 3) .heap (tV 16) 1)] [0,1,2,3,4,5,6,7] [] []))
 (qr [qV 6 7] [6]
 (.region [qV 8 6,
 oZ (.panic (tU 8))] [])))))),
 [],some 7,none,[]⟩
def l_sp_skip_1 : ICode :=
 .seq (.seq (.draw [qU 35 0,
 oO 36 (.nilchk (tU 35)),
 qf 37 36 1,
 oO 38 (.load (tU 37) .heap 1 false false),
 qU 39 0,
 oO 40 (.nilchk (tU 39)),
 qf 41 40 0,
 oO 42 (.load (tU 41) .heap 1 false false),
 oO 43 (.len (tU 42) .str),
 qb 44 .lss 38 43,
 qV 45 44,
 qh 46 0 45 true,
 qg 47 (.nilchk (tU 46)) 45 true,
 qF 48 47 0 45 true,
 qg 49 (.load (tU 48) .heap 1 false false) 45 true,
 qh 50 0 45 true,
 qg 51 (.nilchk (tU 50)) 45 true,
 qF 52 51 1 45 true,
 qg 53 (.load (tU 52) .heap 1 false false) 45 true,
 qg 54 (.idxS (tU 49) (tU 53)) 45 true,
 qg 55 (.bin .neq (tU 54) (.c (.int .u8 10))) 45 true,
 qp 56 45 55 false] [0,1,2,3,4,5,6,7,8,9,10,11,12,13,14,15,16,17,18,19,20,21] [] [0,56])
 (qd 56
 (.skip)
 (.exit 3)))
 (.block 4
 (.region [qU 57 0,
 oO 58 (.nilchk (tU 57)),
 qf 59 58 1,
 oO 60 (.load (tU 59) .heap 1 false false),
 qc 61 .add 60 1,
 oO 62 (.nilchk (tU 57)),
 qf 63 62 1,
 oZ (.store (tU 63) .heap (tV 61) 1)] [0]))
def l_sp_skip_0 : ICode :=
 .seq (.seq (.draw [qU 2 0,
 oO 3 (.nilchk (tU 2)),
 qf 4 3 1,
 oO 5 (.load (tU 4) .heap 1 false false),
 qU 6 0,
 oO 7 (.nilchk (tU 6)),
 qf 8 7 0,
 oO 9 (.load (tU 8) .heap 1 false false),
 oO 10 (.len (tU 9) .str),
 qb 11 .lss 5 10] [0,1,2,3,4,5,6,7,8,9] [] [0,11])
 (qd 11
 (.skip)
 (.exit 0)))
 (.block 1
 (.seq (.draw [qU 12 0,
 oO 13 (.nilchk (tU 12)),
 qf 14 13 0,
 oO 15 (.load (tU 14) .heap 1 false false),
 qU 16 0,
 oO 17 (.nilchk (tU 16)),
 qf 18 17 1,
 oO 19 (.load (tU 18) .heap 1 false false),
 oO 20 (.idxS (tU 15) (tU 19))] [0,1,2,3,4,5,6,7,8] [] [0,20])
 (.block 2
 (.seq (qr [oO 22 (.bin .eql (tU 20) (.c (.int .u8 32))),
 qV 21 22] [0,20,21]
 (qd 21
 (.skip)
 (qr [oO 23 (.bin .eql (tU 20) (.c (.int .u8 9))),
 qV 21 23] [0,20,21]
 (qd 21
 (.skip)
 (qr [oO 24 (.bin .eql (tU 20) (.c (.int .u8 10))),
 qV 21 24] [0,20,21]
 (qd 21
 (.skip)
 (.region [oO 25 (.bin .eql (tU 20) (.c (.int .u8 13))),
 qV 21 25] [0,20,21])))))))
 (qd 21
 (.region [qU 26 0,
 oO 27 (.nilchk (tU 26)),
 qf 28 27 1,
 oO 29 (.load (tU 28) .heap 1 false false),
 qc 30 .add 29 1,
 oO 31 (.nilchk (tU 26)),
 qf 32 31 1,
 oZ (.store (tU 32) .heap (tV 30) 1)] [0])
 (qr [oO 34 (.bin .eql (tU 20) (.c (.int .u8 59))),
 qV 33 34] [0,33]
 (qd 33
 (.block 3
 (.loop l_sp_skip_1))
 (.ret))))))))
def i_sp_skip : IFun := ⟨false,1,
 .block 0
 (.loop l_sp_skip_0),
 [],none,none,[]⟩
def l_sp_expression_1 : ICode :=
 .block 3
 (qr [qU 92 0,
 qk 93 n_sp_skip [tV 92] false] [0,1,4,7]
 (.seq (.seq (.draw [qU 94 0,
 oO 95 (.nilchk (tU 94)),
 qf 96 95 1,
 oO 97 (.load (tU 96) .heap 1 false false),
 qU 98 0,
 oO 99 (.nilchk (tU 98)),
 qf 100 99 0,
 oO 101 (.load (tU 100) .heap 1 false false),
 oO 102 (.len (tU 101) .str),
 qb 103 .eql 97 102] [0,1,2,3,4,5,6,7,8,9] [] [0,1,4,7,103])
 (qd 103
 (.region [qU 104 0,
 qU 105 0,
 oO 106 (.nilchk (tU 105)),
 qf 107 106 1,
 oO 108 (.load (tU 107) .heap 1 false false),
 qk 109 n_sp_fail [tV 104,tV 108,.c (.int .i64 6)] false] [0,1,4,7])
 (.skip)))
 (.seq (.seq (.draw [qU 110 0,
 oO 111 (.nilchk (tU 110)),
 qf 112 111 0,
 oO 113 (.load (tU 112) .heap 1 false false),
 qU 114 0,
 oO 115 (.nilchk (tU 114)),
 qf 116 115 1,
 oO 117 (.load (tU 116) .heap 1 false false),
 oO 118 (.idxS (tU 113) (tU 117)),
 oO 119 (.bin .eql (tU 118) (.c (.int .u8 41)))] [0,1,2,3,4,5,6,7,8,9] [] [0,1,4,7,119])
 (qd 119
 (qr [qV 120 0,
 oO 121 (.nilchk (tU 120)),
 qf 122 121 1,
 oO 123 (.load (tU 122) .heap 1 false false),
 qc 124 .add 123 1,
 oO 125 (.nilchk (tU 120)),
 qf 126 125 1,
 oZ (.store (tU 126) .heap (tV 124) 1)] [4,7]
 (qr [ql 127 7 7 2 true false,
 qS 4 4 127 2] [4]
 (.ret)))
 (.skip)))
 (.draw [qf 128 7 1,
 ql 129 128 7 1 false true,
 qU 130 0,
 qU 131 1,
 qc 132 .add 131 1,
 qk 133 n_sp_expression [tV 130,tV 132] false,
 oO 134 (.bslice (.agg [.str [],.list [] .nil]) 0 1 [(0,.t 133 true)]),
 oO 135 (.append (tV 129) (tU 134) 2 0 40 false),
 qf 136 7 1,
 qS 136 7 135 1] [0,1,2,3,4,5,6,7,8,9] [5] [0,1,4,7]))))
def l_sp_expression_0 : ICode :=
 .seq (.seq (.draw [qU 45 0,
 oO 46 (.nilchk (tU 45)),
 qf 47 46 1,
 oO 48 (.load (tU 47) .heap 1 false false),
 qU 49 0,
 oO 50 (.nilchk (tU 49)),
 qf 51 50 0,
 oO 52 (.load (tU 51) .heap 1 false false),
 oO 53 (.len (tU 52) .str),
 qb 54 .lss 48 53,
 qV 55 54,
 qh 56 0 55 true,
 qg 57 (.nilchk (tU 56)) 55 true,
 qF 58 57 0 55 true,
 qg 59 (.load (tU 58) .heap 1 false false) 55 true,
 qh 60 0 55 true,
 qg 61 (.nilchk (tU 60)) 55 true,
 qF 62 61 1 55 true,
 qg 63 (.load (tU 62) .heap 1 false false) 55 true,
 qg 64 (.idxS (tU 59) (tU 63)) 55 true,
 qg 65 (.call (.f n_sx_plain) [tV 64] true) 55 true,
 qp 66 55 65 false] [0,1,2,3,4,5,6,7,8,9,10,11,12,13,14,15,16,17,18,19,20,21] [20] [0,4,6,66])
 (qd 66
 (.skip)
 (.exit 0)))
 (.block 1
 (.region [qU 67 0,
 oO 68 (.nilchk (tU 67)),
 qf 69 68 1,
 oO 70 (.load (tU 69) .heap 1 false false),
 qc 71 .add 70 1,
 oO 72 (.nilchk (tU 67)),
 qf 73 72 1,
 oZ (.store (tU 73) .heap (tV 71) 1)] [0,4,6]))
def i_sp_expression : IFun := ⟨false,2,
 qr [qa 4 [.str [],.list [] .nil]] [0,1,4]
 (.seq (.draw [qU 8 0,
 oO 9 (.nilchk (tU 8)),
 qf 10 9 0,
 oO 11 (.load (tU 10) .heap 1 false false),
 qU 12 0,
 oO 13 (.nilchk (tU 12)),
 qf 14 13 1,
 oO 15 (.load (tU 14) .heap 1 false false),
 oO 16 (.idxS (tU 11) (tU 15)),
 qV 5 16] [0,1,2,3,4,5,6,7,8,9] [] [0,1,4,5])
 (.seq (qr [qU 17 5,
 oO 18 (.bin .neq (tU 17) (.c (.int .u8 40))),
 qV 19 18,
 qh 20 5 19 true,
 qg 21 (.call (.f n_sx_plain) [tV 20] false) 19 true,
 qg 22 (.un .not (tU 21)) 19 true,
 qp 23 19 22 false] [0,1,4,5,23]
 (qd 23
 (.region [qU 24 0,
 qU 25 0,
 oO 26 (.nilchk (tU 25)),
 qf 27 26 1,
 oO 28 (.load (tU 27) .heap 1 false false),
 qk 29 n_sp_fail [tV 24,tV 28,.c (.int .i64 6)] false] [0,1,4,5])
 (.skip)))
 (.seq (qr [qU 30 1,
 qc 31 .add 30 1,
 qc 32 .gtr 31 64] [0,1,4,5,32]
 (qd 32
 (.region [qU 33 0,
 qU 34 0,
 oO 35 (.nilchk (tU 34)),
 qf 36 35 1,
 oO 37 (.load (tU 36) .heap 1 false false),
 qk 38 n_sp_fail [tV 33,tV 37,.c (.int .i64 7)] false] [0,1,4,5])
 (.skip)))
 (.seq (qr [qV 39 5,
 oO 40 (.bin .neq (tU 39) (.c (.int .u8 40)))] [0,1,4,40]
 (qd 40
 (qr [qU 41 0,
 oO 42 (.nilchk (tU 41)),
 qf 43 42 1,
 oO 44 (.load (tU 43) .heap 1 false false),
 qV 6 44] [0,4,6]
 (.seq (.block 0
 (.loop l_sp_expression_0))
 (.seq (.draw [qU 74 0,
 oO 75 (.nilchk (tU 74)),
 qf 76 75 0,
 oO 77 (.load (tU 76) .heap 1 false false),
 qV 78 6,
 qU 79 0,
 oO 80 (.nilchk (tU 79)),
 qf 81 80 1,
 oO 82 (.load (tU 81) .heap 1 false false),
 oO 83 (.slcS (tU 77) (some (tU 78)) (some (tU 82))),
 oO 84 (.build [.str [],.list [] .nil] [(0,1,.t 83 true)]),
 qS 4 4 84 2] [0,1,2,3,4,5,6,7,8,9,10,11] [] [4])
 (.ret))))
 (.skip)))
 (qr [qU 85 0,
 oO 86 (.nilchk (tU 85)),
 qf 87 86 1,
 oO 88 (.load (tU 87) .heap 1 false false),
 qc 89 .add 88 1,
 oO 90 (.nilchk (tU 85)),
 qf 91 90 1,
 oZ (.store (tU 91) .heap (tV 89) 1)] [0,1,4]
 (qr [qa 7 [.str [],.list [] .nil]] [0,1,4,7]
 (.block 2
 (.loop l_sp_expression_1)))))))),
 [.cell 4 2 true],none,none,[]⟩
def i_isc_Itoa : IFun := ⟨true,1,
 qr [oO 2 (.mv (.c (.str [])))] [0]
 (qr [qV 3 0,
 qk 4 n_isc_FormatInt [tV 3,.c (.int .i64 10)] false,
 qV 2 4] [2]
 (.ret)),
 [.tmp 2],none,none,[]⟩
def i_isc_FormatUint : IFun := ⟨true,2,
 qr [oO 4 (.mv (.c (.str [])))] [0,1]
 (.seq (qr [qU 9 1,
 qc 10 .eql 9 10] [0,1,10]
 (qd 10
 (.seq (qr [qU 11 0,
 oO 12 (.bin .lss (tU 11) (.c (.int .u64 100)))] [0,12]
 (qd 12
 (qr [qV 13 0,
 oO 14 (.conv .i64 (tU 13)),
 qk 15 n_isc_small [tV 14] false,
 qV 4 15] [4]
 (.ret))
 (.skip)))
 (qr [oO 5 (.alloc true 0 [.int .u8 0,.int .u8 0,.int .u8 0,.int .u8 0,.int .u8 0,.int .u8 0,.int .u8 0,.int .u8 0,.int .u8 0,.int .u8 0,.int .u8 0,.int .u8 0,.int .u8 0,.int .u8 0,.int .u8 0,.int .u8 0,.int .u8 0,.int .u8 0,.int .u8 0,.int .u8 0,.int .u8 0,.int .u8 0,.int .u8 0,.int .u8 0])] [0,5]
 (qr [qU 16 0,
 qk 17 n_isc_numDigits [tV 16] false,
 qV 6 17] [0,5,6]
 (qr [qU 18 6,
 oO 19 (.slcA (tU 5) none (some (tU 18)) 24 1),
 qV 20 0,
 qk 21 n_isc_formatBase10 [tV 19,tV 20] false] [5,6]
 (qr [qV 22 6,
 oO 23 (.slcA (tU 5) none (some (tU 22)) 24 1),
 oO 24 (.strL (tU 23)),
 qV 4 24] [4]
 (.ret))))))
 (.skip)))
 (qr [qV 26 0,
 qV 27 1,
 oO 28 (.call (.f n_isc_formatBits) [.c (.list [] .nil),tV 26,tV 27,.c (.bool false),.c (.bool false)] false),
 qV 25 28,
 qx 29 25 0,
 qy 30 25 1,
 qV 7 29,
 qV 8 30] [8]
 (qr [qV 31 8,
 qV 4 31] [4]
 (.ret)))),
 [.tmp 4],none,none,[]⟩
def l_pt_kind_0 : ICode :=
 .seq (qr [qU 4 3,
 qc 5 .leq 4 12,
 qV 6 5,
 qh 7 0 6 true,
 qg 8 (.bin .neq (tU 7) (.c (.str []))) 6 true,
 qp 9 6 8 false] [0,3,9]
 (qd 9
 (.skip)
 (.exit 0)))
 (.seq (.block 1
 (qr [qU 12 3,
 qk 13 n_proof_Kind [tV 12] false,
 qU 14 0,
 qb 15 .eql 13 14] [0,3,15]
 (qd 15
 (qr [qV 16 3,
 qV 2 16] [2]
 (.ret))
 (.skip))))
 (.region [qV 10 3,
 qc 11 .add 10 1,
 qV 3 11] [0,3]))
def i_pt_kind : IFun := ⟨true,1,
 qr [qI 2 0] [0]
 (.seq (qr [qI 3 1] [0,3]
 (.block 0
 (.loop l_pt_kind_0)))
 (qr [qI 2 0] [2]
 (.ret))),
 [.tmp 2],none,none,[]⟩
def i_pt_integer : IFun := ⟨true,1,
 qr [oO 1 (.box false (tV 0)),
 qI 2 0,
 qB 3 false] [1]
 (qr [qf 7 1 0,
 ql 8 7 1 1 false false,
 qk 9 n_digits_ParseInt [tV 8] false,
 qV 6 9,
 qx 10 6 0,
 qy 11 6 1,
 qV 4 10,
 qV 5 11] [4,5]
 (qr [qV 12 4,
 qV 13 5,
 qc 14 .eql 13 0,
 qV 2 12,
 qV 3 14] [2,3]
 (.ret))),
 [.tmp 2,.tmp 3],none,none,[]⟩
def l_pt_pairs_0 : ICode :=
 qr [qb 16 .lss 15 14] [5,6,13,14,15,16]
 (.seq (qd 16
 (.skip)
 (.exit 0))
 (.seq (.block 1
 (qr [qi 17 13 15 2,
 qe 18 17 2 true false,
 qa 8 [.str [],.list [] .nil],
 qS 8 8 18 2] [5,6,8,13,14,15]
 (.seq (qr [qf 19 8 0,
 ql 20 19 8 1 false false,
 oO 21 (.bin .neq (tU 20) (.c (.str []))),
 qV 22 21,
 qF 23 8 1 22 false,
 qL 24 23 8 1 false false 22 false,
 qg 25 (.len (tU 24) .list) 22 false,
 qC 26 .neq 25 2 22 false,
 qP 27 22 true 26,
 qV 28 27,
 qF 29 8 1 28 false,
 qL 30 29 8 1 false false 28 false,
 qg 31 (.iaddrL (tU 30) (.c (.int .i64 0)) 2) 28 false,
 qF 32 31 0 28 false,
 qE 33 32 1 false false 28 false,
 qg 34 (.bin .eql (tU 33) (.c (.str []))) 28 false,
 qP 35 28 true 34] [5,6,8,13,14,15,35]
 (qd 35
 (qr [oO 2 (.mv (.c (.list [] .nil))),
 oO 3 (.mv (.c (.list [] .nil))),
 qB 4 false] [2,3,4]
 (.ret))
 (.skip)))
 (.draw [qV 36 5,
 qf 37 8 1,
 ql 38 37 8 1 false false,
 oO 39 (.iaddrL (tU 38) (.c (.int .i64 0)) 2),
 qf 40 39 0,
 qe 41 40 1 false false,
 oO 42 (.build [.str [],.int .i64 0,.int .i64 0,.int .u64 0,.str [],.list [] .nil] [(0,1,.t 41 true)]),
 oO 43 (.bslice (.agg [.str [],.int .i64 0,.int .i64 0,.int .u64 0,.str [],.list [] .nil]) 0 1 [(0,.t 42 true)]),
 oO 44 (.appR (tU 36) (tU 43) 6 80),
 qV 45 6,
 qf 46 8 1,
 ql 47 46 8 1 false false,
 oO 48 (.iaddrL (tU 47) (.c (.int .i64 1)) 2),
 qe 49 48 2 true false,
 oO 50 (.bslice (.agg [.str [],.list [] .nil]) 0 1 [(0,.t 49 true)]),
 oO 51 (.append (tV 45) (tU 50) 2 0 40 false),
 qV 5 44,
 qV 6 51] [0,1,2,3,4,5,6,7,8,9,10,11,12,13,14,15,16,17] [] [5,6,13,14,15]))))
 (.region [qc 52 .add 15 1,
 qV 15 52] [5,6,13,14,15])))
def i_pt_pairs : IFun := ⟨false,1,
 qr [oO 1 (.box false (tV 0)),
 oO 2 (.mv (.c (.list [] .nil))),
 oO 3 (.mv (.c (.list [] .nil))),
 qB 4 false] [1]
 (.seq (qr [qf 9 1 0,
 ql 10 9 1 1 false false,
 oO 11 (.bin .neq (tU 10) (.c (.str [])))] [1,11]
 (qd 11
 (qr [oO 2 (.mv (.c (.list [] .nil))),
 oO 3 (.mv (.c (.list [] .nil))),
 qB 4 false] [2,3,4]
 (.ret))
 (.skip)))
 (qr [oO 5 (.mv (.c (.list [] .nil)))] [1,5]
 (qr [oO 6 (.mv (.c (.list [] .nil)))] [1,5,6]
 (.seq (qr [qf 12 1 1,
 ql 13 12 1 1 false false,
 qn 14 13,
 qI 15 0] [5,6,13,14,15]
 (.block 0
 (.loop l_pt_pairs_0)))
 (qr [qV 53 5,
 qV 54 6,
 qV 2 53,
 qV 3 54,
 qB 4 true] [2,3,4]
 (.ret)))))),
 [.tmp 2,.tmp 3,.tmp 4],none,none,[]⟩
def i_proof_Refs : IFun := ⟨true,1,
 qr [qI 2 0,
 qI 3 0] [0]
 (.seq (qr [qU 4 0,
 qc 5 .lss 4 1,
 qV 6 5,
 qh 7 0 6 false,
 qC 8 .gtr 7 12 6 false,
 qP 9 6 true 8] [0,9]
 (qd 9
 (qr [qI 2 (-1),
 qI 3 (-1)] [2,3]
 (.ret))
 (.skip)))
 (.seq (.draw [qU 10 0,
 oO 11 (.iaddrA (.g 1) (tU 10) 13 3),
 qf 12 11 1,
 oO 13 (.load (tU 12) .heap 1 false false),
 qU 14 0,
 oO 15 (.iaddrA (.g 1) (tU 14) 13 3),
 qf 16 15 2,
 oO 17 (.load (tU 16) .heap 1 false false),
 qV 2 13,
 qV 3 17] [0,1,2,3,4,5,6,7,8,9] [] [2,3])
 (.ret))),
 [.tmp 2,.tmp 3],none,none,[]⟩
def i_sb_Grow : IFun := ⟨false,2,
 qr [qU 4 0,
 qk 5 n_sb_copyCheck [tV 4] false] [0,1]
 (.seq (qr [qU 6 1,
 qc 7 .lss 6 0] [0,1,7]
 (qd 7
 (.region [oO 8 (.mkiface 9 (.c (.str [115,116,114,105,110,103,115,46,66,117,105,108,100,101,114,46,71,114,111,119,58,32,110,101,103,97,116,105,118,101,32,99,111,117,110,116]))),
 oZ (.panic (tU 8))] [0,1])
 (.skip)))
 (.seq (.draw [qU 9 0,
 oO 10 (.nilchk (tU 9)),
 qf 11 10 1,
 oO 12 (.load (tU 11) .heap 1 false false),
 oO 13 (.capN (tU 12)),
 qU 14 0,
 oO 15 (.nilchk (tU 14)),
 qf 16 15 1,
 oO 17 (.load (tU 16) .heap 1 false false),
 qn 18 17,
 qb 19 .sub 13 18,
 qU 20 1,
 qb 21 .lss 19 20] [0,1,2,3,4,5,6,7,8,9,10,11,12] [] [0,1,21])
 (qd 21
 (.region [qV 22 0,
 qV 23 1,
 qk 24 n_sb_grow [tV 22,tV 23] false] [])
 (.skip)))),
 [],none,none,[]⟩
def i_isl_Cut : IFun := ⟨true,2,
 qr [oO 4 (.mv (.c (.str []))),
 oO 5 (.mv (.c (.str []))),
 qB 6 false] [0,1]
 (.seq (qr [qU 8 0,
 qU 9 1,
 qk 10 n_isl_Index [tV 8,tV 9] false,
 qV 7 10] [0,1,7]
 (qr [qU 11 7,
 qc 12 .geq 11 0] [0,1,7,12]
 (qd 12
 (.seq (.draw [qU 13 0,
 qU 14 7,
 oO 15 (.slcS (tU 13) none (some (tU 14))),
 qU 16 0,
 qU 17 7,
 qV 18 1,
 oO 19 (.len (tU 18) .str),
 qb 20 .add 17 19,
 oO 21 (.slcS (tU 16) (some (tU 20)) none),
 qV 4 15,
 qV 5 21,
 qB 6 true] [0,1,2,3,4,5,6,7,8,9,10,11] [] [4,5,6])
 (.ret))
 (.skip))))
 (qr [qV 22 0,
 qV 4 22,
 oO 5 (.mv (.c (.str []))),
 qB 6 false] [4,5,6]
 (.ret))),
 [.tmp 4,.tmp 5,.tmp 6],none,none,[]⟩
def i_digits_Parse : IFun := ⟨true,1,
 qr [oO 2 (.mv (.c (.int .u64 0))),
 qI 3 0] [0]
 (qr [oO 4 (.mv (.c (.str [48,49,50,51,52,53,54,55,56,57]))),
 qI 5 10] [0,4,5]
 (.seq (qr [qU 11 0,
 oO 12 (.call (.f n_ss_CutPrefix) [tV 11,.c (.str [48,120])] false),
 qV 10 12,
 qx 13 10 0,
 qy 14 10 1,
 qV 6 13,
 qV 7 14] [0,4,5,6,7]
 (qr [qV 15 7] [0,4,5,6,15]
 (qd 15
 (.region [qV 16 6,
 qV 0 16,
 oO 4 (.mv (.c (.str [48,49,50,51,52,53,54,55,56,57,97,98,99,100,101,102]))),
 qI 5 16] [0,4,5])
 (.skip))))
 (.seq (qr [qU 17 0,
 qV 18 4,
 qk 19 n_digits_numeral [tV 17,tV 18] false,
 oO 20 (.un .not (tU 19))] [0,5,20]
 (qd 20
 (qr [oO 2 (.mv (.c (.int .u64 0))),
 qI 3 6] [2,3]
 (.ret))
 (.skip)))
 (qr [qV 22 0,
 qV 23 5,
 qk 24 n_sc_ParseUint [tV 22,tV 23,.c (.int .i64 64)] false,
 qV 21 24,
 qx 25 21 0,
 qy 26 21 1,
 qV 8 25,
 qV 9 26] [8,9]
 (.seq (qr [qV 27 9,
 oO 28 (.eq true .iface (tU 27) (.c (.nili)))] [8,28]
 (qd 28
 (qr [oO 2 (.mv (.c (.int .u64 0))),
 qI 3 2] [2,3]
 (.ret))
 (.skip)))
 (qr [qV 29 8,
 qV 2 29,
 qI 3 0] [2,3]
 (.ret))))))),
 [.tmp 2,.tmp 3],none,none,[]⟩
def i_isl_HasPrefix : IFun := ⟨true,2,
 qr [qB 4 false] [0,1]
 (qr [qU 5 0,
 oO 6 (.len (tU 5) .str),
 qU 7 1,
 oO 8 (.len (tU 7) .str),
 qb 9 .geq 6 8,
 qV 10 9,
 qH 11 0 10 true,
 qh 12 1 10 true,
 qg 13 (.len (tU 12) .str) 10 true,
 qg 14 (.slcS (tU 11) none (some (tU 13))) 10 true,
 qH 15 1 10 true,
 qg 16 (.bin .eql (tU 14) (tU 15)) 10 true,
 qp 17 10 16 false,
 qV 4 17] [4]
 (.ret)),
 [.tmp 4],none,none,[]⟩
def i_sx_plain : IFun := ⟨true,1,
 qr [qB 2 false] [0]
 (qr [qU 3 0,
 oO 4 (.bin .geq (tU 3) (.c (.int .u8 33))),
 qV 5 4,
 qh 6 0 5 true,
 qg 7 (.bin .leq (tU 6) (.c (.int .u8 126))) 5 true,
 qp 8 5 7 false,
 qV 9 8,
 qh 10 0 9 true,
 qg 11 (.bin .neq (tU 10) (.c (.int .u8 40))) 9 true,
 qp 12 9 11 false,
 qV 13 12,
 qh 14 0 13 true,
 qg 15 (.bin .neq (tU 14) (.c (.int .u8 41))) 13 true,
 qp 16 13 15 false,
 qV 17 16,
 qH 18 0 17 true,
 qg 19 (.bin .neq (tU 18) (.c (.int .u8 59))) 17 true,
 qp 20 17 19 false,
 qV 2 20] [2]
 (.ret)),
 [.tmp 2],none,none,[]⟩
def i_sp_fail : IFun := ⟨false,3,
 .region [qV 6 1,
 qV 7 2,
 oO 8 (.build [.int .i64 0,.int .i64 0] [(0,1,.t 6 true),(1,1,.t 7 true)]),
 oO 9 (.mkiface 168 (tV 8)),
 oZ (.panic (tU 9))] [],
 [],none,none,[]⟩
def i_isc_FormatInt : IFun := ⟨true,2,
 qr [oO 4 (.mv (.c (.str [])))] [0,1]
 (.seq (qr [qU 10 1,
 qc 11 .eql 10 10] [0,1,11]
 (qd 11
 (.seq (qr [qU 12 0,
 oO 13 (.bin .leq (.c (.int .i64 0)) (tU 12)),
 qV 14 13,
 qh 15 0 14 true,
 qC 16 .lss 15 100 14 true,
 qp 17 14 16 false] [0,17]
 (qd 17
 (qr [qV 18 0,
 qk 19 n_isc_small [tV 18] false,
 qV 4 19] [4]
 (.ret))
 (.skip)))
 (qr [oO 5 (.alloc true 0 [.int .u8 0,.int .u8 0,.int .u8 0,.int .u8 0,.int .u8 0,.int .u8 0,.int .u8 0,.int .u8 0,.int .u8 0,.int .u8 0,.int .u8 0,.int .u8 0,.int .u8 0,.int .u8 0,.int .u8 0,.int .u8 0,.int .u8 0,.int .u8 0,.int .u8 0,.int .u8 0,.int .u8 0,.int .u8 0,.int .u8 0,.int .u8 0])] [0,5]
 (qr [qU 20 0,
 oO 21 (.conv .u64 (tU 20)),
 qV 6 21] [0,5,6]
 (.seq (qr [qU 22 0,
 qc 23 .lss 22 0] [0,5,6,23]
 (qd 23
 (.region [qV 24 6,
 oO 25 (.un .neg (tU 24)),
 qV 6 25] [0,5,6])
 (.skip)))
 (qr [qU 26 6,
 qk 27 n_isc_numDigits [tV 26] false,
 qV 7 27] [0,5,6,7]
 (qr [qU 28 7,
 oO 29 (.bin .add (.c (.int .i64 1)) (tU 28)),
 oO 30 (.slcA (tU 5) (some (.c (.int .i64 1))) (some (tU 29)) 24 1),
 qV 31 6,
 qk 32 n_isc_formatBase10 [tV 30,tV 31] false] [0,5,7]
 (.seq (qr [qV 33 0,
 qc 34 .lss 33 0] [5,7,34]
 (qd 34
 (qr [oO 35 (.iaddrA (tU 5) (.c (.int .i64 0)) 24 1),
 oZ (.store (tU 35) .heap (.c (.int .u8 45)) 1)] [5,7]
 (qr [qV 36 7,
 oO 37 (.bin .add (.c (.int .i64 1)) (tU 36)),
 oO 38 (.slcA (tU 5) none (some (tU 37)) 24 1),
 oO 39 (.strL (tU 38)),
 qV 4 39] [4]
 (.ret)))
 (.skip)))
 (qr [qV 40 7,
 oO 41 (.bin .add (.c (.int .i64 1)) (tU 40)),
 oO 42 (.slcA (tU 5) (some (.c (.int .i64 1))) (some (tU 41)) 24 1),
 oO 43 (.strL (tU 42)),
 qV 4 43] [4]
 (.ret)))))))))
 (.skip)))
 (qr [qU 45 0,
 oO 46 (.conv .u64 (tU 45)),
 qV 47 1,
 qV 48 0,
 qc 49 .lss 48 0,
 oO 50 (.call (.f n_isc_formatBits) [.c (.list [] .nil),tV 46,tV 47,tV 49,.c (.bool false)] false),
 qV 44 50,
 qx 51 44 0,
 qy 52 44 1,
 qV 8 51,
 qV 9 52] [9]
 (qr [qV 53 9,
 qV 4 53] [4]
 (.ret)))),
 [.tmp 4],none,none,[]⟩
def i_isc_small : IFun := ⟨true,1,
 qr [oO 2 (.mv (.c (.str [])))] [0]
 (.seq (qr [qU 3 0,
 qc 4 .lss 3 10] [0,4]
 (qd 4
 (qr [qU 5 0,
 qV 6 0,
 qc 7 .add 6 1,
 oO 8 (.slcS (.c (.str [48,49,50,51,52,53,54,55,56,57,97,98,99,100,101,102,103,104,105,106,107,108,109,110,111,112,113,114,115,116,117,118,119,120,121,122])) (some (tU 5)) (some (tU 7))),
 qV 2 8] [2]
 (.ret))
 (.skip)))
 (qr [qU 9 0,
 qc 10 .mul 9 2,
 qV 11 0,
 qc 12 .mul 11 2,
 qc 13 .add 12 2,
 oO 14 (.slcS (.c (.str smalls2)) (some (tU 10)) (some (tU 13))),
 qV 2 14] [2]
 (.ret))),
 [.tmp 2],none,none,[]⟩
def i_isc_numDigits : IFun := ⟨true,1,
 qr [qI 2 0] [0]
 (qr [qU 4 0,
 qk 5 n_math_bits_Len64 [tV 4] false,
 qk 6 n_isc_log10Pow2 [tV 5] false,
 qV 3 6] [0,3]
 (qr [qU 7 3,
 qV 8 0,
 qV 9 3,
 oO 10 (.iaddrA (.g 2) (tU 9) 20 1),
 oO 11 (.load (tU 10) .heap 1 false false),
 qb 12 .geq 8 11,
 qk 13 n_isc_bool2_int [tV 12] false,
 qb 14 .add 7 13,
 qV 2 14] [2]
 (.ret))),
 [.tmp 2],none,none,[]⟩
def l_isc_formatBase10_0 : ICode :=
 .seq (qr [qU 19 4,
 qc 20 .geq 19 8] [0,1,4,20]
 (qd 20
 (.skip)
 (.exit 0)))
 (.block 1
 (qr [qU 21 1,
 oO 22 (.bin .rem (tU 21) (.c (.int .u64 100000000))),
 oO 23 (.conv .u32 (tU 22)),
 qV 5 23] [0,1,4,5]
 (qr [qV 24 1,
 oO 25 (.bin .quo (tU 24) (.c (.int .u64 100000000))),
 qV 1 25] [0,1,4,5]
 (qr [qU 26 5,
 oO 27 (.bin .quo (tU 26) (.c (.int .u32 10000))),
 qV 28 5,
 oO 29 (.bin .rem (tU 28) (.c (.int .u32 10000))),
 qV 6 27,
 qV 7 29] [0,1,4,6,7]
 (qr [qU 30 7,
 oO 31 (.bin .quo (tU 30) (.c (.int .u32 100))),
 oO 32 (.bin .mul (tU 31) (.c (.int .u32 2))),
 qV 33 7,
 oO 34 (.bin .rem (tU 33) (.c (.int .u32 100))),
 oO 35 (.bin .mul (tU 34) (.c (.int .u32 2))),
 qV 8 32,
 qV 9 35] [0,1,4,6,8,9]
 (qr [qU 36 6,
 oO 37 (.bin .quo (tU 36) (.c (.int .u32 100))),
 oO 38 (.bin .mul (tU 37) (.c (.int .u32 2))),
 qV 39 6,
 oO 40 (.bin .rem (tU 39) (.c (.int .u32 100))),
 oO 41 (.bin .mul (tU 40) (.c (.int .u32 2))),
 qV 10 38,
 qV 11 41] [0,1,4,8,9,10,11]
 (.seq (.draw [qU 42 0,
 qU 43 4,
 qc 44 .sub 43 1,
 qU 45 0,
 qU 46 4,
 qc 47 .sub 46 2,
 qU 48 9,
 oO 49 (.bin .add (tU 48) (.c (.int .u32 1))),
 oO 50 (.idxS (.c (.str smalls2)) (tU 49)),
 qU 51 9,
 oO 52 (.idxS (.c (.str smalls2)) (tU 51)),
 qi 53 42 44 1,
 oZ (.store (tU 53) .heap (tV 50) 1),
 qi 54 45 47 1,
 oZ (.store (tU 54) .heap (tV 52) 1)] [0,1,2,3,4,5,6,7,8,9,10,11,12,13,14] [] [0,1,4,8,10,11])
 (.seq (.draw [qU 55 0,
 qU 56 4,
 qc 57 .sub 56 3,
 qU 58 0,
 qU 59 4,
 qc 60 .sub 59 4,
 qU 61 8,
 oO 62 (.bin .add (tU 61) (.c (.int .u32 1))),
 oO 63 (.idxS (.c (.str smalls2)) (tU 62)),
 qU 64 8,
 oO 65 (.idxS (.c (.str smalls2)) (tU 64)),
 qi 66 55 57 1,
 oZ (.store (tU 66) .heap (tV 63) 1),
 qi 67 58 60 1,
 oZ (.store (tU 67) .heap (tV 65) 1)] [0,1,2,3,4,5,6,7,8,9,10,11,12,13,14] [] [0,1,4,10,11])
 (.seq (.draw [qU 68 0,
 qU 69 4,
 qc 70 .sub 69 5,
 qU 71 0,
 qU 72 4,
 qc 73 .sub 72 6,
 qU 74 11,
 oO 75 (.bin .add (tU 74) (.c (.int .u32 1))),
 oO 76 (.idxS (.c (.str smalls2)) (tU 75)),
 qU 77 11,
 oO 78 (.idxS (.c (.str smalls2)) (tU 77)),
 qi 79 68 70 1,
 oZ (.store (tU 79) .heap (tV 76) 1),
 qi 80 71 73 1,
 oZ (.store (tU 80) .heap (tV 78) 1)] [0,1,2,3,4,5,6,7,8,9,10,11,12,13,14] [] [0,1,4,10])
 (.seq (.draw [qU 81 0,
 qU 82 4,
 qc 83 .sub 82 7,
 qU 84 0,
 qU 85 4,
 qc 86 .sub 85 8,
 qU 87 10,
 oO 88 (.bin .add (tU 87) (.c (.int .u32 1))),
 oO 89 (.idxS (.c (.str smalls2)) (tU 88)),
 qU 90 10,
 oO 91 (.idxS (.c (.str smalls2)) (tU 90)),
 qi 92 81 83 1,
 oZ (.store (tU 92) .heap (tV 89) 1),
 qi 93 84 86 1,
 oZ (.store (tU 93) .heap (tV 91) 1)] [0,1,2,3,4,5,6,7,8,9,10,11,12,13,14] [] [0,1,4])
 (.region [qV 94 4,
 qc 95 .sub 94 8,
 qV 4 95] [0,1,4])))))))))))
def i_isc_formatBase10 : IFun := ⟨false,2,
 qr [qU 17 0,
 qn 18 17,
 qV 4 18] [0,1,4]
 (.seq (.block 0
 (.loop l_isc_formatBase10_0))
 (qr [qV 96 1,
 oO 97 (.conv .u32 (tU 96)),
 qV 12 97] [0,4,12]
 (.seq (qr [qU 98 4,
 qc 99 .geq 98 4] [0,4,12,99]
 (qd 99
 (qr [qU 100 12,
 oO 101 (.bin .rem (tU 100) (.c (.int .u32 10000))),
 qV 13 101] [0,4,12,13]
 (qr [qV 102 12,
 oO 103 (.bin .quo (tU 102) (.c (.int .u32 10000))),
 qV 12 103] [0,4,12,13]
 (qr [qU 104 13,
 oO 105 (.bin .quo (tU 104) (.c (.int .u32 100))),
 oO 106 (.bin .mul (tU 105) (.c (.int .u32 2))),
 qV 107 13,
 oO 108 (.bin .rem (tU 107) (.c (.int .u32 100))),
 oO 109 (.bin .mul (tU 108) (.c (.int .u32 2))),
 qV 14 106,
 qV 15 109] [0,4,12,14,15]
 (.seq (.draw [qU 110 0,
 qU 111 4,
 qc 112 .sub 111 1,
 qU 113 0,
 qU 114 4,
 qc 115 .sub 114 2,
 qU 116 15,
 oO 117 (.bin .add (tU 116) (.c (.int .u32 1))),
 oO 118 (.idxS (.c (.str smalls2)) (tU 117)),
 qU 119 15,
 oO 120 (.idxS (.c (.str smalls2)) (tU 119)),
 qi 121 110 112 1,
 oZ (.store (tU 121) .heap (tV 118) 1),
 qi 122 113 115 1,
 oZ (.store (tU 122) .heap (tV 120) 1)] [0,1,2,3,4,5,6,7,8,9,10,11,12,13,14] [] [0,4,12,14])
 (.seq (.draw [qU 123 0,
 qU 124 4,
 qc 125 .sub 124 3,
 qU 126 0,
 qU 127 4,
 qc 128 .sub 127 4,
 qU 129 14,
 oO 130 (.bin .add (tU 129) (.c (.int .u32 1))),
 oO 131 (.idxS (.c (.str smalls2)) (tU 130)),
 qU 132 14,
 oO 133 (.idxS (.c (.str smalls2)) (tU 132)),
 qi 134 123 125 1,
 oZ (.store (tU 134) .heap (tV 131) 1),
 qi 135 126 128 1,
 oZ (.store (tU 135) .heap (tV 133) 1)] [0,1,2,3,4,5,6,7,8,9,10,11,12,13,14] [] [0,4,12])
 (.region [qV 136 4,
 qc 137 .sub 136 4,
 qV 4 137] [0,4,12]))))))
 (.skip)))
 (.seq (qr [qU 138 4,
 qc 139 .geq 138 2] [0,4,12,139]
 (qd 139
 (qr [qU 140 12,
 oO 141 (.bin .rem (tU 140) (.c (.int .u32 100))),
 oO 142 (.bin .mul (tU 141) (.c (.int .u32 2))),
 qV 16 142] [0,4,12,16]
 (qr [qV 143 12,
 oO 144 (.bin .quo (tU 143) (.c (.int .u32 100))),
 qV 12 144] [0,4,12,16]
 (.seq (.draw [qU 145 0,
 qU 146 4,
 qc 147 .sub 146 1,
 qU 148 0,
 qU 149 4,
 qc 150 .sub 149 2,
 qU 151 16,
 oO 152 (.bin .add (tU 151) (.c (.int .u32 1))),
 oO 153 (.idxS (.c (.str smalls2)) (tU 152)),
 qU 154 16,
 oO 155 (.idxS (.c (.str smalls2)) (tU 154)),
 qi 156 145 147 1,
 oZ (.store (tU 156) .heap (tV 153) 1),
 qi 157 148 150 1,
 oZ (.store (tU 157) .heap (tV 155) 1)] [0,1,2,3,4,5,6,7,8,9,10,11,12,13,14] [] [0,4,12])
 (.region [qV 158 4,
 qc 159 .sub 158 2,
 qV 4 159] [0,4,12]))))
 (.skip)))
 (qr [qV 160 4,
 qc 161 .gtr 160 0] [0,12,161]
 (qd 161
 (.region [qV 162 0,
 qV 163 12,
 oO 164 (.bin .add (.c (.int .u32 48)) (tU 163)),
 oO 165 (.conv .u8 (tU 164)),
 oO 166 (.iaddrL (tU 162) (.c (.int .i64 0)) 1),
 oZ (.store (tU 166) .heap (tV 165) 1)] [])
 (.skip))))))),
 [],none,none,[]⟩
def i_digits_ParseInt : IFun := ⟨true,1,
 qr [qI 2 0,
 qI 3 0] [0]
 (qr [qU 9 0,
 oO 10 (.call (.f n_ss_CutPrefix) [tV 9,.c (.str [45])] false),
 qV 8 10,
 qx 11 8 0,
 qy 12 8 1,
 qV 4 11,
 qV 5 12] [0,4,5]
 (.seq (qr [qU 13 4,
 oO 14 (.call (.f n_digits_numeral) [tV 13,.c (.str [48,49,50,51,52,53,54,55,56,57])] false),
 oO 15 (.un .not (tU 14)),
 qV 16 15,
 qH 17 5 16 false,
 qH 18 17 16 false,
 qH 19 4 18 true,
 qg 20 (.bin .eql (tU 19) (.c (.str [48]))) 18 true,
 qg 21 (.pick (tU 18) (tU 20) (.c (.bool false))) 16 false,
 qP 22 16 true 21] [0,22]
 (qd 22
 (qr [qI 2 0,
 qI 3 6] [2,3]
 (.ret))
 (.skip)))
 (qr [qV 24 0,
 qk 25 n_sc_ParseInt [tV 24,.c (.int .i64 10),.c (.int .i64 64)] false,
 qV 23 25,
 qx 26 23 0,
 qy 27 23 1,
 qV 6 26,
 qV 7 27] [6,7]
 (.seq (qr [qV 28 7,
 oO 29 (.eq true .iface (tU 28) (.c (.nili)))] [6,29]
 (qd 29
 (qr [qI 2 0,
 qI 3 2] [2,3]
 (.ret))
 (.skip)))
 (qr [qV 30 6,
 qV 2 30,
 qI 3 0] [2,3]
 (.ret)))))),
 [.tmp 2,.tmp 3],none,none,[]⟩
def i_sb_grow : IFun := ⟨false,2,
 .seq (.draw [qU 5 0,
 oO 6 (.nilchk (tU 5)),
 qf 7 6 1,
 oO 8 (.load (tU 7) .heap 1 false false),
 oO 9 (.capN (tU 8)),
 oO 10 (.bin .mul (.c (.int .i64 2)) (tU 9)),
 qV 11 1,
 qb 12 .add 10 11,
 oO 13 (.mkroom 186 5 (tU 12)),
 qU 14 0,
 oO 15 (.nilchk (tU 14)),
 qf 16 15 1,
 oO 17 (.load (tU 16) .heap 1 false false),
 qn 18 17,
 oO 19 (.slcR 13 (tU 18)),
 qV 4 19] [0,1,2,3,4,5,6,7,9,10,11,12,13,8,14,15] [8] [0,4])
 (qr [qU 20 4,
 qU 21 0,
 oO 22 (.nilchk (tU 21)),
 qf 23 22 1,
 oO 24 (.load (tU 23) .heap 1 false false),
 oO 25 (.copyN (tU 20) (tU 24))] [0,4]
 (.region [qV 26 0,
 qV 27 4,
 oO 28 (.nilchk (tU 26)),
 qf 29 28 1,
 oZ (.store (tU 29) .heap (tV 27) 1)] [])),
 [],none,none,[]⟩
def l_isl_Index_0 : ICode :=
 .seq (qr [qU 57 8,
 qU 58 9,
 qb 59 .lss 57 58] [0,1,5,6,7,8,9,10,59]
 (qd 59
 (.skip)
 (.exit 1)))
 (.block 2
 (.seq (qr [qU 60 0,
 qU 61 8,
 oO 62 (.idxS (tU 60) (tU 61)),
 qU 63 6,
 qb 64 .neq 62 63] [0,1,5,6,7,8,9,10,64]
 (qd 64
 (qr [qU 65 0,
 qU 66 8,
 qc 67 .add 66 1,
 qU 68 9,
 oO 69 (.slcS (tU 65) (some (tU 67)) (some (tU 68))),
 qU 70 6,
 qk 71 n_isl_IndexByte [tV 69,tV 70] false,
 qV 11 71] [0,1,5,6,7,8,9,10,11]
 (.seq (qr [qU 72 11,
 qc 73 .lss 72 0] [0,1,5,6,7,8,9,10,11,73]
 (qd 73
 (qr [qI 4 (-1)] [4]
 (.ret))
 (.skip)))
 (.region [qV 74 8,
 qV 75 11,
 qc 76 .add 75 1,
 qb 77 .add 74 76,
 qV 8 77] [0,1,5,6,7,8,9,10])))
 (.skip)))
 (.seq (qr [qU 78 0,
 qU 79 8,
 qc 80 .add 79 1,
 oO 81 (.idxS (tU 78) (tU 80)),
 qU 82 7,
 qb 83 .eql 81 82,
 qV 84 83,
 qh 85 0 84 true,
 qh 86 8 84 true,
 qh 87 8 84 true,
 qh 88 5 84 true,
 qg 89 (.bin .add (tU 87) (tU 88)) 84 true,
 qg 90 (.slcS (tU 85) (some (tU 86)) (some (tU 89))) 84 true,
 qh 91 1 84 true,
 qg 92 (.bin .eql (tU 90) (tU 91)) 84 true,
 qp 93 84 92 false] [0,1,5,6,7,8,9,10,93]
 (qd 93
 (qr [qV 94 8,
 qV 4 94] [4]
 (.ret))
 (.skip)))
 (qr [qV 95 8,
 qc 96 .add 95 1,
 qV 8 96] [0,1,5,6,7,8,9,10]
 (qr [qV 97 10,
 qc 98 .add 97 1,
 qV 10 98] [0,1,5,6,7,8,9,10]
 (qr [qU 99 5,
 oO 100 (.load (.g 3) .heap 1 false false),
 qb 101 .leq 99 100,
 qV 102 101,
 qh 103 10 102 true,
 qh 104 8 102 true,
 qg 105 (.call (.f n_iba_Cutover) [tV 104] false) 102 true,
 qg 106 (.bin .gtr (tU 103) (tU 105)) 102 true,
 qp 107 102 106 false] [0,1,5,6,7,8,9,10,107]
 (qd 107
 (qr [qV 108 0,
 qU 109 8,
 oO 110 (.slcS (tU 108) (some (tU 109)) none),
 qV 111 1,
 qk 112 n_iba_IndexString [tV 110,tV 111] false,
 qV 12 112] [8,12]
 (.seq (qr [qU 113 12,
 qc 114 .geq 113 0] [8,12,114]
 (qd 114
 (qr [qV 115 12,
 qV 116 8,
 qb 117 .add 115 116,
 qV 4 117] [4]
 (.ret))
 (.skip)))
 (qr [qI 4 (-1)] [4]
 (.ret))))
 (qr [qU 118 5,
 oO 119 (.load (.g 3) .heap 1 false false),
 qb 120 .gtr 118 119,
 qV 121 120,
 qh 122 10 121 true,
 qh 123 8 121 true,
 qg 124 (.bin .shr (tU 123) (.c (.int .u64 4))) 121 true,
 qg 125 (.bin .add (.c (.int .i64 4)) (tU 124)) 121 true,
 qg 126 (.bin .geq (tU 122) (tU 125)) 121 true,
 qp 127 121 126 false,
 qV 128 127,
 qh 129 8 128 true,
 qh 130 9 128 true,
 qg 131 (.bin .lss (tU 129) (tU 130)) 128 true,
 qp 132 128 131 false] [0,1,5,6,7,8,9,10,132]
 (qd 132
 (qr [qV 133 0,
 qU 134 8,
 oO 135 (.slcS (tU 133) (some (tU 134)) none),
 qV 136 1,
 qk 137 n_iba_IndexRabinKarp_string [tV 135,tV 136] false,
 qV 13 137] [8,13]
 (.seq (qr [qU 138 13,
 qc 139 .lss 138 0] [8,13,139]
 (qd 139
 (qr [qI 4 (-1)] [4]
 (.ret))
 (.skip)))
 (qr [qV 140 8,
 qV 141 13,
 qb 142 .add 140 141,
 qV 4 142] [4]
 (.ret))))
 (.skip))))))))))
def i_isl_Index : IFun := ⟨true,2,
 qr [qI 4 0] [0,1]
 (qr [qU 14 1,
 oO 15 (.len (tU 14) .str),
 qV 5 15] [0,1,5]
 (.seq (.block 0
 (qr [qU 17 5,
 qc 18 .eql 17 0,
 qV 19 18,
 qh 20 1 19 false,
 qh 21 0 19 false,
 qg 22 (.bin .eql (tU 20) (tU 21)) 19 false,
 qP 23 19 true 22,
 qV 16 23] [0,1,5,16]
 (qd 16
 (qr [qI 4 0] [4]
 (.ret))
 (qr [qU 25 5,
 qc 26 .eql 25 1,
 qV 24 26] [0,1,5,24]
 (qd 24
 (qr [qV 27 0,
 qV 28 1,
 oO 29 (.idxS (tU 28) (.c (.int .i64 0))),
 qk 30 n_isl_IndexByte [tV 27,tV 29] false,
 qV 4 30] [4]
 (.ret))
 (qr [qU 32 5,
 qU 33 0,
 oO 34 (.len (tU 33) .str),
 qb 35 .geq 32 34,
 qV 31 35] [0,1,5,31]
 (qd 31
 (qr [qI 4 (-1)] [4]
 (.ret))
 (qr [qU 37 5,
 oO 38 (.load (.g 3) .heap 1 false false),
 qb 39 .leq 37 38,
 qV 40 39,
 qh 41 0 40 true,
 qg 42 (.len (tU 41) .str) 40 true,
 qC 43 .leq 42 64 40 true,
 qp 44 40 43 false,
 qV 36 44] [0,1,5,36]
 (qd 36
 (qr [qV 45 0,
 qV 46 1,
 qk 47 n_iba_IndexString [tV 45,tV 46] false,
 qV 4 47] [4]
 (.ret))
 (.skip))))))))))
 (qr [qU 48 1,
 oO 49 (.idxS (tU 48) (.c (.int .i64 0))),
 qV 6 49] [0,1,5,6]
 (qr [qU 50 1,
 oO 51 (.idxS (tU 50) (.c (.int .i64 1))),
 qV 7 51] [0,1,5,6,7]
 (qr [qI 8 0] [0,1,5,6,7,8]
 (qr [qU 52 0,
 oO 53 (.len (tU 52) .str),
 qU 54 5,
 qb 55 .sub 53 54,
 qc 56 .add 55 1,
 qV 9 56] [0,1,5,6,7,8,9]
 (qr [qI 10 0] [0,1,5,6,7,8,9,10]
 (.seq (.block 1
 (.loop l_isl_Index_0))
 (qr [qI 4 (-1)] [4]
 (.ret)))))))))),
 [.tmp 4],none,none,[]⟩
def i_ss_CutPrefix : IFun := ⟨true,2,
 qr [oO 4 (.mv (.c (.str []))),
 qB 5 false] [0,1]
 (qr [qV 6 0,
 qV 7 1,
 qk 8 n_isl_CutPrefix [tV 6,tV 7] false,
 qx 9 8 0,
 qy 10 8 1,
 qV 4 9,
 qV 5 10] [4,5]
 (.ret)),
 [.tmp 4,.tmp 5],none,none,[]⟩
def l_digits_numeral_0 : ICode :=
 qr [qb 21 .lss 20 19] [0,1,19,20,21]
 (.seq (qd 21
 (.skip)
 (.exit 0))
 (.seq (.block 1
 (qr [qU 22 20,
 qV 5 22] [0,1,5,19,20]
 (qr [qU 23 1,
 qU 24 0,
 qV 25 5,
 oO 26 (.idxS (tU 24) (tU 25)),
 qk 27 n_ss_IndexByte [tV 23,tV 26] false,
 qc 28 .lss 27 0] [0,1,19,20,28]
 (qd 28
 (qr [qB 4 false] [4]
 (.ret))
 (.skip)))))
 (.region [qc 29 .add 20 1,
 qV 20 29] [0,1,19,20])))
def i_digits_numeral : IFun := ⟨true,2,
 qr [qB 4 false] [0,1]
 (.seq (qr [qU 6 0,
 oO 7 (.bin .eql (tU 6) (.c (.str []))),
 qV 8 7,
 qh 9 0 8 false,
 qg 10 (.len (tU 9) .str) 8 false,
 qC 11 .gtr 10 1 8 false,
 qH 12 11 8 false,
 qh 13 0 12 true,
 qg 14 (.idxS (tU 13) (.c (.int .i64 0))) 12 true,
 qg 15 (.bin .eql (tU 14) (.c (.int .u8 48))) 12 true,
 qg 16 (.pick (tU 12) (tU 15) (.c (.bool false))) 8 false,
 qP 17 8 true 16] [0,1,17]
 (qd 17
 (qr [qB 4 false] [4]
 (.ret))
 (.skip)))
 (.seq (qr [qU 18 0,
 oO 19 (.len (tU 18) .str),
 qI 20 0] [0,1,19,20]
 (.block 0
 (.loop l_digits_numeral_0)))
 (qr [qB 4 true] [4]
 (.ret)))),
 [.tmp 4],none,none,[]⟩
def i_sc_ParseUint : IFun := ⟨false,3,
 qr [oO 6 (.mv (.c (.int .u64 0))),
 oO 7 (.mv (.c (.nili)))] [0,1,2]
 (qr [qU 11 0,
 qU 12 1,
 qU 13 2,
 qk 14 n_isc_ParseUint [tV 11,tV 12,tV 13] false,
 qV 10 14,
 qx 15 10 0,
 qy 16 10 1,
 qV 8 15,
 qV 9 16] [0,1,2,8,9]
 (.seq (qr [qU 17 9,
 oO 18 (.eq true .iface (tU 17) (.c (.nili)))] [0,1,2,8,9,18]
 (qd 18
 (qr [qV 19 8,
 qV 20 0,
 qV 21 1,
 qV 22 2,
 qV 23 9,
 oO 24 (.call (.f n_sc_toError) [.c (.str [80,97,114,115,101,85,105,110,116]),tV 20,tV 21,tV 22,tV 23] false),
 qV 6 19,
 qV 7 24] [6,7]
 (.ret))
 (.skip)))
 (qr [qV 25 8,
 qV 6 25,
 oO 7 (.mv (.c (.nili)))] [6,7]
 (.ret)))),
 [.tmp 6,.tmp 7],none,none,[]⟩
def i_isc_log10Pow2 : IFun := ⟨true,1,
 qr [qI 2 0] [0]
 (qr [qV 3 0,
 qc 4 .mul 3 78913,
 oO 5 (.bin .shr (tU 4) (.c (.int .u64 18))),
 qV 2 5] [2]
 (.ret)),
 [.tmp 2],none,none,[]⟩
def i_math_bits_Len64 : IFun := ⟨true,1,
 qr [qI 2 0] [0,2]
 (.seq (qr [qU 3 0,
 oO 4 (.bin .geq (tU 3) (.c (.int .u64 4294967296)))] [0,2,4]
 (qd 4
 (qr [qV 5 0,
 oO 6 (.bin .shr (tU 5) (.c (.int .u64 32))),
 qV 0 6] [0]
 (.region [qI 2 32] [0,2]))
 (.skip)))
 (.seq (qr [qU 7 0,
 oO 8 (.bin .geq (tU 7) (.c (.int .u64 65536)))] [0,2,8]
 (qd 8
 (qr [qV 9 0,
 oO 10 (.bin .shr (tU 9) (.c (.int .u64 16))),
 qV 0 10] [0,2]
 (.region [qV 11 2,
 qc 12 .add 11 16,
 qV 2 12] [0,2]))
 (.skip)))
 (.seq (qr [qU 13 0,
 oO 14 (.bin .geq (tU 13) (.c (.int .u64 256)))] [0,2,14]
 (qd 14
 (qr [qV 15 0,
 oO 16 (.bin .shr (tU 15) (.c (.int .u64 8))),
 qV 0 16] [0,2]
 (.region [qV 17 2,
 qc 18 .add 17 8,
 qV 2 18] [0,2]))
 (.skip)))
 (qr [qV 19 2,
 qV 20 0,
 oO 21 (.conv .u8 (tU 20)),
 oO 22 (.idxS (.c (.str len8t)) (tU 21)),
 oO 23 (.conv .i64 (tU 22)),
 qb 24 .add 19 23,
 qV 2 24] [2]
 (.ret))))),
 [.tmp 2],none,none,[]⟩
def i_isc_bool2_int : IFun := ⟨true,1,
 qr [qI 2 0] [0]
 (.seq (qr [qV 3 0] [3]
 (qd 3
 (qr [qI 2 1] [2]
 (.ret))
 (.skip)))
 (qr [qI 2 0] [2]
 (.ret))),
 [.tmp 2],none,none,[]⟩
def i_sc_ParseInt : IFun := ⟨false,3,
 qr [qI 6 0,
 oO 7 (.mv (.c (.nili)))] [0,1,2]
 (qr [qU 10 0,
 qU 11 1,
 qU 12 2,
 qk 13 n_isc_ParseInt [tV 10,tV 11,tV 12] false,
 qV 9 13,
 qx 14 9 0,
 qy 15 9 1,
 qV 8 14,
 qV 7 15] [0,1,2,7,8]
 (.seq (qr [qU 16 7,
 oO 17 (.eq true .iface (tU 16) (.c (.nili)))] [0,1,2,7,8,17]
 (qd 17
 (qr [qV 18 8,
 qV 19 0,
 qV 20 1,
 qV 21 2,
 qV 22 7,
 oO 23 (.call (.f n_sc_toError) [.c (.str [80,97,114,115,101,73,110,116]),tV 19,tV 20,tV 21,tV 22] false),
 qV 6 18,
 qV 7 23] [6,7]
 (.ret))
 (.skip)))
 (qr [qV 24 8,
 qV 6 24,
 oO 7 (.mv (.c (.nili)))] [6,7]
 (.ret)))),
 [.tmp 6,.tmp 7],none,none,[]⟩
def i_isl_IndexByte : IFun := ⟨true,2,
 qr [qI 4 0] [0,1]
 (qr [qV 5 0,
 qV 6 1,
 oO 7 (.idxB 198 (tU 5) (tU 6)),
 qV 4 7] [4]
 (.ret)),
 [.tmp 4],none,none,[]⟩
def i_isl_CutPrefix : IFun := ⟨true,2,
 qr [oO 4 (.mv (.c (.str []))),
 qB 5 false] [0,1]
 (.seq (qr [qU 6 0,
 qU 7 1,
 qk 8 n_isl_HasPrefix [tV 6,tV 7] false,
 oO 9 (.un .not (tU 8))] [0,1,9]
 (qd 9
 (qr [qV 10 0,
 qV 4 10,
 qB 5 false] [4,5]
 (.ret))
 (.skip)))
 (qr [qV 11 0,
 qV 12 1,
 oO 13 (.len (tU 12) .str),
 oO 14 (.slcS (tU 11) (some (tU 13)) none),
 qV 4 14,
 qB 5 true] [4,5]
 (.ret))),
 [.tmp 4,.tmp 5],none,none,[]⟩
def i_ss_IndexByte : IFun := ⟨true,2,
 qr [qI 4 0] [0,1]
 (qr [qV 5 0,
 qV 6 1,
 qk 7 n_isl_IndexByte [tV 5,tV 6] false,
 qV 4 7] [4]
 (.ret)),
 [.tmp 4],none,none,[]⟩
def l_isc_ParseUint_0 : ICode :=
 qr [qb 102 .lss 101 100] [1,8,9,10,11,12,13,99,100,101,102]
 (.seq (qd 102
 (.skip)
 (.exit 3))
 (.seq (.block 4
 (qr [qi 103 99 101 1,
 qe 104 103 1 false false,
 qV 15 104] [1,8,9,10,11,12,13,15,99,100,101]
 (qr [oO 16 (.mv (.c (.int .u8 0)))] [1,8,9,10,11,12,13,15,99,100,101]
 (.seq (.block 5
 (qr [qU 107 15,
 oO 108 (.bin .eql (tU 107) (.c (.int .u8 95))),
 qV 109 108,
 qh 110 8 109 true,
 qp 111 109 110 false,
 qV 106 111] [1,8,9,10,11,12,13,15,99,100,101,106]
 (qd 106
 (qr [qB 12 true] [1,8,9,10,11,12,13,99,100,101]
 (.exit 4))
 (qr [qU 113 15,
 oO 114 (.bin .leq (.c (.int .u8 48)) (tU 113)),
 qV 115 114,
 qh 116 15 115 true,
 qg 117 (.bin .leq (tU 116) (.c (.int .u8 57))) 115 true,
 qp 118 115 117 false,
 qV 112 118] [1,8,9,10,11,12,13,15,99,100,101,112]
 (qd 112
 (.region [qV 119 15,
 oO 120 (.bin .sub (tU 119) (.c (.int .u8 48))),
 qV 16 120] [1,8,9,10,11,12,13,16,99,100,101])
 (qr [qU 122 15,
 qk 123 n_isc_lower [tV 122] false,
 oO 124 (.bin .leq (.c (.int .u8 97)) (tU 123)),
 qV 125 124,
 qh 126 15 125 true,
 qg 127 (.call (.f n_isc_lower) [tV 126] false) 125 true,
 qg 128 (.bin .leq (tU 127) (.c (.int .u8 122))) 125 true,
 qp 129 125 128 false,
 qV 121 129] [1,8,9,10,11,12,13,15,99,100,101,121]
 (qd 121
 (.region [qV 130 15,
 qk 131 n_isc_lower [tV 130] false,
 oO 132 (.bin .sub (tU 131) (.c (.int .u8 97))),
 oO 133 (.bin .add (tU 132) (.c (.int .u8 10))),
 qV 16 133] [1,8,9,10,11,12,13,16,99,100,101])
 (qr [oO 105 (.mkiface 211 (.c (.int .i64 2))),
 oO 6 (.mv (.c (.int .u64 0))),
 qV 7 105] [6,7]
 (.ret)))))))))
 (.seq (qr [qU 134 16,
 qU 135 1,
 oO 136 (.conv .u8 (tU 135)),
 qb 137 .geq 134 136] [1,8,9,10,11,12,13,16,99,100,101,137]
 (qd 137
 (qr [oO 138 (.mkiface 211 (.c (.int .i64 2))),
 oO 6 (.mv (.c (.int .u64 0))),
 qV 7 138] [6,7]
 (.ret))
 (.skip)))
 (.seq (qr [qU 139 13,
 qU 140 10,
 qb 141 .geq 139 140] [1,8,9,10,11,12,13,16,99,100,101,141]
 (qd 141
 (qr [qV 142 11,
 oO 143 (.mkiface 211 (.c (.int .i64 1))),
 qV 6 142,
 qV 7 143] [6,7]
 (.ret))
 (.skip)))
 (qr [qV 144 13,
 qU 145 1,
 oO 146 (.conv .u64 (tU 145)),
 qb 147 .mul 144 146,
 qV 13 147] [1,8,9,10,11,12,13,16,99,100,101]
 (qr [qU 148 13,
 qV 149 16,
 oO 150 (.conv .u64 (tU 149)),
 qb 151 .add 148 150,
 qV 17 151] [1,8,9,10,11,12,13,17,99,100,101]
 (.seq (qr [qU 152 17,
 qV 153 13,
 qb 154 .lss 152 153,
 qV 155 154,
 qh 156 17 155 false,
 qh 157 11 155 false,
 qg 158 (.bin .gtr (tU 156) (tU 157)) 155 false,
 qP 159 155 true 158] [1,8,9,10,11,12,17,99,100,101,159]
 (qd 159
 (qr [qV 160 11,
 oO 161 (.mkiface 211 (.c (.int .i64 1))),
 qV 6 160,
 qV 7 161] [6,7]
 (.ret))
 (.skip)))
 (.region [qV 162 17,
 qV 13 162] [1,8,9,10,11,12,13,99,100,101]))))))))))
 (.region [qc 163 .add 101 1,
 qV 101 163] [1,8,9,10,11,12,13,99,100,101])))
def i_isc_ParseUint : IFun := ⟨false,3,
 qr [oO 6 (.mv (.c (.int .u64 0))),
 oO 7 (.mv (.c (.nili)))] [0,1,2]
 (.seq (qr [qU 18 0,
 oO 19 (.bin .eql (tU 18) (.c (.str [])))] [0,1,2,19]
 (qd 19
 (qr [oO 20 (.mkiface 211 (.c (.int .i64 2))),
 oO 6 (.mv (.c (.int .u64 0))),
 qV 7 20] [6,7]
 (.ret))
 (.skip)))
 (qr [qU 21 1,
 qc 22 .eql 21 0,
 qV 8 22] [0,1,2,8]
 (qr [qU 23 0,
 qV 9 23] [0,1,2,8,9]
 (.seq (.block 0
 (qr [qU 26 1,
 oO 27 (.bin .leq (.c (.int .i64 2)) (tU 26)),
 qV 28 27,
 qh 29 1 28 true,
 qC 30 .leq 29 36 28 true,
 qp 31 28 30 false,
 qV 25 31] [0,1,2,8,9,25]
 (qd 25
 (.skip)
 (qr [qV 33 1,
 qc 34 .eql 33 0,
 qV 32 34] [0,2,8,9,32]
 (qd 32
 (qr [qI 1 10] [0,1,2,8,9]
 (qr [qU 35 0,
 oO 36 (.idxS (tU 35) (.c (.int .i64 0))),
 oO 37 (.bin .eql (tU 36) (.c (.int .u8 48)))] [0,1,2,8,9,37]
 (qd 37
 (.block 1
 (qr [qU 41 0,
 oO 42 (.len (tU 41) .str),
 qc 43 .geq 42 3,
 qV 44 43,
 qh 45 0 44 true,
 qg 46 (.idxS (tU 45) (.c (.int .i64 1))) 44 true,
 qg 47 (.call (.f n_isc_lower) [tV 46] false) 44 true,
 qg 48 (.bin .eql (tU 47) (.c (.int .u8 98))) 44 true,
 qp 49 44 48 false,
 qV 40 49] [0,2,8,9,40]
 (qd 40
 (qr [qI 1 2] [0,1,2,8,9]
 (.region [qV 50 0,
 oO 51 (.slcS (tU 50) (some (.c (.int .i64 2))) none),
 qV 0 51] [0,1,2,8,9]))
 (qr [qU 53 0,
 oO 54 (.len (tU 53) .str),
 qc 55 .geq 54 3,
 qV 56 55,
 qh 57 0 56 true,
 qg 58 (.idxS (tU 57) (.c (.int .i64 1))) 56 true,
 qg 59 (.call (.f n_isc_lower) [tV 58] false) 56 true,
 qg 60 (.bin .eql (tU 59) (.c (.int .u8 111))) 56 true,
 qp 61 56 60 false,
 qV 52 61] [0,2,8,9,52]
 (qd 52
 (qr [qI 1 8] [0,1,2,8,9]
 (.region [qV 62 0,
 oO 63 (.slcS (tU 62) (some (.c (.int .i64 2))) none),
 qV 0 63] [0,1,2,8,9]))
 (qr [qU 65 0,
 oO 66 (.len (tU 65) .str),
 qc 67 .geq 66 3,
 qV 68 67,
 qh 69 0 68 true,
 qg 70 (.idxS (tU 69) (.c (.int .i64 1))) 68 true,
 qg 71 (.call (.f n_isc_lower) [tV 70] false) 68 true,
 qg 72 (.bin .eql (tU 71) (.c (.int .u8 120))) 68 true,
 qp 73 68 72 false,
 qV 64 73] [0,2,8,9,64]
 (qd 64
 (qr [qI 1 16] [0,1,2,8,9]
 (.region [qV 74 0,
 oO 75 (.slcS (tU 74) (some (.c (.int .i64 2))) none),
 qV 0 75] [0,1,2,8,9]))
 (qr [qI 1 8] [0,1,2,8,9]
 (.region [qV 38 0,
 oO 39 (.slcS (tU 38) (some (.c (.int .i64 1))) none),
 qV 0 39] [0,1,2,8,9])))))))))
 (.skip))))
 (qr [oO 24 (.mkiface 211 (.c (.int .i64 3))),
 oO 6 (.mv (.c (.int .u64 0))),
 qV 7 24] [6,7]
 (.ret)))))))
 (.seq (qr [qU 76 2,
 qc 77 .eql 76 0] [0,1,2,8,9,77]
 (qd 77
 (.region [qI 2 64] [0,1,2,8,9])
 (qr [qU 78 2,
 qc 79 .lss 78 0,
 qV 80 79,
 qh 81 2 80 false,
 qC 82 .gtr 81 64 80 false,
 qP 83 80 true 82] [0,1,2,8,9,83]
 (qd 83
 (qr [oO 84 (.mkiface 211 (.c (.int .i64 4))),
 oO 6 (.mv (.c (.int .u64 0))),
 qV 7 84] [6,7]
 (.ret))
 (.skip)))))
 (qr [oO 10 (.mv (.c (.int .u64 0)))] [0,1,2,8,9]
 (.seq (qr [qU 85 1] [0,1,2,8,9,85]
 (.block 2
 (qr [qc 91 .eql 85 10,
 qV 90 91] [0,1,2,8,9,85,90]
 (qd 90
 (.region [oO 10 (.mv (.c (.int .u64 1844674407370955162)))] [0,1,2,8,9,10])
 (qr [qc 93 .eql 85 16,
 qV 92 93] [0,1,2,8,9,92]
 (qd 92
 (.region [oO 10 (.mv (.c (.int .u64 1152921504606846976)))] [0,1,2,8,9,10])
 (.region [qU 86 1,
 oO 87 (.conv .u64 (tU 86)),
 oO 88 (.bin .quo (.c (.int .u64 18446744073709551615)) (tU 87)),
 oO 89 (.bin .add (tU 88) (.c (.int .u64 1))),
 qV 10 89] [0,1,2,8,9,10])))))))
 (qr [qV 94 2,
 oO 95 (.conv .u64 (tU 94)),
 oO 96 (.bin .shl (.c (.int .u64 1)) (tU 95)),
 oO 97 (.bin .sub (tU 96) (.c (.int .u64 1))),
 qV 11 97] [0,1,8,9,10,11]
 (qr [qB 12 false] [0,1,8,9,10,11,12]
 (qr [oO 13 (.mv (.c (.int .u64 0)))] [0,1,8,9,10,11,12,13]
 (.seq (qr [qV 98 0,
 oO 99 (.bytesS (tU 98)),
 qn 100 99,
 qI 101 0] [1,8,9,10,11,12,13,99,100,101]
 (.block 3
 (.loop l_isc_ParseUint_0)))
 (.seq (qr [qV 164 12,
 qV 165 164,
 qH 166 9 165 true,
 qg 167 (.call (.f n_isc_underscoreOK) [tV 166] false) 165 true,
 qg 168 (.un .not (tU 167)) 165 true,
 qp 169 165 168 false] [13,169]
 (qd 169
 (qr [oO 170 (.mkiface 211 (.c (.int .i64 2))),
 oO 6 (.mv (.c (.int .u64 0))),
 qV 7 170] [6,7]
 (.ret))
 (.skip)))
 (qr [qV 171 13,
 qV 6 171,
 oO 7 (.mv (.c (.nili)))] [6,7]
 (.ret)))))))))))))),
 [.tmp 6,.tmp 7],none,none,[]⟩
def i_sc_toError : IFun := ⟨false,5,
 qr [oO 10 (.mv (.c (.nili)))] [0,1,2,3,4]
 (.seq (qr [qU 11 4] [0,1,2,3,4,11]
 (.block 0
 (qr [oO 13 (.mkiface 211 (.c (.int .i64 2))),
 oO 14 (.eq false (.ifaceT 211) (tU 11) (tU 13)),
 qV 12 14] [0,1,2,3,4,11,12]
 (qd 12
 (qr [qV 15 0,
 qV 16 1,
 qk 17 n_sc_syntaxError [tV 15,tV 16] false,
 oO 18 (.mkiface 213 (tV 17)),
 qV 10 18] [10]
 (.ret))
 (qr [oO 20 (.mkiface 211 (.c (.int .i64 1))),
 oO 21 (.eq false (.ifaceT 211) (tU 11) (tU 20)),
 qV 19 21] [0,1,2,3,4,11,19]
 (qd 19
 (qr [qV 22 0,
 qV 23 1,
 qk 24 n_sc_rangeError [tV 22,tV 23] false,
 oO 25 (.mkiface 213 (tV 24)),
 qV 10 25] [10]
 (.ret))
 (qr [oO 27 (.mkiface 211 (.c (.int .i64 3))),
 oO 28 (.eq false (.ifaceT 211) (tU 11) (tU 27)),
 qV 26 28] [0,1,2,3,4,11,26]
 (qd 26
 (qr [qV 29 0,
 qV 30 1,
 qV 31 2,
 qk 32 n_sc_baseError [tV 29,tV 30,tV 31] false,
 oO 33 (.mkiface 213 (tV 32)),
 qV 10 33] [10]
 (.ret))
 (qr [oO 35 (.mkiface 211 (.c (.int .i64 4))),
 oO 36 (.eq false (.ifaceT 211) (tU 11) (tU 35)),
 qV 34 36] [0,1,3,4,34]
 (qd 34
 (qr [qV 37 0,
 qV 38 1,
 qV 39 3,
 qk 40 n_sc_bitSizeError [tV 37,tV 38,tV 39] false,
 oO 41 (.mkiface 213 (tV 40)),
 qV 10 41] [10]
 (.ret))
 (.skip)))))))))))
 (qr [qV 42 4,
 qV 10 42] [10]
 (.ret))),
 [.tmp 10],none,none,[]⟩
def i_isc_ParseInt : IFun := ⟨false,3,
 qr [qI 6 0,
 oO 7 (.mv (.c (.nili)))] [0,1,2]
 (.seq (qr [qU 12 0,
 oO 13 (.bin .eql (tU 12) (.c (.str [])))] [0,1,2,13]
 (qd 13
 (qr [oO 14 (.mkiface 211 (.c (.int .i64 2))),
 qI 6 0,
 qV 7 14] [6,7]
 (.ret))
 (.skip)))
 (qr [qB 8 false] [0,1,2,8]
 (.seq (qr [qU 15 0,
 oO 16 (.idxS (tU 15) (.c (.int .i64 0)))] [0,1,2,8,16]
 (.block 0
 (qr [oO 18 (.bin .eql (tU 16) (.c (.int .u8 43))),
 qV 17 18] [0,1,2,8,16,17]
 (qd 17
 (.region [qV 19 0,
 oO 20 (.slcS (tU 19) (some (.c (.int .i64 1))) none),
 qV 0 20] [0,1,2,8])
 (qr [oO 22 (.bin .eql (tU 16) (.c (.int .u8 45))),
 qV 21 22] [0,1,2,8,21]
 (qd 21
 (qr [qV 23 0,
 oO 24 (.slcS (tU 23) (some (.c (.int .i64 1))) none),
 qV 0 24] [0,1,2]
 (.region [qB 8 true] [0,1,2,8]))
 (.skip)))))))
 (qr [oO 9 (.mv (.c (.int .u64 0)))] [0,1,2,8]
 (qr [qV 26 0,
 qV 27 1,
 qU 28 2,
 qk 29 n_isc_ParseUint [tV 26,tV 27,tV 28] false,
 qV 25 29,
 qx 30 25 0,
 qy 31 25 1,
 qV 9 30,
 qV 7 31] [2,7,8,9]
 (.seq (qr [qU 32 7,
 oO 33 (.eq true .iface (tU 32) (.c (.nili))),
 qV 34 33,
 qh 35 7 34 true,
 qg 36 (.mkiface 211 (.c (.int .i64 1))) 34 true,
 qg 37 (.eq true (.ifaceT 211) (tU 35) (tU 36)) 34 true,
 qp 38 34 37 false] [2,7,8,9,38]
 (qd 38
 (qr [qV 39 7,
 qI 6 0,
 qV 7 39] [6,7]
 (.ret))
 (.skip)))
 (.seq (qr [qU 40 2,
 qc 41 .eql 40 0] [2,8,9,41]
 (qd 41
 (.region [qI 2 64] [2,8,9])
 (.skip)))
 (qr [qV 42 2,
 qc 43 .sub 42 1,
 oO 44 (.conv .u64 (tU 43)),
 oO 45 (.bin .shl (.c (.int .u64 1)) (tU 44)),
 qV 10 45] [8,9,10]
 (.seq (qr [qU 46 8,
 oO 47 (.un .not (tU 46)),
 qV 48 47,
 qh 49 9 48 true,
 qh 50 10 48 true,
 qg 51 (.bin .geq (tU 49) (tU 50)) 48 true,
 qp 52 48 51 false] [8,9,10,52]
 (qd 52
 (qr [qV 53 10,
 oO 54 (.bin .sub (tU 53) (.c (.int .u64 1))),
 oO 55 (.conv .i64 (tU 54)),
 oO 56 (.mkiface 211 (.c (.int .i64 1))),
 qV 6 55,
 qV 7 56] [6,7]
 (.ret))
 (.skip)))
 (.seq (qr [qU 57 8,
 qV 58 57,
 qh 59 9 58 true,
 qh 60 10 58 true,
 qg 61 (.bin .gtr (tU 59) (tU 60)) 58 true,
 qp 62 58 61 false] [8,9,10,62]
 (qd 62
 (qr [qV 63 10,
 oO 64 (.conv .i64 (tU 63)),
 oO 65 (.un .neg (tU 64)),
 oO 66 (.mkiface 211 (.c (.int .i64 1))),
 qV 6 65,
 qV 7 66] [6,7]
 (.ret))
 (.skip)))
 (qr [qV 67 9,
 oO 68 (.conv .i64 (tU 67)),
 qV 11 68] [8,11]
 (.seq (qr [qV 69 8] [11,69]
 (qd 69
 (.region [qV 70 11,
 oO 71 (.un .neg (tU 70)),
 qV 11 71] [11])
 (.skip)))
 (qr [qV 72 11,
 qV 6 72,
 oO 7 (.mv (.c (.nili)))] [6,7]
 (.ret)))))))))))))),
 [.tmp 6,.tmp 7],none,none,[]⟩
def i_sc_syntaxError : IFun := ⟨false,2,
 qr [oO 4 (.mv (.c (.nilp)))] [0,1]
 (.seq (.draw [qV 5 0,
 qV 6 1,
 qk 7 n_isl_Clone [tV 6] true,
 oO 8 (.load (.g 6) .heap 1 false false),
 oO 9 (.build [.str [],.str [],.nili] [(0,1,.t 5 true),(1,1,.t 7 true),(2,1,.t 8 true)]),
 oO 10 (.box true (tV 9)),
 qV 4 10] [0,1,3,2,4,5,6] [2] [4])
 (.ret)),
 [.tmp 4],none,none,[]⟩
def i_sc_rangeError : IFun := ⟨false,2,
 qr [oO 4 (.mv (.c (.nilp)))] [0,1]
 (.seq (.draw [qV 5 0,
 qV 6 1,
 qk 7 n_isl_Clone [tV 6] true,
 oO 8 (.load (.g 7) .heap 1 false false),
 oO 9 (.build [.str [],.str [],.nili] [(0,1,.t 5 true),(1,1,.t 7 true),(2,1,.t 8 true)]),
 oO 10 (.box true (tV 9)),
 qV 4 10] [0,1,3,2,4,5,6] [2] [4])
 (.ret)),
 [.tmp 4],none,none,[]⟩
def i_isl_Clone : IFun := ⟨true,1,
 qr [oO 2 (.mv (.c (.str [])))] [0]
 (.seq (qr [qU 4 0,
 oO 5 (.len (tU 4) .str),
 qc 6 .eql 5 0] [0,6]
 (qd 6
 (qr [oO 2 (.mv (.c (.str [])))] [2]
 (.ret))
 (.skip)))
 (qr [qU 7 0,
 oO 8 (.len (tU 7) .str),
 oO 9 (.mkbuf (.int .u8 0) 5 (tU 8) (tU 8) 1),
 qV 3 9] [0,3]
 (qr [qU 10 3,
 qV 11 0,
 oO 12 (.copyS (tU 10) (tU 11))] [3]
 (qr [qU 13 3,
 oO 14 (.iaddrL (tU 13) (.c (.int .i64 0)) 1),
 qV 15 3,
 qn 16 15,
 oO 17 (.ustr (tU 14) (tU 16) 5),
 qV 2 17] [2]
 (.ret))))),
 [.tmp 2],none,none,[]⟩
def IPT : IT :=
 .node 113 i_sx_all (.node 66 i_digits_Dec (.node 43 i_pt_Explain (.node 29 i_sl36_live (.node 22 i_sr07_Write (.node 13 i_sl36_ProoftextExplains (.node 12 i_sl36_ProoftextConcls .leaf .leaf) (.node 16 i_tt_Read .leaf .leaf)) (.node 25 i_tt_Print (.node 24 i_tt_Write .leaf .leaf) (.node 26 i_sr05_Print .leaf .leaf))) (.node 40 i_sr06_Light (.node 33 i_sr36_Light (.node 30 i_pt_Parse .leaf .leaf) (.node 34 i_pt_Line .leaf .leaf)) (.node 42 i_sr36_Concl (.node 41 i_pt_Concl .leaf .leaf) .leaf))) (.node 58 i_sr07_Notable (.node 50 i_sr04_Leaf (.node 46 i_tt_Read_1 (.node 44 i_sr36_Explain .leaf .leaf) (.node 47 i_tt_read .leaf .leaf)) (.node 52 i_sr04_Arity (.node 51 i_sr07_plain .leaf .leaf) .leaf)) (.node 63 i_tt_notable (.node 60 i_sr02_Dec (.node 59 i_sr02_Int .leaf .leaf) (.node 61 i_sr04_Name .leaf .leaf)) (.node 65 i_digits_Int (.node 64 i_tt_atom .leaf .leaf) .leaf)))) (.node 87 i_sb_String (.node 77 i_proof_Kind (.node 70 i_sx_ParseAll (.node 68 i_tt_numerals (.node 67 i_oi_Name .leaf .leaf) (.node 69 i_sx_Print .leaf .leaf)) (.node 72 i_proof_Check (.node 71 i_pt_read .leaf .leaf) .leaf)) (.node 81 i_sr34_Kind (.node 79 i_pt_list (.node 78 i_pt_number .leaf .leaf) (.node 80 i_pt_atom .leaf .leaf)) (.node 86 i_sb_WriteByte (.node 85 i_sb_WriteString .leaf .leaf) .leaf))) (.node 98 i_oi_Leaf (.node 95 i_tt_leaf (.node 93 i_pt_join (.node 92 i_sr06_count .leaf .leaf) (.node 94 i_sr36_text .leaf .leaf)) (.node 97 i_oi_Of (.node 96 i_tt_must .leaf .leaf) .leaf)) (.node 102 i_tt_fail (.node 100 i_tt_number (.node 99 i_oi_Arity .leaf .leaf) (.node 101 i_oi_Width .leaf .leaf)) (.node 108 i_sr04_Is (.node 107 i_sr07_Name .leaf .leaf) .leaf))))) (.node 159 i_isl_Cut (.node 134 i_oi_inside (.node 123 i_proof_right (.node 119 i_sc_FormatUint (.node 117 i_term_Name (.node 116 i_sr02_write .leaf .leaf) (.node 118 i_sc_Itoa .leaf .leaf)) (.node 121 i_sx_write (.node 120 i_oi_known .leaf .leaf) (.node 122 i_pt_step .leaf .leaf))) (.node 131 i_tt_numeral (.node 129 i_ss_Join (.node 125 i_sb_copyCheck .leaf .leaf) (.node 130 i_ss_Cut .leaf .leaf)) (.node 133 i_ss_HasPrefix (.node 132 i_tt_constant .leaf .leaf) .leaf))) (.node 145 i_isc_Itoa (.node 139 i_sx_all_1 (.node 136 i_oi_resized (.node 135 i_oi_leaf .leaf .leaf) (.node 137 i_oi_agreed .leaf .leaf)) (.node 141 i_sp_expression (.node 140 i_sp_skip .leaf .leaf) .leaf)) (.node 149 i_pt_pairs (.node 147 i_pt_kind (.node 146 i_isc_FormatUint .leaf .leaf) (.node 148 i_pt_integer .leaf .leaf)) (.node 158 i_sb_Grow (.node 150 i_proof_Refs .leaf .leaf) .leaf)))) (.node 178 i_sc_ParseUint (.node 167 i_isc_numDigits (.node 164 i_sp_fail (.node 161 i_isl_HasPrefix (.node 160 i_digits_Parse .leaf .leaf) (.node 163 i_sx_plain .leaf .leaf)) (.node 166 i_isc_small (.node 165 i_isc_FormatInt .leaf .leaf) .leaf)) (.node 175 i_isl_Index (.node 170 i_digits_ParseInt (.node 168 i_isc_formatBase10 .leaf .leaf) (.node 174 i_sb_grow .leaf .leaf)) (.node 177 i_digits_numeral (.node 176 i_ss_CutPrefix .leaf .leaf) .leaf))) (.node 192 i_ss_IndexByte (.node 185 i_sc_ParseInt (.node 181 i_math_bits_Len64 (.node 180 i_isc_log10Pow2 .leaf .leaf) (.node 182 i_isc_bool2_int .leaf .leaf)) (.node 191 i_isl_CutPrefix (.node 187 i_isl_IndexByte .leaf .leaf) .leaf)) (.node 202 i_sc_syntaxError (.node 194 i_sc_toError (.node 193 i_isc_ParseUint .leaf .leaf) (.node 197 i_isc_ParseInt .leaf .leaf)) (.node 206 i_isl_Clone (.node 203 i_sc_rangeError .leaf .leaf) .leaf)))))
def IP : IProg := IPT.get
def g_0 : List AV := [.str [],.str [118,97,114],.str [99,111,110,115,116],.str [110,111,116],.str [110,101,103],.str [97,110,100],.str [111,114],.str [120,111,114],.str [97,100,100],.str [115,117,98],.str [109,117,108],.str [117,100,105,118],.str [117,114,101,109],.str [115,104,108],.str [108,115,104,114],.str [97,115,104,114],.str [101,113],.str [117,108,116],.str [115,108,116],.str [105,116,101],.str [99,111,110,99,97,116],.str [101,120,116,114,97,99,116],.str [122,101,120,116],.str [115,101,120,116],.str [104,111,108,101],.str [110,117,109],.str [101,118,97,108]]
def g_1 : List AV := [.str [],.int .i64 0,.int .i64 0,.str [114,101,102,108],.int .i64 0,.int .i64 0,.str [115,121,109],.int .i64 1,.int .i64 1,.str [116,114,97,110,115],.int .i64 2,.int .i64 2,.str [99,111,110,103],.int .i64 0,.int .i64 3,.str [114,117,108,101],.int .i64 0,.int .i64 12,.str [102,111,108,100],.int .i64 0,.int .i64 0,.str [116,111,112],.int .i64 0,.int .i64 0,.str [110,111,100,101],.int .i64 0,.int .i64 3,.str [109,101,101,116],.int .i64 2,.int .i64 2,.str [109,111,118,101],.int .i64 2,.int .i64 2,.str [115,105,110,103,108,101],.int .i64 1,.int .i64 1,.str [103,105,118,101,110],.int .i64 0,.int .i64 0]
def g_2 : List AV := [.int .u64 1,.int .u64 10,.int .u64 100,.int .u64 1000,.int .u64 10000,.int .u64 100000,.int .u64 1000000,.int .u64 10000000,.int .u64 100000000,.int .u64 1000000000,.int .u64 10000000000,.int .u64 100000000000,.int .u64 1000000000000,.int .u64 10000000000000,.int .u64 100000000000000,.int .u64 1000000000000000,.int .u64 10000000000000000,.int .u64 100000000000000000,.int .u64 1000000000000000000,.int .u64 10000000000000000000]
def g_7 : List AV := [.iface 222 .none]
def G0 : Nat → Option (List AV) := fun b => if b = 0 then some g_0 else if b = 1 then some g_1 else if b = 2 then some g_2 else if b = 7 then some g_7 else  none
theorem G0_0 : G0 0 = some g_0 := rfl
theorem G0_1 : G0 1 = some g_1 := rfl
theorem G0_2 : G0 2 = some g_2 := rfl
theorem G0_7 : G0 7 = some g_7 := rfl
theorem IP_sl36_ProoftextConcls : IP n_sl36_ProoftextConcls = some i_sl36_ProoftextConcls := rfl
theorem IP_sl36_ProoftextExplains : IP n_sl36_ProoftextExplains = some i_sl36_ProoftextExplains := rfl
theorem IP_sr07_Write : IP n_sr07_Write = some i_sr07_Write := rfl
theorem IP_tt_Write : IP n_tt_Write = some i_tt_Write := rfl
theorem IP_tt_Print : IP n_tt_Print = some i_tt_Print := rfl
theorem IP_sr05_Print : IP n_sr05_Print = some i_sr05_Print := rfl
theorem IP_sr36_Light : IP n_sr36_Light = some i_sr36_Light := rfl
theorem IP_sr06_Light : IP n_sr06_Light = some i_sr06_Light := rfl
theorem IP_pt_Concl : IP n_pt_Concl = some i_pt_Concl := rfl
theorem IP_sr36_Concl : IP n_sr36_Concl = some i_sr36_Concl := rfl
theorem IP_pt_Explain : IP n_pt_Explain = some i_pt_Explain := rfl
theorem IP_sr36_Explain : IP n_sr36_Explain = some i_sr36_Explain := rfl
theorem IP_sr04_Leaf : IP n_sr04_Leaf = some i_sr04_Leaf := rfl
theorem IP_sr07_plain : IP n_sr07_plain = some i_sr07_plain := rfl
theorem IP_sr04_Arity : IP n_sr04_Arity = some i_sr04_Arity := rfl
theorem IP_sr07_Notable : IP n_sr07_Notable = some i_sr07_Notable := rfl
theorem IP_sr02_Int : IP n_sr02_Int = some i_sr02_Int := rfl
theorem IP_sr02_Dec : IP n_sr02_Dec = some i_sr02_Dec := rfl
theorem IP_sr04_Name : IP n_sr04_Name = some i_sr04_Name := rfl
theorem IP_tt_notable : IP n_tt_notable = some i_tt_notable := rfl
theorem IP_tt_atom : IP n_tt_atom = some i_tt_atom := rfl
theorem IP_digits_Int : IP n_digits_Int = some i_digits_Int := rfl
theorem IP_digits_Dec : IP n_digits_Dec = some i_digits_Dec := rfl
theorem IP_oi_Name : IP n_oi_Name = some i_oi_Name := rfl
theorem IP_tt_numerals : IP n_tt_numerals = some i_tt_numerals := rfl
theorem IP_sx_Print : IP n_sx_Print = some i_sx_Print := rfl
theorem IP_proof_Kind : IP n_proof_Kind = some i_proof_Kind := rfl
theorem IP_sr34_Kind : IP n_sr34_Kind = some i_sr34_Kind := rfl
theorem IP_sb_WriteString : IP n_sb_WriteString = some i_sb_WriteString := rfl
theorem IP_sb_WriteByte : IP n_sb_WriteByte = some i_sb_WriteByte := rfl
theorem IP_sb_String : IP n_sb_String = some i_sb_String := rfl
theorem IP_sr06_count : IP n_sr06_count = some i_sr06_count := rfl
theorem IP_pt_join : IP n_pt_join = some i_pt_join := rfl
theorem IP_sr36_text : IP n_sr36_text = some i_sr36_text := rfl
theorem IP_oi_Arity : IP n_oi_Arity = some i_oi_Arity := rfl
theorem IP_sr07_Name : IP n_sr07_Name = some i_sr07_Name := rfl
theorem IP_sr04_Is : IP n_sr04_Is = some i_sr04_Is := rfl
theorem IP_sr02_write : IP n_sr02_write = some i_sr02_write := rfl
theorem IP_term_Name : IP n_term_Name = some i_term_Name := rfl
theorem IP_sc_Itoa : IP n_sc_Itoa = some i_sc_Itoa := rfl
theorem IP_sc_FormatUint : IP n_sc_FormatUint = some i_sc_FormatUint := rfl
theorem IP_oi_known : IP n_oi_known = some i_oi_known := rfl
theorem IP_sx_write : IP n_sx_write = some i_sx_write := rfl
theorem IP_sb_copyCheck : IP n_sb_copyCheck = some i_sb_copyCheck := rfl
theorem IP_ss_Join : IP n_ss_Join = some i_ss_Join := rfl
theorem IP_isc_Itoa : IP n_isc_Itoa = some i_isc_Itoa := rfl
theorem IP_isc_FormatUint : IP n_isc_FormatUint = some i_isc_FormatUint := rfl
theorem IP_sb_Grow : IP n_sb_Grow = some i_sb_Grow := rfl
theorem IP_isc_FormatInt : IP n_isc_FormatInt = some i_isc_FormatInt := rfl
theorem IP_isc_small : IP n_isc_small = some i_isc_small := rfl
theorem IP_isc_numDigits : IP n_isc_numDigits = some i_isc_numDigits := rfl
theorem IP_isc_formatBase10 : IP n_isc_formatBase10 = some i_isc_formatBase10 := rfl
theorem IP_sb_grow : IP n_sb_grow = some i_sb_grow := rfl
theorem IP_isc_log10Pow2 : IP n_isc_log10Pow2 = some i_isc_log10Pow2 := rfl
theorem IP_math_bits_Len64 : IP n_math_bits_Len64 = some i_math_bits_Len64 := rfl
theorem IP_isc_bool2_int : IP n_isc_bool2_int = some i_isc_bool2_int := rfl
end Go.Proofs.YtkofimhnehkdoaaGreatDoor.Rf
end

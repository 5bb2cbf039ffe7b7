/- The types of the program, as the frame 'Ab' reads them: printed by a small program, proved here. -/
import Derived.Test.YtcajihigkjcgeaaGreatDoorAbQ
import Derived.Test.YtcajihigkjcgeaaGreatDoorProg
import Derived.KernelRfl
set_option linter.all false
namespace Ab
open Go
set_option maxRecDepth 10000


noncomputable abbrev PG : Program := Go.Proofs.Tryz.prog
abbrev l_FnProgBack : Nat := 3
theorem g_l_FnProgBack : PG.funcs[l_FnProgBack]? = some Go.Proofs.Tryz.f3 := Go.Proofs.Tryz.func3
abbrev s_DrawProgWrite : Nat := 6
theorem g_s_DrawProgWrite : PG.funcs[s_DrawProgWrite]? = some Go.Proofs.Tryz.f6 := Go.Proofs.Tryz.func6
abbrev i_ProgWrite : Nat := 7
theorem g_i_ProgWrite : PG.funcs[i_ProgWrite]? = some Go.Proofs.Tryz.f7 := Go.Proofs.Tryz.func7
abbrev s_ProgWrite : Nat := 8
theorem g_s_ProgWrite : PG.funcs[s_ProgWrite]? = some Go.Proofs.Tryz.f8 := Go.Proofs.Tryz.func8
abbrev i_ProgRead : Nat := 9
theorem g_i_ProgRead : PG.funcs[i_ProgRead]? = some Go.Proofs.Tryz.f9 := Go.Proofs.Tryz.func9
abbrev l_lhProg : Nat := 10
theorem g_l_lhProg : PG.funcs[l_lhProg]? = some Go.Proofs.Tryz.f10 := Go.Proofs.Tryz.func10
abbrev s_l71Some : Nat := 16
theorem g_s_l71Some : PG.funcs[s_l71Some]? = some Go.Proofs.Tryz.f16 := Go.Proofs.Tryz.func16
abbrev s_l6Open : Nat := 17
theorem g_s_l6Open : PG.funcs[s_l6Open]? = some Go.Proofs.Tryz.f17 := Go.Proofs.Tryz.func17
abbrev i_progForm : Nat := 18
theorem g_i_progForm : PG.funcs[i_progForm]? = some Go.Proofs.Tryz.f18 := Go.Proofs.Tryz.func18
abbrev i_fnWrite : Nat := 19
theorem g_i_fnWrite : PG.funcs[i_fnWrite]? = some Go.Proofs.Tryz.f19 := Go.Proofs.Tryz.func19
abbrev x_strings_Builder_Len : Nat := 20
theorem g_x_strings_Builder_Len : PG.funcs[x_strings_Builder_Len]? = some Go.Proofs.Tryz.f20 := Go.Proofs.Tryz.func20
abbrev x_strings_Builder_String : Nat := 21
theorem g_x_strings_Builder_String : PG.funcs[x_strings_Builder_String]? = some Go.Proofs.Tryz.f21 := Go.Proofs.Tryz.func21
abbrev s_l2Form : Nat := 22
theorem g_s_l2Form : PG.funcs[s_l2Form]? = some Go.Proofs.Tryz.f22 := Go.Proofs.Tryz.func22
abbrev s_l1Say : Nat := 23
theorem g_s_l1Say : PG.funcs[s_l1Say]? = some Go.Proofs.Tryz.f23 := Go.Proofs.Tryz.func23
abbrev s_l2Lines : Nat := 24
theorem g_s_l2Lines : PG.funcs[s_l2Lines]? = some Go.Proofs.Tryz.f24 := Go.Proofs.Tryz.func24
abbrev s_l2At : Nat := 25
theorem g_s_l2At : PG.funcs[s_l2At]? = some Go.Proofs.Tryz.f25 := Go.Proofs.Tryz.func25
abbrev s_l2Say : Nat := 26
theorem g_s_l2Say : PG.funcs[s_l2Say]? = some Go.Proofs.Tryz.f26 := Go.Proofs.Tryz.func26
abbrev x_strings_Split : Nat := 27
theorem g_x_strings_Split : PG.funcs[x_strings_Split]? = some Go.Proofs.Tryz.f27 := Go.Proofs.Tryz.func27
abbrev x_strings_TrimSuffix : Nat := 28
theorem g_x_strings_TrimSuffix : PG.funcs[x_strings_TrimSuffix]? = some Go.Proofs.Tryz.f28 := Go.Proofs.Tryz.func28
abbrev i_progReader_fn : Nat := 29
theorem g_i_progReader_fn : PG.funcs[i_progReader_fn]? = some Go.Proofs.Tryz.f29 := Go.Proofs.Tryz.func29
abbrev l_lhType : Nat := 30
theorem g_l_lhType : PG.funcs[l_lhType]? = some Go.Proofs.Tryz.f30 := Go.Proofs.Tryz.func30
abbrev l_lhBody : Nat := 31
theorem g_l_lhBody : PG.funcs[l_lhBody]? = some Go.Proofs.Tryz.f31 := Go.Proofs.Tryz.func31
abbrev l_lhExpr : Nat := 32
theorem g_l_lhExpr : PG.funcs[l_lhExpr]? = some Go.Proofs.Tryz.f32 := Go.Proofs.Tryz.func32
abbrev l_lhPlace : Nat := 33
theorem g_l_lhPlace : PG.funcs[l_lhPlace]? = some Go.Proofs.Tryz.f33 := Go.Proofs.Tryz.func33
abbrev s_l71Prog : Nat := 41
theorem g_s_l71Prog : PG.funcs[s_l71Prog]? = some Go.Proofs.Tryz.f41 := Go.Proofs.Tryz.func41
abbrev s_l6Rd_pick : Nat := 42
theorem g_s_l6Rd_pick : PG.funcs[s_l6Rd_pick]? = some Go.Proofs.Tryz.f42 := Go.Proofs.Tryz.func42
abbrev s_l6Rd_of : Nat := 43
theorem g_s_l6Rd_of : PG.funcs[s_l6Rd_of]? = some Go.Proofs.Tryz.f43 := Go.Proofs.Tryz.func43
abbrev s_l71Bend : Nat := 45
theorem g_s_l71Bend : PG.funcs[s_l71Bend]? = some Go.Proofs.Tryz.f45 := Go.Proofs.Tryz.func45
abbrev i_fnForm : Nat := 46
theorem g_i_fnForm : PG.funcs[i_fnForm]? = some Go.Proofs.Tryz.f46 := Go.Proofs.Tryz.func46
abbrev i_progLine : Nat := 47
theorem g_i_progLine : PG.funcs[i_progLine]? = some Go.Proofs.Tryz.f47 := Go.Proofs.Tryz.func47
abbrev i_typeWords : Nat := 48
theorem g_i_typeWords : PG.funcs[i_typeWords]? = some Go.Proofs.Tryz.f48 := Go.Proofs.Tryz.func48
abbrev i_stmtsWrite : Nat := 49
theorem g_i_stmtsWrite : PG.funcs[i_stmtsWrite]? = some Go.Proofs.Tryz.f49 := Go.Proofs.Tryz.func49
abbrev i_placeText : Nat := 50
theorem g_i_placeText : PG.funcs[i_placeText]? = some Go.Proofs.Tryz.f50 := Go.Proofs.Tryz.func50
abbrev i_exprText : Nat := 51
theorem g_i_exprText : PG.funcs[i_exprText]? = some Go.Proofs.Tryz.f51 := Go.Proofs.Tryz.func51
abbrev s_l2Fn : Nat := 52
theorem g_s_l2Fn : PG.funcs[s_l2Fn]? = some Go.Proofs.Tryz.f52 := Go.Proofs.Tryz.func52
abbrev s_l6Dec : Nat := 53
theorem g_s_l6Dec : PG.funcs[s_l6Dec]? = some Go.Proofs.Tryz.f53 := Go.Proofs.Tryz.func53
abbrev s_l2Signs : Nat := 54
theorem g_s_l2Signs : PG.funcs[s_l2Signs]? = some Go.Proofs.Tryz.f54 := Go.Proofs.Tryz.func54
abbrev i_progReader_take : Nat := 57
theorem g_i_progReader_take : PG.funcs[i_progReader_take]? = some Go.Proofs.Tryz.f57 := Go.Proofs.Tryz.func57
abbrev i_progReader_first : Nat := 58
theorem g_i_progReader_first : PG.funcs[i_progReader_first]? = some Go.Proofs.Tryz.f58 := Go.Proofs.Tryz.func58
abbrev i_progReader_typ : Nat := 59
theorem g_i_progReader_typ : PG.funcs[i_progReader_typ]? = some Go.Proofs.Tryz.f59 := Go.Proofs.Tryz.func59
abbrev i_progReader_stmts : Nat := 60
theorem g_i_progReader_stmts : PG.funcs[i_progReader_stmts]? = some Go.Proofs.Tryz.f60 := Go.Proofs.Tryz.func60
abbrev i_progReader_whole : Nat := 61
theorem g_i_progReader_whole : PG.funcs[i_progReader_whole]? = some Go.Proofs.Tryz.f61 := Go.Proofs.Tryz.func61
abbrev i_progReader_place : Nat := 62
theorem g_i_progReader_place : PG.funcs[i_progReader_place]? = some Go.Proofs.Tryz.f62 := Go.Proofs.Tryz.func62
abbrev l_lhInts : Nat := 63
theorem g_l_lhInts : PG.funcs[l_lhInts]? = some Go.Proofs.Tryz.f63 := Go.Proofs.Tryz.func63
abbrev s_l71Fn : Nat := 81
theorem g_s_l71Fn : PG.funcs[s_l71Fn]? = some Go.Proofs.Tryz.f81 := Go.Proofs.Tryz.func81
abbrev s_l71Deep : Nat := 82
theorem g_s_l71Deep : PG.funcs[s_l71Deep]? = some Go.Proofs.Tryz.f82 := Go.Proofs.Tryz.func82
abbrev i_nameForm : Nat := 83
theorem g_i_nameForm : PG.funcs[i_nameForm]? = some Go.Proofs.Tryz.f83 := Go.Proofs.Tryz.func83
abbrev i_TypeOk : Nat := 84
theorem g_i_TypeOk : PG.funcs[i_TypeOk]? = some Go.Proofs.Tryz.f84 := Go.Proofs.Tryz.func84
abbrev i_stmtsForm : Nat := 85
theorem g_i_stmtsForm : PG.funcs[i_stmtsForm]? = some Go.Proofs.Tryz.f85 := Go.Proofs.Tryz.func85
abbrev i_placeForm : Nat := 86
theorem g_i_placeForm : PG.funcs[i_placeForm]? = some Go.Proofs.Tryz.f86 := Go.Proofs.Tryz.func86
abbrev i_exprNothing : Nat := 87
theorem g_i_exprNothing : PG.funcs[i_exprNothing]? = some Go.Proofs.Tryz.f87 := Go.Proofs.Tryz.func87
abbrev i_exprForm : Nat := 88
theorem g_i_exprForm : PG.funcs[i_exprForm]? = some Go.Proofs.Tryz.f88 := Go.Proofs.Tryz.func88
abbrev i_placeNothing : Nat := 89
theorem g_i_placeNothing : PG.funcs[i_placeNothing]? = some Go.Proofs.Tryz.f89 := Go.Proofs.Tryz.func89
abbrev x_strings_Builder_WriteString : Nat := 90
theorem g_x_strings_Builder_WriteString : PG.funcs[x_strings_Builder_WriteString]? = some Go.Proofs.Tryz.f90 := Go.Proofs.Tryz.func90
abbrev x_strings_Join : Nat := 91
theorem g_x_strings_Join : PG.funcs[x_strings_Join]? = some Go.Proofs.Tryz.f91 := Go.Proofs.Tryz.func91
abbrev x_strings_Builder_WriteByte : Nat := 92
theorem g_x_strings_Builder_WriteByte : PG.funcs[x_strings_Builder_WriteByte]? = some Go.Proofs.Tryz.f92 := Go.Proofs.Tryz.func92
abbrev i_typeIsNum : Nat := 93
theorem g_i_typeIsNum : PG.funcs[i_typeIsNum]? = some Go.Proofs.Tryz.f93 := Go.Proofs.Tryz.func93
abbrev i_stmtOf : Nat := 94
theorem g_i_stmtOf : PG.funcs[i_stmtOf]? = some Go.Proofs.Tryz.f94 := Go.Proofs.Tryz.func94
abbrev i_pathText : Nat := 95
theorem g_i_pathText : PG.funcs[i_pathText]? = some Go.Proofs.Tryz.f95 := Go.Proofs.Tryz.func95
abbrev i_exprOf : Nat := 96
theorem g_i_exprOf : PG.funcs[i_exprOf]? = some Go.Proofs.Tryz.f96 := Go.Proofs.Tryz.func96
abbrev x_strconv_Itoa : Nat := 97
theorem g_x_strconv_Itoa : PG.funcs[x_strconv_Itoa]? = some Go.Proofs.Tryz.f97 := Go.Proofs.Tryz.func97
abbrev i_twoText : Nat := 98
theorem g_i_twoText : PG.funcs[i_twoText]? = some Go.Proofs.Tryz.f98 := Go.Proofs.Tryz.func98
abbrev s_l2Name : Nat := 99
theorem g_s_l2Name : PG.funcs[s_l2Name]? = some Go.Proofs.Tryz.f99 := Go.Proofs.Tryz.func99
abbrev s_TypeOk : Nat := 100
theorem g_s_TypeOk : PG.funcs[s_TypeOk]? = some Go.Proofs.Tryz.f100 := Go.Proofs.Tryz.func100
abbrev s_l2Body : Nat := 101
theorem g_s_l2Body : PG.funcs[s_l2Body]? = some Go.Proofs.Tryz.f101 := Go.Proofs.Tryz.func101
abbrev s_l2Count : Nat := 102
theorem g_s_l2Count : PG.funcs[s_l2Count]? = some Go.Proofs.Tryz.f102 := Go.Proofs.Tryz.func102
abbrev s_l2Place : Nat := 103
theorem g_s_l2Place : PG.funcs[s_l2Place]? = some Go.Proofs.Tryz.f103 := Go.Proofs.Tryz.func103
abbrev s_l2NoExpr : Nat := 104
theorem g_s_l2NoExpr : PG.funcs[s_l2NoExpr]? = some Go.Proofs.Tryz.f104 := Go.Proofs.Tryz.func104
abbrev s_l2None : Nat := 105
theorem g_s_l2None : PG.funcs[s_l2None]? = some Go.Proofs.Tryz.f105 := Go.Proofs.Tryz.func105
abbrev s_l2Expr : Nat := 106
theorem g_s_l2Expr : PG.funcs[s_l2Expr]? = some Go.Proofs.Tryz.f106 := Go.Proofs.Tryz.func106
abbrev x_strings_Cut : Nat := 111
theorem g_x_strings_Cut : PG.funcs[x_strings_Cut]? = some Go.Proofs.Tryz.f111 := Go.Proofs.Tryz.func111
abbrev i_typeRead : Nat := 112
theorem g_i_typeRead : PG.funcs[i_typeRead]? = some Go.Proofs.Tryz.f112 := Go.Proofs.Tryz.func112
abbrev i_progReader_args : Nat := 113
theorem g_i_progReader_args : PG.funcs[i_progReader_args]? = some Go.Proofs.Tryz.f113 := Go.Proofs.Tryz.func113
abbrev i_progReader_choice : Nat := 114
theorem g_i_progReader_choice : PG.funcs[i_progReader_choice]? = some Go.Proofs.Tryz.f114 := Go.Proofs.Tryz.func114
abbrev i_progReader_expr : Nat := 115
theorem g_i_progReader_expr : PG.funcs[i_progReader_expr]? = some Go.Proofs.Tryz.f115 := Go.Proofs.Tryz.func115
abbrev s_l2Dec : Nat := 118
theorem g_s_l2Dec : PG.funcs[s_l2Dec]? = some Go.Proofs.Tryz.f118 := Go.Proofs.Tryz.func118
abbrev s_l71Type : Nat := 126
theorem g_s_l71Type : PG.funcs[s_l71Type]? = some Go.Proofs.Tryz.f126 := Go.Proofs.Tryz.func126
abbrev s_l3Start : Nat := 127
theorem g_s_l3Start : PG.funcs[s_l3Start]? = some Go.Proofs.Tryz.f127 := Go.Proofs.Tryz.func127
abbrev s_l71Mk_body : Nat := 128
theorem g_s_l71Mk_body : PG.funcs[s_l71Mk_body]? = some Go.Proofs.Tryz.f128 := Go.Proofs.Tryz.func128
abbrev s_l71Mk_place : Nat := 129
theorem g_s_l71Mk_place : PG.funcs[s_l71Mk_place]? = some Go.Proofs.Tryz.f129 := Go.Proofs.Tryz.func129
abbrev s_l3Env_copy : Nat := 130
theorem g_s_l3Env_copy : PG.funcs[s_l3Env_copy]? = some Go.Proofs.Tryz.f130 := Go.Proofs.Tryz.func130
abbrev s_l3Env_use : Nat := 131
theorem g_s_l3Env_use : PG.funcs[s_l3Env_use]? = some Go.Proofs.Tryz.f131 := Go.Proofs.Tryz.func131
abbrev s_l3Env_outside : Nat := 132
theorem g_s_l3Env_outside : PG.funcs[s_l3Env_outside]? = some Go.Proofs.Tryz.f132 := Go.Proofs.Tryz.func132
abbrev s_l71Mk_expr : Nat := 133
theorem g_s_l71Mk_expr : PG.funcs[s_l71Mk_expr]? = some Go.Proofs.Tryz.f133 := Go.Proofs.Tryz.func133
abbrev s_l3Env_same : Nat := 134
theorem g_s_l3Env_same : PG.funcs[s_l3Env_same]? = some Go.Proofs.Tryz.f134 := Go.Proofs.Tryz.func134
abbrev s_l3Env_expr : Nat := 135
theorem g_s_l3Env_expr : PG.funcs[s_l3Env_expr]? = some Go.Proofs.Tryz.f135 := Go.Proofs.Tryz.func135
abbrev i_typeFits : Nat := 136
theorem g_i_typeFits : PG.funcs[i_typeFits]? = some Go.Proofs.Tryz.f136 := Go.Proofs.Tryz.func136
abbrev i_argsForm : Nat := 137
theorem g_i_argsForm : PG.funcs[i_argsForm]? = some Go.Proofs.Tryz.f137 := Go.Proofs.Tryz.func137
abbrev i_pathForm : Nat := 138
theorem g_i_pathForm : PG.funcs[i_pathForm]? = some Go.Proofs.Tryz.f138 := Go.Proofs.Tryz.func138
abbrev i_stmtNothing : Nat := 141
theorem g_i_stmtNothing : PG.funcs[i_stmtNothing]? = some Go.Proofs.Tryz.f141 := Go.Proofs.Tryz.func141
abbrev s_l1Deep : Nat := 143
theorem g_s_l1Deep : PG.funcs[s_l1Deep]? = some Go.Proofs.Tryz.f143 := Go.Proofs.Tryz.func143
abbrev s_l2Stmt : Nat := 144
theorem g_s_l2Stmt : PG.funcs[s_l2Stmt]? = some Go.Proofs.Tryz.f144 := Go.Proofs.Tryz.func144
abbrev s_l6In : Nat := 145
theorem g_s_l6In : PG.funcs[s_l6In]? = some Go.Proofs.Tryz.f145 := Go.Proofs.Tryz.func145
abbrev x_strings_HasPrefix : Nat := 151
theorem g_x_strings_HasPrefix : PG.funcs[x_strings_HasPrefix]? = some Go.Proofs.Tryz.f151 := Go.Proofs.Tryz.func151
abbrev x_strings_CutPrefix : Nat := 152
theorem g_x_strings_CutPrefix : PG.funcs[x_strings_CutPrefix]? = some Go.Proofs.Tryz.f152 := Go.Proofs.Tryz.func152
abbrev x_strconv_Atoi : Nat := 153
theorem g_x_strconv_Atoi : PG.funcs[x_strconv_Atoi]? = some Go.Proofs.Tryz.f153 := Go.Proofs.Tryz.func153
abbrev s_l3Env_add : Nat := 159
theorem g_s_l3Env_add : PG.funcs[s_l3Env_add]? = some Go.Proofs.Tryz.f159 := Go.Proofs.Tryz.func159
abbrev s_l71Mk_stmt : Nat := 160
theorem g_s_l71Mk_stmt : PG.funcs[s_l71Mk_stmt]? = some Go.Proofs.Tryz.f160 := Go.Proofs.Tryz.func160
abbrev s_l3Env_stmt : Nat := 161
theorem g_s_l3Env_stmt : PG.funcs[s_l3Env_stmt]? = some Go.Proofs.Tryz.f161 := Go.Proofs.Tryz.func161
abbrev s_l71Path : Nat := 162
theorem g_s_l71Path : PG.funcs[s_l71Path]? = some Go.Proofs.Tryz.f162 := Go.Proofs.Tryz.func162
abbrev s_l3Env_find : Nat := 163
theorem g_s_l3Env_find : PG.funcs[s_l3Env_find]? = some Go.Proofs.Tryz.f163 := Go.Proofs.Tryz.func163
abbrev s_l3Env_fail : Nat := 164
theorem g_s_l3Env_fail : PG.funcs[s_l3Env_fail]? = some Go.Proofs.Tryz.f164 := Go.Proofs.Tryz.func164
abbrev s_TypeAt : Nat := 165
theorem g_s_TypeAt : PG.funcs[s_TypeAt]? = some Go.Proofs.Tryz.f165 := Go.Proofs.Tryz.func165
abbrev s_l3Env_ends : Nat := 166
theorem g_s_l3Env_ends : PG.funcs[s_l3Env_ends]? = some Go.Proofs.Tryz.f166 := Go.Proofs.Tryz.func166
abbrev s_l1Same : Nat := 167
theorem g_s_l1Same : PG.funcs[s_l1Same]? = some Go.Proofs.Tryz.f167 := Go.Proofs.Tryz.func167
abbrev s_l3Env_num : Nat := 168
theorem g_s_l3Env_num : PG.funcs[s_l3Env_num]? = some Go.Proofs.Tryz.f168 := Go.Proofs.Tryz.func168
abbrev i_argForm : Nat := 169
theorem g_i_argForm : PG.funcs[i_argForm]? = some Go.Proofs.Tryz.f169 := Go.Proofs.Tryz.func169
abbrev s_l2Args : Nat := 173
theorem g_s_l2Args : PG.funcs[s_l2Args]? = some Go.Proofs.Tryz.f173 := Go.Proofs.Tryz.func173
abbrev s_l71Mk_pick : Nat := 184
theorem g_s_l71Mk_pick : PG.funcs[s_l71Mk_pick]? = some Go.Proofs.Tryz.f184 := Go.Proofs.Tryz.func184
abbrev s_l71Mk_name : Nat := 185
theorem g_s_l71Mk_name : PG.funcs[s_l71Mk_name]? = some Go.Proofs.Tryz.f185 := Go.Proofs.Tryz.func185
abbrev s_l71Mk_call : Nat := 186
theorem g_s_l71Mk_call : PG.funcs[s_l71Mk_call]? = some Go.Proofs.Tryz.f186 := Go.Proofs.Tryz.func186
abbrev s_l3Env_call : Nat := 187
theorem g_s_l3Env_call : PG.funcs[s_l3Env_call]? = some Go.Proofs.Tryz.f187 := Go.Proofs.Tryz.func187
abbrev s_l3Env_pick : Nat := 188
theorem g_s_l3Env_pick : PG.funcs[s_l3Env_pick]? = some Go.Proofs.Tryz.f188 := Go.Proofs.Tryz.func188
abbrev s_l3Env_fork : Nat := 189
theorem g_s_l3Env_fork : PG.funcs[s_l3Env_fork]? = some Go.Proofs.Tryz.f189 := Go.Proofs.Tryz.func189
abbrev s_l1Copy : Nat := 190
theorem g_s_l1Copy : PG.funcs[s_l1Copy]? = some Go.Proofs.Tryz.f190 := Go.Proofs.Tryz.func190
abbrev s_l3Meet : Nat := 191
theorem g_s_l3Meet : PG.funcs[s_l3Meet]? = some Go.Proofs.Tryz.f191 := Go.Proofs.Tryz.func191
abbrev s_l3Order : Nat := 192
theorem g_s_l3Order : PG.funcs[s_l3Order]? = some Go.Proofs.Tryz.f192 := Go.Proofs.Tryz.func192
abbrev s_l3Fn : Nat := 206
theorem g_s_l3Fn : PG.funcs[s_l3Fn]? = some Go.Proofs.Tryz.f206 := Go.Proofs.Tryz.func206
abbrev s_l3Loans : Nat := 207
theorem g_s_l3Loans : PG.funcs[s_l3Loans]? = some Go.Proofs.Tryz.f207 := Go.Proofs.Tryz.func207
abbrev s_l3Env_body : Nat := 208
theorem g_s_l3Env_body : PG.funcs[s_l3Env_body]? = some Go.Proofs.Tryz.f208 := Go.Proofs.Tryz.func208
abbrev s_l3Env_fail0 : Nat := 209
theorem g_s_l3Env_fail0 : PG.funcs[s_l3Env_fail0]? = some Go.Proofs.Tryz.f209 := Go.Proofs.Tryz.func209
abbrev s_l3Among : Nat := 210
theorem g_s_l3Among : PG.funcs[s_l3Among]? = some Go.Proofs.Tryz.f210 := Go.Proofs.Tryz.func210
abbrev t_l_i_Fn : Nat := 23
abbrev t_i_Prog : Nat := 25
abbrev t_p_s_l6Rd : Nat := 36
abbrev t_l_i_Param : Nat := 42
abbrev t_l_i_Type : Nat := 43
abbrev t_i_Type : Nat := 45
abbrev t_l_i_Stmt : Nat := 46
abbrev t_i_Place : Nat := 49
abbrev t_l_i_Expr : Nat := 50
abbrev t_i_Expr : Nat := 52
abbrev t_i_Fn : Nat := 54
abbrev t_i_Param : Nat := 59
abbrev t_i_progReader : Nat := 66
abbrev t_p_s_l2Rd : Nat := 75
abbrev t_s_l2Rd : Nat := 77
abbrev t_s_l6Rd : Nat := 87
abbrev t_l_i_Arg : Nat := 92
abbrev t_i_Stmt : Nat := 94
abbrev t_i_Arg : Nat := 96
abbrev t_p_i_progReader : Nat := 100
abbrev t_error : Nat := 124
abbrev t_i_stmtShape : Nat := 130
abbrev t_i_stmtLet : Nat := 133
abbrev t_i_stmtLend : Nat := 135
abbrev t_i_stmtSet : Nat := 137
abbrev t_i_stmtCall : Nat := 139
abbrev t_i_stmtIf : Nat := 141
abbrev t_i_stmtPick : Nat := 143
abbrev t_i_exprShape : Nat := 146
abbrev t_i_exprNum : Nat := 149
abbrev t_i_exprRead : Nat := 151
abbrev t_i_exprTwo : Nat := 153
abbrev t_p_s_l71Mk : Nat := 174
abbrev t_p_s_l3Env : Nat := 175
abbrev t_s_l71Mk : Nat := 178
abbrev t_l_s_l3Var : Nat := 184
abbrev t_s_l3Env : Nat := 186
abbrev t_l_i_Place : Nat := 207
abbrev t_s_l3Var : Nat := 209
/-- []uint8 -/
abbrev ti22 : TI := ⟨.slice, 1, [], 5, 0, [.v (.slice none 0 0)], 24⟩
/-- []impl.Fn -/
abbrev ti23 : TI := ⟨.slice, 1, [], 54, 0, [.v (.slice none 0 0)], 24⟩
/-- []impl.Param -/
abbrev ti42 : TI := ⟨.slice, 1, [], 59, 0, [.v (.slice none 0 0)], 24⟩
/-- []impl.Type -/
abbrev ti43 : TI := ⟨.slice, 1, [], 45, 0, [.v (.slice none 0 0)], 24⟩
/-- []impl.Stmt -/
abbrev ti46 : TI := ⟨.slice, 1, [], 94, 0, [.v (.slice none 0 0)], 24⟩
/-- []int -/
abbrev ti47 : TI := ⟨.slice, 1, [], 3, 0, [.v (.slice none 0 0)], 24⟩
/-- []impl.Expr -/
abbrev ti50 : TI := ⟨.slice, 1, [], 52, 0, [.v (.slice none 0 0)], 24⟩
/-- []string -/
abbrev ti64 : TI := ⟨.slice, 1, [], 9, 0, [.v (.slice none 0 0)], 24⟩
/-- []impl.Arg -/
abbrev ti92 : TI := ⟨.slice, 1, [], 96, 0, [.v (.slice none 0 0)], 24⟩
/-- []spec.l3Var -/
abbrev ti184 : TI := ⟨.slice, 1, [], 209, 0, [.v (.slice none 0 0)], 24⟩
/-- []impl.Place -/
abbrev ti207 : TI := ⟨.slice, 1, [], 49, 0, [.v (.slice none 0 0)], 24⟩
/-- loop.example/handfast/impl.Prog -/
abbrev ti25 : TI := ⟨.struct, 1, [(0, 23)], 0, 0, [.v (.slice none 0 0)], 24⟩
/-- loop.example/handfast/impl.Type -/
abbrev ti45 : TI := ⟨.struct, 1, [(0, 43)], 0, 0, [.v (.slice none 0 0)], 24⟩
/-- loop.example/handfast/impl.Place -/
abbrev ti49 : TI := ⟨.struct, 2, [(0, 9), (1, 47)], 0, 0, [.s [], .v (.slice none 0 0)], 40⟩
/-- loop.example/handfast/impl.Expr -/
abbrev ti52 : TI := ⟨.struct, 5, [(0, 3), (1, 3), (2, 49), (4, 50)], 0, 0, [.i .i64 0, .i .i64 0, .s [], .v (.slice none 0 0), .v (.slice none 0 0)], 80⟩
/-- loop.example/handfast/impl.Fn -/
abbrev ti54 : TI := ⟨.struct, 12, [(0, 9), (1, 42), (2, 4), (3, 45), (4, 46), (5, 52), (10, 49)], 0, 0, [.s [], .v (.slice none 0 0), .b false, .v (.slice none 0 0), .v (.slice none 0 0), .i .i64 0, .i .i64 0, .s [], .v (.slice none 0 0), .v (.slice none 0 0), .s [], .v (.slice none 0 0)], 216⟩
/-- loop.example/handfast/impl.Param -/
abbrev ti59 : TI := ⟨.struct, 3, [(0, 9), (1, 4), (2, 45)], 0, 0, [.s [], .b false, .v (.slice none 0 0)], 48⟩
/-- loop.example/handfast/impl.progReader -/
abbrev ti66 : TI := ⟨.struct, 3, [(0, 64), (1, 3), (2, 4)], 0, 0, [.v (.slice none 0 0), .i .i64 0, .b false], 40⟩
/-- loop.example/handfast/spec.l2Rd -/
abbrev ti77 : TI := ⟨.struct, 4, [(0, 64), (1, 64), (2, 3), (3, 4)], 0, 0, [.v (.slice none 0 0), .v (.slice none 0 0), .i .i64 0, .b false], 64⟩
/-- loop.example/handfast/spec.l6Rd -/
abbrev ti87 : TI := ⟨.struct, 2, [(0, 22), (1, 3)], 0, 0, [.v (.slice none 0 0), .i .i64 0], 32⟩
/-- loop.example/handfast/impl.Stmt -/
abbrev ti94 : TI := ⟨.struct, 15, [(0, 3), (1, 9), (2, 49), (4, 49), (6, 52), (11, 9), (12, 92), (13, 46), (14, 46)], 0, 0, [.i .i64 0, .s [], .s [], .v (.slice none 0 0), .s [], .v (.slice none 0 0), .i .i64 0, .i .i64 0, .s [], .v (.slice none 0 0), .v (.slice none 0 0), .s [], .v (.slice none 0 0), .v (.slice none 0 0), .v (.slice none 0 0)], 272⟩
/-- loop.example/handfast/impl.Arg -/
abbrev ti96 : TI := ⟨.struct, 8, [(0, 4), (1, 49), (3, 52)], 0, 0, [.b false, .s [], .v (.slice none 0 0), .i .i64 0, .i .i64 0, .s [], .v (.slice none 0 0), .v (.slice none 0 0)], 128⟩
/-- loop.example/handfast/impl.stmtLet -/
abbrev ti133 : TI := ⟨.struct, 6, [(0, 9), (1, 52)], 0, 0, [.s [], .i .i64 0, .i .i64 0, .s [], .v (.slice none 0 0), .v (.slice none 0 0)], 96⟩
/-- loop.example/handfast/impl.stmtLend -/
abbrev ti135 : TI := ⟨.struct, 3, [(0, 9), (1, 49)], 0, 0, [.s [], .s [], .v (.slice none 0 0)], 56⟩
/-- loop.example/handfast/impl.stmtSet -/
abbrev ti137 : TI := ⟨.struct, 7, [(0, 49), (2, 52)], 0, 0, [.s [], .v (.slice none 0 0), .i .i64 0, .i .i64 0, .s [], .v (.slice none 0 0), .v (.slice none 0 0)], 120⟩
/-- loop.example/handfast/impl.stmtCall -/
abbrev ti139 : TI := ⟨.struct, 3, [(0, 9), (1, 9), (2, 92)], 0, 0, [.s [], .s [], .v (.slice none 0 0)], 56⟩
/-- loop.example/handfast/impl.stmtIf -/
abbrev ti141 : TI := ⟨.struct, 7, [(0, 52), (5, 46), (6, 46)], 0, 0, [.i .i64 0, .i .i64 0, .s [], .v (.slice none 0 0), .v (.slice none 0 0), .v (.slice none 0 0), .v (.slice none 0 0)], 128⟩
/-- loop.example/handfast/impl.stmtPick -/
abbrev ti143 : TI := ⟨.struct, 10, [(0, 9), (1, 49), (3, 49), (5, 52)], 0, 0, [.s [], .s [], .v (.slice none 0 0), .s [], .v (.slice none 0 0), .i .i64 0, .i .i64 0, .s [], .v (.slice none 0 0), .v (.slice none 0 0)], 176⟩
/-- loop.example/handfast/impl.exprNum -/
abbrev ti149 : TI := ⟨.struct, 1, [(0, 3)], 0, 0, [.i .i64 0], 8⟩
/-- loop.example/handfast/impl.exprRead -/
abbrev ti151 : TI := ⟨.struct, 2, [(0, 49)], 0, 0, [.s [], .v (.slice none 0 0)], 40⟩
/-- loop.example/handfast/impl.exprTwo -/
abbrev ti153 : TI := ⟨.struct, 11, [(0, 3), (1, 52), (6, 52)], 0, 0, [.i .i64 0, .i .i64 0, .i .i64 0, .s [], .v (.slice none 0 0), .v (.slice none 0 0), .i .i64 0, .i .i64 0, .s [], .v (.slice none 0 0), .v (.slice none 0 0)], 168⟩
/-- loop.example/handfast/spec.l71Mk -/
abbrev ti178 : TI := ⟨.struct, 3, [(0, 36), (1, 175), (2, 3)], 0, 0, [.v (.pointer none), .v (.pointer none), .i .i64 0], 24⟩
/-- loop.example/handfast/spec.l3Env -/
abbrev ti186 : TI := ⟨.struct, 5, [(0, 25), (1, 3), (2, 184), (3, 64), (4, 3)], 0, 0, [.v (.slice none 0 0), .i .i64 0, .v (.slice none 0 0), .v (.slice none 0 0), .i .i64 0], 88⟩
/-- loop.example/handfast/spec.l3Var -/
abbrev ti209 : TI := ⟨.struct, 6, [(0, 9), (1, 4), (2, 4), (3, 45), (4, 207), (5, 4)], 0, 0, [.s [], .b false, .b false, .v (.slice none 0 0), .v (.slice none 0 0), .b false], 80⟩
/-- int64 -/
abbrev ti2 : TI := ⟨(.int .i64), 1, [], 0, 0, [.i .i64 0], 8⟩
/-- int -/
abbrev ti3 : TI := ⟨(.int .i64), 1, [], 0, 0, [.i .i64 0], 8⟩
/-- bool -/
abbrev ti4 : TI := ⟨.bool, 1, [], 0, 0, [.b false], 1⟩
/-- uint8 -/
abbrev ti5 : TI := ⟨(.int .u8), 1, [], 0, 0, [.i .u8 0], 1⟩
/-- string -/
abbrev ti9 : TI := ⟨.string, 1, [], 0, 0, [.s []], 16⟩
/-- interface () -/
abbrev ti20 : TI := ⟨.iface, 1, [], 0, 0, [.v .nilIface], 16⟩
/-- int32 -/
abbrev ti21 : TI := ⟨(.int .i32), 1, [], 0, 0, [.i .i32 0], 4⟩
/-- *spec.l6Rd -/
abbrev ti36 : TI := ⟨.ptr, 1, [], 87, 0, [.v (.pointer none)], 8⟩
/-- *spec.l2Rd -/
abbrev ti75 : TI := ⟨.ptr, 1, [], 77, 0, [.v (.pointer none)], 8⟩
/-- *impl.progReader -/
abbrev ti100 : TI := ⟨.ptr, 1, [], 66, 0, [.v (.pointer none)], 8⟩
/-- error -/
abbrev ti124 : TI := ⟨.iface, 1, [], 0, 0, [.v .nilIface], 16⟩
/-- loop.example/handfast/impl.stmtShape -/
abbrev ti130 : TI := ⟨.iface, 1, [], 0, 0, [.v .nilIface], 16⟩
/-- loop.example/handfast/impl.exprShape -/
abbrev ti146 : TI := ⟨.iface, 1, [], 0, 0, [.v .nilIface], 16⟩
/-- *spec.l71Mk -/
abbrev ti174 : TI := ⟨.ptr, 1, [], 178, 0, [.v (.pointer none)], 8⟩
/-- *spec.l3Env -/
abbrev ti175 : TI := ⟨.ptr, 1, [], 186, 0, [.v (.pointer none)], 8⟩
/-- uint64 -/
abbrev ti229 : TI := ⟨(.int .u64), 1, [], 0, 0, [.i .u64 0], 8⟩
/-- uint32 -/
abbrev ti238 : TI := ⟨(.int .u32), 1, [], 0, 0, [.i .u32 0], 4⟩
/-- the table -/
abbrev tau : Tab := [(22, ti22), (23, ti23), (42, ti42), (43, ti43), (46, ti46), (47, ti47), (50, ti50), (64, ti64), (92, ti92), (184, ti184), (207, ti207), (25, ti25), (45, ti45), (49, ti49), (52, ti52), (54, ti54), (59, ti59), (66, ti66), (77, ti77), (87, ti87), (94, ti94), (96, ti96), (133, ti133), (135, ti135), (137, ti137), (139, ti139), (141, ti141), (143, ti143), (149, ti149), (151, ti151), (153, ti153), (178, ti178), (186, ti186), (209, ti209), (2, ti2), (3, ti3), (4, ti4), (5, ti5), (9, ti9), (20, ti20), (21, ti21), (36, ti36), (75, ti75), (100, ti100), (124, ti124), (130, ti130), (146, ti146), (174, ti174), (175, ti175), (229, ti229), (238, ti238)]

theorem tok22 : Tok1 Go.Proofs.Tryz.prog 22 ti22 :=
  tok_of (by kernel_rfl) (by kernel_rfl) (by kernel_rfl) (by kernel_rfl) (by kernel_rfl) (by kernel_rfl) (show Go.Proofs.Tryz.prog.underlying 22 = some (.slice 5) by kernel_rfl) (by decide)
theorem tok23 : Tok1 Go.Proofs.Tryz.prog 23 ti23 :=
  tok_of (by kernel_rfl) (by kernel_rfl) (by kernel_rfl) (by kernel_rfl) (by kernel_rfl) (by kernel_rfl) (show Go.Proofs.Tryz.prog.underlying 23 = some (.slice 54) by kernel_rfl) (by decide)
theorem tok42 : Tok1 Go.Proofs.Tryz.prog 42 ti42 :=
  tok_of (by kernel_rfl) (by kernel_rfl) (by kernel_rfl) (by kernel_rfl) (by kernel_rfl) (by kernel_rfl) (show Go.Proofs.Tryz.prog.underlying 42 = some (.slice 59) by kernel_rfl) (by decide)
theorem tok43 : Tok1 Go.Proofs.Tryz.prog 43 ti43 :=
  tok_of (by kernel_rfl) (by kernel_rfl) (by kernel_rfl) (by kernel_rfl) (by kernel_rfl) (by kernel_rfl) (show Go.Proofs.Tryz.prog.underlying 43 = some (.slice 45) by kernel_rfl) (by decide)
theorem tok46 : Tok1 Go.Proofs.Tryz.prog 46 ti46 :=
  tok_of (by kernel_rfl) (by kernel_rfl) (by kernel_rfl) (by kernel_rfl) (by kernel_rfl) (by kernel_rfl) (show Go.Proofs.Tryz.prog.underlying 46 = some (.slice 94) by kernel_rfl) (by decide)
theorem tok47 : Tok1 Go.Proofs.Tryz.prog 47 ti47 :=
  tok_of (by kernel_rfl) (by kernel_rfl) (by kernel_rfl) (by kernel_rfl) (by kernel_rfl) (by kernel_rfl) (show Go.Proofs.Tryz.prog.underlying 47 = some (.slice 3) by kernel_rfl) (by decide)
theorem tok50 : Tok1 Go.Proofs.Tryz.prog 50 ti50 :=
  tok_of (by kernel_rfl) (by kernel_rfl) (by kernel_rfl) (by kernel_rfl) (by kernel_rfl) (by kernel_rfl) (show Go.Proofs.Tryz.prog.underlying 50 = some (.slice 52) by kernel_rfl) (by decide)
theorem tok64 : Tok1 Go.Proofs.Tryz.prog 64 ti64 :=
  tok_of (by kernel_rfl) (by kernel_rfl) (by kernel_rfl) (by kernel_rfl) (by kernel_rfl) (by kernel_rfl) (show Go.Proofs.Tryz.prog.underlying 64 = some (.slice 9) by kernel_rfl) (by decide)
theorem tok92 : Tok1 Go.Proofs.Tryz.prog 92 ti92 :=
  tok_of (by kernel_rfl) (by kernel_rfl) (by kernel_rfl) (by kernel_rfl) (by kernel_rfl) (by kernel_rfl) (show Go.Proofs.Tryz.prog.underlying 92 = some (.slice 96) by kernel_rfl) (by decide)
theorem tok184 : Tok1 Go.Proofs.Tryz.prog 184 ti184 :=
  tok_of (by kernel_rfl) (by kernel_rfl) (by kernel_rfl) (by kernel_rfl) (by kernel_rfl) (by kernel_rfl) (show Go.Proofs.Tryz.prog.underlying 184 = some (.slice 209) by kernel_rfl) (by decide)
theorem tok207 : Tok1 Go.Proofs.Tryz.prog 207 ti207 :=
  tok_of (by kernel_rfl) (by kernel_rfl) (by kernel_rfl) (by kernel_rfl) (by kernel_rfl) (by kernel_rfl) (show Go.Proofs.Tryz.prog.underlying 207 = some (.slice 49) by kernel_rfl) (by decide)
theorem tok25 : Tok1 Go.Proofs.Tryz.prog 25 ti25 :=
  tok_of (by kernel_rfl) (by kernel_rfl) (by kernel_rfl) (by kernel_rfl) (by kernel_rfl) (by kernel_rfl) (kind_struct rfl (by kernel_rfl)) (by decide)
theorem tok45 : Tok1 Go.Proofs.Tryz.prog 45 ti45 :=
  tok_of (by kernel_rfl) (by kernel_rfl) (by kernel_rfl) (by kernel_rfl) (by kernel_rfl) (by kernel_rfl) (kind_struct rfl (by kernel_rfl)) (by decide)
theorem tok49 : Tok1 Go.Proofs.Tryz.prog 49 ti49 :=
  tok_of (by kernel_rfl) (by kernel_rfl) (by kernel_rfl) (by kernel_rfl) (by kernel_rfl) (by kernel_rfl) (kind_struct rfl (by kernel_rfl)) (by decide)
theorem tok52 : Tok1 Go.Proofs.Tryz.prog 52 ti52 :=
  tok_of (by kernel_rfl) (by kernel_rfl) (by kernel_rfl) (by kernel_rfl) (by kernel_rfl) (by kernel_rfl) (kind_struct rfl (by kernel_rfl)) (by decide)
theorem tok54 : Tok1 Go.Proofs.Tryz.prog 54 ti54 :=
  tok_of (by kernel_rfl) (by kernel_rfl) (by kernel_rfl) (by kernel_rfl) (by kernel_rfl) (by kernel_rfl) (kind_struct rfl (by kernel_rfl)) (by decide)
theorem tok59 : Tok1 Go.Proofs.Tryz.prog 59 ti59 :=
  tok_of (by kernel_rfl) (by kernel_rfl) (by kernel_rfl) (by kernel_rfl) (by kernel_rfl) (by kernel_rfl) (kind_struct rfl (by kernel_rfl)) (by decide)
theorem tok66 : Tok1 Go.Proofs.Tryz.prog 66 ti66 :=
  tok_of (by kernel_rfl) (by kernel_rfl) (by kernel_rfl) (by kernel_rfl) (by kernel_rfl) (by kernel_rfl) (kind_struct rfl (by kernel_rfl)) (by decide)
theorem tok77 : Tok1 Go.Proofs.Tryz.prog 77 ti77 :=
  tok_of (by kernel_rfl) (by kernel_rfl) (by kernel_rfl) (by kernel_rfl) (by kernel_rfl) (by kernel_rfl) (kind_struct rfl (by kernel_rfl)) (by decide)
theorem tok87 : Tok1 Go.Proofs.Tryz.prog 87 ti87 :=
  tok_of (by kernel_rfl) (by kernel_rfl) (by kernel_rfl) (by kernel_rfl) (by kernel_rfl) (by kernel_rfl) (kind_struct rfl (by kernel_rfl)) (by decide)
theorem tok94 : Tok1 Go.Proofs.Tryz.prog 94 ti94 :=
  tok_of (by kernel_rfl) (by kernel_rfl) (by kernel_rfl) (by kernel_rfl) (by kernel_rfl) (by kernel_rfl) (kind_struct rfl (by kernel_rfl)) (by decide)
theorem tok96 : Tok1 Go.Proofs.Tryz.prog 96 ti96 :=
  tok_of (by kernel_rfl) (by kernel_rfl) (by kernel_rfl) (by kernel_rfl) (by kernel_rfl) (by kernel_rfl) (kind_struct rfl (by kernel_rfl)) (by decide)
theorem tok133 : Tok1 Go.Proofs.Tryz.prog 133 ti133 :=
  tok_of (by kernel_rfl) (by kernel_rfl) (by kernel_rfl) (by kernel_rfl) (by kernel_rfl) (by kernel_rfl) (kind_struct rfl (by kernel_rfl)) (by decide)
theorem tok135 : Tok1 Go.Proofs.Tryz.prog 135 ti135 :=
  tok_of (by kernel_rfl) (by kernel_rfl) (by kernel_rfl) (by kernel_rfl) (by kernel_rfl) (by kernel_rfl) (kind_struct rfl (by kernel_rfl)) (by decide)
theorem tok137 : Tok1 Go.Proofs.Tryz.prog 137 ti137 :=
  tok_of (by kernel_rfl) (by kernel_rfl) (by kernel_rfl) (by kernel_rfl) (by kernel_rfl) (by kernel_rfl) (kind_struct rfl (by kernel_rfl)) (by decide)
theorem tok139 : Tok1 Go.Proofs.Tryz.prog 139 ti139 :=
  tok_of (by kernel_rfl) (by kernel_rfl) (by kernel_rfl) (by kernel_rfl) (by kernel_rfl) (by kernel_rfl) (kind_struct rfl (by kernel_rfl)) (by decide)
theorem tok141 : Tok1 Go.Proofs.Tryz.prog 141 ti141 :=
  tok_of (by kernel_rfl) (by kernel_rfl) (by kernel_rfl) (by kernel_rfl) (by kernel_rfl) (by kernel_rfl) (kind_struct rfl (by kernel_rfl)) (by decide)
theorem tok143 : Tok1 Go.Proofs.Tryz.prog 143 ti143 :=
  tok_of (by kernel_rfl) (by kernel_rfl) (by kernel_rfl) (by kernel_rfl) (by kernel_rfl) (by kernel_rfl) (kind_struct rfl (by kernel_rfl)) (by decide)
theorem tok149 : Tok1 Go.Proofs.Tryz.prog 149 ti149 :=
  tok_of (by kernel_rfl) (by kernel_rfl) (by kernel_rfl) (by kernel_rfl) (by kernel_rfl) (by kernel_rfl) (kind_struct rfl (by kernel_rfl)) (by decide)
theorem tok151 : Tok1 Go.Proofs.Tryz.prog 151 ti151 :=
  tok_of (by kernel_rfl) (by kernel_rfl) (by kernel_rfl) (by kernel_rfl) (by kernel_rfl) (by kernel_rfl) (kind_struct rfl (by kernel_rfl)) (by decide)
theorem tok153 : Tok1 Go.Proofs.Tryz.prog 153 ti153 :=
  tok_of (by kernel_rfl) (by kernel_rfl) (by kernel_rfl) (by kernel_rfl) (by kernel_rfl) (by kernel_rfl) (kind_struct rfl (by kernel_rfl)) (by decide)
theorem tok178 : Tok1 Go.Proofs.Tryz.prog 178 ti178 :=
  tok_of (by kernel_rfl) (by kernel_rfl) (by kernel_rfl) (by kernel_rfl) (by kernel_rfl) (by kernel_rfl) (kind_struct rfl (by kernel_rfl)) (by decide)
theorem tok186 : Tok1 Go.Proofs.Tryz.prog 186 ti186 :=
  tok_of (by kernel_rfl) (by kernel_rfl) (by kernel_rfl) (by kernel_rfl) (by kernel_rfl) (by kernel_rfl) (kind_struct rfl (by kernel_rfl)) (by decide)
theorem tok209 : Tok1 Go.Proofs.Tryz.prog 209 ti209 :=
  tok_of (by kernel_rfl) (by kernel_rfl) (by kernel_rfl) (by kernel_rfl) (by kernel_rfl) (by kernel_rfl) (kind_struct rfl (by kernel_rfl)) (by decide)
theorem tok2 : Tok1 Go.Proofs.Tryz.prog 2 ti2 :=
  tok_of (by kernel_rfl) (by kernel_rfl) (by kernel_rfl) (by kernel_rfl) (by kernel_rfl) (by kernel_rfl) (show Go.Proofs.Tryz.prog.underlying 2 = some (.int .i64) by kernel_rfl) (by decide)
theorem tok3 : Tok1 Go.Proofs.Tryz.prog 3 ti3 :=
  tok_of (by kernel_rfl) (by kernel_rfl) (by kernel_rfl) (by kernel_rfl) (by kernel_rfl) (by kernel_rfl) (show Go.Proofs.Tryz.prog.underlying 3 = some (.int .i64) by kernel_rfl) (by decide)
theorem tok4 : Tok1 Go.Proofs.Tryz.prog 4 ti4 :=
  tok_of (by kernel_rfl) (by kernel_rfl) (by kernel_rfl) (by kernel_rfl) (by kernel_rfl) (by kernel_rfl) (show Go.Proofs.Tryz.prog.underlying 4 = some .bool by kernel_rfl) (by decide)
theorem tok5 : Tok1 Go.Proofs.Tryz.prog 5 ti5 :=
  tok_of (by kernel_rfl) (by kernel_rfl) (by kernel_rfl) (by kernel_rfl) (by kernel_rfl) (by kernel_rfl) (show Go.Proofs.Tryz.prog.underlying 5 = some (.int .u8) by kernel_rfl) (by decide)
theorem tok9 : Tok1 Go.Proofs.Tryz.prog 9 ti9 :=
  tok_of (by kernel_rfl) (by kernel_rfl) (by kernel_rfl) (by kernel_rfl) (by kernel_rfl) (by kernel_rfl) (show Go.Proofs.Tryz.prog.underlying 9 = some .string by kernel_rfl) (by decide)
theorem tok20 : Tok1 Go.Proofs.Tryz.prog 20 ti20 :=
  tok_of (by kernel_rfl) (by kernel_rfl) (by kernel_rfl) (by kernel_rfl) (by kernel_rfl) (by kernel_rfl) (kind_iface rfl (by kernel_rfl)) (by decide)
theorem tok21 : Tok1 Go.Proofs.Tryz.prog 21 ti21 :=
  tok_of (by kernel_rfl) (by kernel_rfl) (by kernel_rfl) (by kernel_rfl) (by kernel_rfl) (by kernel_rfl) (show Go.Proofs.Tryz.prog.underlying 21 = some (.int .i32) by kernel_rfl) (by decide)
theorem tok36 : Tok1 Go.Proofs.Tryz.prog 36 ti36 :=
  tok_of (by kernel_rfl) (by kernel_rfl) (by kernel_rfl) (by kernel_rfl) (by kernel_rfl) (by kernel_rfl) (show Go.Proofs.Tryz.prog.underlying 36 = some (.pointer 87) by kernel_rfl) (by decide)
theorem tok75 : Tok1 Go.Proofs.Tryz.prog 75 ti75 :=
  tok_of (by kernel_rfl) (by kernel_rfl) (by kernel_rfl) (by kernel_rfl) (by kernel_rfl) (by kernel_rfl) (show Go.Proofs.Tryz.prog.underlying 75 = some (.pointer 77) by kernel_rfl) (by decide)
theorem tok100 : Tok1 Go.Proofs.Tryz.prog 100 ti100 :=
  tok_of (by kernel_rfl) (by kernel_rfl) (by kernel_rfl) (by kernel_rfl) (by kernel_rfl) (by kernel_rfl) (show Go.Proofs.Tryz.prog.underlying 100 = some (.pointer 66) by kernel_rfl) (by decide)
theorem tok124 : Tok1 Go.Proofs.Tryz.prog 124 ti124 :=
  tok_of (by kernel_rfl) (by kernel_rfl) (by kernel_rfl) (by kernel_rfl) (by kernel_rfl) (by kernel_rfl) (kind_iface rfl (by kernel_rfl)) (by decide)
theorem tok130 : Tok1 Go.Proofs.Tryz.prog 130 ti130 :=
  tok_of (by kernel_rfl) (by kernel_rfl) (by kernel_rfl) (by kernel_rfl) (by kernel_rfl) (by kernel_rfl) (kind_iface rfl (by kernel_rfl)) (by decide)
theorem tok146 : Tok1 Go.Proofs.Tryz.prog 146 ti146 :=
  tok_of (by kernel_rfl) (by kernel_rfl) (by kernel_rfl) (by kernel_rfl) (by kernel_rfl) (by kernel_rfl) (kind_iface rfl (by kernel_rfl)) (by decide)
theorem tok174 : Tok1 Go.Proofs.Tryz.prog 174 ti174 :=
  tok_of (by kernel_rfl) (by kernel_rfl) (by kernel_rfl) (by kernel_rfl) (by kernel_rfl) (by kernel_rfl) (show Go.Proofs.Tryz.prog.underlying 174 = some (.pointer 178) by kernel_rfl) (by decide)
theorem tok175 : Tok1 Go.Proofs.Tryz.prog 175 ti175 :=
  tok_of (by kernel_rfl) (by kernel_rfl) (by kernel_rfl) (by kernel_rfl) (by kernel_rfl) (by kernel_rfl) (show Go.Proofs.Tryz.prog.underlying 175 = some (.pointer 186) by kernel_rfl) (by decide)
theorem tok229 : Tok1 Go.Proofs.Tryz.prog 229 ti229 :=
  tok_of (by kernel_rfl) (by kernel_rfl) (by kernel_rfl) (by kernel_rfl) (by kernel_rfl) (by kernel_rfl) (show Go.Proofs.Tryz.prog.underlying 229 = some (.int .u64) by kernel_rfl) (by decide)
theorem tok238 : Tok1 Go.Proofs.Tryz.prog 238 ti238 :=
  tok_of (by kernel_rfl) (by kernel_rfl) (by kernel_rfl) (by kernel_rfl) (by kernel_rfl) (by kernel_rfl) (show Go.Proofs.Tryz.prog.underlying 238 = some (.int .u32) by kernel_rfl) (by decide)
theorem tok : Tok Go.Proofs.Tryz.prog tau := ⟨tok22, tok23, tok42, tok43, tok46, tok47, tok50, tok64, tok92, tok184, tok207, tok25, tok45, tok49, tok52, tok54, tok59, tok66, tok77, tok87, tok94, tok96, tok133, tok135, tok137, tok139, tok141, tok143, tok149, tok151, tok153, tok178, tok186, tok209, tok2, tok3, tok4, tok5, tok9, tok20, tok21, tok36, tok75, tok100, tok124, tok130, tok146, tok174, tok175, tok229, tok238, trivial⟩
end Ab


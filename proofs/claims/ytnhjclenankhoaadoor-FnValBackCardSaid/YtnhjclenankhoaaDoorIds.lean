/- The types of the program, as the frame 'Ab' reads them: printed by a small program, proved here. -/
import Derived.Test.YtnhjclenankhoaaDoorAbQ
import Derived.Test.YtnhjclenankhoaaDoorProg
import Derived.KernelRfl
set_option linter.all false
namespace Ab
open Go
set_option maxRecDepth 10000


noncomputable abbrev PG : Program := Go.Proofs.Tryd.prog
noncomputable abbrev F_l_FnTypeValue : Func := Go.Proofs.Tryd.f3
abbrev l_FnTypeValue : Nat := 3
theorem g_l_FnTypeValue : PG.funcs[l_FnTypeValue]? = some Go.Proofs.Tryd.f3 := Go.Proofs.Tryd.func3
noncomputable abbrev F_l_FnValBack : Func := Go.Proofs.Tryd.f4
abbrev l_FnValBack : Nat := 4
theorem g_l_FnValBack : PG.funcs[l_FnValBack]? = some Go.Proofs.Tryd.f4 := Go.Proofs.Tryd.func4
noncomputable abbrev F_l_FnExactValRead : Func := Go.Proofs.Tryd.f5
abbrev l_FnExactValRead : Nat := 5
theorem g_l_FnExactValRead : PG.funcs[l_FnExactValRead]? = some Go.Proofs.Tryd.f5 := Go.Proofs.Tryd.func5
noncomputable abbrev F_l_FnValStrict : Func := Go.Proofs.Tryd.f6
abbrev l_FnValStrict : Nat := 6
theorem g_l_FnValStrict : PG.funcs[l_FnValStrict]? = some Go.Proofs.Tryd.f6 := Go.Proofs.Tryd.func6
noncomputable abbrev F_s_DrawTypeOk : Func := Go.Proofs.Tryd.f7
abbrev s_DrawTypeOk : Nat := 7
theorem g_s_DrawTypeOk : PG.funcs[s_DrawTypeOk]? = some Go.Proofs.Tryd.f7 := Go.Proofs.Tryd.func7
noncomputable abbrev F_i_TypeOk : Func := Go.Proofs.Tryd.f8
abbrev i_TypeOk : Nat := 8
theorem g_i_TypeOk : PG.funcs[i_TypeOk]? = some Go.Proofs.Tryd.f8 := Go.Proofs.Tryd.func8
noncomputable abbrev F_s_TypeOk : Func := Go.Proofs.Tryd.f9
abbrev s_TypeOk : Nat := 9
theorem g_s_TypeOk : PG.funcs[s_TypeOk]? = some Go.Proofs.Tryd.f9 := Go.Proofs.Tryd.func9
noncomputable abbrev F_l_lhNought : Func := Go.Proofs.Tryd.f10
abbrev l_lhNought : Nat := 10
theorem g_l_lhNought : PG.funcs[l_lhNought]? = some Go.Proofs.Tryd.f10 := Go.Proofs.Tryd.func10
noncomputable abbrev F_i_ValRead : Func := Go.Proofs.Tryd.f11
abbrev i_ValRead : Nat := 11
theorem g_i_ValRead : PG.funcs[i_ValRead]? = some Go.Proofs.Tryd.f11 := Go.Proofs.Tryd.func11
noncomputable abbrev F_i_ValText : Func := Go.Proofs.Tryd.f12
abbrev i_ValText : Nat := 12
theorem g_i_ValText : PG.funcs[i_ValText]? = some Go.Proofs.Tryd.f12 := Go.Proofs.Tryd.func12
noncomputable abbrev F_i_ValOk : Func := Go.Proofs.Tryd.f13
abbrev i_ValOk : Nat := 13
theorem g_i_ValOk : PG.funcs[i_ValOk]? = some Go.Proofs.Tryd.f13 := Go.Proofs.Tryd.func13
noncomputable abbrev F_l_lhVal : Func := Go.Proofs.Tryd.f14
abbrev l_lhVal : Nat := 14
theorem g_l_lhVal : PG.funcs[l_lhVal]? = some Go.Proofs.Tryd.f14 := Go.Proofs.Tryd.func14
noncomputable abbrev F_s_DrawValText : Func := Go.Proofs.Tryd.f15
abbrev s_DrawValText : Nat := 15
theorem g_s_DrawValText : PG.funcs[s_DrawValText]? = some Go.Proofs.Tryd.f15 := Go.Proofs.Tryd.func15
noncomputable abbrev F_s_ValText : Func := Go.Proofs.Tryd.f16
abbrev s_ValText : Nat := 16
theorem g_s_ValText : PG.funcs[s_ValText]? = some Go.Proofs.Tryd.f16 := Go.Proofs.Tryd.func16
noncomputable abbrev F_s_ValRead : Func := Go.Proofs.Tryd.f17
abbrev s_ValRead : Nat := 17
theorem g_s_ValRead : PG.funcs[s_ValRead]? = some Go.Proofs.Tryd.f17 := Go.Proofs.Tryd.func17
noncomputable abbrev F_l_eqVal : Func := Go.Proofs.Tryd.f18
abbrev l_eqVal : Nat := 18
theorem g_l_eqVal : PG.funcs[l_eqVal]? = some Go.Proofs.Tryd.f18 := Go.Proofs.Tryd.func18
noncomputable abbrev F_l_markVal : Func := Go.Proofs.Tryd.f19
abbrev l_markVal : Nat := 19
theorem g_l_markVal : PG.funcs[l_markVal]? = some Go.Proofs.Tryd.f19 := Go.Proofs.Tryd.func19
noncomputable abbrev F_l_heldVal : Func := Go.Proofs.Tryd.f20
abbrev l_heldVal : Nat := 20
theorem g_l_heldVal : PG.funcs[l_heldVal]? = some Go.Proofs.Tryd.f20 := Go.Proofs.Tryd.func20
noncomputable abbrev F_s_DrawValRead : Func := Go.Proofs.Tryd.f21
abbrev s_DrawValRead : Nat := 21
theorem g_s_DrawValRead : PG.funcs[s_DrawValRead]? = some Go.Proofs.Tryd.f21 := Go.Proofs.Tryd.func21
noncomputable abbrev F_s_l71Deep : Func := Go.Proofs.Tryd.f22
abbrev s_l71Deep : Nat := 22
theorem g_s_l71Deep : PG.funcs[s_l71Deep]? = some Go.Proofs.Tryd.f22 := Go.Proofs.Tryd.func22
noncomputable abbrev F_s_l6Open : Func := Go.Proofs.Tryd.f23
abbrev s_l6Open : Nat := 23
theorem g_s_l6Open : PG.funcs[s_l6Open]? = some Go.Proofs.Tryd.f23 := Go.Proofs.Tryd.func23
noncomputable abbrev F_i_typeFits : Func := Go.Proofs.Tryd.f24
abbrev i_typeFits : Nat := 24
theorem g_i_typeFits : PG.funcs[i_typeFits]? = some Go.Proofs.Tryd.f24 := Go.Proofs.Tryd.func24
noncomputable abbrev F_s_l1Deep : Func := Go.Proofs.Tryd.f25
abbrev s_l1Deep : Nat := 25
theorem g_s_l1Deep : PG.funcs[s_l1Deep]? = some Go.Proofs.Tryd.f25 := Go.Proofs.Tryd.func25
noncomputable abbrev F_i_valRead : Func := Go.Proofs.Tryd.f26
abbrev i_valRead : Nat := 26
theorem g_i_valRead : PG.funcs[i_valRead]? = some Go.Proofs.Tryd.f26 := Go.Proofs.Tryd.func26
noncomputable abbrev F_i_valTyped : Func := Go.Proofs.Tryd.f27
abbrev i_valTyped : Nat := 27
theorem g_i_valTyped : PG.funcs[i_valTyped]? = some Go.Proofs.Tryd.f27 := Go.Proofs.Tryd.func27
noncomputable abbrev F_i_valWords : Func := Go.Proofs.Tryd.f28
abbrev i_valWords : Nat := 28
theorem g_i_valWords : PG.funcs[i_valWords]? = some Go.Proofs.Tryd.f28 := Go.Proofs.Tryd.func28
noncomputable abbrev F_i_typeSame : Func := Go.Proofs.Tryd.f29
abbrev i_typeSame : Nat := 29
theorem g_i_typeSame : PG.funcs[i_typeSame]? = some Go.Proofs.Tryd.f29 := Go.Proofs.Tryd.func29
noncomputable abbrev F_s_l71Bad : Func := Go.Proofs.Tryd.f30
abbrev s_l71Bad : Nat := 30
theorem g_s_l71Bad : PG.funcs[s_l71Bad]? = some Go.Proofs.Tryd.f30 := Go.Proofs.Tryd.func30
noncomputable abbrev F_s_l71Type : Func := Go.Proofs.Tryd.f31
abbrev s_l71Type : Nat := 31
theorem g_s_l71Type : PG.funcs[s_l71Type]? = some Go.Proofs.Tryd.f31 := Go.Proofs.Tryd.func31
noncomputable abbrev F_s_l6Rd_pick : Func := Go.Proofs.Tryd.f32
abbrev s_l6Rd_pick : Nat := 32
theorem g_s_l6Rd_pick : PG.funcs[s_l6Rd_pick]? = some Go.Proofs.Tryd.f32 := Go.Proofs.Tryd.func32
noncomputable abbrev F_s_l1Any : Func := Go.Proofs.Tryd.f33
abbrev s_l1Any : Nat := 33
theorem g_s_l1Any : PG.funcs[s_l1Any]? = some Go.Proofs.Tryd.f33 := Go.Proofs.Tryd.func33
noncomputable abbrev F_s_l1Show : Func := Go.Proofs.Tryd.f34
abbrev s_l1Show : Nat := 34
theorem g_s_l1Show : PG.funcs[s_l1Show]? = some Go.Proofs.Tryd.f34 := Go.Proofs.Tryd.func34
noncomputable abbrev F_s_l31Val : Func := Go.Proofs.Tryd.f35
abbrev s_l31Val : Nat := 35
theorem g_s_l31Val : PG.funcs[s_l31Val]? = some Go.Proofs.Tryd.f35 := Go.Proofs.Tryd.func35
noncomputable abbrev F_l_eqValS : Func := Go.Proofs.Tryd.f36
abbrev l_eqValS : Nat := 36
theorem g_l_eqValS : PG.funcs[l_eqValS]? = some Go.Proofs.Tryd.f36 := Go.Proofs.Tryd.func36
noncomputable abbrev F_l_markValS : Func := Go.Proofs.Tryd.f37
abbrev l_markValS : Nat := 37
theorem g_l_markValS : PG.funcs[l_markValS]? = some Go.Proofs.Tryd.f37 := Go.Proofs.Tryd.func37
noncomputable abbrev F_l_heldValS : Func := Go.Proofs.Tryd.f38
abbrev l_heldValS : Nat := 38
theorem g_l_heldValS : PG.funcs[l_heldValS]? = some Go.Proofs.Tryd.f38 := Go.Proofs.Tryd.func38
noncomputable abbrev F_s_l71Val : Func := Go.Proofs.Tryd.f39
abbrev s_l71Val : Nat := 39
theorem g_s_l71Val : PG.funcs[s_l71Val]? = some Go.Proofs.Tryd.f39 := Go.Proofs.Tryd.func39
noncomputable abbrev F_s_l6Rd_of : Func := Go.Proofs.Tryd.f40
abbrev s_l6Rd_of : Nat := 40
theorem g_s_l6Rd_of : PG.funcs[s_l6Rd_of]? = some Go.Proofs.Tryd.f40 := Go.Proofs.Tryd.func40
noncomputable abbrev F_x_strings_CutPrefix : Func := Go.Proofs.Tryd.f41
abbrev x_strings_CutPrefix : Nat := 41
theorem g_x_strings_CutPrefix : PG.funcs[x_strings_CutPrefix]? = some Go.Proofs.Tryd.f41 := Go.Proofs.Tryd.func41
noncomputable abbrev F_x_strings_TrimLeft : Func := Go.Proofs.Tryd.f42
abbrev x_strings_TrimLeft : Nat := 42
theorem g_x_strings_TrimLeft : PG.funcs[x_strings_TrimLeft]? = some Go.Proofs.Tryd.f42 := Go.Proofs.Tryd.func42
noncomputable abbrev F_x_strconv_Atoi : Func := Go.Proofs.Tryd.f43
abbrev x_strconv_Atoi : Nat := 43
theorem g_x_strconv_Atoi : PG.funcs[x_strconv_Atoi]? = some Go.Proofs.Tryd.f43 := Go.Proofs.Tryd.func43
noncomputable abbrev F_x_strings_HasPrefix : Func := Go.Proofs.Tryd.f44
abbrev x_strings_HasPrefix : Nat := 44
theorem g_x_strings_HasPrefix : PG.funcs[x_strings_HasPrefix]? = some Go.Proofs.Tryd.f44 := Go.Proofs.Tryd.func44
noncomputable abbrev F_i_valType : Func := Go.Proofs.Tryd.f45
abbrev i_valType : Nat := 45
theorem g_i_valType : PG.funcs[i_valType]? = some Go.Proofs.Tryd.f45 := Go.Proofs.Tryd.func45
noncomputable abbrev F_x_strconv_Itoa : Func := Go.Proofs.Tryd.f46
abbrev x_strconv_Itoa : Nat := 46
theorem g_x_strconv_Itoa : PG.funcs[x_strconv_Itoa]? = some Go.Proofs.Tryd.f46 := Go.Proofs.Tryd.func46
noncomputable abbrev F_s_l1Of : Func := Go.Proofs.Tryd.f47
abbrev s_l1Of : Nat := 47
theorem g_s_l1Of : PG.funcs[s_l1Of]? = some Go.Proofs.Tryd.f47 := Go.Proofs.Tryd.func47
noncomputable abbrev F_s_ValOk : Func := Go.Proofs.Tryd.f48
abbrev s_ValOk : Nat := 48
theorem g_s_ValOk : PG.funcs[s_ValOk]? = some Go.Proofs.Tryd.f48 := Go.Proofs.Tryd.func48
noncomputable abbrev F_s_l6Dec : Func := Go.Proofs.Tryd.f49
abbrev s_l6Dec : Nat := 49
theorem g_s_l6Dec : PG.funcs[s_l6Dec]? = some Go.Proofs.Tryd.f49 := Go.Proofs.Tryd.func49
noncomputable abbrev F_s_l2Dec : Func := Go.Proofs.Tryd.f50
abbrev s_l2Dec : Nat := 50
theorem g_s_l2Dec : PG.funcs[s_l2Dec]? = some Go.Proofs.Tryd.f50 := Go.Proofs.Tryd.func50
noncomputable abbrev F_x_internal_stringslite_CutPrefix : Func := Go.Proofs.Tryd.f51
abbrev x_internal_stringslite_CutPrefix : Nat := 51
theorem g_x_internal_stringslite_CutPrefix : PG.funcs[x_internal_stringslite_CutPrefix]? = some Go.Proofs.Tryd.f51 := Go.Proofs.Tryd.func51
noncomputable abbrev F_x_strings_trimLeftByte : Func := Go.Proofs.Tryd.f52
abbrev x_strings_trimLeftByte : Nat := 52
theorem g_x_strings_trimLeftByte : PG.funcs[x_strings_trimLeftByte]? = some Go.Proofs.Tryd.f52 := Go.Proofs.Tryd.func52
noncomputable abbrev F_x_strings_makeASCIISet : Func := Go.Proofs.Tryd.f53
abbrev x_strings_makeASCIISet : Nat := 53
theorem g_x_strings_makeASCIISet : PG.funcs[x_strings_makeASCIISet]? = some Go.Proofs.Tryd.f53 := Go.Proofs.Tryd.func53
noncomputable abbrev F_x_strings_trimLeftASCII : Func := Go.Proofs.Tryd.f54
abbrev x_strings_trimLeftASCII : Nat := 54
theorem g_x_strings_trimLeftASCII : PG.funcs[x_strings_trimLeftASCII]? = some Go.Proofs.Tryd.f54 := Go.Proofs.Tryd.func54
noncomputable abbrev F_x_strings_trimLeftUnicode : Func := Go.Proofs.Tryd.f55
abbrev x_strings_trimLeftUnicode : Nat := 55
theorem g_x_strings_trimLeftUnicode : PG.funcs[x_strings_trimLeftUnicode]? = some Go.Proofs.Tryd.f55 := Go.Proofs.Tryd.func55
noncomputable abbrev F_x_strconv_toError : Func := Go.Proofs.Tryd.f57
abbrev x_strconv_toError : Nat := 57
theorem g_x_strconv_toError : PG.funcs[x_strconv_toError]? = some Go.Proofs.Tryd.f57 := Go.Proofs.Tryd.func57
noncomputable abbrev F_x_internal_stringslite_HasPrefix : Func := Go.Proofs.Tryd.f58
abbrev x_internal_stringslite_HasPrefix : Nat := 58
theorem g_x_internal_stringslite_HasPrefix : PG.funcs[x_internal_stringslite_HasPrefix]? = some Go.Proofs.Tryd.f58 := Go.Proofs.Tryd.func58
noncomputable abbrev F_s_l1Val : Func := Go.Proofs.Tryd.f60
abbrev s_l1Val : Nat := 60
theorem g_s_l1Val : PG.funcs[s_l1Val]? = some Go.Proofs.Tryd.f60 := Go.Proofs.Tryd.func60
noncomputable abbrev F_x_strings_asciiSet_contains : Func := Go.Proofs.Tryd.f61
abbrev x_strings_asciiSet_contains : Nat := 61
theorem g_x_strings_asciiSet_contains : PG.funcs[x_strings_asciiSet_contains]? = some Go.Proofs.Tryd.f61 := Go.Proofs.Tryd.func61
noncomputable abbrev F_x_unicode_utf8_DecodeRuneInString : Func := Go.Proofs.Tryd.f62
abbrev x_unicode_utf8_DecodeRuneInString : Nat := 62
theorem g_x_unicode_utf8_DecodeRuneInString : PG.funcs[x_unicode_utf8_DecodeRuneInString]? = some Go.Proofs.Tryd.f62 := Go.Proofs.Tryd.func62
noncomputable abbrev F_x_strings_ContainsRune : Func := Go.Proofs.Tryd.f63
abbrev x_strings_ContainsRune : Nat := 63
theorem g_x_strings_ContainsRune : PG.funcs[x_strings_ContainsRune]? = some Go.Proofs.Tryd.f63 := Go.Proofs.Tryd.func63
noncomputable abbrev F_x_strconv_syntaxError : Func := Go.Proofs.Tryd.f65
abbrev x_strconv_syntaxError : Nat := 65
theorem g_x_strconv_syntaxError : PG.funcs[x_strconv_syntaxError]? = some Go.Proofs.Tryd.f65 := Go.Proofs.Tryd.func65
noncomputable abbrev F_x_strconv_rangeError : Func := Go.Proofs.Tryd.f66
abbrev x_strconv_rangeError : Nat := 66
theorem g_x_strconv_rangeError : PG.funcs[x_strconv_rangeError]? = some Go.Proofs.Tryd.f66 := Go.Proofs.Tryd.func66
noncomputable abbrev F_x_strconv_baseError : Func := Go.Proofs.Tryd.f67
abbrev x_strconv_baseError : Nat := 67
theorem g_x_strconv_baseError : PG.funcs[x_strconv_baseError]? = some Go.Proofs.Tryd.f67 := Go.Proofs.Tryd.func67
noncomputable abbrev F_x_strconv_bitSizeError : Func := Go.Proofs.Tryd.f68
abbrev x_strconv_bitSizeError : Nat := 68
theorem g_x_strconv_bitSizeError : PG.funcs[x_strconv_bitSizeError]? = some Go.Proofs.Tryd.f68 := Go.Proofs.Tryd.func68
noncomputable abbrev F_s_l6In : Func := Go.Proofs.Tryd.f70
abbrev s_l6In : Nat := 70
theorem g_s_l6In : PG.funcs[s_l6In]? = some Go.Proofs.Tryd.f70 := Go.Proofs.Tryd.func70
noncomputable abbrev F_x_unicode_utf8_decodeRuneInStringSlow : Func := Go.Proofs.Tryd.f71
abbrev x_unicode_utf8_decodeRuneInStringSlow : Nat := 71
theorem g_x_unicode_utf8_decodeRuneInStringSlow : PG.funcs[x_unicode_utf8_decodeRuneInStringSlow]? = some Go.Proofs.Tryd.f71 := Go.Proofs.Tryd.func71
noncomputable abbrev F_x_strings_IndexRune : Func := Go.Proofs.Tryd.f72
abbrev x_strings_IndexRune : Nat := 72
theorem g_x_strings_IndexRune : PG.funcs[x_strings_IndexRune]? = some Go.Proofs.Tryd.f72 := Go.Proofs.Tryd.func72
noncomputable abbrev F_x_internal_stringslite_Clone : Func := Go.Proofs.Tryd.f74
abbrev x_internal_stringslite_Clone : Nat := 74
theorem g_x_internal_stringslite_Clone : PG.funcs[x_internal_stringslite_Clone]? = some Go.Proofs.Tryd.f74 := Go.Proofs.Tryd.func74
noncomputable abbrev F_x_errors_New : Func := Go.Proofs.Tryd.f75
abbrev x_errors_New : Nat := 75
theorem g_x_errors_New : PG.funcs[x_errors_New]? = some Go.Proofs.Tryd.f75 := Go.Proofs.Tryd.func75
noncomputable abbrev F_x_strings_IndexByte : Func := Go.Proofs.Tryd.f80
abbrev x_strings_IndexByte : Nat := 80
theorem g_x_strings_IndexByte : PG.funcs[x_strings_IndexByte]? = some Go.Proofs.Tryd.f80 := Go.Proofs.Tryd.func80
noncomputable abbrev F_x_unicode_utf8_ValidRune : Func := Go.Proofs.Tryd.f81
abbrev x_unicode_utf8_ValidRune : Nat := 81
theorem g_x_unicode_utf8_ValidRune : PG.funcs[x_unicode_utf8_ValidRune]? = some Go.Proofs.Tryd.f81 := Go.Proofs.Tryd.func81
noncomputable abbrev F_x_internal_stringslite_IndexByte : Func := Go.Proofs.Tryd.f91
abbrev x_internal_stringslite_IndexByte : Nat := 91
theorem g_x_internal_stringslite_IndexByte : PG.funcs[x_internal_stringslite_IndexByte]? = some Go.Proofs.Tryd.f91 := Go.Proofs.Tryd.func91
noncomputable abbrev F_i_Type_parts : Func := Go.Proofs.Tryd.f110
abbrev i_Type_parts : Nat := 110
theorem g_i_Type_parts : PG.funcs[i_Type_parts]? = some Go.Proofs.Tryd.f110 := Go.Proofs.Tryd.func110
noncomputable abbrev F_i_Val_parts : Func := Go.Proofs.Tryd.f111
abbrev i_Val_parts : Nat := 111
theorem g_i_Val_parts : PG.funcs[i_Val_parts]? = some Go.Proofs.Tryd.f111 := Go.Proofs.Tryd.func111
noncomputable abbrev F_x_strconv_NumError_Error : Func := Go.Proofs.Tryd.f113
abbrev x_strconv_NumError_Error : Nat := 113
theorem g_x_strconv_NumError_Error : PG.funcs[x_strconv_NumError_Error]? = some Go.Proofs.Tryd.f113 := Go.Proofs.Tryd.func113
noncomputable abbrev F_x_errors_errorString_Error : Func := Go.Proofs.Tryd.f114
abbrev x_errors_errorString_Error : Nat := 114
theorem g_x_errors_errorString_Error : PG.funcs[x_errors_errorString_Error]? = some Go.Proofs.Tryd.f114 := Go.Proofs.Tryd.func114
abbrev t_l_i_Type : Nat := 23
abbrev t_i_Type : Nat := 25
abbrev t_l_i_Val : Nat := 28
abbrev t_i_Val : Nat := 30
abbrev t_p_s_l6Rd : Nat := 43
abbrev t_s_l6Rd : Nat := 62
abbrev t_error : Nat := 67
/-- []uint8 -/
abbrev ti22 : TI := ⟨.slice, 1, [], 5, 0, [.v (.slice none 0 0)], 24⟩
/-- []impl.Type -/
abbrev ti23 : TI := ⟨.slice, 1, [], 25, 0, [.v (.slice none 0 0)], 24⟩
/-- []impl.Val -/
abbrev ti28 : TI := ⟨.slice, 1, [], 30, 0, [.v (.slice none 0 0)], 24⟩
/-- []string -/
abbrev ti60 : TI := ⟨.slice, 1, [], 9, 0, [.v (.slice none 0 0)], 24⟩
/-- []int -/
abbrev ti73 : TI := ⟨.slice, 1, [], 3, 0, [.v (.slice none 0 0)], 24⟩
/-- loop.example/handfast/impl.Type -/
abbrev ti25 : TI := ⟨.struct, 1, [(0, 23)], 0, 0, [.v (.slice none 0 0)], 24⟩
/-- loop.example/handfast/impl.Val -/
abbrev ti30 : TI := ⟨.struct, 2, [(0, 3), (1, 28)], 0, 0, [.i .i64 0, .v (.slice none 0 0)], 32⟩
/-- loop.example/handfast/spec.l6Rd -/
abbrev ti62 : TI := ⟨.struct, 2, [(0, 22), (1, 3)], 0, 0, [.v (.slice none 0 0), .i .i64 0], 32⟩
/-- int64 -/
abbrev ti2 : TI := ⟨(.int .i64), 1, [], 0, 0, [.i .i64 0], 8⟩
/-- int -/
abbrev ti3 : TI := ⟨(.int .i64), 1, [], 0, 0, [.i .i64 0], 8⟩
/-- bool -/
abbrev ti4 : TI := ⟨.bool, 1, [], 0, 0, [.b false], 1⟩
/-- uint8 -/
abbrev ti5 : TI := ⟨(.int .u8), 1, [], 0, 0, [.i .u8 0], 1⟩
/-- string -/
abbrev ti9 : TI := ⟨.string, 1, [], 0, 0, [.s []], 16⟩
/-- interface () -/
abbrev ti20 : TI := ⟨.iface, 1, [], 0, 0, [.v .nilIface], 16⟩
/-- int32 -/
abbrev ti21 : TI := ⟨(.int .i32), 1, [], 0, 0, [.i .i32 0], 4⟩
/-- *spec.l6Rd -/
abbrev ti43 : TI := ⟨.ptr, 1, [], 62, 0, [.v (.pointer none)], 8⟩
/-- error -/
abbrev ti67 : TI := ⟨.iface, 1, [], 0, 0, [.v .nilIface], 16⟩
/-- uint64 -/
abbrev ti96 : TI := ⟨(.int .u64), 1, [], 0, 0, [.i .u64 0], 8⟩
/-- uint32 -/
abbrev ti123 : TI := ⟨(.int .u32), 1, [], 0, 0, [.i .u32 0], 4⟩
/-- the table -/
abbrev tau : Tab := [(22, ti22), (23, ti23), (28, ti28), (60, ti60), (73, ti73), (25, ti25), (30, ti30), (62, ti62), (2, ti2), (3, ti3), (4, ti4), (5, ti5), (9, ti9), (20, ti20), (21, ti21), (43, ti43), (67, ti67), (96, ti96), (123, ti123)]

theorem tok22 : Tok1 Go.Proofs.Tryd.prog 22 ti22 :=
  tok_of (by kernel_rfl) (by kernel_rfl) (by kernel_rfl) (by kernel_rfl) (by kernel_rfl) (by kernel_rfl) (show Go.Proofs.Tryd.prog.underlying 22 = some (.slice 5) by kernel_rfl) (by decide)
theorem tok23 : Tok1 Go.Proofs.Tryd.prog 23 ti23 :=
  tok_of (by kernel_rfl) (by kernel_rfl) (by kernel_rfl) (by kernel_rfl) (by kernel_rfl) (by kernel_rfl) (show Go.Proofs.Tryd.prog.underlying 23 = some (.slice 25) by kernel_rfl) (by decide)
theorem tok28 : Tok1 Go.Proofs.Tryd.prog 28 ti28 :=
  tok_of (by kernel_rfl) (by kernel_rfl) (by kernel_rfl) (by kernel_rfl) (by kernel_rfl) (by kernel_rfl) (show Go.Proofs.Tryd.prog.underlying 28 = some (.slice 30) by kernel_rfl) (by decide)
theorem tok60 : Tok1 Go.Proofs.Tryd.prog 60 ti60 :=
  tok_of (by kernel_rfl) (by kernel_rfl) (by kernel_rfl) (by kernel_rfl) (by kernel_rfl) (by kernel_rfl) (show Go.Proofs.Tryd.prog.underlying 60 = some (.slice 9) by kernel_rfl) (by decide)
theorem tok73 : Tok1 Go.Proofs.Tryd.prog 73 ti73 :=
  tok_of (by kernel_rfl) (by kernel_rfl) (by kernel_rfl) (by kernel_rfl) (by kernel_rfl) (by kernel_rfl) (show Go.Proofs.Tryd.prog.underlying 73 = some (.slice 3) by kernel_rfl) (by decide)
theorem tok25 : Tok1 Go.Proofs.Tryd.prog 25 ti25 :=
  tok_of (by kernel_rfl) (by kernel_rfl) (by kernel_rfl) (by kernel_rfl) (by kernel_rfl) (by kernel_rfl) (kind_struct rfl (by kernel_rfl)) (by decide)
theorem tok30 : Tok1 Go.Proofs.Tryd.prog 30 ti30 :=
  tok_of (by kernel_rfl) (by kernel_rfl) (by kernel_rfl) (by kernel_rfl) (by kernel_rfl) (by kernel_rfl) (kind_struct rfl (by kernel_rfl)) (by decide)
theorem tok62 : Tok1 Go.Proofs.Tryd.prog 62 ti62 :=
  tok_of (by kernel_rfl) (by kernel_rfl) (by kernel_rfl) (by kernel_rfl) (by kernel_rfl) (by kernel_rfl) (kind_struct rfl (by kernel_rfl)) (by decide)
theorem tok2 : Tok1 Go.Proofs.Tryd.prog 2 ti2 :=
  tok_of (by kernel_rfl) (by kernel_rfl) (by kernel_rfl) (by kernel_rfl) (by kernel_rfl) (by kernel_rfl) (show Go.Proofs.Tryd.prog.underlying 2 = some (.int .i64) by kernel_rfl) (by decide)
theorem tok3 : Tok1 Go.Proofs.Tryd.prog 3 ti3 :=
  tok_of (by kernel_rfl) (by kernel_rfl) (by kernel_rfl) (by kernel_rfl) (by kernel_rfl) (by kernel_rfl) (show Go.Proofs.Tryd.prog.underlying 3 = some (.int .i64) by kernel_rfl) (by decide)
theorem tok4 : Tok1 Go.Proofs.Tryd.prog 4 ti4 :=
  tok_of (by kernel_rfl) (by kernel_rfl) (by kernel_rfl) (by kernel_rfl) (by kernel_rfl) (by kernel_rfl) (show Go.Proofs.Tryd.prog.underlying 4 = some .bool by kernel_rfl) (by decide)
theorem tok5 : Tok1 Go.Proofs.Tryd.prog 5 ti5 :=
  tok_of (by kernel_rfl) (by kernel_rfl) (by kernel_rfl) (by kernel_rfl) (by kernel_rfl) (by kernel_rfl) (show Go.Proofs.Tryd.prog.underlying 5 = some (.int .u8) by kernel_rfl) (by decide)
theorem tok9 : Tok1 Go.Proofs.Tryd.prog 9 ti9 :=
  tok_of (by kernel_rfl) (by kernel_rfl) (by kernel_rfl) (by kernel_rfl) (by kernel_rfl) (by kernel_rfl) (show Go.Proofs.Tryd.prog.underlying 9 = some .string by kernel_rfl) (by decide)
theorem tok20 : Tok1 Go.Proofs.Tryd.prog 20 ti20 :=
  tok_of (by kernel_rfl) (by kernel_rfl) (by kernel_rfl) (by kernel_rfl) (by kernel_rfl) (by kernel_rfl) (kind_iface rfl (by kernel_rfl)) (by decide)
theorem tok21 : Tok1 Go.Proofs.Tryd.prog 21 ti21 :=
  tok_of (by kernel_rfl) (by kernel_rfl) (by kernel_rfl) (by kernel_rfl) (by kernel_rfl) (by kernel_rfl) (show Go.Proofs.Tryd.prog.underlying 21 = some (.int .i32) by kernel_rfl) (by decide)
theorem tok43 : Tok1 Go.Proofs.Tryd.prog 43 ti43 :=
  tok_of (by kernel_rfl) (by kernel_rfl) (by kernel_rfl) (by kernel_rfl) (by kernel_rfl) (by kernel_rfl) (show Go.Proofs.Tryd.prog.underlying 43 = some (.pointer 62) by kernel_rfl) (by decide)
theorem tok67 : Tok1 Go.Proofs.Tryd.prog 67 ti67 :=
  tok_of (by kernel_rfl) (by kernel_rfl) (by kernel_rfl) (by kernel_rfl) (by kernel_rfl) (by kernel_rfl) (kind_iface rfl (by kernel_rfl)) (by decide)
theorem tok96 : Tok1 Go.Proofs.Tryd.prog 96 ti96 :=
  tok_of (by kernel_rfl) (by kernel_rfl) (by kernel_rfl) (by kernel_rfl) (by kernel_rfl) (by kernel_rfl) (show Go.Proofs.Tryd.prog.underlying 96 = some (.int .u64) by kernel_rfl) (by decide)
theorem tok123 : Tok1 Go.Proofs.Tryd.prog 123 ti123 :=
  tok_of (by kernel_rfl) (by kernel_rfl) (by kernel_rfl) (by kernel_rfl) (by kernel_rfl) (by kernel_rfl) (show Go.Proofs.Tryd.prog.underlying 123 = some (.int .u32) by kernel_rfl) (by decide)
theorem tok : Tok Go.Proofs.Tryd.prog tau := ⟨tok22, tok23, tok28, tok60, tok73, tok25, tok30, tok62, tok2, tok3, tok4, tok5, tok9, tok20, tok21, tok43, tok67, tok96, tok123, trivial⟩
end Ab


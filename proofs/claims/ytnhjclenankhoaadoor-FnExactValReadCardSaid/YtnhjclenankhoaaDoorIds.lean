/- The types of the program, as the frame 'Ab' reads them: printed by a small program, proved here. -/
import Derived.Test.YtnhjclenankhoaaDoorAbQ
import Derived.Test.YtnhjclenankhoaaDoorProg
import Derived.KernelRfl
set_option linter.all false
namespace Ab
open Go
set_option maxRecDepth 10000


noncomputable abbrev PG : Program := Go.Proofs.Tryd.prog
abbrev l_FnTypeValue : Nat := 3
theorem g_l_FnTypeValue : PG.funcs[l_FnTypeValue]? = some Go.Proofs.Tryd.f3 := Go.Proofs.Tryd.func3
abbrev l_FnValBack : Nat := 4
theorem g_l_FnValBack : PG.funcs[l_FnValBack]? = some Go.Proofs.Tryd.f4 := Go.Proofs.Tryd.func4
abbrev l_FnExactValRead : Nat := 5
theorem g_l_FnExactValRead : PG.funcs[l_FnExactValRead]? = some Go.Proofs.Tryd.f5 := Go.Proofs.Tryd.func5
abbrev s_DrawTypeOk : Nat := 7
theorem g_s_DrawTypeOk : PG.funcs[s_DrawTypeOk]? = some Go.Proofs.Tryd.f7 := Go.Proofs.Tryd.func7
abbrev i_TypeOk : Nat := 8
theorem g_i_TypeOk : PG.funcs[i_TypeOk]? = some Go.Proofs.Tryd.f8 := Go.Proofs.Tryd.func8
abbrev s_TypeOk : Nat := 9
theorem g_s_TypeOk : PG.funcs[s_TypeOk]? = some Go.Proofs.Tryd.f9 := Go.Proofs.Tryd.func9
abbrev l_lhNought : Nat := 10
theorem g_l_lhNought : PG.funcs[l_lhNought]? = some Go.Proofs.Tryd.f10 := Go.Proofs.Tryd.func10
abbrev i_ValRead : Nat := 11
theorem g_i_ValRead : PG.funcs[i_ValRead]? = some Go.Proofs.Tryd.f11 := Go.Proofs.Tryd.func11
abbrev i_ValText : Nat := 12
theorem g_i_ValText : PG.funcs[i_ValText]? = some Go.Proofs.Tryd.f12 := Go.Proofs.Tryd.func12
abbrev i_ValOk : Nat := 13
theorem g_i_ValOk : PG.funcs[i_ValOk]? = some Go.Proofs.Tryd.f13 := Go.Proofs.Tryd.func13
abbrev l_lhVal : Nat := 14
theorem g_l_lhVal : PG.funcs[l_lhVal]? = some Go.Proofs.Tryd.f14 := Go.Proofs.Tryd.func14
abbrev s_DrawValText : Nat := 15
theorem g_s_DrawValText : PG.funcs[s_DrawValText]? = some Go.Proofs.Tryd.f15 := Go.Proofs.Tryd.func15
abbrev s_ValText : Nat := 16
theorem g_s_ValText : PG.funcs[s_ValText]? = some Go.Proofs.Tryd.f16 := Go.Proofs.Tryd.func16
abbrev s_ValRead : Nat := 17
theorem g_s_ValRead : PG.funcs[s_ValRead]? = some Go.Proofs.Tryd.f17 := Go.Proofs.Tryd.func17
abbrev l_eqVal : Nat := 18
theorem g_l_eqVal : PG.funcs[l_eqVal]? = some Go.Proofs.Tryd.f18 := Go.Proofs.Tryd.func18
abbrev l_markVal : Nat := 19
theorem g_l_markVal : PG.funcs[l_markVal]? = some Go.Proofs.Tryd.f19 := Go.Proofs.Tryd.func19
abbrev l_heldVal : Nat := 20
theorem g_l_heldVal : PG.funcs[l_heldVal]? = some Go.Proofs.Tryd.f20 := Go.Proofs.Tryd.func20
abbrev s_l71Deep : Nat := 22
theorem g_s_l71Deep : PG.funcs[s_l71Deep]? = some Go.Proofs.Tryd.f22 := Go.Proofs.Tryd.func22
abbrev s_l6Open : Nat := 23
theorem g_s_l6Open : PG.funcs[s_l6Open]? = some Go.Proofs.Tryd.f23 := Go.Proofs.Tryd.func23
abbrev i_typeFits : Nat := 24
theorem g_i_typeFits : PG.funcs[i_typeFits]? = some Go.Proofs.Tryd.f24 := Go.Proofs.Tryd.func24
abbrev s_l1Deep : Nat := 25
theorem g_s_l1Deep : PG.funcs[s_l1Deep]? = some Go.Proofs.Tryd.f25 := Go.Proofs.Tryd.func25
abbrev i_valRead : Nat := 26
theorem g_i_valRead : PG.funcs[i_valRead]? = some Go.Proofs.Tryd.f26 := Go.Proofs.Tryd.func26
abbrev i_valTyped : Nat := 27
theorem g_i_valTyped : PG.funcs[i_valTyped]? = some Go.Proofs.Tryd.f27 := Go.Proofs.Tryd.func27
abbrev i_valWords : Nat := 28
theorem g_i_valWords : PG.funcs[i_valWords]? = some Go.Proofs.Tryd.f28 := Go.Proofs.Tryd.func28
abbrev i_typeSame : Nat := 29
theorem g_i_typeSame : PG.funcs[i_typeSame]? = some Go.Proofs.Tryd.f29 := Go.Proofs.Tryd.func29
abbrev s_l71Bad : Nat := 30
theorem g_s_l71Bad : PG.funcs[s_l71Bad]? = some Go.Proofs.Tryd.f30 := Go.Proofs.Tryd.func30
abbrev s_l71Type : Nat := 31
theorem g_s_l71Type : PG.funcs[s_l71Type]? = some Go.Proofs.Tryd.f31 := Go.Proofs.Tryd.func31
abbrev s_l6Rd_pick : Nat := 32
theorem g_s_l6Rd_pick : PG.funcs[s_l6Rd_pick]? = some Go.Proofs.Tryd.f32 := Go.Proofs.Tryd.func32
abbrev s_l1Any : Nat := 33
theorem g_s_l1Any : PG.funcs[s_l1Any]? = some Go.Proofs.Tryd.f33 := Go.Proofs.Tryd.func33
abbrev s_l1Show : Nat := 34
theorem g_s_l1Show : PG.funcs[s_l1Show]? = some Go.Proofs.Tryd.f34 := Go.Proofs.Tryd.func34
abbrev s_l31Val : Nat := 35
theorem g_s_l31Val : PG.funcs[s_l31Val]? = some Go.Proofs.Tryd.f35 := Go.Proofs.Tryd.func35
abbrev l_eqValS : Nat := 36
theorem g_l_eqValS : PG.funcs[l_eqValS]? = some Go.Proofs.Tryd.f36 := Go.Proofs.Tryd.func36
abbrev l_markValS : Nat := 37
theorem g_l_markValS : PG.funcs[l_markValS]? = some Go.Proofs.Tryd.f37 := Go.Proofs.Tryd.func37
abbrev l_heldValS : Nat := 38
theorem g_l_heldValS : PG.funcs[l_heldValS]? = some Go.Proofs.Tryd.f38 := Go.Proofs.Tryd.func38
abbrev s_l71Val : Nat := 39
theorem g_s_l71Val : PG.funcs[s_l71Val]? = some Go.Proofs.Tryd.f39 := Go.Proofs.Tryd.func39
abbrev s_l6Rd_of : Nat := 40
theorem g_s_l6Rd_of : PG.funcs[s_l6Rd_of]? = some Go.Proofs.Tryd.f40 := Go.Proofs.Tryd.func40
abbrev x_strings_CutPrefix : Nat := 41
theorem g_x_strings_CutPrefix : PG.funcs[x_strings_CutPrefix]? = some Go.Proofs.Tryd.f41 := Go.Proofs.Tryd.func41
abbrev x_strings_TrimLeft : Nat := 42
theorem g_x_strings_TrimLeft : PG.funcs[x_strings_TrimLeft]? = some Go.Proofs.Tryd.f42 := Go.Proofs.Tryd.func42
abbrev x_strconv_Atoi : Nat := 43
theorem g_x_strconv_Atoi : PG.funcs[x_strconv_Atoi]? = some Go.Proofs.Tryd.f43 := Go.Proofs.Tryd.func43
abbrev x_strings_HasPrefix : Nat := 44
theorem g_x_strings_HasPrefix : PG.funcs[x_strings_HasPrefix]? = some Go.Proofs.Tryd.f44 := Go.Proofs.Tryd.func44
abbrev i_valType : Nat := 45
theorem g_i_valType : PG.funcs[i_valType]? = some Go.Proofs.Tryd.f45 := Go.Proofs.Tryd.func45
abbrev x_strconv_Itoa : Nat := 46
theorem g_x_strconv_Itoa : PG.funcs[x_strconv_Itoa]? = some Go.Proofs.Tryd.f46 := Go.Proofs.Tryd.func46
abbrev s_l1Of : Nat := 47
theorem g_s_l1Of : PG.funcs[s_l1Of]? = some Go.Proofs.Tryd.f47 := Go.Proofs.Tryd.func47
abbrev s_ValOk : Nat := 48
theorem g_s_ValOk : PG.funcs[s_ValOk]? = some Go.Proofs.Tryd.f48 := Go.Proofs.Tryd.func48
abbrev s_l6Dec : Nat := 49
theorem g_s_l6Dec : PG.funcs[s_l6Dec]? = some Go.Proofs.Tryd.f49 := Go.Proofs.Tryd.func49
abbrev s_l2Dec : Nat := 50
theorem g_s_l2Dec : PG.funcs[s_l2Dec]? = some Go.Proofs.Tryd.f50 := Go.Proofs.Tryd.func50
abbrev s_l1Val : Nat := 60
theorem g_s_l1Val : PG.funcs[s_l1Val]? = some Go.Proofs.Tryd.f60 := Go.Proofs.Tryd.func60
abbrev s_l6In : Nat := 70
theorem g_s_l6In : PG.funcs[s_l6In]? = some Go.Proofs.Tryd.f70 := Go.Proofs.Tryd.func70
abbrev t_l_i_Type : Nat := 23
abbrev t_i_Type : Nat := 25
abbrev t_l_i_Val : Nat := 28
abbrev t_i_Val : Nat := 30
abbrev t_p_s_l6Rd : Nat := 43
abbrev t_s_l6Rd : Nat := 62
abbrev t_error : Nat := 67
/-- []uint8 -/
abbrev ti22 : TI := ⟨.slice, 1, [], 5, 0, [.v (.slice none 0 0)], 24⟩
/-- []impl.Type -/
abbrev ti23 : TI := ⟨.slice, 1, [], 25, 0, [.v (.slice none 0 0)], 24⟩
/-- []impl.Val -/
abbrev ti28 : TI := ⟨.slice, 1, [], 30, 0, [.v (.slice none 0 0)], 24⟩
/-- []string -/
abbrev ti60 : TI := ⟨.slice, 1, [], 9, 0, [.v (.slice none 0 0)], 24⟩
/-- []int -/
abbrev ti73 : TI := ⟨.slice, 1, [], 3, 0, [.v (.slice none 0 0)], 24⟩
/-- loop.example/handfast/impl.Type -/
abbrev ti25 : TI := ⟨.struct, 1, [(0, 23)], 0, 0, [.v (.slice none 0 0)], 24⟩
/-- loop.example/handfast/impl.Val -/
abbrev ti30 : TI := ⟨.struct, 2, [(0, 3), (1, 28)], 0, 0, [.i .i64 0, .v (.slice none 0 0)], 32⟩
/-- loop.example/handfast/spec.l6Rd -/
abbrev ti62 : TI := ⟨.struct, 2, [(0, 22), (1, 3)], 0, 0, [.v (.slice none 0 0), .i .i64 0], 32⟩
/-- int64 -/
abbrev ti2 : TI := ⟨(.int .i64), 1, [], 0, 0, [.i .i64 0], 8⟩
/-- int -/
abbrev ti3 : TI := ⟨(.int .i64), 1, [], 0, 0, [.i .i64 0], 8⟩
/-- bool -/
abbrev ti4 : TI := ⟨.bool, 1, [], 0, 0, [.b false], 1⟩
/-- uint8 -/
abbrev ti5 : TI := ⟨(.int .u8), 1, [], 0, 0, [.i .u8 0], 1⟩
/-- string -/
abbrev ti9 : TI := ⟨.string, 1, [], 0, 0, [.s []], 16⟩
/-- interface () -/
abbrev ti20 : TI := ⟨.iface, 1, [], 0, 0, [.v .nilIface], 16⟩
/-- int32 -/
abbrev ti21 : TI := ⟨(.int .i32), 1, [], 0, 0, [.i .i32 0], 4⟩
/-- *spec.l6Rd -/
abbrev ti43 : TI := ⟨.ptr, 1, [], 62, 0, [.v (.pointer none)], 8⟩
/-- error -/
abbrev ti67 : TI := ⟨.iface, 1, [], 0, 0, [.v .nilIface], 16⟩
/-- uint64 -/
abbrev ti96 : TI := ⟨(.int .u64), 1, [], 0, 0, [.i .u64 0], 8⟩
/-- uint32 -/
abbrev ti123 : TI := ⟨(.int .u32), 1, [], 0, 0, [.i .u32 0], 4⟩
/-- the table -/
abbrev tau : Tab := [(22, ti22), (23, ti23), (28, ti28), (60, ti60), (73, ti73), (25, ti25), (30, ti30), (62, ti62), (2, ti2), (3, ti3), (4, ti4), (5, ti5), (9, ti9), (20, ti20), (21, ti21), (43, ti43), (67, ti67), (96, ti96), (123, ti123)]

theorem tok22 : Tok1 Go.Proofs.Tryd.prog 22 ti22 :=
  tok_of (by kernel_rfl) (by kernel_rfl) (by kernel_rfl) (by kernel_rfl) (by kernel_rfl) (by kernel_rfl) (show Go.Proofs.Tryd.prog.underlying 22 = some (.slice 5) by kernel_rfl) (by decide)
theorem tok23 : Tok1 Go.Proofs.Tryd.prog 23 ti23 :=
  tok_of (by kernel_rfl) (by kernel_rfl) (by kernel_rfl) (by kernel_rfl) (by kernel_rfl) (by kernel_rfl) (show Go.Proofs.Tryd.prog.underlying 23 = some (.slice 25) by kernel_rfl) (by decide)
theorem tok28 : Tok1 Go.Proofs.Tryd.prog 28 ti28 :=
  tok_of (by kernel_rfl) (by kernel_rfl) (by kernel_rfl) (by kernel_rfl) (by kernel_rfl) (by kernel_rfl) (show Go.Proofs.Tryd.prog.underlying 28 = some (.slice 30) by kernel_rfl) (by decide)
theorem tok60 : Tok1 Go.Proofs.Tryd.prog 60 ti60 :=
  tok_of (by kernel_rfl) (by kernel_rfl) (by kernel_rfl) (by kernel_rfl) (by kernel_rfl) (by kernel_rfl) (show Go.Proofs.Tryd.prog.underlying 60 = some (.slice 9) by kernel_rfl) (by decide)
theorem tok73 : Tok1 Go.Proofs.Tryd.prog 73 ti73 :=
  tok_of (by kernel_rfl) (by kernel_rfl) (by kernel_rfl) (by kernel_rfl) (by kernel_rfl) (by kernel_rfl) (show Go.Proofs.Tryd.prog.underlying 73 = some (.slice 3) by kernel_rfl) (by decide)
theorem tok25 : Tok1 Go.Proofs.Tryd.prog 25 ti25 :=
  tok_of (by kernel_rfl) (by kernel_rfl) (by kernel_rfl) (by kernel_rfl) (by kernel_rfl) (by kernel_rfl) (kind_struct rfl (by kernel_rfl)) (by decide)
theorem tok30 : Tok1 Go.Proofs.Tryd.prog 30 ti30 :=
  tok_of (by kernel_rfl) (by kernel_rfl) (by kernel_rfl) (by kernel_rfl) (by kernel_rfl) (by kernel_rfl) (kind_struct rfl (by kernel_rfl)) (by decide)
theorem tok62 : Tok1 Go.Proofs.Tryd.prog 62 ti62 :=
  tok_of (by kernel_rfl) (by kernel_rfl) (by kernel_rfl) (by kernel_rfl) (by kernel_rfl) (by kernel_rfl) (kind_struct rfl (by kernel_rfl)) (by decide)
theorem tok2 : Tok1 Go.Proofs.Tryd.prog 2 ti2 :=
  tok_of (by kernel_rfl) (by kernel_rfl) (by kernel_rfl) (by kernel_rfl) (by kernel_rfl) (by kernel_rfl) (show Go.Proofs.Tryd.prog.underlying 2 = some (.int .i64) by kernel_rfl) (by decide)
theorem tok3 : Tok1 Go.Proofs.Tryd.prog 3 ti3 :=
  tok_of (by kernel_rfl) (by kernel_rfl) (by kernel_rfl) (by kernel_rfl) (by kernel_rfl) (by kernel_rfl) (show Go.Proofs.Tryd.prog.underlying 3 = some (.int .i64) by kernel_rfl) (by decide)
theorem tok4 : Tok1 Go.Proofs.Tryd.prog 4 ti4 :=
  tok_of (by kernel_rfl) (by kernel_rfl) (by kernel_rfl) (by kernel_rfl) (by kernel_rfl) (by kernel_rfl) (show Go.Proofs.Tryd.prog.underlying 4 = some .bool by kernel_rfl) (by decide)
theorem tok5 : Tok1 Go.Proofs.Tryd.prog 5 ti5 :=
  tok_of (by kernel_rfl) (by kernel_rfl) (by kernel_rfl) (by kernel_rfl) (by kernel_rfl) (by kernel_rfl) (show Go.Proofs.Tryd.prog.underlying 5 = some (.int .u8) by kernel_rfl) (by decide)
theorem tok9 : Tok1 Go.Proofs.Tryd.prog 9 ti9 :=
  tok_of (by kernel_rfl) (by kernel_rfl) (by kernel_rfl) (by kernel_rfl) (by kernel_rfl) (by kernel_rfl) (show Go.Proofs.Tryd.prog.underlying 9 = some .string by kernel_rfl) (by decide)
theorem tok20 : Tok1 Go.Proofs.Tryd.prog 20 ti20 :=
  tok_of (by kernel_rfl) (by kernel_rfl) (by kernel_rfl) (by kernel_rfl) (by kernel_rfl) (by kernel_rfl) (kind_iface rfl (by kernel_rfl)) (by decide)
theorem tok21 : Tok1 Go.Proofs.Tryd.prog 21 ti21 :=
  tok_of (by kernel_rfl) (by kernel_rfl) (by kernel_rfl) (by kernel_rfl) (by kernel_rfl) (by kernel_rfl) (show Go.Proofs.Tryd.prog.underlying 21 = some (.int .i32) by kernel_rfl) (by decide)
theorem tok43 : Tok1 Go.Proofs.Tryd.prog 43 ti43 :=
  tok_of (by kernel_rfl) (by kernel_rfl) (by kernel_rfl) (by kernel_rfl) (by kernel_rfl) (by kernel_rfl) (show Go.Proofs.Tryd.prog.underlying 43 = some (.pointer 62) by kernel_rfl) (by decide)
theorem tok67 : Tok1 Go.Proofs.Tryd.prog 67 ti67 :=
  tok_of (by kernel_rfl) (by kernel_rfl) (by kernel_rfl) (by kernel_rfl) (by kernel_rfl) (by kernel_rfl) (kind_iface rfl (by kernel_rfl)) (by decide)
theorem tok96 : Tok1 Go.Proofs.Tryd.prog 96 ti96 :=
  tok_of (by kernel_rfl) (by kernel_rfl) (by kernel_rfl) (by kernel_rfl) (by kernel_rfl) (by kernel_rfl) (show Go.Proofs.Tryd.prog.underlying 96 = some (.int .u64) by kernel_rfl) (by decide)
theorem tok123 : Tok1 Go.Proofs.Tryd.prog 123 ti123 :=
  tok_of (by kernel_rfl) (by kernel_rfl) (by kernel_rfl) (by kernel_rfl) (by kernel_rfl) (by kernel_rfl) (show Go.Proofs.Tryd.prog.underlying 123 = some (.int .u32) by kernel_rfl) (by decide)
theorem tok : Tok Go.Proofs.Tryd.prog tau := ⟨tok22, tok23, tok28, tok60, tok73, tok25, tok30, tok62, tok2, tok3, tok4, tok5, tok9, tok20, tok21, tok43, tok67, tok96, tok123, trivial⟩
end Ab


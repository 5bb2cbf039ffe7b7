/- The types of the program, as the frame 'Ab' reads them: printed by a small program, proved here. -/
import Derived.Test.YtnhjclenankhoaaDoorAbM
import Derived.Test.YtnhjclenankhoaaDoorProg
import Derived.KernelRfl
set_option linter.all false
namespace Ab
open Go
set_option maxRecDepth 10000

/-- []uint8 -/
abbrev ti22 : TI := ⟨.slice, 1, [], 5, 0, [.v (.slice none 0 0)], 24⟩
/-- []impl.Type -/
abbrev ti23 : TI := ⟨.slice, 1, [], 25, 0, [.v (.slice none 0 0)], 24⟩
/-- []impl.Val -/
abbrev ti28 : TI := ⟨.slice, 1, [], 30, 0, [.v (.slice none 0 0)], 24⟩
/-- []string -/
abbrev ti60 : TI := ⟨.slice, 1, [], 9, 0, [.v (.slice none 0 0)], 24⟩
/-- []int -/
abbrev ti73 : TI := ⟨.slice, 1, [], 3, 0, [.v (.slice none 0 0)], 24⟩
/-- loop.example/handfast/impl.Type -/
abbrev ti25 : TI := ⟨.struct, 1, [(0, 23)], 0, 0, [.v (.slice none 0 0)], 24⟩
/-- loop.example/handfast/impl.Val -/
abbrev ti30 : TI := ⟨.struct, 2, [(0, 3), (1, 28)], 0, 0, [.i .i64 0, .v (.slice none 0 0)], 32⟩
/-- loop.example/handfast/spec.l6Rd -/
abbrev ti62 : TI := ⟨.struct, 2, [(0, 22), (1, 3)], 0, 0, [.v (.slice none 0 0), .i .i64 0], 32⟩
/-- int64 -/
abbrev ti2 : TI := ⟨(.int .i64), 1, [], 0, 0, [.i .i64 0], 8⟩
/-- int -/
abbrev ti3 : TI := ⟨(.int .i64), 1, [], 0, 0, [.i .i64 0], 8⟩
/-- bool -/
abbrev ti4 : TI := ⟨.bool, 1, [], 0, 0, [.b false], 1⟩
/-- uint8 -/
abbrev ti5 : TI := ⟨(.int .u8), 1, [], 0, 0, [.i .u8 0], 1⟩
/-- string -/
abbrev ti9 : TI := ⟨.string, 1, [], 0, 0, [.s []], 16⟩
/-- interface () -/
abbrev ti20 : TI := ⟨.iface, 1, [], 0, 0, [.v .nilIface], 16⟩
/-- int32 -/
abbrev ti21 : TI := ⟨(.int .i32), 1, [], 0, 0, [.i .i32 0], 4⟩
/-- *spec.l6Rd -/
abbrev ti43 : TI := ⟨.ptr, 1, [], 62, 0, [.v (.pointer none)], 8⟩
/-- error -/
abbrev ti67 : TI := ⟨.iface, 1, [], 0, 0, [.v .nilIface], 16⟩
/-- uint64 -/
abbrev ti96 : TI := ⟨(.int .u64), 1, [], 0, 0, [.i .u64 0], 8⟩
/-- uint32 -/
abbrev ti123 : TI := ⟨(.int .u32), 1, [], 0, 0, [.i .u32 0], 4⟩
/-- the table -/
abbrev tau : Tab := [(22, ti22), (23, ti23), (28, ti28), (60, ti60), (73, ti73), (25, ti25), (30, ti30), (62, ti62), (2, ti2), (3, ti3), (4, ti4), (5, ti5), (9, ti9), (20, ti20), (21, ti21), (43, ti43), (67, ti67), (96, ti96), (123, ti123)]

theorem tok22 : Tok1 Go.Proofs.Tryd.prog 22 ti22 :=
  tok_of (by kernel_rfl) (by kernel_rfl) (by kernel_rfl) (by kernel_rfl) (by kernel_rfl) (by kernel_rfl) (show Go.Proofs.Tryd.prog.underlying 22 = some (.slice 5) by kernel_rfl) (by decide)
theorem tok23 : Tok1 Go.Proofs.Tryd.prog 23 ti23 :=
  tok_of (by kernel_rfl) (by kernel_rfl) (by kernel_rfl) (by kernel_rfl) (by kernel_rfl) (by kernel_rfl) (show Go.Proofs.Tryd.prog.underlying 23 = some (.slice 25) by kernel_rfl) (by decide)
theorem tok28 : Tok1 Go.Proofs.Tryd.prog 28 ti28 :=
  tok_of (by kernel_rfl) (by kernel_rfl) (by kernel_rfl) (by kernel_rfl) (by kernel_rfl) (by kernel_rfl) (show Go.Proofs.Tryd.prog.underlying 28 = some (.slice 30) by kernel_rfl) (by decide)
theorem tok60 : Tok1 Go.Proofs.Tryd.prog 60 ti60 :=
  tok_of (by kernel_rfl) (by kernel_rfl) (by kernel_rfl) (by kernel_rfl) (by kernel_rfl) (by kernel_rfl) (show Go.Proofs.Tryd.prog.underlying 60 = some (.slice 9) by kernel_rfl) (by decide)
theorem tok73 : Tok1 Go.Proofs.Tryd.prog 73 ti73 :=
  tok_of (by kernel_rfl) (by kernel_rfl) (by kernel_rfl) (by kernel_rfl) (by kernel_rfl) (by kernel_rfl) (show Go.Proofs.Tryd.prog.underlying 73 = some (.slice 3) by kernel_rfl) (by decide)
theorem tok25 : Tok1 Go.Proofs.Tryd.prog 25 ti25 :=
  tok_of (by kernel_rfl) (by kernel_rfl) (by kernel_rfl) (by kernel_rfl) (by kernel_rfl) (by kernel_rfl) (kind_struct rfl (by kernel_rfl)) (by decide)
theorem tok30 : Tok1 Go.Proofs.Tryd.prog 30 ti30 :=
  tok_of (by kernel_rfl) (by kernel_rfl) (by kernel_rfl) (by kernel_rfl) (by kernel_rfl) (by kernel_rfl) (kind_struct rfl (by kernel_rfl)) (by decide)
theorem tok62 : Tok1 Go.Proofs.Tryd.prog 62 ti62 :=
  tok_of (by kernel_rfl) (by kernel_rfl) (by kernel_rfl) (by kernel_rfl) (by kernel_rfl) (by kernel_rfl) (kind_struct rfl (by kernel_rfl)) (by decide)
theorem tok2 : Tok1 Go.Proofs.Tryd.prog 2 ti2 :=
  tok_of (by kernel_rfl) (by kernel_rfl) (by kernel_rfl) (by kernel_rfl) (by kernel_rfl) (by kernel_rfl) (show Go.Proofs.Tryd.prog.underlying 2 = some (.int .i64) by kernel_rfl) (by decide)
theorem tok3 : Tok1 Go.Proofs.Tryd.prog 3 ti3 :=
  tok_of (by kernel_rfl) (by kernel_rfl) (by kernel_rfl) (by kernel_rfl) (by kernel_rfl) (by kernel_rfl) (show Go.Proofs.Tryd.prog.underlying 3 = some (.int .i64) by kernel_rfl) (by decide)
theorem tok4 : Tok1 Go.Proofs.Tryd.prog 4 ti4 :=
  tok_of (by kernel_rfl) (by kernel_rfl) (by kernel_rfl) (by kernel_rfl) (by kernel_rfl) (by kernel_rfl) (show Go.Proofs.Tryd.prog.underlying 4 = some .bool by kernel_rfl) (by decide)
theorem tok5 : Tok1 Go.Proofs.Tryd.prog 5 ti5 :=
  tok_of (by kernel_rfl) (by kernel_rfl) (by kernel_rfl) (by kernel_rfl) (by kernel_rfl) (by kernel_rfl) (show Go.Proofs.Tryd.prog.underlying 5 = some (.int .u8) by kernel_rfl) (by decide)
theorem tok9 : Tok1 Go.Proofs.Tryd.prog 9 ti9 :=
  tok_of (by kernel_rfl) (by kernel_rfl) (by kernel_rfl) (by kernel_rfl) (by kernel_rfl) (by kernel_rfl) (show Go.Proofs.Tryd.prog.underlying 9 = some .string by kernel_rfl) (by decide)
theorem tok20 : Tok1 Go.Proofs.Tryd.prog 20 ti20 :=
  tok_of (by kernel_rfl) (by kernel_rfl) (by kernel_rfl) (by kernel_rfl) (by kernel_rfl) (by kernel_rfl) (kind_iface rfl (by kernel_rfl)) (by decide)
theorem tok21 : Tok1 Go.Proofs.Tryd.prog 21 ti21 :=
  tok_of (by kernel_rfl) (by kernel_rfl) (by kernel_rfl) (by kernel_rfl) (by kernel_rfl) (by kernel_rfl) (show Go.Proofs.Tryd.prog.underlying 21 = some (.int .i32) by kernel_rfl) (by decide)
theorem tok43 : Tok1 Go.Proofs.Tryd.prog 43 ti43 :=
  tok_of (by kernel_rfl) (by kernel_rfl) (by kernel_rfl) (by kernel_rfl) (by kernel_rfl) (by kernel_rfl) (show Go.Proofs.Tryd.prog.underlying 43 = some (.pointer 62) by kernel_rfl) (by decide)
theorem tok67 : Tok1 Go.Proofs.Tryd.prog 67 ti67 :=
  tok_of (by kernel_rfl) (by kernel_rfl) (by kernel_rfl) (by kernel_rfl) (by kernel_rfl) (by kernel_rfl) (kind_iface rfl (by kernel_rfl)) (by decide)
theorem tok96 : Tok1 Go.Proofs.Tryd.prog 96 ti96 :=
  tok_of (by kernel_rfl) (by kernel_rfl) (by kernel_rfl) (by kernel_rfl) (by kernel_rfl) (by kernel_rfl) (show Go.Proofs.Tryd.prog.underlying 96 = some (.int .u64) by kernel_rfl) (by decide)
theorem tok123 : Tok1 Go.Proofs.Tryd.prog 123 ti123 :=
  tok_of (by kernel_rfl) (by kernel_rfl) (by kernel_rfl) (by kernel_rfl) (by kernel_rfl) (by kernel_rfl) (show Go.Proofs.Tryd.prog.underlying 123 = some (.int .u32) by kernel_rfl) (by decide)
theorem tok : Tok Go.Proofs.Tryd.prog tau := ⟨tok22, tok23, tok28, tok60, tok73, tok25, tok30, tok62, tok2, tok3, tok4, tok5, tok9, tok20, tok21, tok43, tok67, tok96, tok123, trivial⟩
end Ab

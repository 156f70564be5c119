/-
  The types of the seat's program: facts. Printed by gentypes2.py.
-/
import Derived.Test.YtddgcegimmcbgaaGreatSyVa
import Derived.Test.YtddgcegimmcbgaaGreatProg
import Derived.KernelRfl
set_option linter.unusedVariables false
set_option linter.unusedSimpArgs false
set_option linter.unusedSectionVars false
namespace Go.Proofs.YtddgcegimmcbgaaGreat.Sy
open Go Go.Sy Go.Proofs.YtddgcegimmcbgaaGreat
-- 0: Exception('tuple')
def ti2 : TI := { k := .int .i64, sz := 1, by_ := 8, zero := some [.i .i64 (.lit 0)], key := some (false, 1), zd := some (.i .i64 (.lit 0)) }
theorem tok2 : ti2.Ok Tryz.prog 2 := ⟨(by kernel_rfl), (by kernel_rfl), (by kernel_rfl), (fun z h c => by cases h; kernel_rfl), (fun z h => by cases h; kernel_rfl), (fun z h c => by cases h; kernel_rfl), (fun z h => by cases h)⟩
def ti3 : TI := { k := .int .i64, sz := 1, by_ := 8, zero := some [.i .i64 (.lit 0)], key := some (false, 1) }
theorem tok3 : ti3.Ok Tryz.prog 3 := ⟨(by kernel_rfl), (by kernel_rfl), (by kernel_rfl), (fun z h c => by cases h; kernel_rfl), (fun z h => by cases h; kernel_rfl), (fun z h => by cases h), (fun z h => by cases h)⟩
def ti4 : TI := { k := .bool, sz := 1, by_ := 1, zero := some [.b .f] }
theorem tok4 : ti4.Ok Tryz.prog 4 := ⟨(by kernel_rfl), (by kernel_rfl), (by kernel_rfl), (fun z h c => by cases h; kernel_rfl), (fun z h => by cases h), (fun z h => by cases h), (fun z h => by cases h)⟩
def ti5 : TI := { k := .int .u8, sz := 1, by_ := 1, zero := some [.i .u8 (.lit 0)] }
theorem tok5 : ti5.Ok Tryz.prog 5 := ⟨(by kernel_rfl), (by kernel_rfl), (by kernel_rfl), (fun z h c => by cases h; kernel_rfl), (fun z h => by cases h), (fun z h => by cases h), (fun z h => by cases h)⟩
def ti9 : TI := { k := .str, sz := 1, by_ := 16, zero := some [.v (.string ⟨#[]⟩)] }
theorem tok9 : ti9.Ok Tryz.prog 9 := ⟨(by kernel_rfl), (by kernel_rfl), (by kernel_rfl), (fun z h c => by cases h; kernel_rfl), (fun z h => by cases h), (fun z h => by cases h), (fun z h => by cases h)⟩
def ti22 : TI := { k := .arr 4 2, sz := 4, by_ := 32, zero := some [.i .i64 (.lit 0), .i .i64 (.lit 0), .i .i64 (.lit 0), .i .i64 (.lit 0)], flat := some [.int, .int, .int, .int] }
theorem tok22 : ti22.Ok Tryz.prog 22 := ⟨(by kernel_rfl), (by kernel_rfl), (by kernel_rfl), (fun z h c => by cases h; kernel_rfl), (fun z h => by cases h), (fun z h => by cases h), (fun z h => by cases h; kernel_rfl)⟩
def ti24 : TI := { k := .struct [(0, 2), (1, 2), (2, 2), (3, 2), (4, 3), (5, 22)], sz := 9, by_ := 72, zero := some [.i .i64 (.lit 0), .i .i64 (.lit 0), .i .i64 (.lit 0), .i .i64 (.lit 0), .i .i64 (.lit 0), .i .i64 (.lit 0), .i .i64 (.lit 0), .i .i64 (.lit 0), .i .i64 (.lit 0)], flat := some [.int, .int, .int, .int, .int, .int, .int, .int, .int] }
theorem tok24 : ti24.Ok Tryz.prog 24 := ⟨(by kernel_rfl), (by kernel_rfl), (by kernel_rfl), (fun z h c => by cases h; kernel_rfl), (fun z h => by cases h), (fun z h => by cases h), (fun z h => by cases h; kernel_rfl)⟩
def ti25 : TI := { k := .slice 61, sz := 1, by_ := 24, zero := some [.v (.slice none 0 0)] }
theorem tok25 : ti25.Ok Tryz.prog 25 := ⟨(by kernel_rfl), (by kernel_rfl), (by kernel_rfl), (fun z h c => by cases h; kernel_rfl), (fun z h => by cases h), (fun z h => by cases h), (fun z h => by cases h)⟩
def ti26 : TI := { k := .slice 41, sz := 1, by_ := 24, zero := some [.v (.slice none 0 0)] }
theorem tok26 : ti26.Ok Tryz.prog 26 := ⟨(by kernel_rfl), (by kernel_rfl), (by kernel_rfl), (fun z h c => by cases h; kernel_rfl), (fun z h => by cases h), (fun z h => by cases h), (fun z h => by cases h)⟩
def ti27 : TI := { k := .slice 43, sz := 1, by_ := 24, zero := some [.v (.slice none 0 0)] }
theorem tok27 : ti27.Ok Tryz.prog 27 := ⟨(by kernel_rfl), (by kernel_rfl), (by kernel_rfl), (fun z h c => by cases h; kernel_rfl), (fun z h => by cases h), (fun z h => by cases h), (fun z h => by cases h)⟩
def ti28 : TI := { k := .slice 45, sz := 1, by_ := 24, zero := some [.v (.slice none 0 0)] }
theorem tok28 : ti28.Ok Tryz.prog 28 := ⟨(by kernel_rfl), (by kernel_rfl), (by kernel_rfl), (fun z h c => by cases h; kernel_rfl), (fun z h => by cases h), (fun z h => by cases h), (fun z h => by cases h)⟩
def ti29 : TI := { k := .slice 47, sz := 1, by_ := 24, zero := some [.v (.slice none 0 0)] }
theorem tok29 : ti29.Ok Tryz.prog 29 := ⟨(by kernel_rfl), (by kernel_rfl), (by kernel_rfl), (fun z h c => by cases h; kernel_rfl), (fun z h => by cases h), (fun z h => by cases h), (fun z h => by cases h)⟩
def ti31 : TI := { k := .struct [(0, 24), (9, 2), (10, 2), (11, 25), (12, 26), (13, 27), (14, 28), (15, 29)], sz := 16, by_ := 208, zero := some [.i .i64 (.lit 0), .i .i64 (.lit 0), .i .i64 (.lit 0), .i .i64 (.lit 0), .i .i64 (.lit 0), .i .i64 (.lit 0), .i .i64 (.lit 0), .i .i64 (.lit 0), .i .i64 (.lit 0), .i .i64 (.lit 0), .i .i64 (.lit 0), .v (.slice none 0 0), .v (.slice none 0 0), .v (.slice none 0 0), .v (.slice none 0 0), .v (.slice none 0 0)] }
theorem tok31 : ti31.Ok Tryz.prog 31 := ⟨(by kernel_rfl), (by kernel_rfl), (by kernel_rfl), (fun z h c => by cases h; kernel_rfl), (fun z h => by cases h), (fun z h => by cases h), (fun z h => by cases h)⟩
-- 33: Exception('tuple')
def ti38 : TI := { k := .plain, sz := 1, by_ := 8, zero := some [.v .nilFunc] }
theorem tok38 : ti38.Ok Tryz.prog 38 := ⟨(by kernel_rfl), (by kernel_rfl), (by kernel_rfl), (fun z h c => by cases h; kernel_rfl), (fun z h => by cases h), (fun z h => by cases h), (fun z h => by cases h)⟩
def ti39 : TI := { k := .slice 69, sz := 1, by_ := 24, zero := some [.v (.slice none 0 0)], zd := some (.v (.slice none 0 0)) }
theorem tok39 : ti39.Ok Tryz.prog 39 := ⟨(by kernel_rfl), (by kernel_rfl), (by kernel_rfl), (fun z h c => by cases h; kernel_rfl), (fun z h => by cases h), (fun z h c => by cases h; kernel_rfl), (fun z h => by cases h)⟩
def ti41 : TI := { k := .struct [(0, 2), (1, 39), (2, 39)], sz := 3, by_ := 56, zero := some [.i .i64 (.lit 0), .v (.slice none 0 0), .v (.slice none 0 0)] }
theorem tok41 : ti41.Ok Tryz.prog 41 := ⟨(by kernel_rfl), (by kernel_rfl), (by kernel_rfl), (fun z h c => by cases h; kernel_rfl), (fun z h => by cases h), (fun z h => by cases h), (fun z h => by cases h)⟩
def ti43 : TI := { k := .struct [(0, 2), (1, 2), (2, 2), (3, 39), (4, 2)], sz := 5, by_ := 56, zero := some [.i .i64 (.lit 0), .i .i64 (.lit 0), .i .i64 (.lit 0), .v (.slice none 0 0), .i .i64 (.lit 0)] }
theorem tok43 : ti43.Ok Tryz.prog 43 := ⟨(by kernel_rfl), (by kernel_rfl), (by kernel_rfl), (fun z h c => by cases h; kernel_rfl), (fun z h => by cases h), (fun z h => by cases h), (fun z h => by cases h)⟩
def ti45 : TI := { k := .struct [(0, 2), (1, 2), (2, 2), (3, 39)], sz := 4, by_ := 48, zero := some [.i .i64 (.lit 0), .i .i64 (.lit 0), .i .i64 (.lit 0), .v (.slice none 0 0)] }
theorem tok45 : ti45.Ok Tryz.prog 45 := ⟨(by kernel_rfl), (by kernel_rfl), (by kernel_rfl), (fun z h c => by cases h; kernel_rfl), (fun z h => by cases h), (fun z h => by cases h), (fun z h => by cases h)⟩
def ti47 : TI := { k := .struct [(0, 2), (1, 2), (2, 2), (3, 39)], sz := 4, by_ := 48, zero := some [.i .i64 (.lit 0), .i .i64 (.lit 0), .i .i64 (.lit 0), .v (.slice none 0 0)] }
theorem tok47 : ti47.Ok Tryz.prog 47 := ⟨(by kernel_rfl), (by kernel_rfl), (by kernel_rfl), (fun z h c => by cases h; kernel_rfl), (fun z h => by cases h), (fun z h => by cases h), (fun z h => by cases h)⟩
def ti49 : TI := { k := .struct [(0, 31)], sz := 16, by_ := 208, zero := some [.i .i64 (.lit 0), .i .i64 (.lit 0), .i .i64 (.lit 0), .i .i64 (.lit 0), .i .i64 (.lit 0), .i .i64 (.lit 0), .i .i64 (.lit 0), .i .i64 (.lit 0), .i .i64 (.lit 0), .i .i64 (.lit 0), .i .i64 (.lit 0), .v (.slice none 0 0), .v (.slice none 0 0), .v (.slice none 0 0), .v (.slice none 0 0), .v (.slice none 0 0)] }
theorem tok49 : ti49.Ok Tryz.prog 49 := ⟨(by kernel_rfl), (by kernel_rfl), (by kernel_rfl), (fun z h c => by cases h; kernel_rfl), (fun z h => by cases h), (fun z h => by cases h), (fun z h => by cases h)⟩
def ti50 : TI := { k := .arr 8 38, sz := 8, by_ := 64, zero := some [.v .nilFunc, .v .nilFunc, .v .nilFunc, .v .nilFunc, .v .nilFunc, .v .nilFunc, .v .nilFunc, .v .nilFunc] }
theorem tok50 : ti50.Ok Tryz.prog 50 := ⟨(by kernel_rfl), (by kernel_rfl), (by kernel_rfl), (fun z h c => by cases h; kernel_rfl), (fun z h => by cases h), (fun z h => by cases h), (fun z h => by cases h)⟩
def ti52 : TI := { k := .slice 4, sz := 1, by_ := 24, zero := some [.v (.slice none 0 0)] }
theorem tok52 : ti52.Ok Tryz.prog 52 := ⟨(by kernel_rfl), (by kernel_rfl), (by kernel_rfl), (fun z h c => by cases h; kernel_rfl), (fun z h => by cases h), (fun z h => by cases h), (fun z h => by cases h)⟩
def ti61 : TI := { k := .struct [(0, 2), (1, 3), (2, 2), (3, 4), (4, 4), (5, 2), (6, 2)], sz := 7, by_ := 48, zero := some [.i .i64 (.lit 0), .i .i64 (.lit 0), .i .i64 (.lit 0), .b .f, .b .f, .i .i64 (.lit 0), .i .i64 (.lit 0)], flat := some [.int, .int, .int, .bool, .bool, .int, .int] }
theorem tok61 : ti61.Ok Tryz.prog 61 := ⟨(by kernel_rfl), (by kernel_rfl), (by kernel_rfl), (fun z h c => by cases h; kernel_rfl), (fun z h => by cases h), (fun z h => by cases h), (fun z h => by cases h; kernel_rfl)⟩
def ti69 : TI := { k := .struct [(0, 3), (1, 3), (2, 2)], sz := 3, by_ := 24, zero := some [.i .i64 (.lit 0), .i .i64 (.lit 0), .i .i64 (.lit 0)], flat := some [.int, .int, .int] }
theorem tok69 : ti69.Ok Tryz.prog 69 := ⟨(by kernel_rfl), (by kernel_rfl), (by kernel_rfl), (fun z h c => by cases h; kernel_rfl), (fun z h => by cases h), (fun z h => by cases h), (fun z h => by cases h; kernel_rfl)⟩
def ti71 : TI := { k := .struct [(0, 2), (1, 2)], sz := 2, by_ := 16, zero := some [.i .i64 (.lit 0), .i .i64 (.lit 0)], flat := some [.int, .int] }
theorem tok71 : ti71.Ok Tryz.prog 71 := ⟨(by kernel_rfl), (by kernel_rfl), (by kernel_rfl), (fun z h c => by cases h; kernel_rfl), (fun z h => by cases h), (fun z h => by cases h), (fun z h => by cases h; kernel_rfl)⟩
def ti73 : TI := { k := .struct [(0, 71), (2, 2)], sz := 3, by_ := 24, zero := some [.i .i64 (.lit 0), .i .i64 (.lit 0), .i .i64 (.lit 0)], flat := some [.int, .int, .int] }
theorem tok73 : ti73.Ok Tryz.prog 73 := ⟨(by kernel_rfl), (by kernel_rfl), (by kernel_rfl), (fun z h c => by cases h; kernel_rfl), (fun z h => by cases h), (fun z h => by cases h), (fun z h => by cases h; kernel_rfl)⟩
-- 74: Exception('tuple')
def ti78 : TI := { k := .int .i64, sz := 1, by_ := 8, zero := some [.i .i64 (.lit 0)] }
theorem tok78 : ti78.Ok Tryz.prog 78 := ⟨(by kernel_rfl), (by kernel_rfl), (by kernel_rfl), (fun z h c => by cases h; kernel_rfl), (fun z h => by cases h), (fun z h => by cases h), (fun z h => by cases h)⟩
def ti80 : TI := { k := .map 3 2, sz := 1, by_ := 8, zero := some [.v (.map none)] }
theorem tok80 : ti80.Ok Tryz.prog 80 := ⟨(by kernel_rfl), (by kernel_rfl), (by kernel_rfl), (fun z h c => by cases h; kernel_rfl), (fun z h => by cases h), (fun z h => by cases h), (fun z h => by cases h)⟩
-- 82: Exception('tuple')
def ti84 : TI := { k := .arr 4 2, sz := 4, by_ := 32, zero := some [.i .i64 (.lit 0), .i .i64 (.lit 0), .i .i64 (.lit 0), .i .i64 (.lit 0)], flat := some [.int, .int, .int, .int] }
theorem tok84 : ti84.Ok Tryz.prog 84 := ⟨(by kernel_rfl), (by kernel_rfl), (by kernel_rfl), (fun z h c => by cases h; kernel_rfl), (fun z h => by cases h), (fun z h => by cases h), (fun z h => by cases h; kernel_rfl)⟩
-- 85: Exception('tuple')
def ti89 : TI := { k := .slice 2, sz := 1, by_ := 24, zero := some [.v (.slice none 0 0)] }
theorem tok89 : ti89.Ok Tryz.prog 89 := ⟨(by kernel_rfl), (by kernel_rfl), (by kernel_rfl), (fun z h c => by cases h; kernel_rfl), (fun z h => by cases h), (fun z h => by cases h), (fun z h => by cases h)⟩
-- 90: Exception('tuple')
def ti94 : TI := { k := .map 2 39, sz := 1, by_ := 8, zero := some [.v (.map none)] }
theorem tok94 : ti94.Ok Tryz.prog 94 := ⟨(by kernel_rfl), (by kernel_rfl), (by kernel_rfl), (fun z h c => by cases h; kernel_rfl), (fun z h => by cases h), (fun z h => by cases h), (fun z h => by cases h)⟩
-- 95: Exception('tuple')
def ti116 : TI := { k := .struct [(0, 3), (1, 3)], sz := 2, by_ := 16, zero := some [.i .i64 (.lit 0), .i .i64 (.lit 0)], flat := some [.int, .int] }
theorem tok116 : ti116.Ok Tryz.prog 116 := ⟨(by kernel_rfl), (by kernel_rfl), (by kernel_rfl), (fun z h c => by cases h; kernel_rfl), (fun z h => by cases h), (fun z h => by cases h), (fun z h => by cases h; kernel_rfl)⟩
def ti120 : TI := { k := .slice 3, sz := 1, by_ := 24, zero := some [.v (.slice none 0 0)] }
theorem tok120 : ti120.Ok Tryz.prog 120 := ⟨(by kernel_rfl), (by kernel_rfl), (by kernel_rfl), (fun z h c => by cases h; kernel_rfl), (fun z h => by cases h), (fun z h => by cases h), (fun z h => by cases h)⟩
-- 126: Exception('tuple')
def ti130 : TI := { k := .slice 5, sz := 1, by_ := 24, zero := some [.v (.slice none 0 0)] }
theorem tok130 : ti130.Ok Tryz.prog 130 := ⟨(by kernel_rfl), (by kernel_rfl), (by kernel_rfl), (fun z h c => by cases h; kernel_rfl), (fun z h => by cases h), (fun z h => by cases h), (fun z h => by cases h)⟩
def ti133 : TI := { k := .slice 116, sz := 1, by_ := 24, zero := some [.v (.slice none 0 0)] }
theorem tok133 : ti133.Ok Tryz.prog 133 := ⟨(by kernel_rfl), (by kernel_rfl), (by kernel_rfl), (fun z h c => by cases h; kernel_rfl), (fun z h => by cases h), (fun z h => by cases h), (fun z h => by cases h)⟩
def ti139 : TI := { k := .arr 20 5, sz := 20, by_ := 20, zero := some [.i .u8 (.lit 0), .i .u8 (.lit 0), .i .u8 (.lit 0), .i .u8 (.lit 0), .i .u8 (.lit 0), .i .u8 (.lit 0), .i .u8 (.lit 0), .i .u8 (.lit 0), .i .u8 (.lit 0), .i .u8 (.lit 0), .i .u8 (.lit 0), .i .u8 (.lit 0), .i .u8 (.lit 0), .i .u8 (.lit 0), .i .u8 (.lit 0), .i .u8 (.lit 0), .i .u8 (.lit 0), .i .u8 (.lit 0), .i .u8 (.lit 0), .i .u8 (.lit 0)], flat := some [.int, .int, .int, .int, .int, .int, .int, .int, .int, .int, .int, .int, .int, .int, .int, .int, .int, .int, .int, .int] }
theorem tok139 : ti139.Ok Tryz.prog 139 := ⟨(by kernel_rfl), (by kernel_rfl), (by kernel_rfl), (fun z h c => by cases h; kernel_rfl), (fun z h => by cases h), (fun z h => by cases h), (fun z h => by cases h; kernel_rfl)⟩
def ti141 : TI := { k := .int .u64, sz := 1, by_ := 8, zero := some [.i .u64 (.lit 0)] }
theorem tok141 : ti141.Ok Tryz.prog 141 := ⟨(by kernel_rfl), (by kernel_rfl), (by kernel_rfl), (fun z h c => by cases h; kernel_rfl), (fun z h => by cases h), (fun z h => by cases h), (fun z h => by cases h)⟩
def ti143 : TI := { k := .struct [(0, 141), (1, 141)], sz := 2, by_ := 16, zero := some [.i .u64 (.lit 0), .i .u64 (.lit 0)], flat := some [.int, .int] }
theorem tok143 : ti143.Ok Tryz.prog 143 := ⟨(by kernel_rfl), (by kernel_rfl), (by kernel_rfl), (fun z h c => by cases h; kernel_rfl), (fun z h => by cases h), (fun z h => by cases h), (fun z h => by cases h; kernel_rfl)⟩
theorem mixed : Tryz.prog.follows .mixedOrders = true := by kernel_rfl
theorem fn4 : FnOk Tryz.prog 4 := ⟨_, Tryz.func4, rfl, rfl⟩
theorem fn5 : FnOk Tryz.prog 5 := ⟨_, Tryz.func5, rfl, rfl⟩
theorem fn6 : FnOk Tryz.prog 6 := ⟨_, Tryz.func6, rfl, rfl⟩
theorem fn7 : FnOk Tryz.prog 7 := ⟨_, Tryz.func7, rfl, rfl⟩
theorem fn8 : FnOk Tryz.prog 8 := ⟨_, Tryz.func8, rfl, rfl⟩
theorem fn9 : FnOk Tryz.prog 9 := ⟨_, Tryz.func9, rfl, rfl⟩
theorem fn10 : FnOk Tryz.prog 10 := ⟨_, Tryz.func10, rfl, rfl⟩
theorem fn11 : FnOk Tryz.prog 11 := ⟨_, Tryz.func11, rfl, rfl⟩
theorem fn12 : FnOk Tryz.prog 12 := ⟨_, Tryz.func12, rfl, rfl⟩
theorem fn13 : FnOk Tryz.prog 13 := ⟨_, Tryz.func13, rfl, rfl⟩
theorem fn14 : FnOk Tryz.prog 14 := ⟨_, Tryz.func14, rfl, rfl⟩
theorem fn15 : FnOk Tryz.prog 15 := ⟨_, Tryz.func15, rfl, rfl⟩
theorem fn16 : FnOk Tryz.prog 16 := ⟨_, Tryz.func16, rfl, rfl⟩
theorem fn17 : FnOk Tryz.prog 17 := ⟨_, Tryz.func17, rfl, rfl⟩
theorem fn18 : FnOk Tryz.prog 18 := ⟨_, Tryz.func18, rfl, rfl⟩
theorem fn19 : FnOk Tryz.prog 19 := ⟨_, Tryz.func19, rfl, rfl⟩
theorem fn20 : FnOk Tryz.prog 20 := ⟨_, Tryz.func20, rfl, rfl⟩
theorem fn21 : FnOk Tryz.prog 21 := ⟨_, Tryz.func21, rfl, rfl⟩
theorem fn22 : FnOk Tryz.prog 22 := ⟨_, Tryz.func22, rfl, rfl⟩
theorem fn23 : FnOk Tryz.prog 23 := ⟨_, Tryz.func23, rfl, rfl⟩
theorem fn24 : FnOk Tryz.prog 24 := ⟨_, Tryz.func24, rfl, rfl⟩
theorem fn25 : FnOk Tryz.prog 25 := ⟨_, Tryz.func25, rfl, rfl⟩
theorem fn26 : FnOk Tryz.prog 26 := ⟨_, Tryz.func26, rfl, rfl⟩
theorem fn27 : FnOk Tryz.prog 27 := ⟨_, Tryz.func27, rfl, rfl⟩
theorem fn28 : FnOk Tryz.prog 28 := ⟨_, Tryz.func28, rfl, rfl⟩
theorem fn29 : FnOk Tryz.prog 29 := ⟨_, Tryz.func29, rfl, rfl⟩
theorem fn30 : FnOk Tryz.prog 30 := ⟨_, Tryz.func30, rfl, rfl⟩
theorem fn31 : FnOk Tryz.prog 31 := ⟨_, Tryz.func31, rfl, rfl⟩
theorem fn32 : FnOk Tryz.prog 32 := ⟨_, Tryz.func32, rfl, rfl⟩
theorem fn33 : FnOk Tryz.prog 33 := ⟨_, Tryz.func33, rfl, rfl⟩
theorem fn34 : FnOk Tryz.prog 34 := ⟨_, Tryz.func34, rfl, rfl⟩
theorem fn35 : FnOk Tryz.prog 35 := ⟨_, Tryz.func35, rfl, rfl⟩
theorem fn36 : FnOk Tryz.prog 36 := ⟨_, Tryz.func36, rfl, rfl⟩
theorem fn37 : FnOk Tryz.prog 37 := ⟨_, Tryz.func37, rfl, rfl⟩
theorem fn38 : FnOk Tryz.prog 38 := ⟨_, Tryz.func38, rfl, rfl⟩
theorem fn39 : FnOk Tryz.prog 39 := ⟨_, Tryz.func39, rfl, rfl⟩
theorem fn40 : FnOk Tryz.prog 40 := ⟨_, Tryz.func40, rfl, rfl⟩
theorem fn41 : FnOk Tryz.prog 41 := ⟨_, Tryz.func41, rfl, rfl⟩
theorem fn42 : FnOk Tryz.prog 42 := ⟨_, Tryz.func42, rfl, rfl⟩
theorem fn43 : FnOk Tryz.prog 43 := ⟨_, Tryz.func43, rfl, rfl⟩
theorem fn44 : FnOk Tryz.prog 44 := ⟨_, Tryz.func44, rfl, rfl⟩
theorem fn45 : FnOk Tryz.prog 45 := ⟨_, Tryz.func45, rfl, rfl⟩
theorem fn46 : FnOk Tryz.prog 46 := ⟨_, Tryz.func46, rfl, rfl⟩
theorem fn47 : FnOk Tryz.prog 47 := ⟨_, Tryz.func47, rfl, rfl⟩
theorem fn48 : FnOk Tryz.prog 48 := ⟨_, Tryz.func48, rfl, rfl⟩
theorem fn49 : FnOk Tryz.prog 49 := ⟨_, Tryz.func49, rfl, rfl⟩
theorem fn50 : FnOk Tryz.prog 50 := ⟨_, Tryz.func50, rfl, rfl⟩
theorem fn51 : FnOk Tryz.prog 51 := ⟨_, Tryz.func51, rfl, rfl⟩
theorem fn52 : FnOk Tryz.prog 52 := ⟨_, Tryz.func52, rfl, rfl⟩
theorem fn53 : FnOk Tryz.prog 53 := ⟨_, Tryz.func53, rfl, rfl⟩
theorem fn54 : FnOk Tryz.prog 54 := ⟨_, Tryz.func54, rfl, rfl⟩
theorem fn55 : FnOk Tryz.prog 55 := ⟨_, Tryz.func55, rfl, rfl⟩
theorem fn56 : FnOk Tryz.prog 56 := ⟨_, Tryz.func56, rfl, rfl⟩
theorem fn57 : FnOk Tryz.prog 57 := ⟨_, Tryz.func57, rfl, rfl⟩
theorem fn58 : FnOk Tryz.prog 58 := ⟨_, Tryz.func58, rfl, rfl⟩
theorem fn59 : FnOk Tryz.prog 59 := ⟨_, Tryz.func59, rfl, rfl⟩
theorem fn60 : FnOk Tryz.prog 60 := ⟨_, Tryz.func60, rfl, rfl⟩
theorem fn61 : FnOk Tryz.prog 61 := ⟨_, Tryz.func61, rfl, rfl⟩
theorem fn62 : FnOk Tryz.prog 62 := ⟨_, Tryz.func62, rfl, rfl⟩
theorem fn63 : FnOk Tryz.prog 63 := ⟨_, Tryz.func63, rfl, rfl⟩
theorem fn64 : FnOk Tryz.prog 64 := ⟨_, Tryz.func64, rfl, rfl⟩
theorem fn65 : FnOk Tryz.prog 65 := ⟨_, Tryz.func65, rfl, rfl⟩
theorem fn66 : FnOk Tryz.prog 66 := ⟨_, Tryz.func66, rfl, rfl⟩
theorem fn67 : FnOk Tryz.prog 67 := ⟨_, Tryz.func67, rfl, rfl⟩
theorem fn68 : FnOk Tryz.prog 68 := ⟨_, Tryz.func68, rfl, rfl⟩
theorem fn69 : FnOk Tryz.prog 69 := ⟨_, Tryz.func69, rfl, rfl⟩
theorem fn70 : FnOk Tryz.prog 70 := ⟨_, Tryz.func70, rfl, rfl⟩
theorem fn71 : FnOk Tryz.prog 71 := ⟨_, Tryz.func71, rfl, rfl⟩
theorem fn72 : FnOk Tryz.prog 72 := ⟨_, Tryz.func72, rfl, rfl⟩
theorem fn73 : FnOk Tryz.prog 73 := ⟨_, Tryz.func73, rfl, rfl⟩
theorem fn74 : FnOk Tryz.prog 74 := ⟨_, Tryz.func74, rfl, rfl⟩
theorem fn75 : FnOk Tryz.prog 75 := ⟨_, Tryz.func75, rfl, rfl⟩
theorem fn76 : FnOk Tryz.prog 76 := ⟨_, Tryz.func76, rfl, rfl⟩
theorem fn77 : FnOk Tryz.prog 77 := ⟨_, Tryz.func77, rfl, rfl⟩
theorem fn78 : FnOk Tryz.prog 78 := ⟨_, Tryz.func78, rfl, rfl⟩
theorem fn79 : FnOk Tryz.prog 79 := ⟨_, Tryz.func79, rfl, rfl⟩
theorem fn80 : FnOk Tryz.prog 80 := ⟨_, Tryz.func80, rfl, rfl⟩
theorem fn81 : FnOk Tryz.prog 81 := ⟨_, Tryz.func81, rfl, rfl⟩
theorem fn82 : FnOk Tryz.prog 82 := ⟨_, Tryz.func82, rfl, rfl⟩
theorem fn83 : FnOk Tryz.prog 83 := ⟨_, Tryz.func83, rfl, rfl⟩
theorem fn84 : FnOk Tryz.prog 84 := ⟨_, Tryz.func84, rfl, rfl⟩
theorem fn85 : FnOk Tryz.prog 85 := ⟨_, Tryz.func85, rfl, rfl⟩
theorem fn86 : FnOk Tryz.prog 86 := ⟨_, Tryz.func86, rfl, rfl⟩
theorem fn87 : FnOk Tryz.prog 87 := ⟨_, Tryz.func87, rfl, rfl⟩
theorem fn88 : FnOk Tryz.prog 88 := ⟨_, Tryz.func88, rfl, rfl⟩
theorem fn89 : FnOk Tryz.prog 89 := ⟨_, Tryz.func89, rfl, rfl⟩
theorem fn90 : FnOk Tryz.prog 90 := ⟨_, Tryz.func90, rfl, rfl⟩
theorem fn91 : FnOk Tryz.prog 91 := ⟨_, Tryz.func91, rfl, rfl⟩
theorem fn92 : FnOk Tryz.prog 92 := ⟨_, Tryz.func92, rfl, rfl⟩
theorem fn93 : FnOk Tryz.prog 93 := ⟨_, Tryz.func93, rfl, rfl⟩
theorem fn94 : FnOk Tryz.prog 94 := ⟨_, Tryz.func94, rfl, rfl⟩
theorem fn95 : FnOk Tryz.prog 95 := ⟨_, Tryz.func95, rfl, rfl⟩
theorem fn96 : FnOk Tryz.prog 96 := ⟨_, Tryz.func96, rfl, rfl⟩
theorem fn97 : FnOk Tryz.prog 97 := ⟨_, Tryz.func97, rfl, rfl⟩
theorem fn98 : FnOk Tryz.prog 98 := ⟨_, Tryz.func98, rfl, rfl⟩
theorem fn99 : FnOk Tryz.prog 99 := ⟨_, Tryz.func99, rfl, rfl⟩
theorem fn100 : FnOk Tryz.prog 100 := ⟨_, Tryz.func100, rfl, rfl⟩
theorem fn101 : FnOk Tryz.prog 101 := ⟨_, Tryz.func101, rfl, rfl⟩
theorem fn102 : FnOk Tryz.prog 102 := ⟨_, Tryz.func102, rfl, rfl⟩
theorem fn103 : FnOk Tryz.prog 103 := ⟨_, Tryz.func103, rfl, rfl⟩
theorem fn104 : FnOk Tryz.prog 104 := ⟨_, Tryz.func104, rfl, rfl⟩
theorem fn105 : FnOk Tryz.prog 105 := ⟨_, Tryz.func105, rfl, rfl⟩
theorem fn106 : FnOk Tryz.prog 106 := ⟨_, Tryz.func106, rfl, rfl⟩
theorem fn107 : FnOk Tryz.prog 107 := ⟨_, Tryz.func107, rfl, rfl⟩
theorem fn108 : FnOk Tryz.prog 108 := ⟨_, Tryz.func108, rfl, rfl⟩
theorem fn109 : FnOk Tryz.prog 109 := ⟨_, Tryz.func109, rfl, rfl⟩
theorem fn110 : FnOk Tryz.prog 110 := ⟨_, Tryz.func110, rfl, rfl⟩
theorem fn111 : FnOk Tryz.prog 111 := ⟨_, Tryz.func111, rfl, rfl⟩
theorem fn112 : FnOk Tryz.prog 112 := ⟨_, Tryz.func112, rfl, rfl⟩
theorem fn113 : FnOk Tryz.prog 113 := ⟨_, Tryz.func113, rfl, rfl⟩
theorem fn114 : FnOk Tryz.prog 114 := ⟨_, Tryz.func114, rfl, rfl⟩
theorem fn115 : FnOk Tryz.prog 115 := ⟨_, Tryz.func115, rfl, rfl⟩
@[reducible] def tl2 : List (TypeId × TI) := []
@[reducible] def tl3 : List (TypeId × TI) := [(2, ti2), (3, ti3), (4, ti4), (24, ti24), (25, ti25), (26, ti26), (27, ti27), (28, ti28), (29, ti29), (31, ti31)]
theorem tk3 : TOk Tryz.prog tl3 := (.cons tok2 (.cons tok3 (.cons tok4 (.cons tok24 (.cons tok25 (.cons tok26 (.cons tok27 (.cons tok28 (.cons tok29 (.cons tok31 .nil))))))))))
@[reducible] def dt3 : DT := [(4, [(13, 14), (13, 15), (26, 27)])]
@[reducible] def tl4 : List (TypeId × TI) := [(2, ti2), (3, ti3), (24, ti24), (25, ti25), (26, ti26), (27, ti27), (28, ti28), (29, ti29), (31, ti31), (39, ti39), (41, ti41), (43, ti43), (45, ti45), (47, ti47), (61, ti61), (69, ti69)]
theorem tk4 : TOk Tryz.prog tl4 := (.cons tok2 (.cons tok3 (.cons tok24 (.cons tok25 (.cons tok26 (.cons tok27 (.cons tok28 (.cons tok29 (.cons tok31 (.cons tok39 (.cons tok41 (.cons tok43 (.cons tok45 (.cons tok47 (.cons tok61 (.cons tok69 .nil))))))))))))))))
@[reducible] def dt4 : DT := [(5, [])]
@[reducible] def tl5 : List (TypeId × TI) := [(2, ti2), (3, ti3), (4, ti4), (24, ti24), (25, ti25), (26, ti26), (27, ti27), (28, ti28), (29, ti29), (31, ti31), (38, ti38), (49, ti49), (50, ti50)]
theorem tk5 : TOk Tryz.prog tl5 := (.cons tok2 (.cons tok3 (.cons tok4 (.cons tok24 (.cons tok25 (.cons tok26 (.cons tok27 (.cons tok28 (.cons tok29 (.cons tok31 (.cons tok38 (.cons tok49 (.cons tok50 .nil)))))))))))))
@[reducible] def tl6 : List (TypeId × TI) := [(2, ti2), (3, ti3), (4, ti4), (22, ti22), (24, ti24), (25, ti25), (26, ti26), (27, ti27), (28, ti28), (29, ti29), (31, ti31), (52, ti52)]
theorem tk6 : TOk Tryz.prog tl6 := (.cons tok2 (.cons tok3 (.cons tok4 (.cons tok22 (.cons tok24 (.cons tok25 (.cons tok26 (.cons tok27 (.cons tok28 (.cons tok29 (.cons tok31 (.cons tok52 .nil))))))))))))
@[reducible] def dt6 : DT := [(3, [(1, 2)])]
@[reducible] def tl7 : List (TypeId × TI) := [(2, ti2), (3, ti3), (4, ti4), (22, ti22), (24, ti24), (25, ti25), (26, ti26), (27, ti27), (28, ti28), (29, ti29), (31, ti31), (41, ti41), (43, ti43), (45, ti45), (47, ti47), (61, ti61)]
theorem tk7 : TOk Tryz.prog tl7 := (.cons tok2 (.cons tok3 (.cons tok4 (.cons tok22 (.cons tok24 (.cons tok25 (.cons tok26 (.cons tok27 (.cons tok28 (.cons tok29 (.cons tok31 (.cons tok41 (.cons tok43 (.cons tok45 (.cons tok47 (.cons tok61 .nil))))))))))))))))
@[reducible] def tl8 : List (TypeId × TI) := [(2, ti2), (3, ti3), (4, ti4), (22, ti22), (24, ti24), (25, ti25), (26, ti26), (27, ti27), (28, ti28), (29, ti29), (31, ti31), (39, ti39), (41, ti41), (43, ti43), (45, ti45), (47, ti47), (61, ti61), (69, ti69)]
theorem tk8 : TOk Tryz.prog tl8 := (.cons tok2 (.cons tok3 (.cons tok4 (.cons tok22 (.cons tok24 (.cons tok25 (.cons tok26 (.cons tok27 (.cons tok28 (.cons tok29 (.cons tok31 (.cons tok39 (.cons tok41 (.cons tok43 (.cons tok45 (.cons tok47 (.cons tok61 (.cons tok69 .nil))))))))))))))))))
@[reducible] def dt8 : DT := [(6, []), (11, [(0, 10), (1, 10), (3, 10), (4, 10), (5, 10), (6, 10), (8, 10), (9, 10), (0, 11), (1, 11), (3, 11), (4, 11), (5, 11), (6, 11), (8, 11), (9, 11), (10, 11), (5, 12), (6, 12), (8, 12), (9, 12)]), (17, [(0, 10), (1, 10), (3, 10), (4, 10), (5, 10), (6, 10), (8, 10), (9, 10), (0, 11), (1, 11), (3, 11), (4, 11), (5, 11), (6, 11), (8, 11), (9, 11), (10, 11), (5, 12), (6, 12), (8, 12), (9, 12)]), (23, [(0, 10), (1, 10), (3, 10), (4, 10), (5, 10), (6, 10), (8, 10), (9, 10), (0, 11), (1, 11), (3, 11), (4, 11), (5, 11), (6, 11), (8, 11), (9, 11), (10, 11), (5, 12), (6, 12), (8, 12), (9, 12)]), (29, [(0, 10), (1, 10), (3, 10), (4, 10), (5, 10), (6, 10), (8, 10), (9, 10), (0, 11), (1, 11), (3, 11), (4, 11), (5, 11), (6, 11), (8, 11), (9, 11), (10, 11), (5, 12), (6, 12), (8, 12), (9, 12)])]
@[reducible] def tl9 : List (TypeId × TI) := [(2, ti2), (3, ti3), (22, ti22), (24, ti24), (25, ti25), (26, ti26), (27, ti27), (28, ti28), (29, ti29), (31, ti31), (39, ti39), (41, ti41), (43, ti43), (45, ti45), (47, ti47), (61, ti61), (69, ti69)]
theorem tk9 : TOk Tryz.prog tl9 := (.cons tok2 (.cons tok3 (.cons tok22 (.cons tok24 (.cons tok25 (.cons tok26 (.cons tok27 (.cons tok28 (.cons tok29 (.cons tok31 (.cons tok39 (.cons tok41 (.cons tok43 (.cons tok45 (.cons tok47 (.cons tok61 (.cons tok69 .nil)))))))))))))))))
@[reducible] def dt9 : DT := [(1, [(0, 8), (1, 8), (2, 8), (3, 8), (4, 8), (5, 8), (0, 10), (1, 10), (2, 10), (3, 10), (4, 10), (5, 10), (6, 10), (7, 10), (8, 10)]), (5, [(2, 3), (2, 4), (5, 6)])]
@[reducible] def tl10 : List (TypeId × TI) := [(2, ti2), (3, ti3), (4, ti4), (9, ti9), (22, ti22), (24, ti24), (25, ti25), (26, ti26), (27, ti27), (28, ti28), (29, ti29), (31, ti31), (39, ti39), (41, ti41), (43, ti43), (61, ti61), (69, ti69), (71, ti71), (73, ti73)]
theorem tk10 : TOk Tryz.prog tl10 := (.cons tok2 (.cons tok3 (.cons tok4 (.cons tok9 (.cons tok22 (.cons tok24 (.cons tok25 (.cons tok26 (.cons tok27 (.cons tok28 (.cons tok29 (.cons tok31 (.cons tok39 (.cons tok41 (.cons tok43 (.cons tok61 (.cons tok69 (.cons tok71 (.cons tok73 .nil)))))))))))))))))))
@[reducible] def tl11 : List (TypeId × TI) := [(2, ti2), (3, ti3), (22, ti22), (24, ti24), (25, ti25), (26, ti26), (27, ti27), (28, ti28), (29, ti29), (31, ti31), (49, ti49), (78, ti78)]
theorem tk11 : TOk Tryz.prog tl11 := (.cons tok2 (.cons tok3 (.cons tok22 (.cons tok24 (.cons tok25 (.cons tok26 (.cons tok27 (.cons tok28 (.cons tok29 (.cons tok31 (.cons tok49 (.cons tok78 .nil))))))))))))
@[reducible] def tl12 : List (TypeId × TI) := [(2, ti2), (3, ti3), (4, ti4), (22, ti22), (24, ti24), (25, ti25), (26, ti26), (27, ti27), (28, ti28), (29, ti29), (31, ti31), (49, ti49), (61, ti61), (80, ti80)]
theorem tk12 : TOk Tryz.prog tl12 := (.cons tok2 (.cons tok3 (.cons tok4 (.cons tok22 (.cons tok24 (.cons tok25 (.cons tok26 (.cons tok27 (.cons tok28 (.cons tok29 (.cons tok31 (.cons tok49 (.cons tok61 (.cons tok80 .nil))))))))))))))
@[reducible] def dt12 : DT := [(5, [])]
@[reducible] def tl13 : List (TypeId × TI) := [(2, ti2), (3, ti3), (4, ti4), (22, ti22), (24, ti24), (25, ti25), (26, ti26), (27, ti27), (28, ti28), (29, ti29), (31, ti31), (39, ti39), (41, ti41), (49, ti49), (69, ti69)]
theorem tk13 : TOk Tryz.prog tl13 := (.cons tok2 (.cons tok3 (.cons tok4 (.cons tok22 (.cons tok24 (.cons tok25 (.cons tok26 (.cons tok27 (.cons tok28 (.cons tok29 (.cons tok31 (.cons tok39 (.cons tok41 (.cons tok49 (.cons tok69 .nil)))))))))))))))
@[reducible] def dt13 : DT := [(4, [])]
@[reducible] def tl14 : List (TypeId × TI) := [(2, ti2), (3, ti3), (4, ti4), (22, ti22), (24, ti24), (25, ti25), (26, ti26), (27, ti27), (28, ti28), (29, ti29), (31, ti31), (39, ti39), (41, ti41), (49, ti49), (69, ti69), (84, ti84)]
theorem tk14 : TOk Tryz.prog tl14 := (.cons tok2 (.cons tok3 (.cons tok4 (.cons tok22 (.cons tok24 (.cons tok25 (.cons tok26 (.cons tok27 (.cons tok28 (.cons tok29 (.cons tok31 (.cons tok39 (.cons tok41 (.cons tok49 (.cons tok69 (.cons tok84 .nil))))))))))))))))
@[reducible] def dt14 : DT := [(5, [(0, 3), (0, 8), (1, 8), (2, 8), (3, 8), (4, 8)]), (6, [(3, 5), (4, 5), (3, 6), (4, 6), (3, 7), (4, 7), (3, 8), (4, 8)])]
@[reducible] def tl15 : List (TypeId × TI) := [(2, ti2), (3, ti3), (4, ti4), (22, ti22), (24, ti24), (25, ti25), (26, ti26), (27, ti27), (28, ti28), (29, ti29), (31, ti31), (39, ti39), (43, ti43), (49, ti49), (61, ti61), (69, ti69)]
theorem tk15 : TOk Tryz.prog tl15 := (.cons tok2 (.cons tok3 (.cons tok4 (.cons tok22 (.cons tok24 (.cons tok25 (.cons tok26 (.cons tok27 (.cons tok28 (.cons tok29 (.cons tok31 (.cons tok39 (.cons tok43 (.cons tok49 (.cons tok61 (.cons tok69 .nil))))))))))))))))
@[reducible] def dt15 : DT := [(5, [])]
@[reducible] def tl16 : List (TypeId × TI) := [(2, ti2), (3, ti3), (4, ti4), (22, ti22), (24, ti24), (25, ti25), (26, ti26), (27, ti27), (28, ti28), (29, ti29), (31, ti31), (39, ti39), (45, ti45), (49, ti49), (61, ti61), (69, ti69), (120, ti120)]
theorem tk16 : TOk Tryz.prog tl16 := (.cons tok2 (.cons tok3 (.cons tok4 (.cons tok22 (.cons tok24 (.cons tok25 (.cons tok26 (.cons tok27 (.cons tok28 (.cons tok29 (.cons tok31 (.cons tok39 (.cons tok45 (.cons tok49 (.cons tok61 (.cons tok69 (.cons tok120 .nil)))))))))))))))))
@[reducible] def dt16 : DT := [(7, [(13, 14), (13, 15), (13, 16), (13, 19), (13, 20), (13, 21), (13, 22), (13, 23)])]
@[reducible] def tl17 : List (TypeId × TI) := [(2, ti2), (3, ti3), (4, ti4), (22, ti22), (24, ti24), (25, ti25), (26, ti26), (27, ti27), (28, ti28), (29, ti29), (31, ti31), (39, ti39), (47, ti47), (49, ti49), (69, ti69)]
theorem tk17 : TOk Tryz.prog tl17 := (.cons tok2 (.cons tok3 (.cons tok4 (.cons tok22 (.cons tok24 (.cons tok25 (.cons tok26 (.cons tok27 (.cons tok28 (.cons tok29 (.cons tok31 (.cons tok39 (.cons tok47 (.cons tok49 (.cons tok69 .nil)))))))))))))))
@[reducible] def dt17 : DT := [(6, [])]
@[reducible] def tl18 : List (TypeId × TI) := [(2, ti2), (3, ti3), (4, ti4), (24, ti24), (25, ti25), (26, ti26), (27, ti27), (28, ti28), (29, ti29), (31, ti31), (39, ti39), (41, ti41), (43, ti43), (45, ti45), (49, ti49), (69, ti69), (94, ti94)]
theorem tk18 : TOk Tryz.prog tl18 := (.cons tok2 (.cons tok3 (.cons tok4 (.cons tok24 (.cons tok25 (.cons tok26 (.cons tok27 (.cons tok28 (.cons tok29 (.cons tok31 (.cons tok39 (.cons tok41 (.cons tok43 (.cons tok45 (.cons tok49 (.cons tok69 (.cons tok94 .nil)))))))))))))))))
@[reducible] def tl19 : List (TypeId × TI) := [(2, ti2), (3, ti3), (4, ti4), (22, ti22), (24, ti24)]
theorem tk19 : TOk Tryz.prog tl19 := (.cons tok2 (.cons tok3 (.cons tok4 (.cons tok22 (.cons tok24 .nil)))))
@[reducible] def tl20 : List (TypeId × TI) := [(2, ti2), (3, ti3), (4, ti4), (22, ti22), (24, ti24), (25, ti25), (26, ti26), (27, ti27), (28, ti28), (29, ti29), (31, ti31), (61, ti61)]
theorem tk20 : TOk Tryz.prog tl20 := (.cons tok2 (.cons tok3 (.cons tok4 (.cons tok22 (.cons tok24 (.cons tok25 (.cons tok26 (.cons tok27 (.cons tok28 (.cons tok29 (.cons tok31 (.cons tok61 .nil))))))))))))
@[reducible] def dt20 : DT := [(5, []), (12, [])]
@[reducible] def tl21 : List (TypeId × TI) := [(2, ti2), (3, ti3), (4, ti4), (22, ti22), (24, ti24), (25, ti25), (26, ti26), (27, ti27), (28, ti28), (29, ti29), (31, ti31), (39, ti39), (41, ti41), (69, ti69)]
theorem tk21 : TOk Tryz.prog tl21 := (.cons tok2 (.cons tok3 (.cons tok4 (.cons tok22 (.cons tok24 (.cons tok25 (.cons tok26 (.cons tok27 (.cons tok28 (.cons tok29 (.cons tok31 (.cons tok39 (.cons tok41 (.cons tok69 .nil))))))))))))))
@[reducible] def dt21 : DT := [(5, [])]
@[reducible] def tl22 : List (TypeId × TI) := [(2, ti2), (3, ti3), (22, ti22), (24, ti24), (25, ti25), (26, ti26), (27, ti27), (28, ti28), (29, ti29), (31, ti31), (39, ti39), (41, ti41), (69, ti69)]
theorem tk22 : TOk Tryz.prog tl22 := (.cons tok2 (.cons tok3 (.cons tok22 (.cons tok24 (.cons tok25 (.cons tok26 (.cons tok27 (.cons tok28 (.cons tok29 (.cons tok31 (.cons tok39 (.cons tok41 (.cons tok69 .nil)))))))))))))
@[reducible] def dt22 : DT := [(9, [])]
@[reducible] def tl23 : List (TypeId × TI) := [(2, ti2), (3, ti3), (4, ti4), (22, ti22), (24, ti24), (25, ti25), (26, ti26), (27, ti27), (28, ti28), (29, ti29), (31, ti31), (39, ti39), (43, ti43), (61, ti61), (69, ti69)]
theorem tk23 : TOk Tryz.prog tl23 := (.cons tok2 (.cons tok3 (.cons tok4 (.cons tok22 (.cons tok24 (.cons tok25 (.cons tok26 (.cons tok27 (.cons tok28 (.cons tok29 (.cons tok31 (.cons tok39 (.cons tok43 (.cons tok61 (.cons tok69 .nil)))))))))))))))
@[reducible] def dt23 : DT := [(6, []), (8, [])]
@[reducible] def tl24 : List (TypeId × TI) := [(2, ti2), (3, ti3), (4, ti4), (22, ti22), (24, ti24), (25, ti25), (26, ti26), (27, ti27), (28, ti28), (29, ti29), (31, ti31), (39, ti39), (45, ti45), (61, ti61), (69, ti69)]
theorem tk24 : TOk Tryz.prog tl24 := (.cons tok2 (.cons tok3 (.cons tok4 (.cons tok22 (.cons tok24 (.cons tok25 (.cons tok26 (.cons tok27 (.cons tok28 (.cons tok29 (.cons tok31 (.cons tok39 (.cons tok45 (.cons tok61 (.cons tok69 .nil)))))))))))))))
@[reducible] def dt24 : DT := [(6, []), (8, [])]
@[reducible] def tl25 : List (TypeId × TI) := [(2, ti2), (3, ti3), (4, ti4), (22, ti22), (24, ti24), (25, ti25), (26, ti26), (27, ti27), (28, ti28), (29, ti29), (31, ti31), (39, ti39), (47, ti47), (69, ti69)]
theorem tk25 : TOk Tryz.prog tl25 := (.cons tok2 (.cons tok3 (.cons tok4 (.cons tok22 (.cons tok24 (.cons tok25 (.cons tok26 (.cons tok27 (.cons tok28 (.cons tok29 (.cons tok31 (.cons tok39 (.cons tok47 (.cons tok69 .nil))))))))))))))
@[reducible] def dt25 : DT := [(5, [])]
@[reducible] def tl26 : List (TypeId × TI) := [(2, ti2), (3, ti3), (4, ti4), (24, ti24), (25, ti25), (26, ti26), (27, ti27), (28, ti28), (29, ti29), (31, ti31), (39, ti39), (41, ti41), (43, ti43), (45, ti45), (69, ti69)]
theorem tk26 : TOk Tryz.prog tl26 := (.cons tok2 (.cons tok3 (.cons tok4 (.cons tok24 (.cons tok25 (.cons tok26 (.cons tok27 (.cons tok28 (.cons tok29 (.cons tok31 (.cons tok39 (.cons tok41 (.cons tok43 (.cons tok45 (.cons tok69 .nil)))))))))))))))
@[reducible] def dt26 : DT := [(8, []), (13, [])]
@[reducible] def tl27 : List (TypeId × TI) := [(2, ti2), (39, ti39), (41, ti41), (69, ti69)]
theorem tk27 : TOk Tryz.prog tl27 := (.cons tok2 (.cons tok39 (.cons tok41 (.cons tok69 .nil))))
@[reducible] def tl28 : List (TypeId × TI) := []
theorem tk28 : TOk Tryz.prog tl28 := .nil
@[reducible] def tl29 : List (TypeId × TI) := [(2, ti2), (39, ti39), (43, ti43), (69, ti69)]
theorem tk29 : TOk Tryz.prog tl29 := (.cons tok2 (.cons tok39 (.cons tok43 (.cons tok69 .nil))))
@[reducible] def tl30 : List (TypeId × TI) := [(2, ti2), (39, ti39), (45, ti45), (69, ti69)]
theorem tk30 : TOk Tryz.prog tl30 := (.cons tok2 (.cons tok39 (.cons tok45 (.cons tok69 .nil))))
@[reducible] def tl31 : List (TypeId × TI) := [(2, ti2), (3, ti3), (39, ti39), (47, ti47)]
theorem tk31 : TOk Tryz.prog tl31 := (.cons tok2 (.cons tok3 (.cons tok39 (.cons tok47 .nil))))
@[reducible] def tl32 : List (TypeId × TI) := [(2, ti2), (3, ti3), (39, ti39), (47, ti47), (69, ti69), (120, ti120)]
theorem tk32 : TOk Tryz.prog tl32 := (.cons tok2 (.cons tok3 (.cons tok39 (.cons tok47 (.cons tok69 (.cons tok120 .nil))))))
@[reducible] def dt32 : DT := [(1, [(4, 5), (4, 6), (4, 7), (4, 8), (4, 10), (9, 10), (4, 11), (9, 11), (4, 12), (9, 12), (4, 13), (9, 13), (4, 15), (9, 15), (14, 15), (4, 16), (9, 16), (14, 16), (4, 17), (9, 17), (14, 17), (4, 18), (9, 18), (14, 18)])]
@[reducible] def tl33 : List (TypeId × TI) := [(2, ti2), (3, ti3), (4, ti4), (25, ti25), (61, ti61)]
theorem tk33 : TOk Tryz.prog tl33 := (.cons tok2 (.cons tok3 (.cons tok4 (.cons tok25 (.cons tok61 .nil)))))
@[reducible] def dt33 : DT := [(6, [])]
@[reducible] def tl34 : List (TypeId × TI) := [(2, ti2), (3, ti3), (4, ti4), (26, ti26), (39, ti39), (41, ti41)]
theorem tk34 : TOk Tryz.prog tl34 := (.cons tok2 (.cons tok3 (.cons tok4 (.cons tok26 (.cons tok39 (.cons tok41 .nil))))))
@[reducible] def tl35 : List (TypeId × TI) := [(2, ti2), (3, ti3), (4, ti4), (27, ti27), (39, ti39), (43, ti43)]
theorem tk35 : TOk Tryz.prog tl35 := (.cons tok2 (.cons tok3 (.cons tok4 (.cons tok27 (.cons tok39 (.cons tok43 .nil))))))
@[reducible] def tl36 : List (TypeId × TI) := [(2, ti2), (3, ti3), (4, ti4), (28, ti28), (39, ti39), (45, ti45)]
theorem tk36 : TOk Tryz.prog tl36 := (.cons tok2 (.cons tok3 (.cons tok4 (.cons tok28 (.cons tok39 (.cons tok45 .nil))))))
@[reducible] def tl37 : List (TypeId × TI) := [(2, ti2), (3, ti3), (4, ti4), (29, ti29), (39, ti39), (47, ti47)]
theorem tk37 : TOk Tryz.prog tl37 := (.cons tok2 (.cons tok3 (.cons tok4 (.cons tok29 (.cons tok39 (.cons tok47 .nil))))))
@[reducible] def tl38 : List (TypeId × TI) := [(2, ti2), (3, ti3), (39, ti39), (69, ti69)]
theorem tk38 : TOk Tryz.prog tl38 := (.cons tok2 (.cons tok3 (.cons tok39 (.cons tok69 .nil))))
@[reducible] def dt38 : DT := [(6, [])]
@[reducible] def tl39 : List (TypeId × TI) := [(25, ti25), (61, ti61)]
theorem tk39 : TOk Tryz.prog tl39 := (.cons tok25 (.cons tok61 .nil))
@[reducible] def tl40 : List (TypeId × TI) := [(39, ti39), (69, ti69)]
theorem tk40 : TOk Tryz.prog tl40 := (.cons tok39 (.cons tok69 .nil))
@[reducible] def tl41 : List (TypeId × TI) := [(2, ti2), (3, ti3), (4, ti4), (24, ti24), (25, ti25), (26, ti26), (27, ti27), (28, ti28), (29, ti29), (31, ti31), (61, ti61), (71, ti71), (73, ti73)]
theorem tk41 : TOk Tryz.prog tl41 := (.cons tok2 (.cons tok3 (.cons tok4 (.cons tok24 (.cons tok25 (.cons tok26 (.cons tok27 (.cons tok28 (.cons tok29 (.cons tok31 (.cons tok61 (.cons tok71 (.cons tok73 .nil)))))))))))))
@[reducible] def dt41 : DT := [(4, [(2, 3), (2, 5), (4, 5), (2, 6), (4, 6), (2, 8), (4, 8), (2, 9), (4, 9), (2, 10), (4, 10)])]
@[reducible] def tl42 : List (TypeId × TI) := [(2, ti2), (4, ti4), (9, ti9), (71, ti71), (73, ti73)]
theorem tk42 : TOk Tryz.prog tl42 := (.cons tok2 (.cons tok4 (.cons tok9 (.cons tok71 (.cons tok73 .nil)))))
@[reducible] def dt42 : DT := [(3, [(2, 4), (2, 5)])]
@[reducible] def tl43 : List (TypeId × TI) := [(2, ti2), (24, ti24), (25, ti25), (26, ti26), (27, ti27), (28, ti28), (29, ti29), (31, ti31), (43, ti43)]
theorem tk43 : TOk Tryz.prog tl43 := (.cons tok2 (.cons tok24 (.cons tok25 (.cons tok26 (.cons tok27 (.cons tok28 (.cons tok29 (.cons tok31 (.cons tok43 .nil)))))))))
@[reducible] def tl44 : List (TypeId × TI) := [(2, ti2), (24, ti24), (25, ti25), (26, ti26), (27, ti27), (28, ti28), (29, ti29), (31, ti31), (41, ti41)]
theorem tk44 : TOk Tryz.prog tl44 := (.cons tok2 (.cons tok24 (.cons tok25 (.cons tok26 (.cons tok27 (.cons tok28 (.cons tok29 (.cons tok31 (.cons tok41 .nil)))))))))
@[reducible] def tl45 : List (TypeId × TI) := [(2, ti2), (3, ti3), (4, ti4), (22, ti22), (24, ti24)]
theorem tk45 : TOk Tryz.prog tl45 := (.cons tok2 (.cons tok3 (.cons tok4 (.cons tok22 (.cons tok24 .nil)))))
@[reducible] def tl46 : List (TypeId × TI) := [(2, ti2)]
theorem tk46 : TOk Tryz.prog tl46 := (.cons tok2 .nil)
@[reducible] def tl47 : List (TypeId × TI) := [(2, ti2), (3, ti3), (4, ti4), (39, ti39), (69, ti69)]
theorem tk47 : TOk Tryz.prog tl47 := (.cons tok2 (.cons tok3 (.cons tok4 (.cons tok39 (.cons tok69 .nil)))))
@[reducible] def dt47 : DT := [(4, [(24, 25)])]
@[reducible] def tl48 : List (TypeId × TI) := [(2, ti2), (3, ti3), (4, ti4), (84, ti84)]
theorem tk48 : TOk Tryz.prog tl48 := (.cons tok2 (.cons tok3 (.cons tok4 (.cons tok84 .nil))))
@[reducible] def dt48 : DT := [(6, [])]
@[reducible] def tl49 : List (TypeId × TI) := [(2, ti2), (3, ti3), (4, ti4), (39, ti39), (69, ti69), (84, ti84)]
theorem tk49 : TOk Tryz.prog tl49 := (.cons tok2 (.cons tok3 (.cons tok4 (.cons tok39 (.cons tok69 (.cons tok84 .nil))))))
@[reducible] def dt49 : DT := [(7, [])]
@[reducible] def tl50 : List (TypeId × TI) := [(2, ti2), (3, ti3), (89, ti89)]
theorem tk50 : TOk Tryz.prog tl50 := (.cons tok2 (.cons tok3 (.cons tok89 .nil)))
@[reducible] def tl51 : List (TypeId × TI) := [(2, ti2), (3, ti3), (4, ti4), (24, ti24), (25, ti25), (26, ti26), (27, ti27), (28, ti28), (29, ti29), (31, ti31), (39, ti39), (49, ti49), (61, ti61), (69, ti69), (120, ti120)]
theorem tk51 : TOk Tryz.prog tl51 := (.cons tok2 (.cons tok3 (.cons tok4 (.cons tok24 (.cons tok25 (.cons tok26 (.cons tok27 (.cons tok28 (.cons tok29 (.cons tok31 (.cons tok39 (.cons tok49 (.cons tok61 (.cons tok69 (.cons tok120 .nil)))))))))))))))
@[reducible] def dt51 : DT := [(5, [(0, 4), (0, 5), (4, 8), (5, 8), (6, 10), (8, 10)])]
@[reducible] def tl52 : List (TypeId × TI) := [(3, ti3), (120, ti120)]
theorem tk52 : TOk Tryz.prog tl52 := (.cons tok3 (.cons tok120 .nil))
@[reducible] def tl53 : List (TypeId × TI) := [(2, ti2)]
theorem tk53 : TOk Tryz.prog tl53 := (.cons tok2 .nil)
@[reducible] def tl54 : List (TypeId × TI) := [(2, ti2), (24, ti24), (25, ti25), (26, ti26), (27, ti27), (28, ti28), (29, ti29), (31, ti31), (61, ti61)]
theorem tk54 : TOk Tryz.prog tl54 := (.cons tok2 (.cons tok24 (.cons tok25 (.cons tok26 (.cons tok27 (.cons tok28 (.cons tok29 (.cons tok31 (.cons tok61 .nil)))))))))
@[reducible] def tl55 : List (TypeId × TI) := [(2, ti2), (4, ti4), (39, ti39), (94, ti94)]
theorem tk55 : TOk Tryz.prog tl55 := (.cons tok2 (.cons tok4 (.cons tok39 (.cons tok94 .nil))))
@[reducible] def tl56 : List (TypeId × TI) := [(2, ti2), (3, ti3), (4, ti4), (39, ti39), (69, ti69)]
theorem tk56 : TOk Tryz.prog tl56 := (.cons tok2 (.cons tok3 (.cons tok4 (.cons tok39 (.cons tok69 .nil)))))
@[reducible] def dt56 : DT := [(5, [(11, 13), (11, 14)]), (6, [(2, 7), (3, 7), (4, 7), (5, 7)]), (7, [(7, 9), (7, 10)]), (8, [(2, 7), (3, 7), (4, 7), (5, 7)]), (10, []), (14, [(1, 5), (2, 5), (3, 5), (1, 7), (2, 7), (3, 7), (5, 7)])]
@[reducible] def tl57 : List (TypeId × TI) := [(3, ti3)]
theorem tk57 : TOk Tryz.prog tl57 := (.cons tok3 .nil)
@[reducible] def tl58 : List (TypeId × TI) := [(2, ti2), (4, ti4), (39, ti39), (41, ti41), (69, ti69), (94, ti94)]
theorem tk58 : TOk Tryz.prog tl58 := (.cons tok2 (.cons tok4 (.cons tok39 (.cons tok41 (.cons tok69 (.cons tok94 .nil))))))
@[reducible] def tl59 : List (TypeId × TI) := [(2, ti2)]
theorem tk59 : TOk Tryz.prog tl59 := (.cons tok2 .nil)
@[reducible] def tl60 : List (TypeId × TI) := [(2, ti2)]
theorem tk60 : TOk Tryz.prog tl60 := (.cons tok2 .nil)
@[reducible] def tl61 : List (TypeId × TI) := [(2, ti2), (3, ti3), (4, ti4), (39, ti39), (69, ti69)]
theorem tk61 : TOk Tryz.prog tl61 := (.cons tok2 (.cons tok3 (.cons tok4 (.cons tok39 (.cons tok69 .nil)))))
@[reducible] def dt61 : DT := [(4, [(32, 35), (32, 36)])]
@[reducible] def tl62 : List (TypeId × TI) := [(2, ti2), (3, ti3), (4, ti4), (22, ti22), (39, ti39), (69, ti69)]
theorem tk62 : TOk Tryz.prog tl62 := (.cons tok2 (.cons tok3 (.cons tok4 (.cons tok22 (.cons tok39 (.cons tok69 .nil))))))
@[reducible] def dt62 : DT := [(7, [])]
@[reducible] def tl63 : List (TypeId × TI) := [(2, ti2), (3, ti3), (4, ti4), (24, ti24), (25, ti25), (26, ti26), (27, ti27), (28, ti28), (29, ti29), (31, ti31), (61, ti61)]
theorem tk63 : TOk Tryz.prog tl63 := (.cons tok2 (.cons tok3 (.cons tok4 (.cons tok24 (.cons tok25 (.cons tok26 (.cons tok27 (.cons tok28 (.cons tok29 (.cons tok31 (.cons tok61 .nil)))))))))))
@[reducible] def tl64 : List (TypeId × TI) := [(2, ti2), (3, ti3), (24, ti24), (25, ti25), (26, ti26), (27, ti27), (28, ti28), (29, ti29), (31, ti31), (39, ti39), (41, ti41)]
theorem tk64 : TOk Tryz.prog tl64 := (.cons tok2 (.cons tok3 (.cons tok24 (.cons tok25 (.cons tok26 (.cons tok27 (.cons tok28 (.cons tok29 (.cons tok31 (.cons tok39 (.cons tok41 .nil)))))))))))
@[reducible] def tl65 : List (TypeId × TI) := [(2, ti2), (3, ti3), (39, ti39), (69, ti69)]
theorem tk65 : TOk Tryz.prog tl65 := (.cons tok2 (.cons tok3 (.cons tok39 (.cons tok69 .nil))))
@[reducible] def tl66 : List (TypeId × TI) := [(2, ti2), (3, ti3), (39, ti39), (47, ti47), (69, ti69)]
theorem tk66 : TOk Tryz.prog tl66 := (.cons tok2 (.cons tok3 (.cons tok39 (.cons tok47 (.cons tok69 .nil)))))
@[reducible] def tl67 : List (TypeId × TI) := [(4, ti4), (39, ti39), (69, ti69)]
theorem tk67 : TOk Tryz.prog tl67 := (.cons tok4 (.cons tok39 (.cons tok69 .nil)))
@[reducible] def tl68 : List (TypeId × TI) := [(2, ti2), (3, ti3), (39, ti39), (69, ti69)]
theorem tk68 : TOk Tryz.prog tl68 := (.cons tok2 (.cons tok3 (.cons tok39 (.cons tok69 .nil))))
@[reducible] def dt68 : DT := [(6, [])]
@[reducible] def tl69 : List (TypeId × TI) := []
theorem tk69 : TOk Tryz.prog tl69 := .nil
@[reducible] def tl70 : List (TypeId × TI) := [(2, ti2), (3, ti3), (4, ti4), (25, ti25), (61, ti61)]
theorem tk70 : TOk Tryz.prog tl70 := (.cons tok2 (.cons tok3 (.cons tok4 (.cons tok25 (.cons tok61 .nil)))))
@[reducible] def tl71 : List (TypeId × TI) := [(2, ti2), (3, ti3), (4, ti4), (61, ti61)]
theorem tk71 : TOk Tryz.prog tl71 := (.cons tok2 (.cons tok3 (.cons tok4 (.cons tok61 .nil))))
@[reducible] def tl72 : List (TypeId × TI) := [(2, ti2), (71, ti71), (73, ti73), (84, ti84)]
theorem tk72 : TOk Tryz.prog tl72 := (.cons tok2 (.cons tok71 (.cons tok73 (.cons tok84 .nil))))
@[reducible] def tl73 : List (TypeId × TI) := [(2, ti2), (3, ti3), (24, ti24), (25, ti25), (26, ti26), (27, ti27), (28, ti28), (29, ti29), (31, ti31), (84, ti84)]
theorem tk73 : TOk Tryz.prog tl73 := (.cons tok2 (.cons tok3 (.cons tok24 (.cons tok25 (.cons tok26 (.cons tok27 (.cons tok28 (.cons tok29 (.cons tok31 (.cons tok84 .nil))))))))))
@[reducible] def tl74 : List (TypeId × TI) := [(2, ti2), (3, ti3), (24, ti24), (25, ti25), (26, ti26), (27, ti27), (28, ti28), (29, ti29), (31, ti31), (39, ti39), (41, ti41), (69, ti69), (84, ti84)]
theorem tk74 : TOk Tryz.prog tl74 := (.cons tok2 (.cons tok3 (.cons tok24 (.cons tok25 (.cons tok26 (.cons tok27 (.cons tok28 (.cons tok29 (.cons tok31 (.cons tok39 (.cons tok41 (.cons tok69 (.cons tok84 .nil)))))))))))))
@[reducible] def dt74 : DT := [(5, [(0, 3)])]
@[reducible] def tl75 : List (TypeId × TI) := [(2, ti2), (71, ti71), (73, ti73)]
theorem tk75 : TOk Tryz.prog tl75 := (.cons tok2 (.cons tok71 (.cons tok73 .nil)))
@[reducible] def tl76 : List (TypeId × TI) := [(2, ti2), (4, ti4), (9, ti9), (71, ti71)]
theorem tk76 : TOk Tryz.prog tl76 := (.cons tok2 (.cons tok4 (.cons tok9 (.cons tok71 .nil))))
@[reducible] def dt76 : DT := [(3, [(2, 4), (2, 5)])]
@[reducible] def tl77 : List (TypeId × TI) := [(2, ti2), (5, ti5), (9, ti9), (130, ti130)]
theorem tk77 : TOk Tryz.prog tl77 := (.cons tok2 (.cons tok5 (.cons tok9 (.cons tok130 .nil))))
@[reducible] def tl78 : List (TypeId × TI) := [(2, ti2), (3, ti3), (27, ti27), (39, ti39), (43, ti43)]
theorem tk78 : TOk Tryz.prog tl78 := (.cons tok2 (.cons tok3 (.cons tok27 (.cons tok39 (.cons tok43 .nil)))))
@[reducible] def tl79 : List (TypeId × TI) := [(2, ti2), (39, ti39), (43, ti43)]
theorem tk79 : TOk Tryz.prog tl79 := (.cons tok2 (.cons tok39 (.cons tok43 .nil)))
@[reducible] def tl80 : List (TypeId × TI) := [(2, ti2), (3, ti3), (26, ti26), (39, ti39), (41, ti41)]
theorem tk80 : TOk Tryz.prog tl80 := (.cons tok2 (.cons tok3 (.cons tok26 (.cons tok39 (.cons tok41 .nil)))))
@[reducible] def tl81 : List (TypeId × TI) := [(2, ti2), (39, ti39), (41, ti41)]
theorem tk81 : TOk Tryz.prog tl81 := (.cons tok2 (.cons tok39 (.cons tok41 .nil)))
@[reducible] def tl82 : List (TypeId × TI) := [(2, ti2)]
theorem tk82 : TOk Tryz.prog tl82 := (.cons tok2 .nil)
@[reducible] def tl83 : List (TypeId × TI) := [(3, ti3), (116, ti116)]
theorem tk83 : TOk Tryz.prog tl83 := (.cons tok3 (.cons tok116 .nil))
@[reducible] def tl84 : List (TypeId × TI) := [(2, ti2), (3, ti3), (69, ti69), (116, ti116)]
theorem tk84 : TOk Tryz.prog tl84 := (.cons tok2 (.cons tok3 (.cons tok69 (.cons tok116 .nil))))
@[reducible] def tl85 : List (TypeId × TI) := [(2, ti2)]
theorem tk85 : TOk Tryz.prog tl85 := (.cons tok2 .nil)
@[reducible] def tl86 : List (TypeId × TI) := [(3, ti3), (116, ti116)]
theorem tk86 : TOk Tryz.prog tl86 := (.cons tok3 (.cons tok116 .nil))
@[reducible] def tl87 : List (TypeId × TI) := [(2, ti2), (3, ti3), (84, ti84)]
theorem tk87 : TOk Tryz.prog tl87 := (.cons tok2 (.cons tok3 (.cons tok84 .nil)))
@[reducible] def tl88 : List (TypeId × TI) := [(2, ti2), (3, ti3), (39, ti39), (69, ti69)]
theorem tk88 : TOk Tryz.prog tl88 := (.cons tok2 (.cons tok3 (.cons tok39 (.cons tok69 .nil))))
@[reducible] def tl89 : List (TypeId × TI) := [(2, ti2)]
theorem tk89 : TOk Tryz.prog tl89 := (.cons tok2 .nil)
@[reducible] def tl90 : List (TypeId × TI) := [(2, ti2), (3, ti3), (4, ti4), (61, ti61)]
theorem tk90 : TOk Tryz.prog tl90 := (.cons tok2 (.cons tok3 (.cons tok4 (.cons tok61 .nil))))
@[reducible] def tl91 : List (TypeId × TI) := [(2, ti2), (89, ti89)]
theorem tk91 : TOk Tryz.prog tl91 := (.cons tok2 (.cons tok89 .nil))
@[reducible] def tl92 : List (TypeId × TI) := [(3, ti3), (116, ti116)]
theorem tk92 : TOk Tryz.prog tl92 := (.cons tok3 (.cons tok116 .nil))
@[reducible] def tl93 : List (TypeId × TI) := [(2, ti2), (3, ti3), (69, ti69), (116, ti116)]
theorem tk93 : TOk Tryz.prog tl93 := (.cons tok2 (.cons tok3 (.cons tok69 (.cons tok116 .nil))))
@[reducible] def tl94 : List (TypeId × TI) := [(3, ti3), (116, ti116)]
theorem tk94 : TOk Tryz.prog tl94 := (.cons tok3 (.cons tok116 .nil))
@[reducible] def tl95 : List (TypeId × TI) := [(2, ti2), (3, ti3), (39, ti39), (69, ti69)]
theorem tk95 : TOk Tryz.prog tl95 := (.cons tok2 (.cons tok3 (.cons tok39 (.cons tok69 .nil))))
@[reducible] def dt95 : DT := [(4, []), (5, [])]
@[reducible] def tl96 : List (TypeId × TI) := [(2, ti2), (3, ti3), (4, ti4), (39, ti39), (69, ti69), (89, ti89), (116, ti116), (133, ti133)]
theorem tk96 : TOk Tryz.prog tl96 := (.cons tok2 (.cons tok3 (.cons tok4 (.cons tok39 (.cons tok69 (.cons tok89 (.cons tok116 (.cons tok133 .nil))))))))
@[reducible] def dt96 : DT := [(15, [(4, 7), (4, 8)])]
@[reducible] def tl97 : List (TypeId × TI) := [(2, ti2), (3, ti3), (39, ti39), (69, ti69)]
theorem tk97 : TOk Tryz.prog tl97 := (.cons tok2 (.cons tok3 (.cons tok39 (.cons tok69 .nil))))
@[reducible] def tl98 : List (TypeId × TI) := [(2, ti2), (3, ti3), (69, ti69), (120, ti120)]
theorem tk98 : TOk Tryz.prog tl98 := (.cons tok2 (.cons tok3 (.cons tok69 (.cons tok120 .nil))))
@[reducible] def dt98 : DT := [(1, [(4, 5), (4, 6), (4, 7), (4, 8), (4, 10), (9, 10), (4, 11), (9, 11), (4, 12), (9, 12), (4, 13), (9, 13)])]
@[reducible] def tl99 : List (TypeId × TI) := [(3, ti3)]
theorem tk99 : TOk Tryz.prog tl99 := (.cons tok3 .nil)
@[reducible] def tl100 : List (TypeId × TI) := [(2, ti2), (3, ti3), (4, ti4), (71, ti71), (84, ti84)]
theorem tk100 : TOk Tryz.prog tl100 := (.cons tok2 (.cons tok3 (.cons tok4 (.cons tok71 (.cons tok84 .nil)))))
@[reducible] def dt100 : DT := [(3, []), (7, [(1, 7), (2, 7), (4, 7), (5, 7)]), (11, [])]
@[reducible] def tl101 : List (TypeId × TI) := [(2, ti2), (3, ti3), (24, ti24), (25, ti25), (26, ti26), (27, ti27), (28, ti28), (29, ti29), (31, ti31), (39, ti39), (43, ti43), (45, ti45), (69, ti69), (84, ti84)]
theorem tk101 : TOk Tryz.prog tl101 := (.cons tok2 (.cons tok3 (.cons tok24 (.cons tok25 (.cons tok26 (.cons tok27 (.cons tok28 (.cons tok29 (.cons tok31 (.cons tok39 (.cons tok43 (.cons tok45 (.cons tok69 (.cons tok84 .nil))))))))))))))
@[reducible] def dt101 : DT := [(6, [(0, 3)]), (12, [(0, 3)])]
@[reducible] def tl102 : List (TypeId × TI) := [(2, ti2), (3, ti3), (4, ti4), (24, ti24), (25, ti25), (26, ti26), (27, ti27), (28, ti28), (29, ti29), (31, ti31), (61, ti61)]
theorem tk102 : TOk Tryz.prog tl102 := (.cons tok2 (.cons tok3 (.cons tok4 (.cons tok24 (.cons tok25 (.cons tok26 (.cons tok27 (.cons tok28 (.cons tok29 (.cons tok31 (.cons tok61 .nil)))))))))))
@[reducible] def dt102 : DT := [(2, [])]
@[reducible] def tl103 : List (TypeId × TI) := [(2, ti2), (71, ti71)]
theorem tk103 : TOk Tryz.prog tl103 := (.cons tok2 (.cons tok71 .nil))
@[reducible] def tl104 : List (TypeId × TI) := [(2, ti2), (3, ti3), (5, ti5), (9, ti9), (130, ti130), (139, ti139)]
theorem tk104 : TOk Tryz.prog tl104 := (.cons tok2 (.cons tok3 (.cons tok5 (.cons tok9 (.cons tok130 (.cons tok139 .nil))))))
@[reducible] def tl105 : List (TypeId × TI) := [(3, ti3)]
theorem tk105 : TOk Tryz.prog tl105 := (.cons tok3 .nil)
@[reducible] def tl106 : List (TypeId × TI) := [(2, ti2), (3, ti3), (89, ti89)]
theorem tk106 : TOk Tryz.prog tl106 := (.cons tok2 (.cons tok3 (.cons tok89 .nil)))
@[reducible] def tl107 : List (TypeId × TI) := [(2, ti2), (3, ti3), (69, ti69)]
theorem tk107 : TOk Tryz.prog tl107 := (.cons tok2 (.cons tok3 (.cons tok69 .nil)))
@[reducible] def tl108 : List (TypeId × TI) := [(3, ti3), (116, ti116), (133, ti133)]
theorem tk108 : TOk Tryz.prog tl108 := (.cons tok3 (.cons tok116 (.cons tok133 .nil)))
@[reducible] def tl109 : List (TypeId × TI) := [(2, ti2), (3, ti3), (89, ti89)]
theorem tk109 : TOk Tryz.prog tl109 := (.cons tok2 (.cons tok3 (.cons tok89 .nil)))
@[reducible] def tl110 : List (TypeId × TI) := [(2, ti2), (3, ti3), (39, ti39), (69, ti69), (116, ti116)]
theorem tk110 : TOk Tryz.prog tl110 := (.cons tok2 (.cons tok3 (.cons tok39 (.cons tok69 (.cons tok116 .nil)))))
@[reducible] def tl111 : List (TypeId × TI) := [(3, ti3)]
theorem tk111 : TOk Tryz.prog tl111 := (.cons tok3 .nil)
@[reducible] def tl112 : List (TypeId × TI) := [(2, ti2), (4, ti4), (71, ti71), (141, ti141)]
theorem tk112 : TOk Tryz.prog tl112 := (.cons tok2 (.cons tok4 (.cons tok71 (.cons tok141 .nil))))
@[reducible] def dt112 : DT := [(3, [(6, 7), (6, 8), (6, 10), (6, 11)])]
@[reducible] def tl113 : List (TypeId × TI) := [(3, ti3), (120, ti120)]
theorem tk113 : TOk Tryz.prog tl113 := (.cons tok3 (.cons tok120 .nil))
@[reducible] def tl114 : List (TypeId × TI) := [(141, ti141), (143, ti143)]
theorem tk114 : TOk Tryz.prog tl114 := (.cons tok141 (.cons tok143 .nil))
@[reducible] def tl115 : List (TypeId × TI) := [(141, ti141), (143, ti143)]
theorem tk115 : TOk Tryz.prog tl115 := (.cons tok141 (.cons tok143 .nil))
end Go.Proofs.YtddgcegimmcbgaaGreat.Sy

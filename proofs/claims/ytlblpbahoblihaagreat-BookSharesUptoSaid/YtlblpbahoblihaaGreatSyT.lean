/-
  The types of the seat's program: facts. Printed by gentypes2.py.
-/
import Derived.Test.YtlblpbahoblihaaGreatSyVa
import Derived.Test.YtlblpbahoblihaaGreatProg
import Derived.KernelRfl
set_option linter.unusedVariables false
set_option linter.unusedSimpArgs false
set_option linter.unusedSectionVars false
namespace Go.Proofs.YtlblpbahoblihaaGreat.Sy
open Go Go.Sy Go.Proofs.YtlblpbahoblihaaGreat
-- 0: Exception('tuple')
def ti2 : TI := { k := .int .i64, sz := 1, by_ := 8, zero := some [.i .i64 (.lit 0)], key := some (false, 1), zd := some (.i .i64 (.lit 0)) }
theorem tok2 : ti2.Ok Tryz.prog 2 := ⟨(by kernel_rfl), (by kernel_rfl), (by kernel_rfl), (fun z h c => by cases h; kernel_rfl), (fun z h => by cases h; kernel_rfl), (fun z h c => by cases h; kernel_rfl), (fun z h => by cases h)⟩
def ti3 : TI := { k := .int .i64, sz := 1, by_ := 8, zero := some [.i .i64 (.lit 0)], key := some (false, 1) }
theorem tok3 : ti3.Ok Tryz.prog 3 := ⟨(by kernel_rfl), (by kernel_rfl), (by kernel_rfl), (fun z h c => by cases h; kernel_rfl), (fun z h => by cases h; kernel_rfl), (fun z h => by cases h), (fun z h => by cases h)⟩
def ti4 : TI := { k := .bool, sz := 1, by_ := 1, zero := some [.b .f] }
theorem tok4 : ti4.Ok Tryz.prog 4 := ⟨(by kernel_rfl), (by kernel_rfl), (by kernel_rfl), (fun z h c => by cases h; kernel_rfl), (fun z h => by cases h), (fun z h => by cases h), (fun z h => by cases h)⟩
def ti5 : TI := { k := .int .u8, sz := 1, by_ := 1, zero := some [.i .u8 (.lit 0)] }
theorem tok5 : ti5.Ok Tryz.prog 5 := ⟨(by kernel_rfl), (by kernel_rfl), (by kernel_rfl), (fun z h c => by cases h; kernel_rfl), (fun z h => by cases h), (fun z h => by cases h), (fun z h => by cases h)⟩
def ti9 : TI := { k := .str, sz := 1, by_ := 16, zero := some [.v (.string ⟨#[]⟩)] }
theorem tok9 : ti9.Ok Tryz.prog 9 := ⟨(by kernel_rfl), (by kernel_rfl), (by kernel_rfl), (fun z h c => by cases h; kernel_rfl), (fun z h => by cases h), (fun z h => by cases h), (fun z h => by cases h)⟩
def ti22 : TI := { k := .arr 4 2, sz := 4, by_ := 32, zero := some [.i .i64 (.lit 0), .i .i64 (.lit 0), .i .i64 (.lit 0), .i .i64 (.lit 0)], flat := some [.int, .int, .int, .int] }
theorem tok22 : ti22.Ok Tryz.prog 22 := ⟨(by kernel_rfl), (by kernel_rfl), (by kernel_rfl), (fun z h c => by cases h; kernel_rfl), (fun z h => by cases h), (fun z h => by cases h), (fun z h => by cases h; kernel_rfl)⟩
def ti24 : TI := { k := .struct [(0, 2), (1, 2), (2, 2), (3, 2), (4, 3), (5, 22)], sz := 9, by_ := 72, zero := some [.i .i64 (.lit 0), .i .i64 (.lit 0), .i .i64 (.lit 0), .i .i64 (.lit 0), .i .i64 (.lit 0), .i .i64 (.lit 0), .i .i64 (.lit 0), .i .i64 (.lit 0), .i .i64 (.lit 0)], flat := some [.int, .int, .int, .int, .int, .int, .int, .int, .int] }
theorem tok24 : ti24.Ok Tryz.prog 24 := ⟨(by kernel_rfl), (by kernel_rfl), (by kernel_rfl), (fun z h c => by cases h; kernel_rfl), (fun z h => by cases h), (fun z h => by cases h), (fun z h => by cases h; kernel_rfl)⟩
def ti25 : TI := { k := .slice 69, sz := 1, by_ := 24, zero := some [.v (.slice none 0 0)] }
theorem tok25 : ti25.Ok Tryz.prog 25 := ⟨(by kernel_rfl), (by kernel_rfl), (by kernel_rfl), (fun z h c => by cases h; kernel_rfl), (fun z h => by cases h), (fun z h => by cases h), (fun z h => by cases h)⟩
def ti26 : TI := { k := .slice 57, sz := 1, by_ := 24, zero := some [.v (.slice none 0 0)] }
theorem tok26 : ti26.Ok Tryz.prog 26 := ⟨(by kernel_rfl), (by kernel_rfl), (by kernel_rfl), (fun z h c => by cases h; kernel_rfl), (fun z h => by cases h), (fun z h => by cases h), (fun z h => by cases h)⟩
def ti27 : TI := { k := .slice 59, sz := 1, by_ := 24, zero := some [.v (.slice none 0 0)] }
theorem tok27 : ti27.Ok Tryz.prog 27 := ⟨(by kernel_rfl), (by kernel_rfl), (by kernel_rfl), (fun z h c => by cases h; kernel_rfl), (fun z h => by cases h), (fun z h => by cases h), (fun z h => by cases h)⟩
def ti28 : TI := { k := .slice 61, sz := 1, by_ := 24, zero := some [.v (.slice none 0 0)] }
theorem tok28 : ti28.Ok Tryz.prog 28 := ⟨(by kernel_rfl), (by kernel_rfl), (by kernel_rfl), (fun z h c => by cases h; kernel_rfl), (fun z h => by cases h), (fun z h => by cases h), (fun z h => by cases h)⟩
def ti29 : TI := { k := .slice 63, sz := 1, by_ := 24, zero := some [.v (.slice none 0 0)] }
theorem tok29 : ti29.Ok Tryz.prog 29 := ⟨(by kernel_rfl), (by kernel_rfl), (by kernel_rfl), (fun z h c => by cases h; kernel_rfl), (fun z h => by cases h), (fun z h => by cases h), (fun z h => by cases h)⟩
def ti31 : TI := { k := .struct [(0, 24), (9, 2), (10, 2), (11, 25), (12, 26), (13, 27), (14, 28), (15, 29)], sz := 16, by_ := 208, zero := some [.i .i64 (.lit 0), .i .i64 (.lit 0), .i .i64 (.lit 0), .i .i64 (.lit 0), .i .i64 (.lit 0), .i .i64 (.lit 0), .i .i64 (.lit 0), .i .i64 (.lit 0), .i .i64 (.lit 0), .i .i64 (.lit 0), .i .i64 (.lit 0), .v (.slice none 0 0), .v (.slice none 0 0), .v (.slice none 0 0), .v (.slice none 0 0), .v (.slice none 0 0)] }
theorem tok31 : ti31.Ok Tryz.prog 31 := ⟨(by kernel_rfl), (by kernel_rfl), (by kernel_rfl), (fun z h c => by cases h; kernel_rfl), (fun z h => by cases h), (fun z h => by cases h), (fun z h => by cases h)⟩
def ti34 : TI := { k := .plain, sz := 1, by_ := 8, zero := some [.v .nilFunc] }
theorem tok34 : ti34.Ok Tryz.prog 34 := ⟨(by kernel_rfl), (by kernel_rfl), (by kernel_rfl), (fun z h c => by cases h; kernel_rfl), (fun z h => by cases h), (fun z h => by cases h), (fun z h => by cases h)⟩
def ti35 : TI := { k := .arr 4 2, sz := 4, by_ := 32, zero := some [.i .i64 (.lit 0), .i .i64 (.lit 0), .i .i64 (.lit 0), .i .i64 (.lit 0)], flat := some [.int, .int, .int, .int] }
theorem tok35 : ti35.Ok Tryz.prog 35 := ⟨(by kernel_rfl), (by kernel_rfl), (by kernel_rfl), (fun z h c => by cases h; kernel_rfl), (fun z h => by cases h), (fun z h => by cases h), (fun z h => by cases h; kernel_rfl)⟩
def ti42 : TI := { k := .slice 3, sz := 1, by_ := 24, zero := some [.v (.slice none 0 0)] }
theorem tok42 : ti42.Ok Tryz.prog 42 := ⟨(by kernel_rfl), (by kernel_rfl), (by kernel_rfl), (fun z h c => by cases h; kernel_rfl), (fun z h => by cases h), (fun z h => by cases h), (fun z h => by cases h)⟩
def ti46 : TI := { k := .struct [(0, 2), (1, 2)], sz := 2, by_ := 16, zero := some [.i .i64 (.lit 0), .i .i64 (.lit 0)], flat := some [.int, .int] }
theorem tok46 : ti46.Ok Tryz.prog 46 := ⟨(by kernel_rfl), (by kernel_rfl), (by kernel_rfl), (fun z h c => by cases h; kernel_rfl), (fun z h => by cases h), (fun z h => by cases h), (fun z h => by cases h; kernel_rfl)⟩
def ti48 : TI := { k := .struct [(0, 46), (2, 2)], sz := 3, by_ := 24, zero := some [.i .i64 (.lit 0), .i .i64 (.lit 0), .i .i64 (.lit 0)], flat := some [.int, .int, .int] }
theorem tok48 : ti48.Ok Tryz.prog 48 := ⟨(by kernel_rfl), (by kernel_rfl), (by kernel_rfl), (fun z h c => by cases h; kernel_rfl), (fun z h => by cases h), (fun z h => by cases h), (fun z h => by cases h; kernel_rfl)⟩
-- 49: Exception('tuple')
def ti55 : TI := { k := .slice 67, sz := 1, by_ := 24, zero := some [.v (.slice none 0 0)], zd := some (.v (.slice none 0 0)) }
theorem tok55 : ti55.Ok Tryz.prog 55 := ⟨(by kernel_rfl), (by kernel_rfl), (by kernel_rfl), (fun z h c => by cases h; kernel_rfl), (fun z h => by cases h), (fun z h c => by cases h; kernel_rfl), (fun z h => by cases h)⟩
def ti57 : TI := { k := .struct [(0, 2), (1, 55), (2, 55)], sz := 3, by_ := 56, zero := some [.i .i64 (.lit 0), .v (.slice none 0 0), .v (.slice none 0 0)] }
theorem tok57 : ti57.Ok Tryz.prog 57 := ⟨(by kernel_rfl), (by kernel_rfl), (by kernel_rfl), (fun z h c => by cases h; kernel_rfl), (fun z h => by cases h), (fun z h => by cases h), (fun z h => by cases h)⟩
def ti59 : TI := { k := .struct [(0, 2), (1, 2), (2, 2), (3, 55), (4, 2)], sz := 5, by_ := 56, zero := some [.i .i64 (.lit 0), .i .i64 (.lit 0), .i .i64 (.lit 0), .v (.slice none 0 0), .i .i64 (.lit 0)] }
theorem tok59 : ti59.Ok Tryz.prog 59 := ⟨(by kernel_rfl), (by kernel_rfl), (by kernel_rfl), (fun z h c => by cases h; kernel_rfl), (fun z h => by cases h), (fun z h => by cases h), (fun z h => by cases h)⟩
def ti61 : TI := { k := .struct [(0, 2), (1, 2), (2, 2), (3, 55)], sz := 4, by_ := 48, zero := some [.i .i64 (.lit 0), .i .i64 (.lit 0), .i .i64 (.lit 0), .v (.slice none 0 0)] }
theorem tok61 : ti61.Ok Tryz.prog 61 := ⟨(by kernel_rfl), (by kernel_rfl), (by kernel_rfl), (fun z h c => by cases h; kernel_rfl), (fun z h => by cases h), (fun z h => by cases h), (fun z h => by cases h)⟩
def ti63 : TI := { k := .struct [(0, 2), (1, 2), (2, 2), (3, 55)], sz := 4, by_ := 48, zero := some [.i .i64 (.lit 0), .i .i64 (.lit 0), .i .i64 (.lit 0), .v (.slice none 0 0)] }
theorem tok63 : ti63.Ok Tryz.prog 63 := ⟨(by kernel_rfl), (by kernel_rfl), (by kernel_rfl), (fun z h c => by cases h; kernel_rfl), (fun z h => by cases h), (fun z h => by cases h), (fun z h => by cases h)⟩
def ti65 : TI := { k := .slice 4, sz := 1, by_ := 24, zero := some [.v (.slice none 0 0)] }
theorem tok65 : ti65.Ok Tryz.prog 65 := ⟨(by kernel_rfl), (by kernel_rfl), (by kernel_rfl), (fun z h c => by cases h; kernel_rfl), (fun z h => by cases h), (fun z h => by cases h), (fun z h => by cases h)⟩
def ti67 : TI := { k := .struct [(0, 3), (1, 3), (2, 2)], sz := 3, by_ := 24, zero := some [.i .i64 (.lit 0), .i .i64 (.lit 0), .i .i64 (.lit 0)], flat := some [.int, .int, .int] }
theorem tok67 : ti67.Ok Tryz.prog 67 := ⟨(by kernel_rfl), (by kernel_rfl), (by kernel_rfl), (fun z h c => by cases h; kernel_rfl), (fun z h => by cases h), (fun z h => by cases h), (fun z h => by cases h; kernel_rfl)⟩
def ti69 : TI := { k := .struct [(0, 2), (1, 3), (2, 2), (3, 4), (4, 4), (5, 2), (6, 2)], sz := 7, by_ := 48, zero := some [.i .i64 (.lit 0), .i .i64 (.lit 0), .i .i64 (.lit 0), .b .f, .b .f, .i .i64 (.lit 0), .i .i64 (.lit 0)], flat := some [.int, .int, .int, .bool, .bool, .int, .int] }
theorem tok69 : ti69.Ok Tryz.prog 69 := ⟨(by kernel_rfl), (by kernel_rfl), (by kernel_rfl), (fun z h c => by cases h; kernel_rfl), (fun z h => by cases h), (fun z h => by cases h), (fun z h => by cases h; kernel_rfl)⟩
-- 70: Exception('tuple')
-- 73: Exception('tuple')
-- 79: Exception('tuple')
-- 86: Exception('tuple')
-- 92: Exception('tuple')
def ti96 : TI := { k := .struct [(0, 31)], sz := 16, by_ := 208, zero := some [.i .i64 (.lit 0), .i .i64 (.lit 0), .i .i64 (.lit 0), .i .i64 (.lit 0), .i .i64 (.lit 0), .i .i64 (.lit 0), .i .i64 (.lit 0), .i .i64 (.lit 0), .i .i64 (.lit 0), .i .i64 (.lit 0), .i .i64 (.lit 0), .v (.slice none 0 0), .v (.slice none 0 0), .v (.slice none 0 0), .v (.slice none 0 0), .v (.slice none 0 0)] }
theorem tok96 : ti96.Ok Tryz.prog 96 := ⟨(by kernel_rfl), (by kernel_rfl), (by kernel_rfl), (fun z h c => by cases h; kernel_rfl), (fun z h => by cases h), (fun z h => by cases h), (fun z h => by cases h)⟩
def ti97 : TI := { k := .arr 8 34, sz := 8, by_ := 64, zero := some [.v .nilFunc, .v .nilFunc, .v .nilFunc, .v .nilFunc, .v .nilFunc, .v .nilFunc, .v .nilFunc, .v .nilFunc] }
theorem tok97 : ti97.Ok Tryz.prog 97 := ⟨(by kernel_rfl), (by kernel_rfl), (by kernel_rfl), (fun z h c => by cases h; kernel_rfl), (fun z h => by cases h), (fun z h => by cases h), (fun z h => by cases h)⟩
def ti107 : TI := { k := .int .u64, sz := 1, by_ := 8, zero := some [.i .u64 (.lit 0)] }
def ti112 : TI := { k := .struct [(0, 3), (1, 3)], sz := 2, by_ := 16, zero := some [.i .i64 (.lit 0), .i .i64 (.lit 0)], flat := some [.int, .int] }
theorem tok112 : ti112.Ok Tryz.prog 112 := ⟨(by kernel_rfl), (by kernel_rfl), (by kernel_rfl), (fun z h c => by cases h; kernel_rfl), (fun z h => by cases h), (fun z h => by cases h), (fun z h => by cases h; kernel_rfl)⟩
def ti117 : TI := { k := .int .i64, sz := 1, by_ := 8, zero := some [.i .i64 (.lit 0)] }
theorem tok117 : ti117.Ok Tryz.prog 117 := ⟨(by kernel_rfl), (by kernel_rfl), (by kernel_rfl), (fun z h c => by cases h; kernel_rfl), (fun z h => by cases h), (fun z h => by cases h), (fun z h => by cases h)⟩
def ti119 : TI := { k := .map 3 2, sz := 1, by_ := 8, zero := some [.v (.map none)] }
theorem tok119 : ti119.Ok Tryz.prog 119 := ⟨(by kernel_rfl), (by kernel_rfl), (by kernel_rfl), (fun z h c => by cases h; kernel_rfl), (fun z h => by cases h), (fun z h => by cases h), (fun z h => by cases h)⟩
-- 120: Exception('tuple')
def ti122 : TI := { k := .slice 2, sz := 1, by_ := 24, zero := some [.v (.slice none 0 0)] }
theorem tok122 : ti122.Ok Tryz.prog 122 := ⟨(by kernel_rfl), (by kernel_rfl), (by kernel_rfl), (fun z h c => by cases h; kernel_rfl), (fun z h => by cases h), (fun z h => by cases h), (fun z h => by cases h)⟩
-- 123: Exception('tuple')
def ti128 : TI := { k := .map 2 55, sz := 1, by_ := 8, zero := some [.v (.map none)] }
theorem tok128 : ti128.Ok Tryz.prog 128 := ⟨(by kernel_rfl), (by kernel_rfl), (by kernel_rfl), (fun z h c => by cases h; kernel_rfl), (fun z h => by cases h), (fun z h => by cases h), (fun z h => by cases h)⟩
def ti132 : TI := { k := .slice 5, sz := 1, by_ := 24, zero := some [.v (.slice none 0 0)] }
theorem tok132 : ti132.Ok Tryz.prog 132 := ⟨(by kernel_rfl), (by kernel_rfl), (by kernel_rfl), (fun z h c => by cases h; kernel_rfl), (fun z h => by cases h), (fun z h => by cases h), (fun z h => by cases h)⟩
def ti134 : TI := { k := .int .i64, sz := 1, by_ := 8, zero := some [.i .i64 (.lit 0)] }
-- 135: Exception('tuple')
def ti142 : TI := { k := .int .u32, sz := 1, by_ := 4, zero := some [.i .u32 (.lit 0)] }
def ti144 : TI := { k := .int .u64, sz := 1, by_ := 8, zero := some [.i .u64 (.lit 0)] }
theorem tok144 : ti144.Ok Tryz.prog 144 := ⟨(by kernel_rfl), (by kernel_rfl), (by kernel_rfl), (fun z h c => by cases h; kernel_rfl), (fun z h => by cases h), (fun z h => by cases h), (fun z h => by cases h)⟩
def ti149 : TI := { k := .slice 112, sz := 1, by_ := 24, zero := some [.v (.slice none 0 0)] }
theorem tok149 : ti149.Ok Tryz.prog 149 := ⟨(by kernel_rfl), (by kernel_rfl), (by kernel_rfl), (fun z h c => by cases h; kernel_rfl), (fun z h => by cases h), (fun z h => by cases h), (fun z h => by cases h)⟩
def ti155 : TI := { k := .arr 20 5, sz := 20, by_ := 20, zero := some [.i .u8 (.lit 0), .i .u8 (.lit 0), .i .u8 (.lit 0), .i .u8 (.lit 0), .i .u8 (.lit 0), .i .u8 (.lit 0), .i .u8 (.lit 0), .i .u8 (.lit 0), .i .u8 (.lit 0), .i .u8 (.lit 0), .i .u8 (.lit 0), .i .u8 (.lit 0), .i .u8 (.lit 0), .i .u8 (.lit 0), .i .u8 (.lit 0), .i .u8 (.lit 0), .i .u8 (.lit 0), .i .u8 (.lit 0), .i .u8 (.lit 0), .i .u8 (.lit 0)], flat := some [.int, .int, .int, .int, .int, .int, .int, .int, .int, .int, .int, .int, .int, .int, .int, .int, .int, .int, .int, .int] }
theorem tok155 : ti155.Ok Tryz.prog 155 := ⟨(by kernel_rfl), (by kernel_rfl), (by kernel_rfl), (fun z h c => by cases h; kernel_rfl), (fun z h => by cases h), (fun z h => by cases h), (fun z h => by cases h; kernel_rfl)⟩
def ti156 : TI := { k := .int .u64, sz := 1, by_ := 8, zero := some [.i .u64 (.lit 0)] }
def ti164 : TI := { k := .struct [(0, 144), (1, 144)], sz := 2, by_ := 16, zero := some [.i .u64 (.lit 0), .i .u64 (.lit 0)], flat := some [.int, .int] }
theorem tok164 : ti164.Ok Tryz.prog 164 := ⟨(by kernel_rfl), (by kernel_rfl), (by kernel_rfl), (fun z h c => by cases h; kernel_rfl), (fun z h => by cases h), (fun z h => by cases h), (fun z h => by cases h; kernel_rfl)⟩
-- 172: Exception('tuple')
theorem mixed : Tryz.prog.follows .mixedOrders = true := by kernel_rfl
theorem fn4 : FnOk Tryz.prog 4 := ⟨_, Tryz.func4, rfl, rfl⟩
theorem fn5 : FnOk Tryz.prog 5 := ⟨_, Tryz.func5, rfl, rfl⟩
theorem fn6 : FnOk Tryz.prog 6 := ⟨_, Tryz.func6, rfl, rfl⟩
theorem fn7 : FnOk Tryz.prog 7 := ⟨_, Tryz.func7, rfl, rfl⟩
theorem fn8 : FnOk Tryz.prog 8 := ⟨_, Tryz.func8, rfl, rfl⟩
theorem fn9 : FnOk Tryz.prog 9 := ⟨_, Tryz.func9, rfl, rfl⟩
theorem fn10 : FnOk Tryz.prog 10 := ⟨_, Tryz.func10, rfl, rfl⟩
theorem fn11 : FnOk Tryz.prog 11 := ⟨_, Tryz.func11, rfl, rfl⟩
theorem fn12 : FnOk Tryz.prog 12 := ⟨_, Tryz.func12, rfl, rfl⟩
theorem fn13 : FnOk Tryz.prog 13 := ⟨_, Tryz.func13, rfl, rfl⟩
theorem fn14 : FnOk Tryz.prog 14 := ⟨_, Tryz.func14, rfl, rfl⟩
theorem fn15 : FnOk Tryz.prog 15 := ⟨_, Tryz.func15, rfl, rfl⟩
theorem fn16 : FnOk Tryz.prog 16 := ⟨_, Tryz.func16, rfl, rfl⟩
theorem fn17 : FnOk Tryz.prog 17 := ⟨_, Tryz.func17, rfl, rfl⟩
theorem fn18 : FnOk Tryz.prog 18 := ⟨_, Tryz.func18, rfl, rfl⟩
theorem fn19 : FnOk Tryz.prog 19 := ⟨_, Tryz.func19, rfl, rfl⟩
theorem fn20 : FnOk Tryz.prog 20 := ⟨_, Tryz.func20, rfl, rfl⟩
theorem fn21 : FnOk Tryz.prog 21 := ⟨_, Tryz.func21, rfl, rfl⟩
theorem fn22 : FnOk Tryz.prog 22 := ⟨_, Tryz.func22, rfl, rfl⟩
theorem fn23 : FnOk Tryz.prog 23 := ⟨_, Tryz.func23, rfl, rfl⟩
theorem fn24 : FnOk Tryz.prog 24 := ⟨_, Tryz.func24, rfl, rfl⟩
theorem fn25 : FnOk Tryz.prog 25 := ⟨_, Tryz.func25, rfl, rfl⟩
theorem fn26 : FnOk Tryz.prog 26 := ⟨_, Tryz.func26, rfl, rfl⟩
theorem fn27 : FnOk Tryz.prog 27 := ⟨_, Tryz.func27, rfl, rfl⟩
theorem fn28 : FnOk Tryz.prog 28 := ⟨_, Tryz.func28, rfl, rfl⟩
theorem fn29 : FnOk Tryz.prog 29 := ⟨_, Tryz.func29, rfl, rfl⟩
theorem fn30 : FnOk Tryz.prog 30 := ⟨_, Tryz.func30, rfl, rfl⟩
theorem fn31 : FnOk Tryz.prog 31 := ⟨_, Tryz.func31, rfl, rfl⟩
theorem fn32 : FnOk Tryz.prog 32 := ⟨_, Tryz.func32, rfl, rfl⟩
theorem fn33 : FnOk Tryz.prog 33 := ⟨_, Tryz.func33, rfl, rfl⟩
theorem fn34 : FnOk Tryz.prog 34 := ⟨_, Tryz.func34, rfl, rfl⟩
theorem fn35 : FnOk Tryz.prog 35 := ⟨_, Tryz.func35, rfl, rfl⟩
theorem fn36 : FnOk Tryz.prog 36 := ⟨_, Tryz.func36, rfl, rfl⟩
theorem fn37 : FnOk Tryz.prog 37 := ⟨_, Tryz.func37, rfl, rfl⟩
theorem fn38 : FnOk Tryz.prog 38 := ⟨_, Tryz.func38, rfl, rfl⟩
theorem fn39 : FnOk Tryz.prog 39 := ⟨_, Tryz.func39, rfl, rfl⟩
theorem fn40 : FnOk Tryz.prog 40 := ⟨_, Tryz.func40, rfl, rfl⟩
theorem fn41 : FnOk Tryz.prog 41 := ⟨_, Tryz.func41, rfl, rfl⟩
theorem fn42 : FnOk Tryz.prog 42 := ⟨_, Tryz.func42, rfl, rfl⟩
theorem fn43 : FnOk Tryz.prog 43 := ⟨_, Tryz.func43, rfl, rfl⟩
theorem fn44 : FnOk Tryz.prog 44 := ⟨_, Tryz.func44, rfl, rfl⟩
theorem fn45 : FnOk Tryz.prog 45 := ⟨_, Tryz.func45, rfl, rfl⟩
theorem fn46 : FnOk Tryz.prog 46 := ⟨_, Tryz.func46, rfl, rfl⟩
theorem fn47 : FnOk Tryz.prog 47 := ⟨_, Tryz.func47, rfl, rfl⟩
theorem fn48 : FnOk Tryz.prog 48 := ⟨_, Tryz.func48, rfl, rfl⟩
theorem fn49 : FnOk Tryz.prog 49 := ⟨_, Tryz.func49, rfl, rfl⟩
theorem fn50 : FnOk Tryz.prog 50 := ⟨_, Tryz.func50, rfl, rfl⟩
theorem fn51 : FnOk Tryz.prog 51 := ⟨_, Tryz.func51, rfl, rfl⟩
theorem fn52 : FnOk Tryz.prog 52 := ⟨_, Tryz.func52, rfl, rfl⟩
theorem fn53 : FnOk Tryz.prog 53 := ⟨_, Tryz.func53, rfl, rfl⟩
theorem fn54 : FnOk Tryz.prog 54 := ⟨_, Tryz.func54, rfl, rfl⟩
theorem fn55 : FnOk Tryz.prog 55 := ⟨_, Tryz.func55, rfl, rfl⟩
theorem fn56 : FnOk Tryz.prog 56 := ⟨_, Tryz.func56, rfl, rfl⟩
theorem fn57 : FnOk Tryz.prog 57 := ⟨_, Tryz.func57, rfl, rfl⟩
theorem fn58 : FnOk Tryz.prog 58 := ⟨_, Tryz.func58, rfl, rfl⟩
theorem fn59 : FnOk Tryz.prog 59 := ⟨_, Tryz.func59, rfl, rfl⟩
theorem fn60 : FnOk Tryz.prog 60 := ⟨_, Tryz.func60, rfl, rfl⟩
theorem fn61 : FnOk Tryz.prog 61 := ⟨_, Tryz.func61, rfl, rfl⟩
theorem fn62 : FnOk Tryz.prog 62 := ⟨_, Tryz.func62, rfl, rfl⟩
theorem fn63 : FnOk Tryz.prog 63 := ⟨_, Tryz.func63, rfl, rfl⟩
theorem fn64 : FnOk Tryz.prog 64 := ⟨_, Tryz.func64, rfl, rfl⟩
theorem fn65 : FnOk Tryz.prog 65 := ⟨_, Tryz.func65, rfl, rfl⟩
theorem fn66 : FnOk Tryz.prog 66 := ⟨_, Tryz.func66, rfl, rfl⟩
theorem fn67 : FnOk Tryz.prog 67 := ⟨_, Tryz.func67, rfl, rfl⟩
theorem fn68 : FnOk Tryz.prog 68 := ⟨_, Tryz.func68, rfl, rfl⟩
theorem fn69 : FnOk Tryz.prog 69 := ⟨_, Tryz.func69, rfl, rfl⟩
theorem fn70 : FnOk Tryz.prog 70 := ⟨_, Tryz.func70, rfl, rfl⟩
theorem fn71 : FnOk Tryz.prog 71 := ⟨_, Tryz.func71, rfl, rfl⟩
theorem fn74 : FnOk Tryz.prog 74 := ⟨_, Tryz.func74, rfl, rfl⟩
theorem fn75 : FnOk Tryz.prog 75 := ⟨_, Tryz.func75, rfl, rfl⟩
theorem fn76 : FnOk Tryz.prog 76 := ⟨_, Tryz.func76, rfl, rfl⟩
theorem fn77 : FnOk Tryz.prog 77 := ⟨_, Tryz.func77, rfl, rfl⟩
theorem fn78 : FnOk Tryz.prog 78 := ⟨_, Tryz.func78, rfl, rfl⟩
theorem fn79 : FnOk Tryz.prog 79 := ⟨_, Tryz.func79, rfl, rfl⟩
theorem fn80 : FnOk Tryz.prog 80 := ⟨_, Tryz.func80, rfl, rfl⟩
theorem fn81 : FnOk Tryz.prog 81 := ⟨_, Tryz.func81, rfl, rfl⟩
theorem fn82 : FnOk Tryz.prog 82 := ⟨_, Tryz.func82, rfl, rfl⟩
theorem fn83 : FnOk Tryz.prog 83 := ⟨_, Tryz.func83, rfl, rfl⟩
theorem fn84 : FnOk Tryz.prog 84 := ⟨_, Tryz.func84, rfl, rfl⟩
theorem fn85 : FnOk Tryz.prog 85 := ⟨_, Tryz.func85, rfl, rfl⟩
theorem fn86 : FnOk Tryz.prog 86 := ⟨_, Tryz.func86, rfl, rfl⟩
theorem fn88 : FnOk Tryz.prog 88 := ⟨_, Tryz.func88, rfl, rfl⟩
theorem fn89 : FnOk Tryz.prog 89 := ⟨_, Tryz.func89, rfl, rfl⟩
theorem fn90 : FnOk Tryz.prog 90 := ⟨_, Tryz.func90, rfl, rfl⟩
theorem fn91 : FnOk Tryz.prog 91 := ⟨_, Tryz.func91, rfl, rfl⟩
theorem fn92 : FnOk Tryz.prog 92 := ⟨_, Tryz.func92, rfl, rfl⟩
theorem fn93 : FnOk Tryz.prog 93 := ⟨_, Tryz.func93, rfl, rfl⟩
theorem fn94 : FnOk Tryz.prog 94 := ⟨_, Tryz.func94, rfl, rfl⟩
theorem fn95 : FnOk Tryz.prog 95 := ⟨_, Tryz.func95, rfl, rfl⟩
theorem fn96 : FnOk Tryz.prog 96 := ⟨_, Tryz.func96, rfl, rfl⟩
theorem fn97 : FnOk Tryz.prog 97 := ⟨_, Tryz.func97, rfl, rfl⟩
theorem fn98 : FnOk Tryz.prog 98 := ⟨_, Tryz.func98, rfl, rfl⟩
theorem fn110 : FnOk Tryz.prog 110 := ⟨_, Tryz.func110, rfl, rfl⟩
theorem fn111 : FnOk Tryz.prog 111 := ⟨_, Tryz.func111, rfl, rfl⟩
theorem fn112 : FnOk Tryz.prog 112 := ⟨_, Tryz.func112, rfl, rfl⟩
theorem fn113 : FnOk Tryz.prog 113 := ⟨_, Tryz.func113, rfl, rfl⟩
theorem fn114 : FnOk Tryz.prog 114 := ⟨_, Tryz.func114, rfl, rfl⟩
theorem fn115 : FnOk Tryz.prog 115 := ⟨_, Tryz.func115, rfl, rfl⟩
theorem fn116 : FnOk Tryz.prog 116 := ⟨_, Tryz.func116, rfl, rfl⟩
theorem fn117 : FnOk Tryz.prog 117 := ⟨_, Tryz.func117, rfl, rfl⟩
theorem fn118 : FnOk Tryz.prog 118 := ⟨_, Tryz.func118, rfl, rfl⟩
theorem fn119 : FnOk Tryz.prog 119 := ⟨_, Tryz.func119, rfl, rfl⟩
theorem fn120 : FnOk Tryz.prog 120 := ⟨_, Tryz.func120, rfl, rfl⟩
theorem fn121 : FnOk Tryz.prog 121 := ⟨_, Tryz.func121, rfl, rfl⟩
theorem fn124 : FnOk Tryz.prog 124 := ⟨_, Tryz.func124, rfl, rfl⟩
theorem fn131 : FnOk Tryz.prog 131 := ⟨_, Tryz.func131, rfl, rfl⟩
theorem fn132 : FnOk Tryz.prog 132 := ⟨_, Tryz.func132, rfl, rfl⟩
theorem fn133 : FnOk Tryz.prog 133 := ⟨_, Tryz.func133, rfl, rfl⟩
theorem fn139 : FnOk Tryz.prog 139 := ⟨_, Tryz.func139, rfl, rfl⟩
@[reducible] def tl2 : List (TypeId × TI) := []
@[reducible] def tl3 : List (TypeId × TI) := [(2, ti2), (3, ti3), (4, ti4), (24, ti24), (25, ti25), (26, ti26), (27, ti27), (28, ti28), (29, ti29), (31, ti31), (35, ti35), (42, ti42), (46, ti46), (48, ti48)]
theorem tk3 : TOk Tryz.prog tl3 := (.cons tok2 (.cons tok3 (.cons tok4 (.cons tok24 (.cons tok25 (.cons tok26 (.cons tok27 (.cons tok28 (.cons tok29 (.cons tok31 (.cons tok35 (.cons tok42 (.cons tok46 (.cons tok48 .nil))))))))))))))
@[reducible] def dt3 : DT := [(3, [(1, 2), (8, 9), (17, 18)]), (18, [(2, 7), (3, 7), (4, 7), (2, 8), (3, 8), (19, 24), (20, 24), (21, 24), (19, 25), (20, 25), (28, 32), (29, 32)])]
@[reducible] def tl4 : List (TypeId × TI) := [(2, ti2), (3, ti3), (24, ti24), (25, ti25), (26, ti26), (27, ti27), (28, ti28), (29, ti29), (31, ti31), (55, ti55), (57, ti57), (59, ti59), (61, ti61), (63, ti63), (67, ti67), (69, ti69)]
theorem tk4 : TOk Tryz.prog tl4 := (.cons tok2 (.cons tok3 (.cons tok24 (.cons tok25 (.cons tok26 (.cons tok27 (.cons tok28 (.cons tok29 (.cons tok31 (.cons tok55 (.cons tok57 (.cons tok59 (.cons tok61 (.cons tok63 (.cons tok67 (.cons tok69 .nil))))))))))))))))
@[reducible] def dt4 : DT := [(5, [])]
@[reducible] def tl5 : List (TypeId × TI) := [(2, ti2), (3, ti3), (4, ti4), (22, ti22), (24, ti24), (25, ti25), (26, ti26), (27, ti27), (28, ti28), (29, ti29), (31, ti31), (65, ti65)]
theorem tk5 : TOk Tryz.prog tl5 := (.cons tok2 (.cons tok3 (.cons tok4 (.cons tok22 (.cons tok24 (.cons tok25 (.cons tok26 (.cons tok27 (.cons tok28 (.cons tok29 (.cons tok31 (.cons tok65 .nil))))))))))))
@[reducible] def dt5 : DT := [(3, [(1, 2)])]
@[reducible] def tl6 : List (TypeId × TI) := [(2, ti2), (3, ti3), (4, ti4), (9, ti9), (22, ti22), (24, ti24), (25, ti25), (26, ti26), (27, ti27), (28, ti28), (29, ti29), (31, ti31), (46, ti46), (48, ti48), (55, ti55), (57, ti57), (59, ti59), (67, ti67), (69, ti69)]
theorem tk6 : TOk Tryz.prog tl6 := (.cons tok2 (.cons tok3 (.cons tok4 (.cons tok9 (.cons tok22 (.cons tok24 (.cons tok25 (.cons tok26 (.cons tok27 (.cons tok28 (.cons tok29 (.cons tok31 (.cons tok46 (.cons tok48 (.cons tok55 (.cons tok57 (.cons tok59 (.cons tok67 (.cons tok69 .nil)))))))))))))))))))
@[reducible] def tl7 : List (TypeId × TI) := [(2, ti2), (3, ti3), (24, ti24), (25, ti25), (26, ti26), (27, ti27), (28, ti28), (29, ti29), (31, ti31), (35, ti35), (55, ti55), (57, ti57), (67, ti67)]
theorem tk7 : TOk Tryz.prog tl7 := (.cons tok2 (.cons tok3 (.cons tok24 (.cons tok25 (.cons tok26 (.cons tok27 (.cons tok28 (.cons tok29 (.cons tok31 (.cons tok35 (.cons tok55 (.cons tok57 (.cons tok67 .nil)))))))))))))
@[reducible] def dt7 : DT := [(5, [(0, 3)])]
@[reducible] def tl8 : List (TypeId × TI) := [(2, ti2), (3, ti3), (22, ti22), (24, ti24), (25, ti25), (26, ti26), (27, ti27), (28, ti28), (29, ti29), (31, ti31), (55, ti55), (57, ti57), (67, ti67)]
theorem tk8 : TOk Tryz.prog tl8 := (.cons tok2 (.cons tok3 (.cons tok22 (.cons tok24 (.cons tok25 (.cons tok26 (.cons tok27 (.cons tok28 (.cons tok29 (.cons tok31 (.cons tok55 (.cons tok57 (.cons tok67 .nil)))))))))))))
@[reducible] def dt8 : DT := [(9, [])]
@[reducible] def tl9 : List (TypeId × TI) := [(2, ti2), (24, ti24), (25, ti25), (26, ti26), (27, ti27), (28, ti28), (29, ti29), (31, ti31), (35, ti35)]
theorem tk9 : TOk Tryz.prog tl9 := (.cons tok2 (.cons tok24 (.cons tok25 (.cons tok26 (.cons tok27 (.cons tok28 (.cons tok29 (.cons tok31 (.cons tok35 .nil)))))))))
@[reducible] def tl10 : List (TypeId × TI) := [(2, ti2), (3, ti3), (22, ti22), (24, ti24), (25, ti25), (26, ti26), (27, ti27), (28, ti28), (29, ti29), (31, ti31), (55, ti55), (59, ti59), (61, ti61), (67, ti67)]
theorem tk10 : TOk Tryz.prog tl10 := (.cons tok2 (.cons tok3 (.cons tok22 (.cons tok24 (.cons tok25 (.cons tok26 (.cons tok27 (.cons tok28 (.cons tok29 (.cons tok31 (.cons tok55 (.cons tok59 (.cons tok61 (.cons tok67 .nil))))))))))))))
@[reducible] def dt10 : DT := [(6, [(0, 7)]), (11, [(0, 7)])]
@[reducible] def tl11 : List (TypeId × TI) := [(2, ti2), (3, ti3), (24, ti24), (25, ti25), (26, ti26), (27, ti27), (28, ti28), (29, ti29), (31, ti31), (35, ti35)]
theorem tk11 : TOk Tryz.prog tl11 := (.cons tok2 (.cons tok3 (.cons tok24 (.cons tok25 (.cons tok26 (.cons tok27 (.cons tok28 (.cons tok29 (.cons tok31 (.cons tok35 .nil))))))))))
@[reducible] def tl12 : List (TypeId × TI) := [(2, ti2), (3, ti3), (4, ti4), (22, ti22), (24, ti24), (25, ti25), (26, ti26), (27, ti27), (28, ti28), (29, ti29), (31, ti31), (69, ti69)]
theorem tk12 : TOk Tryz.prog tl12 := (.cons tok2 (.cons tok3 (.cons tok4 (.cons tok22 (.cons tok24 (.cons tok25 (.cons tok26 (.cons tok27 (.cons tok28 (.cons tok29 (.cons tok31 (.cons tok69 .nil))))))))))))
@[reducible] def dt12 : DT := [(6, [(0, 8)])]
@[reducible] def tl13 : List (TypeId × TI) := [(2, ti2), (3, ti3), (4, ti4), (24, ti24), (25, ti25), (26, ti26), (27, ti27), (28, ti28), (29, ti29), (31, ti31), (42, ti42), (69, ti69)]
theorem tk13 : TOk Tryz.prog tl13 := (.cons tok2 (.cons tok3 (.cons tok4 (.cons tok24 (.cons tok25 (.cons tok26 (.cons tok27 (.cons tok28 (.cons tok29 (.cons tok31 (.cons tok42 (.cons tok69 .nil))))))))))))
@[reducible] def tl14 : List (TypeId × TI) := [(2, ti2), (3, ti3), (4, ti4), (24, ti24), (25, ti25), (26, ti26), (27, ti27), (28, ti28), (29, ti29), (31, ti31), (69, ti69)]
theorem tk14 : TOk Tryz.prog tl14 := (.cons tok2 (.cons tok3 (.cons tok4 (.cons tok24 (.cons tok25 (.cons tok26 (.cons tok27 (.cons tok28 (.cons tok29 (.cons tok31 (.cons tok69 .nil)))))))))))
@[reducible] def tl15 : List (TypeId × TI) := [(2, ti2), (3, ti3), (24, ti24), (25, ti25), (26, ti26), (27, ti27), (28, ti28), (29, ti29), (31, ti31), (46, ti46), (48, ti48)]
theorem tk15 : TOk Tryz.prog tl15 := (.cons tok2 (.cons tok3 (.cons tok24 (.cons tok25 (.cons tok26 (.cons tok27 (.cons tok28 (.cons tok29 (.cons tok31 (.cons tok46 (.cons tok48 .nil)))))))))))
@[reducible] def dt15 : DT := [(3, [(2, 3)])]
@[reducible] def tl16 : List (TypeId × TI) := [(2, ti2), (3, ti3), (4, ti4), (24, ti24), (25, ti25), (26, ti26), (27, ti27), (28, ti28), (29, ti29), (31, ti31), (46, ti46), (48, ti48), (69, ti69)]
theorem tk16 : TOk Tryz.prog tl16 := (.cons tok2 (.cons tok3 (.cons tok4 (.cons tok24 (.cons tok25 (.cons tok26 (.cons tok27 (.cons tok28 (.cons tok29 (.cons tok31 (.cons tok46 (.cons tok48 (.cons tok69 .nil)))))))))))))
@[reducible] def dt16 : DT := [(4, [(2, 3), (2, 5), (4, 5), (2, 6), (4, 6), (2, 8), (4, 8), (2, 9), (4, 9), (2, 10), (4, 10)])]
@[reducible] def tl17 : List (TypeId × TI) := [(2, ti2), (3, ti3), (4, ti4), (24, ti24), (25, ti25), (26, ti26), (27, ti27), (28, ti28), (29, ti29), (31, ti31), (69, ti69)]
theorem tk17 : TOk Tryz.prog tl17 := (.cons tok2 (.cons tok3 (.cons tok4 (.cons tok24 (.cons tok25 (.cons tok26 (.cons tok27 (.cons tok28 (.cons tok29 (.cons tok31 (.cons tok69 .nil)))))))))))
@[reducible] def tl18 : List (TypeId × TI) := [(2, ti2), (22, ti22), (24, ti24), (25, ti25), (26, ti26), (27, ti27), (28, ti28), (29, ti29), (31, ti31), (46, ti46)]
theorem tk18 : TOk Tryz.prog tl18 := (.cons tok2 (.cons tok22 (.cons tok24 (.cons tok25 (.cons tok26 (.cons tok27 (.cons tok28 (.cons tok29 (.cons tok31 (.cons tok46 .nil))))))))))
@[reducible] def dt18 : DT := [(1, [(0, 2), (0, 7), (1, 7), (2, 7), (3, 7)])]
@[reducible] def tl19 : List (TypeId × TI) := [(2, ti2), (3, ti3), (4, ti4), (22, ti22), (24, ti24)]
theorem tk19 : TOk Tryz.prog tl19 := (.cons tok2 (.cons tok3 (.cons tok4 (.cons tok22 (.cons tok24 .nil)))))
@[reducible] def tl20 : List (TypeId × TI) := [(2, ti2), (3, ti3), (4, ti4), (22, ti22), (24, ti24), (25, ti25), (26, ti26), (27, ti27), (28, ti28), (29, ti29), (31, ti31), (69, ti69)]
theorem tk20 : TOk Tryz.prog tl20 := (.cons tok2 (.cons tok3 (.cons tok4 (.cons tok22 (.cons tok24 (.cons tok25 (.cons tok26 (.cons tok27 (.cons tok28 (.cons tok29 (.cons tok31 (.cons tok69 .nil))))))))))))
@[reducible] def dt20 : DT := [(5, []), (12, [])]
@[reducible] def tl21 : List (TypeId × TI) := [(2, ti2), (3, ti3), (4, ti4), (22, ti22), (24, ti24), (25, ti25), (26, ti26), (27, ti27), (28, ti28), (29, ti29), (31, ti31), (55, ti55), (57, ti57), (67, ti67)]
theorem tk21 : TOk Tryz.prog tl21 := (.cons tok2 (.cons tok3 (.cons tok4 (.cons tok22 (.cons tok24 (.cons tok25 (.cons tok26 (.cons tok27 (.cons tok28 (.cons tok29 (.cons tok31 (.cons tok55 (.cons tok57 (.cons tok67 .nil))))))))))))))
@[reducible] def dt21 : DT := [(5, [])]
@[reducible] def tl22 : List (TypeId × TI) := [(2, ti2), (3, ti3), (22, ti22), (24, ti24), (25, ti25), (26, ti26), (27, ti27), (28, ti28), (29, ti29), (31, ti31), (55, ti55), (57, ti57), (67, ti67)]
theorem tk22 : TOk Tryz.prog tl22 := (.cons tok2 (.cons tok3 (.cons tok22 (.cons tok24 (.cons tok25 (.cons tok26 (.cons tok27 (.cons tok28 (.cons tok29 (.cons tok31 (.cons tok55 (.cons tok57 (.cons tok67 .nil)))))))))))))
@[reducible] def dt22 : DT := [(9, [])]
@[reducible] def tl23 : List (TypeId × TI) := [(2, ti2), (3, ti3), (4, ti4), (22, ti22), (24, ti24), (25, ti25), (26, ti26), (27, ti27), (28, ti28), (29, ti29), (31, ti31), (55, ti55), (59, ti59), (67, ti67), (69, ti69)]
theorem tk23 : TOk Tryz.prog tl23 := (.cons tok2 (.cons tok3 (.cons tok4 (.cons tok22 (.cons tok24 (.cons tok25 (.cons tok26 (.cons tok27 (.cons tok28 (.cons tok29 (.cons tok31 (.cons tok55 (.cons tok59 (.cons tok67 (.cons tok69 .nil)))))))))))))))
@[reducible] def dt23 : DT := [(6, []), (8, [])]
@[reducible] def tl24 : List (TypeId × TI) := [(2, ti2), (3, ti3), (4, ti4), (22, ti22), (24, ti24), (25, ti25), (26, ti26), (27, ti27), (28, ti28), (29, ti29), (31, ti31), (55, ti55), (61, ti61), (67, ti67), (69, ti69)]
theorem tk24 : TOk Tryz.prog tl24 := (.cons tok2 (.cons tok3 (.cons tok4 (.cons tok22 (.cons tok24 (.cons tok25 (.cons tok26 (.cons tok27 (.cons tok28 (.cons tok29 (.cons tok31 (.cons tok55 (.cons tok61 (.cons tok67 (.cons tok69 .nil)))))))))))))))
@[reducible] def dt24 : DT := [(6, []), (8, [])]
@[reducible] def tl25 : List (TypeId × TI) := [(2, ti2), (3, ti3), (4, ti4), (22, ti22), (24, ti24), (25, ti25), (26, ti26), (27, ti27), (28, ti28), (29, ti29), (31, ti31), (55, ti55), (63, ti63), (67, ti67)]
theorem tk25 : TOk Tryz.prog tl25 := (.cons tok2 (.cons tok3 (.cons tok4 (.cons tok22 (.cons tok24 (.cons tok25 (.cons tok26 (.cons tok27 (.cons tok28 (.cons tok29 (.cons tok31 (.cons tok55 (.cons tok63 (.cons tok67 .nil))))))))))))))
@[reducible] def dt25 : DT := [(5, [])]
@[reducible] def tl26 : List (TypeId × TI) := [(2, ti2), (3, ti3), (4, ti4), (24, ti24), (25, ti25), (26, ti26), (27, ti27), (28, ti28), (29, ti29), (31, ti31), (55, ti55), (57, ti57), (59, ti59), (61, ti61), (67, ti67)]
theorem tk26 : TOk Tryz.prog tl26 := (.cons tok2 (.cons tok3 (.cons tok4 (.cons tok24 (.cons tok25 (.cons tok26 (.cons tok27 (.cons tok28 (.cons tok29 (.cons tok31 (.cons tok55 (.cons tok57 (.cons tok59 (.cons tok61 (.cons tok67 .nil)))))))))))))))
@[reducible] def dt26 : DT := [(8, []), (13, [])]
@[reducible] def tl27 : List (TypeId × TI) := [(2, ti2), (3, ti3), (4, ti4), (24, ti24), (25, ti25), (26, ti26), (27, ti27), (28, ti28), (29, ti29), (31, ti31), (34, ti34), (96, ti96), (97, ti97)]
theorem tk27 : TOk Tryz.prog tl27 := (.cons tok2 (.cons tok3 (.cons tok4 (.cons tok24 (.cons tok25 (.cons tok26 (.cons tok27 (.cons tok28 (.cons tok29 (.cons tok31 (.cons tok34 (.cons tok96 (.cons tok97 .nil)))))))))))))
@[reducible] def tl28 : List (TypeId × TI) := [(2, ti2), (4, ti4), (9, ti9), (46, ti46), (48, ti48)]
theorem tk28 : TOk Tryz.prog tl28 := (.cons tok2 (.cons tok4 (.cons tok9 (.cons tok46 (.cons tok48 .nil)))))
@[reducible] def dt28 : DT := [(3, [(2, 4), (2, 5)])]
@[reducible] def tl29 : List (TypeId × TI) := [(2, ti2), (24, ti24), (25, ti25), (26, ti26), (27, ti27), (28, ti28), (29, ti29), (31, ti31), (59, ti59)]
theorem tk29 : TOk Tryz.prog tl29 := (.cons tok2 (.cons tok24 (.cons tok25 (.cons tok26 (.cons tok27 (.cons tok28 (.cons tok29 (.cons tok31 (.cons tok59 .nil)))))))))
@[reducible] def tl30 : List (TypeId × TI) := [(2, ti2), (24, ti24), (25, ti25), (26, ti26), (27, ti27), (28, ti28), (29, ti29), (31, ti31), (57, ti57)]
theorem tk30 : TOk Tryz.prog tl30 := (.cons tok2 (.cons tok24 (.cons tok25 (.cons tok26 (.cons tok27 (.cons tok28 (.cons tok29 (.cons tok31 (.cons tok57 .nil)))))))))
@[reducible] def tl31 : List (TypeId × TI) := [(2, ti2), (3, ti3), (4, ti4), (35, ti35)]
theorem tk31 : TOk Tryz.prog tl31 := (.cons tok2 (.cons tok3 (.cons tok4 (.cons tok35 .nil))))
@[reducible] def dt31 : DT := [(6, [])]
@[reducible] def tl32 : List (TypeId × TI) := [(2, ti2), (3, ti3), (4, ti4), (35, ti35), (55, ti55), (67, ti67)]
theorem tk32 : TOk Tryz.prog tl32 := (.cons tok2 (.cons tok3 (.cons tok4 (.cons tok35 (.cons tok55 (.cons tok67 .nil))))))
@[reducible] def dt32 : DT := [(7, [])]
@[reducible] def tl33 : List (TypeId × TI) := [(2, ti2), (3, ti3), (4, ti4), (22, ti22), (55, ti55), (67, ti67)]
theorem tk33 : TOk Tryz.prog tl33 := (.cons tok2 (.cons tok3 (.cons tok4 (.cons tok22 (.cons tok55 (.cons tok67 .nil))))))
@[reducible] def dt33 : DT := [(7, [])]
@[reducible] def tl34 : List (TypeId × TI) := [(2, ti2), (3, ti3), (24, ti24), (25, ti25), (26, ti26), (27, ti27), (28, ti28), (29, ti29), (31, ti31), (35, ti35), (55, ti55), (59, ti59), (61, ti61), (67, ti67)]
theorem tk34 : TOk Tryz.prog tl34 := (.cons tok2 (.cons tok3 (.cons tok24 (.cons tok25 (.cons tok26 (.cons tok27 (.cons tok28 (.cons tok29 (.cons tok31 (.cons tok35 (.cons tok55 (.cons tok59 (.cons tok61 (.cons tok67 .nil))))))))))))))
@[reducible] def dt34 : DT := [(6, [(0, 3)]), (12, [(0, 3)])]
@[reducible] def tl35 : List (TypeId × TI) := [(2, ti2)]
theorem tk35 : TOk Tryz.prog tl35 := (.cons tok2 .nil)
@[reducible] def tl36 : List (TypeId × TI) := [(2, ti2), (3, ti3), (4, ti4), (22, ti22)]
theorem tk36 : TOk Tryz.prog tl36 := (.cons tok2 (.cons tok3 (.cons tok4 (.cons tok22 .nil))))
@[reducible] def dt36 : DT := [(7, [])]
@[reducible] def tl37 : List (TypeId × TI) := [(2, ti2), (3, ti3), (4, ti4), (24, ti24), (25, ti25), (26, ti26), (27, ti27), (28, ti28), (29, ti29), (31, ti31), (69, ti69)]
theorem tk37 : TOk Tryz.prog tl37 := (.cons tok2 (.cons tok3 (.cons tok4 (.cons tok24 (.cons tok25 (.cons tok26 (.cons tok27 (.cons tok28 (.cons tok29 (.cons tok31 (.cons tok69 .nil)))))))))))
@[reducible] def dt37 : DT := [(2, [])]
@[reducible] def tl38 : List (TypeId × TI) := [(2, ti2), (24, ti24), (25, ti25), (26, ti26), (27, ti27), (28, ti28), (29, ti29), (31, ti31), (69, ti69)]
theorem tk38 : TOk Tryz.prog tl38 := (.cons tok2 (.cons tok24 (.cons tok25 (.cons tok26 (.cons tok27 (.cons tok28 (.cons tok29 (.cons tok31 (.cons tok69 .nil)))))))))
@[reducible] def tl39 : List (TypeId × TI) := [(3, ti3), (42, ti42), (107, ti107)]
@[reducible] def tl40 : List (TypeId × TI) := [(3, ti3), (42, ti42)]
@[reducible] def dt40 : DT := [(6, []), (11, [])]
@[reducible] def tl41 : List (TypeId × TI) := [(2, ti2), (35, ti35), (46, ti46), (48, ti48)]
theorem tk41 : TOk Tryz.prog tl41 := (.cons tok2 (.cons tok35 (.cons tok46 (.cons tok48 .nil))))
@[reducible] def tl42 : List (TypeId × TI) := [(2, ti2), (3, ti3), (4, ti4), (25, ti25), (69, ti69)]
theorem tk42 : TOk Tryz.prog tl42 := (.cons tok2 (.cons tok3 (.cons tok4 (.cons tok25 (.cons tok69 .nil)))))
@[reducible] def tl43 : List (TypeId × TI) := [(2, ti2), (3, ti3), (4, ti4), (69, ti69)]
theorem tk43 : TOk Tryz.prog tl43 := (.cons tok2 (.cons tok3 (.cons tok4 (.cons tok69 .nil))))
@[reducible] def tl44 : List (TypeId × TI) := [(2, ti2), (3, ti3), (4, ti4), (22, ti22), (46, ti46)]
theorem tk44 : TOk Tryz.prog tl44 := (.cons tok2 (.cons tok3 (.cons tok4 (.cons tok22 (.cons tok46 .nil)))))
@[reducible] def dt44 : DT := [(3, []), (7, [(1, 7), (2, 7), (4, 7), (5, 7)]), (10, [])]
@[reducible] def tl45 : List (TypeId × TI) := [(2, ti2)]
theorem tk45 : TOk Tryz.prog tl45 := (.cons tok2 .nil)
@[reducible] def tl46 : List (TypeId × TI) := [(2, ti2)]
theorem tk46 : TOk Tryz.prog tl46 := (.cons tok2 .nil)
@[reducible] def tl47 : List (TypeId × TI) := [(2, ti2), (3, ti3), (4, ti4), (55, ti55), (67, ti67)]
theorem tk47 : TOk Tryz.prog tl47 := (.cons tok2 (.cons tok3 (.cons tok4 (.cons tok55 (.cons tok67 .nil)))))
@[reducible] def dt47 : DT := [(4, [(32, 35), (32, 36)])]
@[reducible] def tl48 : List (TypeId × TI) := [(2, ti2), (3, ti3), (24, ti24), (25, ti25), (26, ti26), (27, ti27), (28, ti28), (29, ti29), (31, ti31), (55, ti55), (57, ti57)]
theorem tk48 : TOk Tryz.prog tl48 := (.cons tok2 (.cons tok3 (.cons tok24 (.cons tok25 (.cons tok26 (.cons tok27 (.cons tok28 (.cons tok29 (.cons tok31 (.cons tok55 (.cons tok57 .nil)))))))))))
@[reducible] def tl49 : List (TypeId × TI) := [(2, ti2), (3, ti3), (55, ti55), (67, ti67)]
theorem tk49 : TOk Tryz.prog tl49 := (.cons tok2 (.cons tok3 (.cons tok55 (.cons tok67 .nil))))
@[reducible] def tl50 : List (TypeId × TI) := [(2, ti2), (3, ti3), (55, ti55), (63, ti63), (67, ti67)]
theorem tk50 : TOk Tryz.prog tl50 := (.cons tok2 (.cons tok3 (.cons tok55 (.cons tok63 (.cons tok67 .nil)))))
@[reducible] def tl51 : List (TypeId × TI) := [(4, ti4), (55, ti55), (67, ti67)]
theorem tk51 : TOk Tryz.prog tl51 := (.cons tok4 (.cons tok55 (.cons tok67 .nil)))
@[reducible] def tl52 : List (TypeId × TI) := [(2, ti2), (3, ti3), (55, ti55), (67, ti67)]
theorem tk52 : TOk Tryz.prog tl52 := (.cons tok2 (.cons tok3 (.cons tok55 (.cons tok67 .nil))))
@[reducible] def dt52 : DT := [(6, [])]
@[reducible] def tl53 : List (TypeId × TI) := [(2, ti2), (3, ti3), (22, ti22), (24, ti24), (25, ti25), (26, ti26), (27, ti27), (28, ti28), (29, ti29), (31, ti31), (96, ti96), (117, ti117)]
theorem tk53 : TOk Tryz.prog tl53 := (.cons tok2 (.cons tok3 (.cons tok22 (.cons tok24 (.cons tok25 (.cons tok26 (.cons tok27 (.cons tok28 (.cons tok29 (.cons tok31 (.cons tok96 (.cons tok117 .nil))))))))))))
@[reducible] def tl54 : List (TypeId × TI) := [(2, ti2), (3, ti3), (4, ti4), (22, ti22), (24, ti24), (25, ti25), (26, ti26), (27, ti27), (28, ti28), (29, ti29), (31, ti31), (69, ti69), (96, ti96), (119, ti119)]
theorem tk54 : TOk Tryz.prog tl54 := (.cons tok2 (.cons tok3 (.cons tok4 (.cons tok22 (.cons tok24 (.cons tok25 (.cons tok26 (.cons tok27 (.cons tok28 (.cons tok29 (.cons tok31 (.cons tok69 (.cons tok96 (.cons tok119 .nil))))))))))))))
@[reducible] def dt54 : DT := [(5, [])]
@[reducible] def tl55 : List (TypeId × TI) := [(2, ti2), (3, ti3), (4, ti4), (22, ti22), (24, ti24), (25, ti25), (26, ti26), (27, ti27), (28, ti28), (29, ti29), (31, ti31), (55, ti55), (57, ti57), (67, ti67), (96, ti96)]
theorem tk55 : TOk Tryz.prog tl55 := (.cons tok2 (.cons tok3 (.cons tok4 (.cons tok22 (.cons tok24 (.cons tok25 (.cons tok26 (.cons tok27 (.cons tok28 (.cons tok29 (.cons tok31 (.cons tok55 (.cons tok57 (.cons tok67 (.cons tok96 .nil)))))))))))))))
@[reducible] def dt55 : DT := [(4, [])]
@[reducible] def tl56 : List (TypeId × TI) := [(2, ti2), (3, ti3), (4, ti4), (22, ti22), (24, ti24), (25, ti25), (26, ti26), (27, ti27), (28, ti28), (29, ti29), (31, ti31), (35, ti35), (55, ti55), (57, ti57), (67, ti67), (96, ti96)]
theorem tk56 : TOk Tryz.prog tl56 := (.cons tok2 (.cons tok3 (.cons tok4 (.cons tok22 (.cons tok24 (.cons tok25 (.cons tok26 (.cons tok27 (.cons tok28 (.cons tok29 (.cons tok31 (.cons tok35 (.cons tok55 (.cons tok57 (.cons tok67 (.cons tok96 .nil))))))))))))))))
@[reducible] def dt56 : DT := [(5, [(0, 3), (0, 8), (1, 8), (2, 8), (3, 8), (4, 8)]), (6, [(3, 5), (4, 5), (3, 6), (4, 6), (3, 7), (4, 7), (3, 8), (4, 8)])]
@[reducible] def tl57 : List (TypeId × TI) := [(2, ti2), (3, ti3), (4, ti4), (22, ti22), (24, ti24), (25, ti25), (26, ti26), (27, ti27), (28, ti28), (29, ti29), (31, ti31), (55, ti55), (59, ti59), (67, ti67), (69, ti69), (96, ti96)]
theorem tk57 : TOk Tryz.prog tl57 := (.cons tok2 (.cons tok3 (.cons tok4 (.cons tok22 (.cons tok24 (.cons tok25 (.cons tok26 (.cons tok27 (.cons tok28 (.cons tok29 (.cons tok31 (.cons tok55 (.cons tok59 (.cons tok67 (.cons tok69 (.cons tok96 .nil))))))))))))))))
@[reducible] def dt57 : DT := [(5, [])]
@[reducible] def tl58 : List (TypeId × TI) := [(2, ti2), (3, ti3), (4, ti4), (22, ti22), (24, ti24), (25, ti25), (26, ti26), (27, ti27), (28, ti28), (29, ti29), (31, ti31), (42, ti42), (55, ti55), (61, ti61), (67, ti67), (69, ti69), (96, ti96)]
theorem tk58 : TOk Tryz.prog tl58 := (.cons tok2 (.cons tok3 (.cons tok4 (.cons tok22 (.cons tok24 (.cons tok25 (.cons tok26 (.cons tok27 (.cons tok28 (.cons tok29 (.cons tok31 (.cons tok42 (.cons tok55 (.cons tok61 (.cons tok67 (.cons tok69 (.cons tok96 .nil)))))))))))))))))
@[reducible] def dt58 : DT := [(7, [(13, 14), (13, 15), (13, 16), (13, 19), (13, 20), (13, 21), (13, 22), (13, 23)])]
@[reducible] def tl59 : List (TypeId × TI) := [(2, ti2), (3, ti3), (4, ti4), (22, ti22), (24, ti24), (25, ti25), (26, ti26), (27, ti27), (28, ti28), (29, ti29), (31, ti31), (55, ti55), (63, ti63), (67, ti67), (96, ti96)]
theorem tk59 : TOk Tryz.prog tl59 := (.cons tok2 (.cons tok3 (.cons tok4 (.cons tok22 (.cons tok24 (.cons tok25 (.cons tok26 (.cons tok27 (.cons tok28 (.cons tok29 (.cons tok31 (.cons tok55 (.cons tok63 (.cons tok67 (.cons tok96 .nil)))))))))))))))
@[reducible] def dt59 : DT := [(6, [])]
@[reducible] def tl60 : List (TypeId × TI) := [(2, ti2), (3, ti3), (4, ti4), (24, ti24), (25, ti25), (26, ti26), (27, ti27), (28, ti28), (29, ti29), (31, ti31), (55, ti55), (57, ti57), (59, ti59), (61, ti61), (67, ti67), (96, ti96), (128, ti128)]
theorem tk60 : TOk Tryz.prog tl60 := (.cons tok2 (.cons tok3 (.cons tok4 (.cons tok24 (.cons tok25 (.cons tok26 (.cons tok27 (.cons tok28 (.cons tok29 (.cons tok31 (.cons tok55 (.cons tok57 (.cons tok59 (.cons tok61 (.cons tok67 (.cons tok96 (.cons tok128 .nil)))))))))))))))))
@[reducible] def tl61 : List (TypeId × TI) := [(2, ti2), (46, ti46), (48, ti48)]
theorem tk61 : TOk Tryz.prog tl61 := (.cons tok2 (.cons tok46 (.cons tok48 .nil)))
@[reducible] def tl62 : List (TypeId × TI) := [(2, ti2), (4, ti4), (9, ti9), (46, ti46)]
theorem tk62 : TOk Tryz.prog tl62 := (.cons tok2 (.cons tok4 (.cons tok9 (.cons tok46 .nil))))
@[reducible] def dt62 : DT := [(3, [(2, 4), (2, 5)])]
@[reducible] def tl63 : List (TypeId × TI) := [(2, ti2), (5, ti5), (9, ti9), (132, ti132)]
theorem tk63 : TOk Tryz.prog tl63 := (.cons tok2 (.cons tok5 (.cons tok9 (.cons tok132 .nil))))
@[reducible] def tl64 : List (TypeId × TI) := [(2, ti2), (3, ti3), (27, ti27), (55, ti55), (59, ti59)]
theorem tk64 : TOk Tryz.prog tl64 := (.cons tok2 (.cons tok3 (.cons tok27 (.cons tok55 (.cons tok59 .nil)))))
@[reducible] def tl65 : List (TypeId × TI) := [(2, ti2), (55, ti55), (59, ti59)]
theorem tk65 : TOk Tryz.prog tl65 := (.cons tok2 (.cons tok55 (.cons tok59 .nil)))
@[reducible] def tl66 : List (TypeId × TI) := [(2, ti2), (3, ti3), (26, ti26), (55, ti55), (57, ti57)]
theorem tk66 : TOk Tryz.prog tl66 := (.cons tok2 (.cons tok3 (.cons tok26 (.cons tok55 (.cons tok57 .nil)))))
@[reducible] def tl67 : List (TypeId × TI) := [(2, ti2), (55, ti55), (57, ti57)]
theorem tk67 : TOk Tryz.prog tl67 := (.cons tok2 (.cons tok55 (.cons tok57 .nil)))
@[reducible] def tl68 : List (TypeId × TI) := [(2, ti2), (3, ti3), (35, ti35)]
theorem tk68 : TOk Tryz.prog tl68 := (.cons tok2 (.cons tok3 (.cons tok35 .nil)))
@[reducible] def tl69 : List (TypeId × TI) := [(2, ti2), (3, ti3), (4, ti4), (55, ti55), (67, ti67)]
theorem tk69 : TOk Tryz.prog tl69 := (.cons tok2 (.cons tok3 (.cons tok4 (.cons tok55 (.cons tok67 .nil)))))
@[reducible] def dt69 : DT := [(4, [(24, 25)])]
@[reducible] def tl70 : List (TypeId × TI) := [(2, ti2), (3, ti3), (22, ti22)]
theorem tk70 : TOk Tryz.prog tl70 := (.cons tok2 (.cons tok3 (.cons tok22 .nil)))
@[reducible] def tl71 : List (TypeId × TI) := [(2, ti2), (3, ti3), (4, ti4), (69, ti69)]
theorem tk71 : TOk Tryz.prog tl71 := (.cons tok2 (.cons tok3 (.cons tok4 (.cons tok69 .nil))))
@[reducible] def tl72 : List (TypeId × TI) := [(3, ti3), (4, ti4), (42, ti42), (134, ti134)]
@[reducible] def dt72 : DT := [(17, [])]
@[reducible] def tl73 : List (TypeId × TI) := [(107, ti107), (142, ti142)]
@[reducible] def tl74 : List (TypeId × TI) := [(2, ti2), (3, ti3), (4, ti4), (35, ti35), (46, ti46)]
theorem tk74 : TOk Tryz.prog tl74 := (.cons tok2 (.cons tok3 (.cons tok4 (.cons tok35 (.cons tok46 .nil)))))
@[reducible] def dt74 : DT := [(3, []), (7, [(1, 7), (2, 7), (4, 7), (5, 7)]), (11, [])]
@[reducible] def tl75 : List (TypeId × TI) := [(2, ti2), (4, ti4), (46, ti46), (144, ti144)]
theorem tk75 : TOk Tryz.prog tl75 := (.cons tok2 (.cons tok4 (.cons tok46 (.cons tok144 .nil))))
@[reducible] def dt75 : DT := [(3, [(3, 4), (3, 5)]), (4, [(3, 4), (3, 5)])]
@[reducible] def tl76 : List (TypeId × TI) := [(3, ti3), (112, ti112)]
theorem tk76 : TOk Tryz.prog tl76 := (.cons tok3 (.cons tok112 .nil))
@[reducible] def tl77 : List (TypeId × TI) := [(2, ti2), (3, ti3), (67, ti67), (112, ti112)]
theorem tk77 : TOk Tryz.prog tl77 := (.cons tok2 (.cons tok3 (.cons tok67 (.cons tok112 .nil))))
@[reducible] def tl78 : List (TypeId × TI) := [(3, ti3), (112, ti112)]
theorem tk78 : TOk Tryz.prog tl78 := (.cons tok3 (.cons tok112 .nil))
@[reducible] def tl79 : List (TypeId × TI) := [(2, ti2), (3, ti3), (55, ti55), (67, ti67)]
theorem tk79 : TOk Tryz.prog tl79 := (.cons tok2 (.cons tok3 (.cons tok55 (.cons tok67 .nil))))
@[reducible] def dt79 : DT := [(4, []), (5, [])]
@[reducible] def tl80 : List (TypeId × TI) := [(2, ti2), (3, ti3), (4, ti4), (55, ti55), (67, ti67), (112, ti112), (122, ti122), (149, ti149)]
theorem tk80 : TOk Tryz.prog tl80 := (.cons tok2 (.cons tok3 (.cons tok4 (.cons tok55 (.cons tok67 (.cons tok112 (.cons tok122 (.cons tok149 .nil))))))))
@[reducible] def dt80 : DT := [(15, [(4, 7), (4, 8)])]
@[reducible] def tl81 : List (TypeId × TI) := [(2, ti2), (3, ti3), (4, ti4), (22, ti22), (24, ti24)]
theorem tk81 : TOk Tryz.prog tl81 := (.cons tok2 (.cons tok3 (.cons tok4 (.cons tok22 (.cons tok24 .nil)))))
@[reducible] def tl82 : List (TypeId × TI) := [(2, ti2)]
theorem tk82 : TOk Tryz.prog tl82 := (.cons tok2 .nil)
@[reducible] def tl83 : List (TypeId × TI) := [(2, ti2), (3, ti3), (122, ti122)]
theorem tk83 : TOk Tryz.prog tl83 := (.cons tok2 (.cons tok3 (.cons tok122 .nil)))
@[reducible] def tl84 : List (TypeId × TI) := [(2, ti2), (3, ti3), (4, ti4), (24, ti24), (25, ti25), (26, ti26), (27, ti27), (28, ti28), (29, ti29), (31, ti31), (42, ti42), (55, ti55), (67, ti67), (69, ti69), (96, ti96)]
theorem tk84 : TOk Tryz.prog tl84 := (.cons tok2 (.cons tok3 (.cons tok4 (.cons tok24 (.cons tok25 (.cons tok26 (.cons tok27 (.cons tok28 (.cons tok29 (.cons tok31 (.cons tok42 (.cons tok55 (.cons tok67 (.cons tok69 (.cons tok96 .nil)))))))))))))))
@[reducible] def dt84 : DT := [(5, [(0, 4), (0, 5), (4, 8), (5, 8), (6, 10), (8, 10)])]
@[reducible] def tl85 : List (TypeId × TI) := [(3, ti3), (42, ti42)]
theorem tk85 : TOk Tryz.prog tl85 := (.cons tok3 (.cons tok42 .nil))
@[reducible] def tl86 : List (TypeId × TI) := [(2, ti2)]
theorem tk86 : TOk Tryz.prog tl86 := (.cons tok2 .nil)
@[reducible] def tl87 : List (TypeId × TI) := [(2, ti2), (3, ti3), (42, ti42), (55, ti55), (63, ti63), (67, ti67)]
@[reducible] def dt87 : DT := [(1, [(4, 5), (4, 6), (4, 7), (4, 8), (4, 10), (9, 10), (4, 11), (9, 11), (4, 12), (9, 12), (4, 13), (9, 13), (4, 15), (9, 15), (14, 15), (4, 16), (9, 16), (14, 16), (4, 17), (9, 17), (14, 17), (4, 18), (9, 18), (14, 18)])]
@[reducible] def tl88 : List (TypeId × TI) := [(2, ti2), (4, ti4), (55, ti55), (128, ti128)]
theorem tk88 : TOk Tryz.prog tl88 := (.cons tok2 (.cons tok4 (.cons tok55 (.cons tok128 .nil))))
@[reducible] def tl89 : List (TypeId × TI) := [(2, ti2), (3, ti3), (4, ti4), (55, ti55), (67, ti67)]
theorem tk89 : TOk Tryz.prog tl89 := (.cons tok2 (.cons tok3 (.cons tok4 (.cons tok55 (.cons tok67 .nil)))))
@[reducible] def dt89 : DT := [(5, [(11, 13), (11, 14)]), (6, [(2, 7), (3, 7), (4, 7), (5, 7)]), (7, [(7, 9), (7, 10)]), (8, [(2, 7), (3, 7), (4, 7), (5, 7)]), (10, []), (14, [(1, 5), (2, 5), (3, 5), (1, 7), (2, 7), (3, 7), (5, 7)])]
@[reducible] def tl90 : List (TypeId × TI) := [(3, ti3)]
theorem tk90 : TOk Tryz.prog tl90 := (.cons tok3 .nil)
@[reducible] def tl91 : List (TypeId × TI) := [(2, ti2), (4, ti4), (55, ti55), (57, ti57), (67, ti67), (128, ti128)]
theorem tk91 : TOk Tryz.prog tl91 := (.cons tok2 (.cons tok4 (.cons tok55 (.cons tok57 (.cons tok67 (.cons tok128 .nil))))))
@[reducible] def tl92 : List (TypeId × TI) := []
theorem tk92 : TOk Tryz.prog tl92 := .nil
@[reducible] def tl93 : List (TypeId × TI) := [(2, ti2), (46, ti46)]
theorem tk93 : TOk Tryz.prog tl93 := (.cons tok2 (.cons tok46 .nil))
@[reducible] def tl94 : List (TypeId × TI) := [(2, ti2), (3, ti3), (5, ti5), (9, ti9), (132, ti132), (155, ti155)]
theorem tk94 : TOk Tryz.prog tl94 := (.cons tok2 (.cons tok3 (.cons tok5 (.cons tok9 (.cons tok132 (.cons tok155 .nil))))))
@[reducible] def tl95 : List (TypeId × TI) := [(3, ti3), (112, ti112)]
theorem tk95 : TOk Tryz.prog tl95 := (.cons tok3 (.cons tok112 .nil))
@[reducible] def tl96 : List (TypeId × TI) := [(2, ti2), (3, ti3), (67, ti67), (112, ti112)]
theorem tk96 : TOk Tryz.prog tl96 := (.cons tok2 (.cons tok3 (.cons tok67 (.cons tok112 .nil))))
@[reducible] def tl97 : List (TypeId × TI) := [(2, ti2)]
theorem tk97 : TOk Tryz.prog tl97 := (.cons tok2 .nil)
@[reducible] def tl98 : List (TypeId × TI) := [(3, ti3), (112, ti112)]
theorem tk98 : TOk Tryz.prog tl98 := (.cons tok3 (.cons tok112 .nil))
@[reducible] def tl99 : List (TypeId × TI) := [(3, ti3), (42, ti42)]
@[reducible] def dt99 : DT := [(4, []), (6, [])]
@[reducible] def tl100 : List (TypeId × TI) := [(3, ti3), (42, ti42)]
@[reducible] def dt100 : DT := [(10, [])]
@[reducible] def tl101 : List (TypeId × TI) := [(3, ti3), (42, ti42), (107, ti107), (156, ti156)]
@[reducible] def dt101 : DT := [(10, [])]
@[reducible] def tl102 : List (TypeId × TI) := [(3, ti3)]
@[reducible] def tl103 : List (TypeId × TI) := [(3, ti3), (42, ti42)]
@[reducible] def dt103 : DT := [(3, [])]
@[reducible] def tl104 : List (TypeId × TI) := [(3, ti3), (4, ti4), (42, ti42)]
@[reducible] def dt104 : DT := [(5, []), (11, []), (16, []), (17, []), (22, []), (23, [])]
@[reducible] def tl105 : List (TypeId × TI) := [(3, ti3), (4, ti4)]
@[reducible] def tl106 : List (TypeId × TI) := [(3, ti3), (4, ti4), (42, ti42)]
@[reducible] def dt106 : DT := [(1, []), (3, []), (5, []), (8, [])]
@[reducible] def tl107 : List (TypeId × TI) := [(3, ti3), (4, ti4), (42, ti42)]
@[reducible] def dt107 : DT := [(1, []), (3, []), (5, []), (8, []), (10, []), (13, []), (15, []), (18, []), (21, [])]
@[reducible] def tl108 : List (TypeId × TI) := [(3, ti3), (5, ti5), (9, ti9), (142, ti142)]
@[reducible] def tl109 : List (TypeId × TI) := [(3, ti3), (5, ti5), (9, ti9), (144, ti144)]
@[reducible] def tl110 : List (TypeId × TI) := [(2, ti2), (4, ti4), (46, ti46), (144, ti144)]
theorem tk110 : TOk Tryz.prog tl110 := (.cons tok2 (.cons tok4 (.cons tok46 (.cons tok144 .nil))))
@[reducible] def dt110 : DT := [(3, [(6, 7), (6, 8), (6, 10), (6, 11)])]
@[reducible] def tl111 : List (TypeId × TI) := [(2, ti2), (46, ti46)]
theorem tk111 : TOk Tryz.prog tl111 := (.cons tok2 (.cons tok46 .nil))
@[reducible] def tl112 : List (TypeId × TI) := [(3, ti3), (42, ti42)]
theorem tk112 : TOk Tryz.prog tl112 := (.cons tok3 (.cons tok42 .nil))
@[reducible] def dt112 : DT := [(9, [])]
@[reducible] def tl113 : List (TypeId × TI) := [(3, ti3), (42, ti42), (144, ti144)]
theorem tk113 : TOk Tryz.prog tl113 := (.cons tok3 (.cons tok42 (.cons tok144 .nil)))
@[reducible] def tl114 : List (TypeId × TI) := [(3, ti3), (42, ti42)]
theorem tk114 : TOk Tryz.prog tl114 := (.cons tok3 (.cons tok42 .nil))
@[reducible] def dt114 : DT := [(4, []), (5, [])]
@[reducible] def tl115 : List (TypeId × TI) := [(2, ti2), (3, ti3), (67, ti67)]
theorem tk115 : TOk Tryz.prog tl115 := (.cons tok2 (.cons tok3 (.cons tok67 .nil)))
@[reducible] def tl116 : List (TypeId × TI) := [(3, ti3), (112, ti112), (149, ti149)]
theorem tk116 : TOk Tryz.prog tl116 := (.cons tok3 (.cons tok112 (.cons tok149 .nil)))
@[reducible] def tl117 : List (TypeId × TI) := [(2, ti2), (3, ti3), (122, ti122)]
theorem tk117 : TOk Tryz.prog tl117 := (.cons tok2 (.cons tok3 (.cons tok122 .nil)))
@[reducible] def tl118 : List (TypeId × TI) := [(2, ti2), (3, ti3), (55, ti55), (67, ti67), (112, ti112)]
theorem tk118 : TOk Tryz.prog tl118 := (.cons tok2 (.cons tok3 (.cons tok55 (.cons tok67 (.cons tok112 .nil)))))
@[reducible] def tl119 : List (TypeId × TI) := [(2, ti2)]
theorem tk119 : TOk Tryz.prog tl119 := (.cons tok2 .nil)
@[reducible] def tl120 : List (TypeId × TI) := [(2, ti2), (3, ti3), (55, ti55), (67, ti67)]
theorem tk120 : TOk Tryz.prog tl120 := (.cons tok2 (.cons tok3 (.cons tok55 (.cons tok67 .nil))))
@[reducible] def tl121 : List (TypeId × TI) := [(2, ti2)]
theorem tk121 : TOk Tryz.prog tl121 := (.cons tok2 .nil)
@[reducible] def tl122 : List (TypeId × TI) := []
@[reducible] def tl123 : List (TypeId × TI) := [(2, ti2), (122, ti122)]
@[reducible] def tl124 : List (TypeId × TI) := [(2, ti2), (3, ti3), (55, ti55), (67, ti67)]
theorem tk124 : TOk Tryz.prog tl124 := (.cons tok2 (.cons tok3 (.cons tok55 (.cons tok67 .nil))))
@[reducible] def dt124 : DT := [(6, [])]
@[reducible] def tl125 : List (TypeId × TI) := [(3, ti3), (4, ti4), (42, ti42)]
@[reducible] def dt125 : DT := [(3, []), (5, []), (6, [])]
@[reducible] def tl126 : List (TypeId × TI) := [(3, ti3), (107, ti107)]
@[reducible] def tl127 : List (TypeId × TI) := [(156, ti156)]
@[reducible] def dt127 : DT := [(1, []), (2, []), (3, [])]
@[reducible] def tl128 : List (TypeId × TI) := [(3, ti3)]
@[reducible] def tl129 : List (TypeId × TI) := []
@[reducible] def tl130 : List (TypeId × TI) := [(3, ti3)]
@[reducible] def tl131 : List (TypeId × TI) := [(144, ti144), (164, ti164)]
theorem tk131 : TOk Tryz.prog tl131 := (.cons tok144 (.cons tok164 .nil))
@[reducible] def tl132 : List (TypeId × TI) := [(144, ti144), (164, ti164)]
theorem tk132 : TOk Tryz.prog tl132 := (.cons tok144 (.cons tok164 .nil))
@[reducible] def tl133 : List (TypeId × TI) := [(3, ti3)]
theorem tk133 : TOk Tryz.prog tl133 := (.cons tok3 .nil)
@[reducible] def tl134 : List (TypeId × TI) := [(2, ti2), (3, ti3), (55, ti55), (67, ti67)]
@[reducible] def tl135 : List (TypeId × TI) := [(2, ti2), (3, ti3), (42, ti42), (67, ti67)]
@[reducible] def dt135 : DT := [(1, [(4, 5), (4, 6), (4, 7), (4, 8), (4, 10), (9, 10), (4, 11), (9, 11), (4, 12), (9, 12), (4, 13), (9, 13)])]
@[reducible] def tl136 : List (TypeId × TI) := [(3, ti3)]
@[reducible] def tl137 : List (TypeId × TI) := [(2, ti2), (3, ti3), (122, ti122)]
@[reducible] def tl138 : List (TypeId × TI) := [(3, ti3), (42, ti42)]
@[reducible] def dt138 : DT := [(1, [])]
@[reducible] def tl139 : List (TypeId × TI) := [(3, ti3), (42, ti42)]
theorem tk139 : TOk Tryz.prog tl139 := (.cons tok3 (.cons tok42 .nil))
end Go.Proofs.YtlblpbahoblihaaGreat.Sy

/-
  The types of the seat's program: facts. Printed by gentypes2.py.
-/
import Derived.Test.YtpijibffjohikaaSyVa
import Derived.Test.YtpijibffjohikaaProg
import Derived.KernelRfl
set_option linter.unusedVariables false
set_option linter.unusedSimpArgs false
set_option linter.unusedSectionVars false
namespace Go.Proofs.Ytpijibffjohikaa.Sy
open Go Go.Sy Go.Proofs.Ytpijibffjohikaa
-- 0: Exception('tuple')
def ti2 : TI := { k := .int .i64, sz := 1, by_ := 8, zero := some [.i .i64 (.lit 0)], key := some (false, 1), zd := some (.i .i64 (.lit 0)) }
theorem tok2 : ti2.Ok Try.prog 2 := ⟨(by kernel_rfl), (by kernel_rfl), (by kernel_rfl), (fun z h c => by cases h; kernel_rfl), (fun z h => by cases h; kernel_rfl), (fun z h c => by cases h; kernel_rfl), (fun z h => by cases h)⟩
def ti3 : TI := { k := .int .i64, sz := 1, by_ := 8, zero := some [.i .i64 (.lit 0)], key := some (false, 1) }
theorem tok3 : ti3.Ok Try.prog 3 := ⟨(by kernel_rfl), (by kernel_rfl), (by kernel_rfl), (fun z h c => by cases h; kernel_rfl), (fun z h => by cases h; kernel_rfl), (fun z h => by cases h), (fun z h => by cases h)⟩
def ti4 : TI := { k := .bool, sz := 1, by_ := 1, zero := some [.b .f] }
theorem tok4 : ti4.Ok Try.prog 4 := ⟨(by kernel_rfl), (by kernel_rfl), (by kernel_rfl), (fun z h c => by cases h; kernel_rfl), (fun z h => by cases h), (fun z h => by cases h), (fun z h => by cases h)⟩
def ti5 : TI := { k := .int .u8, sz := 1, by_ := 1, zero := some [.i .u8 (.lit 0)] }
theorem tok5 : ti5.Ok Try.prog 5 := ⟨(by kernel_rfl), (by kernel_rfl), (by kernel_rfl), (fun z h c => by cases h; kernel_rfl), (fun z h => by cases h), (fun z h => by cases h), (fun z h => by cases h)⟩
def ti9 : TI := { k := .str, sz := 1, by_ := 16, zero := some [.v (.string ⟨#[]⟩)] }
theorem tok9 : ti9.Ok Try.prog 9 := ⟨(by kernel_rfl), (by kernel_rfl), (by kernel_rfl), (fun z h c => by cases h; kernel_rfl), (fun z h => by cases h), (fun z h => by cases h), (fun z h => by cases h)⟩
def ti22 : TI := { k := .arr 4 2, sz := 4, by_ := 32, zero := some [.i .i64 (.lit 0), .i .i64 (.lit 0), .i .i64 (.lit 0), .i .i64 (.lit 0)], flat := some [.int, .int, .int, .int] }
theorem tok22 : ti22.Ok Try.prog 22 := ⟨(by kernel_rfl), (by kernel_rfl), (by kernel_rfl), (fun z h c => by cases h; kernel_rfl), (fun z h => by cases h), (fun z h => by cases h), (fun z h => by cases h; kernel_rfl)⟩
def ti24 : TI := { k := .struct [(0, 2), (1, 2), (2, 2), (3, 2), (4, 3), (5, 22)], sz := 9, by_ := 72, zero := some [.i .i64 (.lit 0), .i .i64 (.lit 0), .i .i64 (.lit 0), .i .i64 (.lit 0), .i .i64 (.lit 0), .i .i64 (.lit 0), .i .i64 (.lit 0), .i .i64 (.lit 0), .i .i64 (.lit 0)], flat := some [.int, .int, .int, .int, .int, .int, .int, .int, .int] }
theorem tok24 : ti24.Ok Try.prog 24 := ⟨(by kernel_rfl), (by kernel_rfl), (by kernel_rfl), (fun z h c => by cases h; kernel_rfl), (fun z h => by cases h), (fun z h => by cases h), (fun z h => by cases h; kernel_rfl)⟩
def ti25 : TI := { k := .slice 42, sz := 1, by_ := 24, zero := some [.v (.slice none 0 0)] }
theorem tok25 : ti25.Ok Try.prog 25 := ⟨(by kernel_rfl), (by kernel_rfl), (by kernel_rfl), (fun z h c => by cases h; kernel_rfl), (fun z h => by cases h), (fun z h => by cases h), (fun z h => by cases h)⟩
def ti26 : TI := { k := .slice 48, sz := 1, by_ := 24, zero := some [.v (.slice none 0 0)] }
theorem tok26 : ti26.Ok Try.prog 26 := ⟨(by kernel_rfl), (by kernel_rfl), (by kernel_rfl), (fun z h c => by cases h; kernel_rfl), (fun z h => by cases h), (fun z h => by cases h), (fun z h => by cases h)⟩
def ti27 : TI := { k := .slice 58, sz := 1, by_ := 24, zero := some [.v (.slice none 0 0)] }
theorem tok27 : ti27.Ok Try.prog 27 := ⟨(by kernel_rfl), (by kernel_rfl), (by kernel_rfl), (fun z h c => by cases h; kernel_rfl), (fun z h => by cases h), (fun z h => by cases h), (fun z h => by cases h)⟩
def ti28 : TI := { k := .slice 83, sz := 1, by_ := 24, zero := some [.v (.slice none 0 0)] }
theorem tok28 : ti28.Ok Try.prog 28 := ⟨(by kernel_rfl), (by kernel_rfl), (by kernel_rfl), (fun z h c => by cases h; kernel_rfl), (fun z h => by cases h), (fun z h => by cases h), (fun z h => by cases h)⟩
def ti29 : TI := { k := .slice 87, sz := 1, by_ := 24, zero := some [.v (.slice none 0 0)] }
theorem tok29 : ti29.Ok Try.prog 29 := ⟨(by kernel_rfl), (by kernel_rfl), (by kernel_rfl), (fun z h c => by cases h; kernel_rfl), (fun z h => by cases h), (fun z h => by cases h), (fun z h => by cases h)⟩
def ti31 : TI := { k := .struct [(0, 24), (9, 2), (10, 2), (11, 25), (12, 26), (13, 27), (14, 28), (15, 29)], sz := 16, by_ := 208, zero := some [.i .i64 (.lit 0), .i .i64 (.lit 0), .i .i64 (.lit 0), .i .i64 (.lit 0), .i .i64 (.lit 0), .i .i64 (.lit 0), .i .i64 (.lit 0), .i .i64 (.lit 0), .i .i64 (.lit 0), .i .i64 (.lit 0), .i .i64 (.lit 0), .v (.slice none 0 0), .v (.slice none 0 0), .v (.slice none 0 0), .v (.slice none 0 0), .v (.slice none 0 0)] }
theorem tok31 : ti31.Ok Try.prog 31 := ⟨(by kernel_rfl), (by kernel_rfl), (by kernel_rfl), (fun z h c => by cases h; kernel_rfl), (fun z h => by cases h), (fun z h => by cases h), (fun z h => by cases h)⟩
-- 32: Exception('tuple')
def ti34 : TI := { k := .plain, sz := 1, by_ := 8, zero := some [.v .nilFunc] }
theorem tok34 : ti34.Ok Try.prog 34 := ⟨(by kernel_rfl), (by kernel_rfl), (by kernel_rfl), (fun z h c => by cases h; kernel_rfl), (fun z h => by cases h), (fun z h => by cases h), (fun z h => by cases h)⟩
def ti35 : TI := { k := .arr 4 2, sz := 4, by_ := 32, zero := some [.i .i64 (.lit 0), .i .i64 (.lit 0), .i .i64 (.lit 0), .i .i64 (.lit 0)], flat := some [.int, .int, .int, .int] }
theorem tok35 : ti35.Ok Try.prog 35 := ⟨(by kernel_rfl), (by kernel_rfl), (by kernel_rfl), (fun z h c => by cases h; kernel_rfl), (fun z h => by cases h), (fun z h => by cases h), (fun z h => by cases h; kernel_rfl)⟩
def ti36 : TI := { k := .slice 3, sz := 1, by_ := 24, zero := some [.v (.slice none 0 0)] }
theorem tok36 : ti36.Ok Try.prog 36 := ⟨(by kernel_rfl), (by kernel_rfl), (by kernel_rfl), (fun z h c => by cases h; kernel_rfl), (fun z h => by cases h), (fun z h => by cases h), (fun z h => by cases h)⟩
-- 38: Exception('tuple')
def ti42 : TI := { k := .struct [(0, 2), (1, 3), (2, 2), (3, 4), (4, 4), (5, 2), (6, 2)], sz := 7, by_ := 48, zero := some [.i .i64 (.lit 0), .i .i64 (.lit 0), .i .i64 (.lit 0), .b .f, .b .f, .i .i64 (.lit 0), .i .i64 (.lit 0)], flat := some [.int, .int, .int, .bool, .bool, .int, .int] }
theorem tok42 : ti42.Ok Try.prog 42 := ⟨(by kernel_rfl), (by kernel_rfl), (by kernel_rfl), (fun z h c => by cases h; kernel_rfl), (fun z h => by cases h), (fun z h => by cases h), (fun z h => by cases h; kernel_rfl)⟩
def ti46 : TI := { k := .slice 56, sz := 1, by_ := 24, zero := some [.v (.slice none 0 0)], zd := some (.v (.slice none 0 0)) }
theorem tok46 : ti46.Ok Try.prog 46 := ⟨(by kernel_rfl), (by kernel_rfl), (by kernel_rfl), (fun z h c => by cases h; kernel_rfl), (fun z h => by cases h), (fun z h c => by cases h; kernel_rfl), (fun z h => by cases h)⟩
def ti48 : TI := { k := .struct [(0, 2), (1, 46), (2, 46)], sz := 3, by_ := 56, zero := some [.i .i64 (.lit 0), .v (.slice none 0 0), .v (.slice none 0 0)] }
theorem tok48 : ti48.Ok Try.prog 48 := ⟨(by kernel_rfl), (by kernel_rfl), (by kernel_rfl), (fun z h c => by cases h; kernel_rfl), (fun z h => by cases h), (fun z h => by cases h), (fun z h => by cases h)⟩
def ti53 : TI := { k := .struct [(0, 31)], sz := 16, by_ := 208, zero := some [.i .i64 (.lit 0), .i .i64 (.lit 0), .i .i64 (.lit 0), .i .i64 (.lit 0), .i .i64 (.lit 0), .i .i64 (.lit 0), .i .i64 (.lit 0), .i .i64 (.lit 0), .i .i64 (.lit 0), .i .i64 (.lit 0), .i .i64 (.lit 0), .v (.slice none 0 0), .v (.slice none 0 0), .v (.slice none 0 0), .v (.slice none 0 0), .v (.slice none 0 0)] }
theorem tok53 : ti53.Ok Try.prog 53 := ⟨(by kernel_rfl), (by kernel_rfl), (by kernel_rfl), (fun z h c => by cases h; kernel_rfl), (fun z h => by cases h), (fun z h => by cases h), (fun z h => by cases h)⟩
def ti54 : TI := { k := .arr 8 34, sz := 8, by_ := 64, zero := some [.v .nilFunc, .v .nilFunc, .v .nilFunc, .v .nilFunc, .v .nilFunc, .v .nilFunc, .v .nilFunc, .v .nilFunc] }
theorem tok54 : ti54.Ok Try.prog 54 := ⟨(by kernel_rfl), (by kernel_rfl), (by kernel_rfl), (fun z h c => by cases h; kernel_rfl), (fun z h => by cases h), (fun z h => by cases h), (fun z h => by cases h)⟩
def ti56 : TI := { k := .struct [(0, 3), (1, 3), (2, 2)], sz := 3, by_ := 24, zero := some [.i .i64 (.lit 0), .i .i64 (.lit 0), .i .i64 (.lit 0)], flat := some [.int, .int, .int] }
theorem tok56 : ti56.Ok Try.prog 56 := ⟨(by kernel_rfl), (by kernel_rfl), (by kernel_rfl), (fun z h c => by cases h; kernel_rfl), (fun z h => by cases h), (fun z h => by cases h), (fun z h => by cases h; kernel_rfl)⟩
def ti58 : TI := { k := .struct [(0, 2), (1, 2), (2, 2), (3, 46), (4, 2)], sz := 5, by_ := 56, zero := some [.i .i64 (.lit 0), .i .i64 (.lit 0), .i .i64 (.lit 0), .v (.slice none 0 0), .i .i64 (.lit 0)] }
theorem tok58 : ti58.Ok Try.prog 58 := ⟨(by kernel_rfl), (by kernel_rfl), (by kernel_rfl), (fun z h c => by cases h; kernel_rfl), (fun z h => by cases h), (fun z h => by cases h), (fun z h => by cases h)⟩
def ti60 : TI := { k := .struct [(0, 2), (1, 2)], sz := 2, by_ := 16, zero := some [.i .i64 (.lit 0), .i .i64 (.lit 0)], flat := some [.int, .int] }
theorem tok60 : ti60.Ok Try.prog 60 := ⟨(by kernel_rfl), (by kernel_rfl), (by kernel_rfl), (fun z h c => by cases h; kernel_rfl), (fun z h => by cases h), (fun z h => by cases h), (fun z h => by cases h; kernel_rfl)⟩
def ti62 : TI := { k := .struct [(0, 60), (2, 2)], sz := 3, by_ := 24, zero := some [.i .i64 (.lit 0), .i .i64 (.lit 0), .i .i64 (.lit 0)], flat := some [.int, .int, .int] }
theorem tok62 : ti62.Ok Try.prog 62 := ⟨(by kernel_rfl), (by kernel_rfl), (by kernel_rfl), (fun z h c => by cases h; kernel_rfl), (fun z h => by cases h), (fun z h => by cases h), (fun z h => by cases h; kernel_rfl)⟩
-- 63: Exception('tuple')
-- 72: Exception('tuple')
def ti74 : TI := { k := .int .i64, sz := 1, by_ := 8, zero := some [.i .i64 (.lit 0)] }
theorem tok74 : ti74.Ok Try.prog 74 := ⟨(by kernel_rfl), (by kernel_rfl), (by kernel_rfl), (fun z h c => by cases h; kernel_rfl), (fun z h => by cases h), (fun z h => by cases h), (fun z h => by cases h)⟩
def ti76 : TI := { k := .map 3 2, sz := 1, by_ := 8, zero := some [.v (.map none)] }
theorem tok76 : ti76.Ok Try.prog 76 := ⟨(by kernel_rfl), (by kernel_rfl), (by kernel_rfl), (fun z h c => by cases h; kernel_rfl), (fun z h => by cases h), (fun z h => by cases h), (fun z h => by cases h)⟩
-- 77: Exception('tuple')
def ti79 : TI := { k := .slice 2, sz := 1, by_ := 24, zero := some [.v (.slice none 0 0)] }
theorem tok79 : ti79.Ok Try.prog 79 := ⟨(by kernel_rfl), (by kernel_rfl), (by kernel_rfl), (fun z h c => by cases h; kernel_rfl), (fun z h => by cases h), (fun z h => by cases h), (fun z h => by cases h)⟩
-- 80: Exception('tuple')
def ti83 : TI := { k := .struct [(0, 2), (1, 2), (2, 2), (3, 46)], sz := 4, by_ := 48, zero := some [.i .i64 (.lit 0), .i .i64 (.lit 0), .i .i64 (.lit 0), .v (.slice none 0 0)] }
theorem tok83 : ti83.Ok Try.prog 83 := ⟨(by kernel_rfl), (by kernel_rfl), (by kernel_rfl), (fun z h c => by cases h; kernel_rfl), (fun z h => by cases h), (fun z h => by cases h), (fun z h => by cases h)⟩
def ti87 : TI := { k := .struct [(0, 2), (1, 2), (2, 2), (3, 46)], sz := 4, by_ := 48, zero := some [.i .i64 (.lit 0), .i .i64 (.lit 0), .i .i64 (.lit 0), .v (.slice none 0 0)] }
theorem tok87 : ti87.Ok Try.prog 87 := ⟨(by kernel_rfl), (by kernel_rfl), (by kernel_rfl), (fun z h c => by cases h; kernel_rfl), (fun z h => by cases h), (fun z h => by cases h), (fun z h => by cases h)⟩
def ti89 : TI := { k := .map 2 46, sz := 1, by_ := 8, zero := some [.v (.map none)] }
theorem tok89 : ti89.Ok Try.prog 89 := ⟨(by kernel_rfl), (by kernel_rfl), (by kernel_rfl), (fun z h c => by cases h; kernel_rfl), (fun z h => by cases h), (fun z h => by cases h), (fun z h => by cases h)⟩
def ti103 : TI := { k := .int .u64, sz := 1, by_ := 8, zero := some [.i .u64 (.lit 0)] }
def ti106 : TI := { k := .struct [(0, 3), (1, 3)], sz := 2, by_ := 16, zero := some [.i .i64 (.lit 0), .i .i64 (.lit 0)], flat := some [.int, .int] }
theorem tok106 : ti106.Ok Try.prog 106 := ⟨(by kernel_rfl), (by kernel_rfl), (by kernel_rfl), (fun z h c => by cases h; kernel_rfl), (fun z h => by cases h), (fun z h => by cases h), (fun z h => by cases h; kernel_rfl)⟩
-- 114: Exception('tuple')
def ti117 : TI := { k := .slice 5, sz := 1, by_ := 24, zero := some [.v (.slice none 0 0)] }
theorem tok117 : ti117.Ok Try.prog 117 := ⟨(by kernel_rfl), (by kernel_rfl), (by kernel_rfl), (fun z h c => by cases h; kernel_rfl), (fun z h => by cases h), (fun z h => by cases h), (fun z h => by cases h)⟩
def ti119 : TI := { k := .int .i64, sz := 1, by_ := 8, zero := some [.i .i64 (.lit 0)] }
-- 120: Exception('tuple')
def ti127 : TI := { k := .int .u32, sz := 1, by_ := 4, zero := some [.i .u32 (.lit 0)] }
def ti129 : TI := { k := .int .u64, sz := 1, by_ := 8, zero := some [.i .u64 (.lit 0)] }
theorem tok129 : ti129.Ok Try.prog 129 := ⟨(by kernel_rfl), (by kernel_rfl), (by kernel_rfl), (fun z h c => by cases h; kernel_rfl), (fun z h => by cases h), (fun z h => by cases h), (fun z h => by cases h)⟩
def ti136 : TI := { k := .arr 20 5, sz := 20, by_ := 20, zero := some [.i .u8 (.lit 0), .i .u8 (.lit 0), .i .u8 (.lit 0), .i .u8 (.lit 0), .i .u8 (.lit 0), .i .u8 (.lit 0), .i .u8 (.lit 0), .i .u8 (.lit 0), .i .u8 (.lit 0), .i .u8 (.lit 0), .i .u8 (.lit 0), .i .u8 (.lit 0), .i .u8 (.lit 0), .i .u8 (.lit 0), .i .u8 (.lit 0), .i .u8 (.lit 0), .i .u8 (.lit 0), .i .u8 (.lit 0), .i .u8 (.lit 0), .i .u8 (.lit 0)], flat := some [.int, .int, .int, .int, .int, .int, .int, .int, .int, .int, .int, .int, .int, .int, .int, .int, .int, .int, .int, .int] }
theorem tok136 : ti136.Ok Try.prog 136 := ⟨(by kernel_rfl), (by kernel_rfl), (by kernel_rfl), (fun z h c => by cases h; kernel_rfl), (fun z h => by cases h), (fun z h => by cases h), (fun z h => by cases h; kernel_rfl)⟩
def ti137 : TI := { k := .int .u64, sz := 1, by_ := 8, zero := some [.i .u64 (.lit 0)] }
def ti146 : TI := { k := .struct [(0, 129), (1, 129)], sz := 2, by_ := 16, zero := some [.i .u64 (.lit 0), .i .u64 (.lit 0)], flat := some [.int, .int] }
theorem tok146 : ti146.Ok Try.prog 146 := ⟨(by kernel_rfl), (by kernel_rfl), (by kernel_rfl), (fun z h c => by cases h; kernel_rfl), (fun z h => by cases h), (fun z h => by cases h), (fun z h => by cases h; kernel_rfl)⟩
-- 150: Exception('tuple')
theorem mixed : Try.prog.follows .mixedOrders = true := by kernel_rfl
theorem fn4 : FnOk Try.prog 4 := ⟨_, Try.func4, rfl, rfl⟩
theorem fn5 : FnOk Try.prog 5 := ⟨_, Try.func5, rfl, rfl⟩
theorem fn6 : FnOk Try.prog 6 := ⟨_, Try.func6, rfl, rfl⟩
theorem fn7 : FnOk Try.prog 7 := ⟨_, Try.func7, rfl, rfl⟩
theorem fn8 : FnOk Try.prog 8 := ⟨_, Try.func8, rfl, rfl⟩
theorem fn9 : FnOk Try.prog 9 := ⟨_, Try.func9, rfl, rfl⟩
theorem fn10 : FnOk Try.prog 10 := ⟨_, Try.func10, rfl, rfl⟩
theorem fn11 : FnOk Try.prog 11 := ⟨_, Try.func11, rfl, rfl⟩
theorem fn12 : FnOk Try.prog 12 := ⟨_, Try.func12, rfl, rfl⟩
theorem fn13 : FnOk Try.prog 13 := ⟨_, Try.func13, rfl, rfl⟩
theorem fn14 : FnOk Try.prog 14 := ⟨_, Try.func14, rfl, rfl⟩
theorem fn15 : FnOk Try.prog 15 := ⟨_, Try.func15, rfl, rfl⟩
theorem fn16 : FnOk Try.prog 16 := ⟨_, Try.func16, rfl, rfl⟩
theorem fn17 : FnOk Try.prog 17 := ⟨_, Try.func17, rfl, rfl⟩
theorem fn18 : FnOk Try.prog 18 := ⟨_, Try.func18, rfl, rfl⟩
theorem fn19 : FnOk Try.prog 19 := ⟨_, Try.func19, rfl, rfl⟩
theorem fn20 : FnOk Try.prog 20 := ⟨_, Try.func20, rfl, rfl⟩
theorem fn21 : FnOk Try.prog 21 := ⟨_, Try.func21, rfl, rfl⟩
theorem fn22 : FnOk Try.prog 22 := ⟨_, Try.func22, rfl, rfl⟩
theorem fn23 : FnOk Try.prog 23 := ⟨_, Try.func23, rfl, rfl⟩
theorem fn24 : FnOk Try.prog 24 := ⟨_, Try.func24, rfl, rfl⟩
theorem fn25 : FnOk Try.prog 25 := ⟨_, Try.func25, rfl, rfl⟩
theorem fn26 : FnOk Try.prog 26 := ⟨_, Try.func26, rfl, rfl⟩
theorem fn27 : FnOk Try.prog 27 := ⟨_, Try.func27, rfl, rfl⟩
theorem fn28 : FnOk Try.prog 28 := ⟨_, Try.func28, rfl, rfl⟩
theorem fn29 : FnOk Try.prog 29 := ⟨_, Try.func29, rfl, rfl⟩
theorem fn30 : FnOk Try.prog 30 := ⟨_, Try.func30, rfl, rfl⟩
theorem fn31 : FnOk Try.prog 31 := ⟨_, Try.func31, rfl, rfl⟩
theorem fn32 : FnOk Try.prog 32 := ⟨_, Try.func32, rfl, rfl⟩
theorem fn33 : FnOk Try.prog 33 := ⟨_, Try.func33, rfl, rfl⟩
theorem fn34 : FnOk Try.prog 34 := ⟨_, Try.func34, rfl, rfl⟩
theorem fn35 : FnOk Try.prog 35 := ⟨_, Try.func35, rfl, rfl⟩
theorem fn36 : FnOk Try.prog 36 := ⟨_, Try.func36, rfl, rfl⟩
theorem fn37 : FnOk Try.prog 37 := ⟨_, Try.func37, rfl, rfl⟩
theorem fn38 : FnOk Try.prog 38 := ⟨_, Try.func38, rfl, rfl⟩
theorem fn39 : FnOk Try.prog 39 := ⟨_, Try.func39, rfl, rfl⟩
theorem fn40 : FnOk Try.prog 40 := ⟨_, Try.func40, rfl, rfl⟩
theorem fn41 : FnOk Try.prog 41 := ⟨_, Try.func41, rfl, rfl⟩
theorem fn42 : FnOk Try.prog 42 := ⟨_, Try.func42, rfl, rfl⟩
theorem fn43 : FnOk Try.prog 43 := ⟨_, Try.func43, rfl, rfl⟩
theorem fn44 : FnOk Try.prog 44 := ⟨_, Try.func44, rfl, rfl⟩
theorem fn45 : FnOk Try.prog 45 := ⟨_, Try.func45, rfl, rfl⟩
theorem fn46 : FnOk Try.prog 46 := ⟨_, Try.func46, rfl, rfl⟩
theorem fn47 : FnOk Try.prog 47 := ⟨_, Try.func47, rfl, rfl⟩
theorem fn48 : FnOk Try.prog 48 := ⟨_, Try.func48, rfl, rfl⟩
theorem fn49 : FnOk Try.prog 49 := ⟨_, Try.func49, rfl, rfl⟩
theorem fn50 : FnOk Try.prog 50 := ⟨_, Try.func50, rfl, rfl⟩
theorem fn51 : FnOk Try.prog 51 := ⟨_, Try.func51, rfl, rfl⟩
theorem fn52 : FnOk Try.prog 52 := ⟨_, Try.func52, rfl, rfl⟩
theorem fn53 : FnOk Try.prog 53 := ⟨_, Try.func53, rfl, rfl⟩
theorem fn54 : FnOk Try.prog 54 := ⟨_, Try.func54, rfl, rfl⟩
theorem fn55 : FnOk Try.prog 55 := ⟨_, Try.func55, rfl, rfl⟩
theorem fn56 : FnOk Try.prog 56 := ⟨_, Try.func56, rfl, rfl⟩
theorem fn59 : FnOk Try.prog 59 := ⟨_, Try.func59, rfl, rfl⟩
theorem fn60 : FnOk Try.prog 60 := ⟨_, Try.func60, rfl, rfl⟩
theorem fn61 : FnOk Try.prog 61 := ⟨_, Try.func61, rfl, rfl⟩
theorem fn62 : FnOk Try.prog 62 := ⟨_, Try.func62, rfl, rfl⟩
theorem fn63 : FnOk Try.prog 63 := ⟨_, Try.func63, rfl, rfl⟩
theorem fn64 : FnOk Try.prog 64 := ⟨_, Try.func64, rfl, rfl⟩
theorem fn65 : FnOk Try.prog 65 := ⟨_, Try.func65, rfl, rfl⟩
theorem fn66 : FnOk Try.prog 66 := ⟨_, Try.func66, rfl, rfl⟩
theorem fn67 : FnOk Try.prog 67 := ⟨_, Try.func67, rfl, rfl⟩
theorem fn68 : FnOk Try.prog 68 := ⟨_, Try.func68, rfl, rfl⟩
theorem fn69 : FnOk Try.prog 69 := ⟨_, Try.func69, rfl, rfl⟩
theorem fn70 : FnOk Try.prog 70 := ⟨_, Try.func70, rfl, rfl⟩
theorem fn71 : FnOk Try.prog 71 := ⟨_, Try.func71, rfl, rfl⟩
theorem fn72 : FnOk Try.prog 72 := ⟨_, Try.func72, rfl, rfl⟩
theorem fn73 : FnOk Try.prog 73 := ⟨_, Try.func73, rfl, rfl⟩
theorem fn85 : FnOk Try.prog 85 := ⟨_, Try.func85, rfl, rfl⟩
theorem fn86 : FnOk Try.prog 86 := ⟨_, Try.func86, rfl, rfl⟩
theorem fn87 : FnOk Try.prog 87 := ⟨_, Try.func87, rfl, rfl⟩
theorem fn88 : FnOk Try.prog 88 := ⟨_, Try.func88, rfl, rfl⟩
theorem fn89 : FnOk Try.prog 89 := ⟨_, Try.func89, rfl, rfl⟩
theorem fn90 : FnOk Try.prog 90 := ⟨_, Try.func90, rfl, rfl⟩
theorem fn96 : FnOk Try.prog 96 := ⟨_, Try.func96, rfl, rfl⟩
theorem fn97 : FnOk Try.prog 97 := ⟨_, Try.func97, rfl, rfl⟩
theorem fn98 : FnOk Try.prog 98 := ⟨_, Try.func98, rfl, rfl⟩
theorem fn99 : FnOk Try.prog 99 := ⟨_, Try.func99, rfl, rfl⟩
@[reducible] def tl2 : List (TypeId × TI) := []
@[reducible] def tl3 : List (TypeId × TI) := [(2, ti2), (3, ti3), (4, ti4), (24, ti24), (25, ti25), (26, ti26), (27, ti27), (28, ti28), (29, ti29), (31, ti31), (35, ti35), (36, ti36), (42, ti42), (46, ti46), (48, ti48), (56, ti56), (58, ti58), (83, ti83)]
theorem tk3 : TOk Try.prog tl3 := (.cons tok2 (.cons tok3 (.cons tok4 (.cons tok24 (.cons tok25 (.cons tok26 (.cons tok27 (.cons tok28 (.cons tok29 (.cons tok31 (.cons tok35 (.cons tok36 (.cons tok42 (.cons tok46 (.cons tok48 (.cons tok56 (.cons tok58 (.cons tok83 .nil))))))))))))))))))
@[reducible] def dt3 : DT := [(11, [(0, 6), (0, 11), (1, 11), (4, 11), (5, 11), (6, 11), (7, 11)]), (18, [(7, 8), (7, 9), (7, 10), (7, 12), (7, 13), (7, 14)]), (23, [(0, 7), (0, 12), (1, 12), (2, 12), (4, 12), (5, 12), (6, 12), (7, 12), (8, 12)]), (24, []), (27, [(0, 2)])]
@[reducible] def tl4 : List (TypeId × TI) := [(2, ti2), (3, ti3), (4, ti4), (24, ti24), (25, ti25), (26, ti26), (27, ti27), (28, ti28), (29, ti29), (31, ti31), (34, ti34), (53, ti53), (54, ti54)]
theorem tk4 : TOk Try.prog tl4 := (.cons tok2 (.cons tok3 (.cons tok4 (.cons tok24 (.cons tok25 (.cons tok26 (.cons tok27 (.cons tok28 (.cons tok29 (.cons tok31 (.cons tok34 (.cons tok53 (.cons tok54 .nil)))))))))))))
@[reducible] def tl5 : List (TypeId × TI) := [(2, ti2), (3, ti3), (4, ti4), (9, ti9), (22, ti22), (24, ti24), (25, ti25), (26, ti26), (27, ti27), (28, ti28), (29, ti29), (31, ti31), (42, ti42), (46, ti46), (48, ti48), (56, ti56), (58, ti58), (60, ti60), (62, ti62)]
theorem tk5 : TOk Try.prog tl5 := (.cons tok2 (.cons tok3 (.cons tok4 (.cons tok9 (.cons tok22 (.cons tok24 (.cons tok25 (.cons tok26 (.cons tok27 (.cons tok28 (.cons tok29 (.cons tok31 (.cons tok42 (.cons tok46 (.cons tok48 (.cons tok56 (.cons tok58 (.cons tok60 (.cons tok62 .nil)))))))))))))))))))
@[reducible] def tl6 : List (TypeId × TI) := [(2, ti2), (3, ti3), (4, ti4), (24, ti24), (25, ti25), (26, ti26), (27, ti27), (28, ti28), (29, ti29), (31, ti31), (36, ti36), (42, ti42)]
theorem tk6 : TOk Try.prog tl6 := (.cons tok2 (.cons tok3 (.cons tok4 (.cons tok24 (.cons tok25 (.cons tok26 (.cons tok27 (.cons tok28 (.cons tok29 (.cons tok31 (.cons tok36 (.cons tok42 .nil))))))))))))
@[reducible] def tl7 : List (TypeId × TI) := [(2, ti2), (3, ti3), (4, ti4), (35, ti35)]
theorem tk7 : TOk Try.prog tl7 := (.cons tok2 (.cons tok3 (.cons tok4 (.cons tok35 .nil))))
@[reducible] def dt7 : DT := [(6, [])]
@[reducible] def tl8 : List (TypeId × TI) := [(2, ti2), (3, ti3), (24, ti24), (25, ti25), (26, ti26), (27, ti27), (28, ti28), (29, ti29), (31, ti31), (35, ti35)]
theorem tk8 : TOk Try.prog tl8 := (.cons tok2 (.cons tok3 (.cons tok24 (.cons tok25 (.cons tok26 (.cons tok27 (.cons tok28 (.cons tok29 (.cons tok31 (.cons tok35 .nil))))))))))
@[reducible] def tl9 : List (TypeId × TI) := [(2, ti2), (3, ti3), (35, ti35)]
theorem tk9 : TOk Try.prog tl9 := (.cons tok2 (.cons tok3 (.cons tok35 .nil)))
@[reducible] def dt9 : DT := [(4, [])]
@[reducible] def tl10 : List (TypeId × TI) := [(2, ti2), (24, ti24), (25, ti25), (26, ti26), (27, ti27), (28, ti28), (29, ti29), (31, ti31), (35, ti35)]
theorem tk10 : TOk Try.prog tl10 := (.cons tok2 (.cons tok24 (.cons tok25 (.cons tok26 (.cons tok27 (.cons tok28 (.cons tok29 (.cons tok31 (.cons tok35 .nil)))))))))
@[reducible] def tl11 : List (TypeId × TI) := [(2, ti2), (3, ti3), (4, ti4), (35, ti35), (46, ti46), (56, ti56)]
theorem tk11 : TOk Try.prog tl11 := (.cons tok2 (.cons tok3 (.cons tok4 (.cons tok35 (.cons tok46 (.cons tok56 .nil))))))
@[reducible] def dt11 : DT := [(7, [])]
@[reducible] def tl12 : List (TypeId × TI) := []
theorem tk12 : TOk Try.prog tl12 := .nil
@[reducible] def tl13 : List (TypeId × TI) := [(2, ti2), (3, ti3), (24, ti24), (25, ti25), (26, ti26), (27, ti27), (28, ti28), (29, ti29), (31, ti31), (35, ti35), (46, ti46), (48, ti48), (56, ti56)]
theorem tk13 : TOk Try.prog tl13 := (.cons tok2 (.cons tok3 (.cons tok24 (.cons tok25 (.cons tok26 (.cons tok27 (.cons tok28 (.cons tok29 (.cons tok31 (.cons tok35 (.cons tok46 (.cons tok48 (.cons tok56 .nil)))))))))))))
@[reducible] def dt13 : DT := [(5, [(0, 3)])]
@[reducible] def tl14 : List (TypeId × TI) := [(2, ti2), (3, ti3), (22, ti22), (24, ti24), (25, ti25), (26, ti26), (27, ti27), (28, ti28), (29, ti29), (31, ti31), (53, ti53), (74, ti74)]
theorem tk14 : TOk Try.prog tl14 := (.cons tok2 (.cons tok3 (.cons tok22 (.cons tok24 (.cons tok25 (.cons tok26 (.cons tok27 (.cons tok28 (.cons tok29 (.cons tok31 (.cons tok53 (.cons tok74 .nil))))))))))))
@[reducible] def tl15 : List (TypeId × TI) := [(2, ti2), (3, ti3), (4, ti4), (22, ti22), (24, ti24), (25, ti25), (26, ti26), (27, ti27), (28, ti28), (29, ti29), (31, ti31), (42, ti42), (53, ti53), (76, ti76)]
theorem tk15 : TOk Try.prog tl15 := (.cons tok2 (.cons tok3 (.cons tok4 (.cons tok22 (.cons tok24 (.cons tok25 (.cons tok26 (.cons tok27 (.cons tok28 (.cons tok29 (.cons tok31 (.cons tok42 (.cons tok53 (.cons tok76 .nil))))))))))))))
@[reducible] def dt15 : DT := [(5, [])]
@[reducible] def tl16 : List (TypeId × TI) := [(2, ti2), (3, ti3), (4, ti4), (22, ti22), (24, ti24), (25, ti25), (26, ti26), (27, ti27), (28, ti28), (29, ti29), (31, ti31), (46, ti46), (48, ti48), (53, ti53), (56, ti56)]
theorem tk16 : TOk Try.prog tl16 := (.cons tok2 (.cons tok3 (.cons tok4 (.cons tok22 (.cons tok24 (.cons tok25 (.cons tok26 (.cons tok27 (.cons tok28 (.cons tok29 (.cons tok31 (.cons tok46 (.cons tok48 (.cons tok53 (.cons tok56 .nil)))))))))))))))
@[reducible] def dt16 : DT := [(4, [])]
@[reducible] def tl17 : List (TypeId × TI) := [(2, ti2), (3, ti3), (4, ti4), (22, ti22), (24, ti24), (25, ti25), (26, ti26), (27, ti27), (28, ti28), (29, ti29), (31, ti31), (35, ti35), (46, ti46), (48, ti48), (53, ti53), (56, ti56)]
theorem tk17 : TOk Try.prog tl17 := (.cons tok2 (.cons tok3 (.cons tok4 (.cons tok22 (.cons tok24 (.cons tok25 (.cons tok26 (.cons tok27 (.cons tok28 (.cons tok29 (.cons tok31 (.cons tok35 (.cons tok46 (.cons tok48 (.cons tok53 (.cons tok56 .nil))))))))))))))))
@[reducible] def dt17 : DT := [(5, [(0, 3), (0, 8), (1, 8), (2, 8), (3, 8), (4, 8)]), (6, [(3, 5), (4, 5), (3, 6), (4, 6), (3, 7), (4, 7), (3, 8), (4, 8)])]
@[reducible] def tl18 : List (TypeId × TI) := [(2, ti2), (3, ti3), (4, ti4), (22, ti22), (24, ti24), (25, ti25), (26, ti26), (27, ti27), (28, ti28), (29, ti29), (31, ti31), (42, ti42), (46, ti46), (53, ti53), (56, ti56), (58, ti58)]
theorem tk18 : TOk Try.prog tl18 := (.cons tok2 (.cons tok3 (.cons tok4 (.cons tok22 (.cons tok24 (.cons tok25 (.cons tok26 (.cons tok27 (.cons tok28 (.cons tok29 (.cons tok31 (.cons tok42 (.cons tok46 (.cons tok53 (.cons tok56 (.cons tok58 .nil))))))))))))))))
@[reducible] def dt18 : DT := [(5, [])]
@[reducible] def tl19 : List (TypeId × TI) := [(2, ti2), (3, ti3), (4, ti4), (22, ti22), (24, ti24), (25, ti25), (26, ti26), (27, ti27), (28, ti28), (29, ti29), (31, ti31), (36, ti36), (42, ti42), (46, ti46), (53, ti53), (56, ti56), (83, ti83)]
theorem tk19 : TOk Try.prog tl19 := (.cons tok2 (.cons tok3 (.cons tok4 (.cons tok22 (.cons tok24 (.cons tok25 (.cons tok26 (.cons tok27 (.cons tok28 (.cons tok29 (.cons tok31 (.cons tok36 (.cons tok42 (.cons tok46 (.cons tok53 (.cons tok56 (.cons tok83 .nil)))))))))))))))))
@[reducible] def dt19 : DT := [(7, [(13, 14), (13, 15), (13, 16), (13, 19), (13, 20), (13, 21), (13, 22), (13, 23)])]
@[reducible] def tl20 : List (TypeId × TI) := [(2, ti2), (3, ti3), (4, ti4), (22, ti22), (24, ti24), (25, ti25), (26, ti26), (27, ti27), (28, ti28), (29, ti29), (31, ti31), (46, ti46), (53, ti53), (56, ti56), (87, ti87)]
theorem tk20 : TOk Try.prog tl20 := (.cons tok2 (.cons tok3 (.cons tok4 (.cons tok22 (.cons tok24 (.cons tok25 (.cons tok26 (.cons tok27 (.cons tok28 (.cons tok29 (.cons tok31 (.cons tok46 (.cons tok53 (.cons tok56 (.cons tok87 .nil)))))))))))))))
@[reducible] def dt20 : DT := [(6, [])]
@[reducible] def tl21 : List (TypeId × TI) := [(2, ti2), (3, ti3), (4, ti4), (24, ti24), (25, ti25), (26, ti26), (27, ti27), (28, ti28), (29, ti29), (31, ti31), (46, ti46), (48, ti48), (53, ti53), (56, ti56), (58, ti58), (83, ti83), (89, ti89)]
theorem tk21 : TOk Try.prog tl21 := (.cons tok2 (.cons tok3 (.cons tok4 (.cons tok24 (.cons tok25 (.cons tok26 (.cons tok27 (.cons tok28 (.cons tok29 (.cons tok31 (.cons tok46 (.cons tok48 (.cons tok53 (.cons tok56 (.cons tok58 (.cons tok83 (.cons tok89 .nil)))))))))))))))))
@[reducible] def tl22 : List (TypeId × TI) := [(2, ti2), (3, ti3), (4, ti4), (24, ti24), (25, ti25), (26, ti26), (27, ti27), (28, ti28), (29, ti29), (31, ti31), (42, ti42), (60, ti60), (62, ti62)]
theorem tk22 : TOk Try.prog tl22 := (.cons tok2 (.cons tok3 (.cons tok4 (.cons tok24 (.cons tok25 (.cons tok26 (.cons tok27 (.cons tok28 (.cons tok29 (.cons tok31 (.cons tok42 (.cons tok60 (.cons tok62 .nil)))))))))))))
@[reducible] def dt22 : DT := [(4, [(2, 3), (2, 5), (4, 5), (2, 6), (4, 6), (2, 8), (4, 8), (2, 9), (4, 9), (2, 10), (4, 10)])]
@[reducible] def tl23 : List (TypeId × TI) := [(2, ti2), (4, ti4), (9, ti9), (60, ti60), (62, ti62)]
theorem tk23 : TOk Try.prog tl23 := (.cons tok2 (.cons tok4 (.cons tok9 (.cons tok60 (.cons tok62 .nil)))))
@[reducible] def dt23 : DT := [(3, [(2, 4), (2, 5)])]
@[reducible] def tl24 : List (TypeId × TI) := [(2, ti2), (24, ti24), (25, ti25), (26, ti26), (27, ti27), (28, ti28), (29, ti29), (31, ti31), (58, ti58)]
theorem tk24 : TOk Try.prog tl24 := (.cons tok2 (.cons tok24 (.cons tok25 (.cons tok26 (.cons tok27 (.cons tok28 (.cons tok29 (.cons tok31 (.cons tok58 .nil)))))))))
@[reducible] def tl25 : List (TypeId × TI) := [(2, ti2), (24, ti24), (25, ti25), (26, ti26), (27, ti27), (28, ti28), (29, ti29), (31, ti31), (48, ti48)]
theorem tk25 : TOk Try.prog tl25 := (.cons tok2 (.cons tok24 (.cons tok25 (.cons tok26 (.cons tok27 (.cons tok28 (.cons tok29 (.cons tok31 (.cons tok48 .nil)))))))))
@[reducible] def tl26 : List (TypeId × TI) := [(3, ti3), (36, ti36), (103, ti103)]
@[reducible] def tl27 : List (TypeId × TI) := [(3, ti3), (36, ti36)]
@[reducible] def dt27 : DT := [(6, []), (11, [])]
@[reducible] def tl28 : List (TypeId × TI) := [(2, ti2), (3, ti3), (35, ti35)]
theorem tk28 : TOk Try.prog tl28 := (.cons tok2 (.cons tok3 (.cons tok35 .nil)))
@[reducible] def tl29 : List (TypeId × TI) := [(2, ti2), (3, ti3), (24, ti24), (25, ti25), (26, ti26), (27, ti27), (28, ti28), (29, ti29), (31, ti31), (35, ti35), (46, ti46), (56, ti56), (58, ti58), (83, ti83)]
theorem tk29 : TOk Try.prog tl29 := (.cons tok2 (.cons tok3 (.cons tok24 (.cons tok25 (.cons tok26 (.cons tok27 (.cons tok28 (.cons tok29 (.cons tok31 (.cons tok35 (.cons tok46 (.cons tok56 (.cons tok58 (.cons tok83 .nil))))))))))))))
@[reducible] def dt29 : DT := [(6, [(0, 3)]), (12, [(0, 3)])]
@[reducible] def tl30 : List (TypeId × TI) := [(2, ti2), (3, ti3), (4, ti4), (24, ti24), (25, ti25), (26, ti26), (27, ti27), (28, ti28), (29, ti29), (31, ti31), (42, ti42)]
theorem tk30 : TOk Try.prog tl30 := (.cons tok2 (.cons tok3 (.cons tok4 (.cons tok24 (.cons tok25 (.cons tok26 (.cons tok27 (.cons tok28 (.cons tok29 (.cons tok31 (.cons tok42 .nil)))))))))))
@[reducible] def dt30 : DT := [(2, [])]
@[reducible] def tl31 : List (TypeId × TI) := [(2, ti2), (24, ti24), (25, ti25), (26, ti26), (27, ti27), (28, ti28), (29, ti29), (31, ti31), (42, ti42)]
theorem tk31 : TOk Try.prog tl31 := (.cons tok2 (.cons tok24 (.cons tok25 (.cons tok26 (.cons tok27 (.cons tok28 (.cons tok29 (.cons tok31 (.cons tok42 .nil)))))))))
@[reducible] def tl32 : List (TypeId × TI) := [(2, ti2)]
theorem tk32 : TOk Try.prog tl32 := (.cons tok2 .nil)
@[reducible] def tl33 : List (TypeId × TI) := [(2, ti2), (3, ti3), (4, ti4), (46, ti46), (56, ti56)]
theorem tk33 : TOk Try.prog tl33 := (.cons tok2 (.cons tok3 (.cons tok4 (.cons tok46 (.cons tok56 .nil)))))
@[reducible] def dt33 : DT := [(4, [(24, 25)])]
@[reducible] def tl34 : List (TypeId × TI) := [(2, ti2), (3, ti3), (4, ti4), (46, ti46), (56, ti56), (106, ti106)]
theorem tk34 : TOk Try.prog tl34 := (.cons tok2 (.cons tok3 (.cons tok4 (.cons tok46 (.cons tok56 (.cons tok106 .nil))))))
@[reducible] def dt34 : DT := [(7, [(7, 8)]), (8, []), (11, [(2, 3), (2, 4)])]
@[reducible] def tl35 : List (TypeId × TI) := [(2, ti2), (3, ti3), (4, ti4), (22, ti22), (24, ti24)]
theorem tk35 : TOk Try.prog tl35 := (.cons tok2 (.cons tok3 (.cons tok4 (.cons tok22 (.cons tok24 .nil)))))
@[reducible] def tl36 : List (TypeId × TI) := [(2, ti2)]
theorem tk36 : TOk Try.prog tl36 := (.cons tok2 .nil)
@[reducible] def tl37 : List (TypeId × TI) := [(2, ti2), (3, ti3), (79, ti79)]
theorem tk37 : TOk Try.prog tl37 := (.cons tok2 (.cons tok3 (.cons tok79 .nil)))
@[reducible] def tl38 : List (TypeId × TI) := [(2, ti2), (3, ti3), (4, ti4), (24, ti24), (25, ti25), (26, ti26), (27, ti27), (28, ti28), (29, ti29), (31, ti31), (36, ti36), (42, ti42), (46, ti46), (53, ti53), (56, ti56)]
theorem tk38 : TOk Try.prog tl38 := (.cons tok2 (.cons tok3 (.cons tok4 (.cons tok24 (.cons tok25 (.cons tok26 (.cons tok27 (.cons tok28 (.cons tok29 (.cons tok31 (.cons tok36 (.cons tok42 (.cons tok46 (.cons tok53 (.cons tok56 .nil)))))))))))))))
@[reducible] def dt38 : DT := [(5, [(0, 4), (0, 5), (4, 8), (5, 8), (6, 10), (8, 10)])]
@[reducible] def tl39 : List (TypeId × TI) := [(3, ti3), (36, ti36)]
theorem tk39 : TOk Try.prog tl39 := (.cons tok3 (.cons tok36 .nil))
@[reducible] def tl40 : List (TypeId × TI) := [(2, ti2)]
theorem tk40 : TOk Try.prog tl40 := (.cons tok2 .nil)
@[reducible] def tl41 : List (TypeId × TI) := [(2, ti2), (3, ti3), (36, ti36), (46, ti46), (56, ti56), (87, ti87)]
theorem tk41 : TOk Try.prog tl41 := (.cons tok2 (.cons tok3 (.cons tok36 (.cons tok46 (.cons tok56 (.cons tok87 .nil))))))
@[reducible] def dt41 : DT := [(1, [(4, 5), (4, 6), (4, 7), (4, 8), (4, 10), (9, 10), (4, 11), (9, 11), (4, 12), (9, 12), (4, 13), (9, 13), (4, 15), (9, 15), (14, 15), (4, 16), (9, 16), (14, 16), (4, 17), (9, 17), (14, 17), (4, 18), (9, 18), (14, 18)])]
@[reducible] def tl42 : List (TypeId × TI) := [(2, ti2), (4, ti4), (46, ti46), (89, ti89)]
theorem tk42 : TOk Try.prog tl42 := (.cons tok2 (.cons tok4 (.cons tok46 (.cons tok89 .nil))))
@[reducible] def tl43 : List (TypeId × TI) := [(2, ti2), (3, ti3), (4, ti4), (46, ti46), (56, ti56)]
theorem tk43 : TOk Try.prog tl43 := (.cons tok2 (.cons tok3 (.cons tok4 (.cons tok46 (.cons tok56 .nil)))))
@[reducible] def dt43 : DT := [(5, [(11, 13), (11, 14)]), (6, [(2, 7), (3, 7), (4, 7), (5, 7)]), (7, [(7, 9), (7, 10)]), (8, [(2, 7), (3, 7), (4, 7), (5, 7)]), (10, []), (14, [(1, 5), (2, 5), (3, 5), (1, 7), (2, 7), (3, 7), (5, 7)])]
@[reducible] def tl44 : List (TypeId × TI) := [(3, ti3)]
theorem tk44 : TOk Try.prog tl44 := (.cons tok3 .nil)
@[reducible] def tl45 : List (TypeId × TI) := [(2, ti2), (4, ti4), (46, ti46), (48, ti48), (56, ti56), (89, ti89)]
theorem tk45 : TOk Try.prog tl45 := (.cons tok2 (.cons tok4 (.cons tok46 (.cons tok48 (.cons tok56 (.cons tok89 .nil))))))
@[reducible] def tl46 : List (TypeId × TI) := []
theorem tk46 : TOk Try.prog tl46 := .nil
@[reducible] def tl47 : List (TypeId × TI) := [(2, ti2), (3, ti3), (4, ti4), (25, ti25), (42, ti42)]
theorem tk47 : TOk Try.prog tl47 := (.cons tok2 (.cons tok3 (.cons tok4 (.cons tok25 (.cons tok42 .nil)))))
@[reducible] def tl48 : List (TypeId × TI) := [(2, ti2), (3, ti3), (4, ti4), (42, ti42)]
theorem tk48 : TOk Try.prog tl48 := (.cons tok2 (.cons tok3 (.cons tok4 (.cons tok42 .nil))))
@[reducible] def tl49 : List (TypeId × TI) := [(2, ti2), (35, ti35), (60, ti60), (62, ti62)]
theorem tk49 : TOk Try.prog tl49 := (.cons tok2 (.cons tok35 (.cons tok60 (.cons tok62 .nil))))
@[reducible] def tl50 : List (TypeId × TI) := [(2, ti2), (60, ti60), (62, ti62)]
theorem tk50 : TOk Try.prog tl50 := (.cons tok2 (.cons tok60 (.cons tok62 .nil)))
@[reducible] def tl51 : List (TypeId × TI) := [(2, ti2), (4, ti4), (9, ti9), (60, ti60)]
theorem tk51 : TOk Try.prog tl51 := (.cons tok2 (.cons tok4 (.cons tok9 (.cons tok60 .nil))))
@[reducible] def dt51 : DT := [(3, [(2, 4), (2, 5)])]
@[reducible] def tl52 : List (TypeId × TI) := [(2, ti2), (5, ti5), (9, ti9), (117, ti117)]
theorem tk52 : TOk Try.prog tl52 := (.cons tok2 (.cons tok5 (.cons tok9 (.cons tok117 .nil))))
@[reducible] def tl53 : List (TypeId × TI) := [(2, ti2), (3, ti3), (27, ti27), (46, ti46), (58, ti58)]
theorem tk53 : TOk Try.prog tl53 := (.cons tok2 (.cons tok3 (.cons tok27 (.cons tok46 (.cons tok58 .nil)))))
@[reducible] def tl54 : List (TypeId × TI) := [(2, ti2), (46, ti46), (58, ti58)]
theorem tk54 : TOk Try.prog tl54 := (.cons tok2 (.cons tok46 (.cons tok58 .nil)))
@[reducible] def tl55 : List (TypeId × TI) := [(2, ti2), (3, ti3), (26, ti26), (46, ti46), (48, ti48)]
theorem tk55 : TOk Try.prog tl55 := (.cons tok2 (.cons tok3 (.cons tok26 (.cons tok46 (.cons tok48 .nil)))))
@[reducible] def tl56 : List (TypeId × TI) := [(2, ti2), (46, ti46), (48, ti48)]
theorem tk56 : TOk Try.prog tl56 := (.cons tok2 (.cons tok46 (.cons tok48 .nil)))
@[reducible] def tl57 : List (TypeId × TI) := [(3, ti3), (4, ti4), (36, ti36), (119, ti119)]
@[reducible] def dt57 : DT := [(17, [])]
@[reducible] def tl58 : List (TypeId × TI) := [(103, ti103), (127, ti127)]
@[reducible] def tl59 : List (TypeId × TI) := [(2, ti2), (3, ti3), (4, ti4), (42, ti42)]
theorem tk59 : TOk Try.prog tl59 := (.cons tok2 (.cons tok3 (.cons tok4 (.cons tok42 .nil))))
@[reducible] def tl60 : List (TypeId × TI) := [(3, ti3), (106, ti106)]
theorem tk60 : TOk Try.prog tl60 := (.cons tok3 (.cons tok106 .nil))
@[reducible] def tl61 : List (TypeId × TI) := [(2, ti2), (3, ti3), (56, ti56), (106, ti106)]
theorem tk61 : TOk Try.prog tl61 := (.cons tok2 (.cons tok3 (.cons tok56 (.cons tok106 .nil))))
@[reducible] def tl62 : List (TypeId × TI) := [(2, ti2)]
theorem tk62 : TOk Try.prog tl62 := (.cons tok2 .nil)
@[reducible] def tl63 : List (TypeId × TI) := [(3, ti3), (106, ti106)]
theorem tk63 : TOk Try.prog tl63 := (.cons tok3 (.cons tok106 .nil))
@[reducible] def tl64 : List (TypeId × TI) := [(2, ti2)]
theorem tk64 : TOk Try.prog tl64 := (.cons tok2 .nil)
@[reducible] def tl65 : List (TypeId × TI) := [(2, ti2)]
theorem tk65 : TOk Try.prog tl65 := (.cons tok2 .nil)
@[reducible] def tl66 : List (TypeId × TI) := [(2, ti2), (3, ti3), (46, ti46), (56, ti56)]
theorem tk66 : TOk Try.prog tl66 := (.cons tok2 (.cons tok3 (.cons tok46 (.cons tok56 .nil))))
@[reducible] def tl67 : List (TypeId × TI) := [(2, ti2)]
theorem tk67 : TOk Try.prog tl67 := (.cons tok2 .nil)
@[reducible] def tl68 : List (TypeId × TI) := []
theorem tk68 : TOk Try.prog tl68 := .nil
@[reducible] def tl69 : List (TypeId × TI) := [(2, ti2), (79, ti79)]
theorem tk69 : TOk Try.prog tl69 := (.cons tok2 (.cons tok79 .nil))
@[reducible] def tl70 : List (TypeId × TI) := [(2, ti2), (3, ti3), (46, ti46), (56, ti56)]
theorem tk70 : TOk Try.prog tl70 := (.cons tok2 (.cons tok3 (.cons tok46 (.cons tok56 .nil))))
@[reducible] def dt70 : DT := [(6, [])]
@[reducible] def tl71 : List (TypeId × TI) := [(2, ti2), (3, ti3), (4, ti4), (35, ti35), (60, ti60)]
theorem tk71 : TOk Try.prog tl71 := (.cons tok2 (.cons tok3 (.cons tok4 (.cons tok35 (.cons tok60 .nil)))))
@[reducible] def dt71 : DT := [(3, []), (7, [(1, 7), (2, 7), (4, 7), (5, 7)]), (11, [])]
@[reducible] def tl72 : List (TypeId × TI) := [(2, ti2), (60, ti60)]
theorem tk72 : TOk Try.prog tl72 := (.cons tok2 (.cons tok60 .nil))
@[reducible] def tl73 : List (TypeId × TI) := [(2, ti2), (3, ti3), (5, ti5), (9, ti9), (117, ti117), (136, ti136)]
theorem tk73 : TOk Try.prog tl73 := (.cons tok2 (.cons tok3 (.cons tok5 (.cons tok9 (.cons tok117 (.cons tok136 .nil))))))
@[reducible] def tl74 : List (TypeId × TI) := [(3, ti3), (36, ti36)]
@[reducible] def dt74 : DT := [(4, []), (6, [])]
@[reducible] def tl75 : List (TypeId × TI) := [(3, ti3), (36, ti36)]
@[reducible] def dt75 : DT := [(10, [])]
@[reducible] def tl76 : List (TypeId × TI) := [(3, ti3), (36, ti36), (103, ti103), (137, ti137)]
@[reducible] def dt76 : DT := [(10, [])]
@[reducible] def tl77 : List (TypeId × TI) := [(3, ti3)]
@[reducible] def tl78 : List (TypeId × TI) := [(3, ti3), (36, ti36)]
@[reducible] def dt78 : DT := [(3, [])]
@[reducible] def tl79 : List (TypeId × TI) := [(3, ti3), (4, ti4), (36, ti36)]
@[reducible] def dt79 : DT := [(5, []), (11, []), (16, []), (17, []), (22, []), (23, [])]
@[reducible] def tl80 : List (TypeId × TI) := [(3, ti3), (4, ti4)]
@[reducible] def tl81 : List (TypeId × TI) := [(3, ti3), (4, ti4), (36, ti36)]
@[reducible] def dt81 : DT := [(1, []), (3, []), (5, []), (8, [])]
@[reducible] def tl82 : List (TypeId × TI) := [(3, ti3), (4, ti4), (36, ti36)]
@[reducible] def dt82 : DT := [(1, []), (3, []), (5, []), (8, []), (10, []), (13, []), (15, []), (18, []), (21, [])]
@[reducible] def tl83 : List (TypeId × TI) := [(3, ti3), (5, ti5), (9, ti9), (127, ti127)]
@[reducible] def tl84 : List (TypeId × TI) := [(3, ti3), (5, ti5), (9, ti9), (129, ti129)]
@[reducible] def tl85 : List (TypeId × TI) := [(3, ti3)]
theorem tk85 : TOk Try.prog tl85 := (.cons tok3 .nil)
@[reducible] def tl86 : List (TypeId × TI) := [(2, ti2), (3, ti3), (46, ti46), (56, ti56)]
theorem tk86 : TOk Try.prog tl86 := (.cons tok2 (.cons tok3 (.cons tok46 (.cons tok56 .nil))))
@[reducible] def tl87 : List (TypeId × TI) := [(2, ti2), (3, ti3), (36, ti36), (56, ti56)]
theorem tk87 : TOk Try.prog tl87 := (.cons tok2 (.cons tok3 (.cons tok36 (.cons tok56 .nil))))
@[reducible] def dt87 : DT := [(1, [(4, 5), (4, 6), (4, 7), (4, 8), (4, 10), (9, 10), (4, 11), (9, 11), (4, 12), (9, 12), (4, 13), (9, 13)])]
@[reducible] def tl88 : List (TypeId × TI) := [(3, ti3)]
theorem tk88 : TOk Try.prog tl88 := (.cons tok3 .nil)
@[reducible] def tl89 : List (TypeId × TI) := [(2, ti2), (3, ti3), (79, ti79)]
theorem tk89 : TOk Try.prog tl89 := (.cons tok2 (.cons tok3 (.cons tok79 .nil)))
@[reducible] def tl90 : List (TypeId × TI) := [(2, ti2), (4, ti4), (60, ti60), (129, ti129)]
theorem tk90 : TOk Try.prog tl90 := (.cons tok2 (.cons tok4 (.cons tok60 (.cons tok129 .nil))))
@[reducible] def dt90 : DT := [(3, [(6, 7), (6, 8), (6, 10), (6, 11)])]
@[reducible] def tl91 : List (TypeId × TI) := [(3, ti3), (4, ti4), (36, ti36)]
@[reducible] def dt91 : DT := [(3, []), (5, []), (6, [])]
@[reducible] def tl92 : List (TypeId × TI) := [(3, ti3), (103, ti103)]
@[reducible] def tl93 : List (TypeId × TI) := [(137, ti137)]
@[reducible] def dt93 : DT := [(1, []), (2, []), (3, [])]
@[reducible] def tl94 : List (TypeId × TI) := [(3, ti3)]
@[reducible] def tl95 : List (TypeId × TI) := []
@[reducible] def tl96 : List (TypeId × TI) := [(3, ti3)]
theorem tk96 : TOk Try.prog tl96 := (.cons tok3 .nil)
@[reducible] def tl97 : List (TypeId × TI) := [(3, ti3), (36, ti36)]
theorem tk97 : TOk Try.prog tl97 := (.cons tok3 (.cons tok36 .nil))
@[reducible] def tl98 : List (TypeId × TI) := [(129, ti129), (146, ti146)]
theorem tk98 : TOk Try.prog tl98 := (.cons tok129 (.cons tok146 .nil))
@[reducible] def tl99 : List (TypeId × TI) := [(129, ti129), (146, ti146)]
theorem tk99 : TOk Try.prog tl99 := (.cons tok129 (.cons tok146 .nil))
@[reducible] def tl100 : List (TypeId × TI) := [(3, ti3), (36, ti36)]
@[reducible] def dt100 : DT := [(1, [])]
end Go.Proofs.Ytpijibffjohikaa.Sy

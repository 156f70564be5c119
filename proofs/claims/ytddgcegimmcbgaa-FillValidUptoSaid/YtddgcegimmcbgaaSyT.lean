/-
  The types of the seat's program: facts. Printed by gentypes2.py.
-/
import Derived.Test.YtddgcegimmcbgaaSyZa
import Derived.Test.YtddgcegimmcbgaaProg
import Derived.KernelRfl
set_option linter.unusedVariables false
set_option linter.unusedSimpArgs false
set_option linter.unusedSectionVars false
namespace Go.Proofs.Ytddgcegimmcbgaa.Sy
open Go Go.Sy Go.Proofs.Ytddgcegimmcbgaa

-- 0: Exception('tuple')
def ti1 : TI := { k := .plain, sz := 1, by_ := 8, zero := some [.v .nilFunc] }
theorem tok1 : ti1.Ok Try.prog 1 := ⟨(by kernel_rfl), (by kernel_rfl), (by kernel_rfl), (fun z h c => by cases h; kernel_rfl), (fun z h => by cases h), (fun z h => by cases h), (fun z h => by cases h)⟩
def ti2 : TI := { k := .int .i64, sz := 1, by_ := 8, zero := some [.i .i64 (.lit 0)], key := some (false, 1), zd := some (.i .i64 (.lit 0)) }
theorem tok2 : ti2.Ok Try.prog 2 := ⟨(by kernel_rfl), (by kernel_rfl), (by kernel_rfl), (fun z h c => by cases h; kernel_rfl), (fun z h => by cases h; kernel_rfl), (fun z h c => by cases h; kernel_rfl), (fun z h => by cases h)⟩
def ti3 : TI := { k := .int .i64, sz := 1, by_ := 8, zero := some [.i .i64 (.lit 0)], key := some (false, 1), zd := some (.i .i64 (.lit 0)) }
theorem tok3 : ti3.Ok Try.prog 3 := ⟨(by kernel_rfl), (by kernel_rfl), (by kernel_rfl), (fun z h c => by cases h; kernel_rfl), (fun z h => by cases h; kernel_rfl), (fun z h c => by cases h; kernel_rfl), (fun z h => by cases h)⟩
def ti4 : TI := { k := .bool, sz := 1, by_ := 1, zero := some [.b .f] }
theorem tok4 : ti4.Ok Try.prog 4 := ⟨(by kernel_rfl), (by kernel_rfl), (by kernel_rfl), (fun z h c => by cases h; kernel_rfl), (fun z h => by cases h), (fun z h => by cases h), (fun z h => by cases h)⟩
def ti5 : TI := { k := .int .u8, sz := 1, by_ := 1, zero := some [.i .u8 (.lit 0)] }
theorem tok5 : ti5.Ok Try.prog 5 := ⟨(by kernel_rfl), (by kernel_rfl), (by kernel_rfl), (fun z h c => by cases h; kernel_rfl), (fun z h => by cases h), (fun z h => by cases h), (fun z h => by cases h)⟩
def ti6 : TI := { k := .int .u8, sz := 1, by_ := 1, zero := some [.i .u8 (.lit 0)] }
theorem tok6 : ti6.Ok Try.prog 6 := ⟨(by kernel_rfl), (by kernel_rfl), (by kernel_rfl), (fun z h c => by cases h; kernel_rfl), (fun z h => by cases h), (fun z h => by cases h), (fun z h => by cases h)⟩
def ti7 : TI := { k := .struct [(0, 2), (1, 3), (2, 4), (3, 6)], sz := 4, by_ := 24, zero := some [.i .i64 (.lit 0), .i .i64 (.lit 0), .b .f, .i .u8 (.lit 0)] }
theorem tok7 : ti7.Ok Try.prog 7 := ⟨(by kernel_rfl), (by kernel_rfl), (by kernel_rfl), (fun z h c => by cases h; kernel_rfl), (fun z h => by cases h), (fun z h => by cases h), (fun z h => by cases h)⟩
def ti8 : TI := { k := .struct [(0, 2), (1, 3), (2, 4), (3, 6)], sz := 4, by_ := 24, zero := some [.i .i64 (.lit 0), .i .i64 (.lit 0), .b .f, .i .u8 (.lit 0)] }
theorem tok8 : ti8.Ok Try.prog 8 := ⟨(by kernel_rfl), (by kernel_rfl), (by kernel_rfl), (fun z h c => by cases h; kernel_rfl), (fun z h => by cases h), (fun z h => by cases h), (fun z h => by cases h)⟩
def ti9 : TI := { k := .str, sz := 1, by_ := 16, zero := some [.v (.string ⟨#[]⟩)] }
theorem tok9 : ti9.Ok Try.prog 9 := ⟨(by kernel_rfl), (by kernel_rfl), (by kernel_rfl), (fun z h c => by cases h; kernel_rfl), (fun z h => by cases h), (fun z h => by cases h), (fun z h => by cases h)⟩
def ti10 : TI := { k := .str, sz := 1, by_ := 16, zero := some [.v (.string ⟨#[]⟩)] }
theorem tok10 : ti10.Ok Try.prog 10 := ⟨(by kernel_rfl), (by kernel_rfl), (by kernel_rfl), (fun z h c => by cases h; kernel_rfl), (fun z h => by cases h), (fun z h => by cases h), (fun z h => by cases h)⟩
def ti11 : TI := { k := .str, sz := 1, by_ := 16, zero := some [.v (.string ⟨#[]⟩)] }
theorem tok11 : ti11.Ok Try.prog 11 := ⟨(by kernel_rfl), (by kernel_rfl), (by kernel_rfl), (fun z h c => by cases h; kernel_rfl), (fun z h => by cases h), (fun z h => by cases h), (fun z h => by cases h)⟩
def ti12 : TI := { k := .int .u64, sz := 1, by_ := 8, zero := some [.i .u64 (.lit 0)] }
theorem tok12 : ti12.Ok Try.prog 12 := ⟨(by kernel_rfl), (by kernel_rfl), (by kernel_rfl), (fun z h c => by cases h; kernel_rfl), (fun z h => by cases h), (fun z h => by cases h), (fun z h => by cases h)⟩
def ti13 : TI := { k := .struct [(0, 9), (1, 12)], sz := 2, by_ := 24, zero := some [.v (.string ⟨#[]⟩), .i .u64 (.lit 0)] }
theorem tok13 : ti13.Ok Try.prog 13 := ⟨(by kernel_rfl), (by kernel_rfl), (by kernel_rfl), (fun z h c => by cases h; kernel_rfl), (fun z h => by cases h), (fun z h => by cases h), (fun z h => by cases h)⟩
def ti14 : TI := { k := .struct [(0, 9), (1, 12)], sz := 2, by_ := 24, zero := some [.v (.string ⟨#[]⟩), .i .u64 (.lit 0)] }
theorem tok14 : ti14.Ok Try.prog 14 := ⟨(by kernel_rfl), (by kernel_rfl), (by kernel_rfl), (fun z h c => by cases h; kernel_rfl), (fun z h => by cases h), (fun z h => by cases h), (fun z h => by cases h)⟩
def ti15 : TI := { k := .ptr 279, sz := 1, by_ := 8, zero := some [.v (.pointer none)] }
theorem tok15 : ti15.Ok Try.prog 15 := ⟨(by kernel_rfl), (by kernel_rfl), (by kernel_rfl), (fun z h c => by cases h; kernel_rfl), (fun z h => by cases h), (fun z h => by cases h), (fun z h => by cases h)⟩
def ti16 : TI := { k := .ptr 282, sz := 1, by_ := 8, zero := some [.v (.pointer none)] }
theorem tok16 : ti16.Ok Try.prog 16 := ⟨(by kernel_rfl), (by kernel_rfl), (by kernel_rfl), (fun z h c => by cases h; kernel_rfl), (fun z h => by cases h), (fun z h => by cases h), (fun z h => by cases h)⟩
def ti17 : TI := { k := .ptr 291, sz := 1, by_ := 8, zero := some [.v (.pointer none)] }
theorem tok17 : ti17.Ok Try.prog 17 := ⟨(by kernel_rfl), (by kernel_rfl), (by kernel_rfl), (fun z h c => by cases h; kernel_rfl), (fun z h => by cases h), (fun z h => by cases h), (fun z h => by cases h)⟩
def ti18 : TI := { k := .struct [(0, 17)], sz := 1, by_ := 8, zero := some [.v (.pointer none)] }
theorem tok18 : ti18.Ok Try.prog 18 := ⟨(by kernel_rfl), (by kernel_rfl), (by kernel_rfl), (fun z h c => by cases h; kernel_rfl), (fun z h => by cases h), (fun z h => by cases h), (fun z h => by cases h)⟩
def ti19 : TI := { k := .struct [(0, 17)], sz := 1, by_ := 8, zero := some [.v (.pointer none)] }
theorem tok19 : ti19.Ok Try.prog 19 := ⟨(by kernel_rfl), (by kernel_rfl), (by kernel_rfl), (fun z h c => by cases h; kernel_rfl), (fun z h => by cases h), (fun z h => by cases h), (fun z h => by cases h)⟩
def ti21 : TI := { k := .int .i32, sz := 1, by_ := 4, zero := some [.i .i32 (.lit 0)] }
theorem tok21 : ti21.Ok Try.prog 21 := ⟨(by kernel_rfl), (by kernel_rfl), (by kernel_rfl), (fun z h c => by cases h; kernel_rfl), (fun z h => by cases h), (fun z h => by cases h), (fun z h => by cases h)⟩
def ti22 : TI := { k := .slice 33, sz := 1, by_ := 24, zero := some [.v (.slice none 0 0)] }
theorem tok22 : ti22.Ok Try.prog 22 := ⟨(by kernel_rfl), (by kernel_rfl), (by kernel_rfl), (fun z h c => by cases h; kernel_rfl), (fun z h => by cases h), (fun z h => by cases h), (fun z h => by cases h)⟩
-- 23: Exception('tuple')
def ti24 : TI := { k := .plain, sz := 1, by_ := 8, zero := some [.v .nilFunc] }
theorem tok24 : ti24.Ok Try.prog 24 := ⟨(by kernel_rfl), (by kernel_rfl), (by kernel_rfl), (fun z h c => by cases h; kernel_rfl), (fun z h => by cases h), (fun z h => by cases h), (fun z h => by cases h)⟩
def ti25 : TI := { k := .plain, sz := 1, by_ := 8, zero := some [.v .nilFunc] }
theorem tok25 : ti25.Ok Try.prog 25 := ⟨(by kernel_rfl), (by kernel_rfl), (by kernel_rfl), (fun z h c => by cases h; kernel_rfl), (fun z h => by cases h), (fun z h => by cases h), (fun z h => by cases h)⟩
def ti26 : TI := { k := .plain, sz := 1, by_ := 8, zero := some [.v .nilFunc] }
theorem tok26 : ti26.Ok Try.prog 26 := ⟨(by kernel_rfl), (by kernel_rfl), (by kernel_rfl), (fun z h c => by cases h; kernel_rfl), (fun z h => by cases h), (fun z h => by cases h), (fun z h => by cases h)⟩
def ti27 : TI := { k := .slice 30, sz := 1, by_ := 24, zero := some [.v (.slice none 0 0)] }
theorem tok27 : ti27.Ok Try.prog 27 := ⟨(by kernel_rfl), (by kernel_rfl), (by kernel_rfl), (fun z h c => by cases h; kernel_rfl), (fun z h => by cases h), (fun z h => by cases h), (fun z h => by cases h)⟩
def ti28 : TI := { k := .plain, sz := 1, by_ := 8, zero := some [.v .nilFunc] }
theorem tok28 : ti28.Ok Try.prog 28 := ⟨(by kernel_rfl), (by kernel_rfl), (by kernel_rfl), (fun z h c => by cases h; kernel_rfl), (fun z h => by cases h), (fun z h => by cases h), (fun z h => by cases h)⟩
def ti29 : TI := { k := .struct [(0, 2), (1, 2), (2, 2), (3, 3), (4, 3), (5, 3)], sz := 6, by_ := 48, zero := some [.i .i64 (.lit 0), .i .i64 (.lit 0), .i .i64 (.lit 0), .i .i64 (.lit 0), .i .i64 (.lit 0), .i .i64 (.lit 0)], flat := some [.int, .int, .int, .int, .int, .int] }
theorem tok29 : ti29.Ok Try.prog 29 := ⟨(by kernel_rfl), (by kernel_rfl), (by kernel_rfl), (fun z h c => by cases h; kernel_rfl), (fun z h => by cases h), (fun z h => by cases h), (fun z h => by cases h; kernel_rfl)⟩
def ti30 : TI := { k := .struct [(0, 2), (1, 2), (2, 2), (3, 3), (4, 3), (5, 3)], sz := 6, by_ := 48, zero := some [.i .i64 (.lit 0), .i .i64 (.lit 0), .i .i64 (.lit 0), .i .i64 (.lit 0), .i .i64 (.lit 0), .i .i64 (.lit 0)], flat := some [.int, .int, .int, .int, .int, .int] }
theorem tok30 : ti30.Ok Try.prog 30 := ⟨(by kernel_rfl), (by kernel_rfl), (by kernel_rfl), (fun z h c => by cases h; kernel_rfl), (fun z h => by cases h), (fun z h => by cases h), (fun z h => by cases h; kernel_rfl)⟩
def ti31 : TI := { k := .slice 123, sz := 1, by_ := 24, zero := some [.v (.slice none 0 0)], zd := some (.v (.slice none 0 0)) }
theorem tok31 : ti31.Ok Try.prog 31 := ⟨(by kernel_rfl), (by kernel_rfl), (by kernel_rfl), (fun z h c => by cases h; kernel_rfl), (fun z h => by cases h), (fun z h c => by cases h; kernel_rfl), (fun z h => by cases h)⟩
def ti32 : TI := { k := .struct [(0, 3), (1, 2), (2, 2), (3, 2), (4, 31)], sz := 5, by_ := 56, zero := some [.i .i64 (.lit 0), .i .i64 (.lit 0), .i .i64 (.lit 0), .i .i64 (.lit 0), .v (.slice none 0 0)] }
theorem tok32 : ti32.Ok Try.prog 32 := ⟨(by kernel_rfl), (by kernel_rfl), (by kernel_rfl), (fun z h c => by cases h; kernel_rfl), (fun z h => by cases h), (fun z h => by cases h), (fun z h => by cases h)⟩
def ti33 : TI := { k := .struct [(0, 3), (1, 2), (2, 2), (3, 2), (4, 31)], sz := 5, by_ := 56, zero := some [.i .i64 (.lit 0), .i .i64 (.lit 0), .i .i64 (.lit 0), .i .i64 (.lit 0), .v (.slice none 0 0)], zd := some (.agg [.i .i64 (.lit 0), .i .i64 (.lit 0), .i .i64 (.lit 0), .i .i64 (.lit 0), .v (.slice none 0 0)]) }
theorem tok33 : ti33.Ok Try.prog 33 := ⟨(by kernel_rfl), (by kernel_rfl), (by kernel_rfl), (fun z h c => by cases h; kernel_rfl), (fun z h => by cases h), (fun z h c => by cases h; kernel_rfl), (fun z h => by cases h)⟩
def ti34 : TI := { k := .slice 2, sz := 1, by_ := 24, zero := some [.v (.slice none 0 0)] }
theorem tok34 : ti34.Ok Try.prog 34 := ⟨(by kernel_rfl), (by kernel_rfl), (by kernel_rfl), (fun z h c => by cases h; kernel_rfl), (fun z h => by cases h), (fun z h => by cases h), (fun z h => by cases h)⟩
def ti35 : TI := { k := .plain, sz := 1, by_ := 8, zero := some [.v .nilFunc] }
theorem tok35 : ti35.Ok Try.prog 35 := ⟨(by kernel_rfl), (by kernel_rfl), (by kernel_rfl), (fun z h c => by cases h; kernel_rfl), (fun z h => by cases h), (fun z h => by cases h), (fun z h => by cases h)⟩
def ti36 : TI := { k := .slice 41, sz := 1, by_ := 24, zero := some [.v (.slice none 0 0)] }
theorem tok36 : ti36.Ok Try.prog 36 := ⟨(by kernel_rfl), (by kernel_rfl), (by kernel_rfl), (fun z h c => by cases h; kernel_rfl), (fun z h => by cases h), (fun z h => by cases h), (fun z h => by cases h)⟩
def ti37 : TI := { k := .plain, sz := 1, by_ := 8, zero := some [.v .nilFunc] }
theorem tok37 : ti37.Ok Try.prog 37 := ⟨(by kernel_rfl), (by kernel_rfl), (by kernel_rfl), (fun z h c => by cases h; kernel_rfl), (fun z h => by cases h), (fun z h => by cases h), (fun z h => by cases h)⟩
-- 38: Exception('tuple')
def ti39 : TI := { k := .plain, sz := 1, by_ := 8, zero := some [.v .nilFunc] }
theorem tok39 : ti39.Ok Try.prog 39 := ⟨(by kernel_rfl), (by kernel_rfl), (by kernel_rfl), (fun z h c => by cases h; kernel_rfl), (fun z h => by cases h), (fun z h => by cases h), (fun z h => by cases h)⟩
def ti40 : TI := { k := .plain, sz := 1, by_ := 8, zero := some [.v .nilFunc] }
theorem tok40 : ti40.Ok Try.prog 40 := ⟨(by kernel_rfl), (by kernel_rfl), (by kernel_rfl), (fun z h c => by cases h; kernel_rfl), (fun z h => by cases h), (fun z h => by cases h), (fun z h => by cases h)⟩
def ti41 : TI := { k := .arr 2 2, sz := 2, by_ := 16, zero := some [.i .i64 (.lit 0), .i .i64 (.lit 0)], key := some (true, 2), flat := some [.int, .int] }
theorem tok41 : ti41.Ok Try.prog 41 := ⟨(by kernel_rfl), (by kernel_rfl), (by kernel_rfl), (fun z h c => by cases h; kernel_rfl), (fun z h => by cases h; kernel_rfl), (fun z h => by cases h), (fun z h => by cases h; kernel_rfl)⟩
def ti42 : TI := { k := .slice 132, sz := 1, by_ := 24, zero := some [.v (.slice none 0 0)] }
theorem tok42 : ti42.Ok Try.prog 42 := ⟨(by kernel_rfl), (by kernel_rfl), (by kernel_rfl), (fun z h c => by cases h; kernel_rfl), (fun z h => by cases h), (fun z h => by cases h), (fun z h => by cases h)⟩
def ti43 : TI := { k := .slice 3, sz := 1, by_ := 24, zero := some [.v (.slice none 0 0)] }
theorem tok43 : ti43.Ok Try.prog 43 := ⟨(by kernel_rfl), (by kernel_rfl), (by kernel_rfl), (fun z h c => by cases h; kernel_rfl), (fun z h => by cases h), (fun z h => by cases h), (fun z h => by cases h)⟩
def ti44 : TI := { k := .plain, sz := 1, by_ := 8, zero := some [.v .nilFunc] }
theorem tok44 : ti44.Ok Try.prog 44 := ⟨(by kernel_rfl), (by kernel_rfl), (by kernel_rfl), (fun z h c => by cases h; kernel_rfl), (fun z h => by cases h), (fun z h => by cases h), (fun z h => by cases h)⟩
def ti45 : TI := { k := .plain, sz := 1, by_ := 8, zero := some [.v .nilFunc] }
theorem tok45 : ti45.Ok Try.prog 45 := ⟨(by kernel_rfl), (by kernel_rfl), (by kernel_rfl), (fun z h c => by cases h; kernel_rfl), (fun z h => by cases h), (fun z h => by cases h), (fun z h => by cases h)⟩
def ti46 : TI := { k := .plain, sz := 1, by_ := 8, zero := some [.v .nilFunc] }
theorem tok46 : ti46.Ok Try.prog 46 := ⟨(by kernel_rfl), (by kernel_rfl), (by kernel_rfl), (fun z h c => by cases h; kernel_rfl), (fun z h => by cases h), (fun z h => by cases h), (fun z h => by cases h)⟩
def ti47 : TI := { k := .slice 88, sz := 1, by_ := 24, zero := some [.v (.slice none 0 0)] }
theorem tok47 : ti47.Ok Try.prog 47 := ⟨(by kernel_rfl), (by kernel_rfl), (by kernel_rfl), (fun z h c => by cases h; kernel_rfl), (fun z h => by cases h), (fun z h => by cases h), (fun z h => by cases h)⟩
def ti48 : TI := { k := .plain, sz := 1, by_ := 8, zero := some [.v .nilFunc] }
theorem tok48 : ti48.Ok Try.prog 48 := ⟨(by kernel_rfl), (by kernel_rfl), (by kernel_rfl), (fun z h c => by cases h; kernel_rfl), (fun z h => by cases h), (fun z h => by cases h), (fun z h => by cases h)⟩
def ti49 : TI := { k := .plain, sz := 1, by_ := 8, zero := some [.v .nilFunc] }
theorem tok49 : ti49.Ok Try.prog 49 := ⟨(by kernel_rfl), (by kernel_rfl), (by kernel_rfl), (fun z h c => by cases h; kernel_rfl), (fun z h => by cases h), (fun z h => by cases h), (fun z h => by cases h)⟩
def ti50 : TI := { k := .plain, sz := 1, by_ := 8, zero := some [.v .nilFunc] }
theorem tok50 : ti50.Ok Try.prog 50 := ⟨(by kernel_rfl), (by kernel_rfl), (by kernel_rfl), (fun z h c => by cases h; kernel_rfl), (fun z h => by cases h), (fun z h => by cases h), (fun z h => by cases h)⟩
def ti51 : TI := { k := .plain, sz := 1, by_ := 8, zero := some [.v .nilFunc] }
theorem tok51 : ti51.Ok Try.prog 51 := ⟨(by kernel_rfl), (by kernel_rfl), (by kernel_rfl), (fun z h c => by cases h; kernel_rfl), (fun z h => by cases h), (fun z h => by cases h), (fun z h => by cases h)⟩
def ti52 : TI := { k := .arr 4 2, sz := 4, by_ := 32, zero := some [.i .i64 (.lit 0), .i .i64 (.lit 0), .i .i64 (.lit 0), .i .i64 (.lit 0)], flat := some [.int, .int, .int, .int] }
theorem tok52 : ti52.Ok Try.prog 52 := ⟨(by kernel_rfl), (by kernel_rfl), (by kernel_rfl), (fun z h c => by cases h; kernel_rfl), (fun z h => by cases h), (fun z h => by cases h), (fun z h => by cases h; kernel_rfl)⟩
def ti53 : TI := { k := .int .i64, sz := 1, by_ := 8, zero := some [.i .i64 (.lit 0)] }
theorem tok53 : ti53.Ok Try.prog 53 := ⟨(by kernel_rfl), (by kernel_rfl), (by kernel_rfl), (fun z h c => by cases h; kernel_rfl), (fun z h => by cases h), (fun z h => by cases h), (fun z h => by cases h)⟩
-- 54: Exception('tuple')
def ti55 : TI := { k := .plain, sz := 1, by_ := 8, zero := some [.v .nilFunc] }
theorem tok55 : ti55.Ok Try.prog 55 := ⟨(by kernel_rfl), (by kernel_rfl), (by kernel_rfl), (fun z h c => by cases h; kernel_rfl), (fun z h => by cases h), (fun z h => by cases h), (fun z h => by cases h)⟩
def ti56 : TI := { k := .plain, sz := 1, by_ := 8, zero := some [.v .nilFunc] }
theorem tok56 : ti56.Ok Try.prog 56 := ⟨(by kernel_rfl), (by kernel_rfl), (by kernel_rfl), (fun z h c => by cases h; kernel_rfl), (fun z h => by cases h), (fun z h => by cases h), (fun z h => by cases h)⟩
def ti57 : TI := { k := .slice 31, sz := 1, by_ := 24, zero := some [.v (.slice none 0 0)] }
theorem tok57 : ti57.Ok Try.prog 57 := ⟨(by kernel_rfl), (by kernel_rfl), (by kernel_rfl), (fun z h c => by cases h; kernel_rfl), (fun z h => by cases h), (fun z h => by cases h), (fun z h => by cases h)⟩
def ti58 : TI := { k := .plain, sz := 1, by_ := 8, zero := some [.v .nilFunc] }
theorem tok58 : ti58.Ok Try.prog 58 := ⟨(by kernel_rfl), (by kernel_rfl), (by kernel_rfl), (fun z h c => by cases h; kernel_rfl), (fun z h => by cases h), (fun z h => by cases h), (fun z h => by cases h)⟩
def ti59 : TI := { k := .plain, sz := 1, by_ := 8, zero := some [.v .nilFunc] }
theorem tok59 : ti59.Ok Try.prog 59 := ⟨(by kernel_rfl), (by kernel_rfl), (by kernel_rfl), (fun z h c => by cases h; kernel_rfl), (fun z h => by cases h), (fun z h => by cases h), (fun z h => by cases h)⟩
def ti60 : TI := { k := .slice 64, sz := 1, by_ := 24, zero := some [.v (.slice none 0 0)] }
theorem tok60 : ti60.Ok Try.prog 60 := ⟨(by kernel_rfl), (by kernel_rfl), (by kernel_rfl), (fun z h c => by cases h; kernel_rfl), (fun z h => by cases h), (fun z h => by cases h), (fun z h => by cases h)⟩
def ti61 : TI := { k := .arr 4 2, sz := 4, by_ := 32, zero := some [.i .i64 (.lit 0), .i .i64 (.lit 0), .i .i64 (.lit 0), .i .i64 (.lit 0)], flat := some [.int, .int, .int, .int] }
theorem tok61 : ti61.Ok Try.prog 61 := ⟨(by kernel_rfl), (by kernel_rfl), (by kernel_rfl), (fun z h c => by cases h; kernel_rfl), (fun z h => by cases h), (fun z h => by cases h), (fun z h => by cases h; kernel_rfl)⟩
def ti62 : TI := { k := .plain, sz := 1, by_ := 8, zero := some [.v .nilFunc] }
theorem tok62 : ti62.Ok Try.prog 62 := ⟨(by kernel_rfl), (by kernel_rfl), (by kernel_rfl), (fun z h c => by cases h; kernel_rfl), (fun z h => by cases h), (fun z h => by cases h), (fun z h => by cases h)⟩
def ti63 : TI := { k := .struct [(0, 2), (1, 2)], sz := 2, by_ := 16, zero := some [.i .i64 (.lit 0), .i .i64 (.lit 0)], flat := some [.int, .int] }
theorem tok63 : ti63.Ok Try.prog 63 := ⟨(by kernel_rfl), (by kernel_rfl), (by kernel_rfl), (fun z h c => by cases h; kernel_rfl), (fun z h => by cases h), (fun z h => by cases h), (fun z h => by cases h; kernel_rfl)⟩
def ti64 : TI := { k := .struct [(0, 2), (1, 2)], sz := 2, by_ := 16, zero := some [.i .i64 (.lit 0), .i .i64 (.lit 0)], flat := some [.int, .int] }
theorem tok64 : ti64.Ok Try.prog 64 := ⟨(by kernel_rfl), (by kernel_rfl), (by kernel_rfl), (fun z h c => by cases h; kernel_rfl), (fun z h => by cases h), (fun z h => by cases h), (fun z h => by cases h; kernel_rfl)⟩
-- 65: Exception('tuple')
def ti66 : TI := { k := .plain, sz := 1, by_ := 8, zero := some [.v .nilFunc] }
theorem tok66 : ti66.Ok Try.prog 66 := ⟨(by kernel_rfl), (by kernel_rfl), (by kernel_rfl), (fun z h c => by cases h; kernel_rfl), (fun z h => by cases h), (fun z h => by cases h), (fun z h => by cases h)⟩
def ti67 : TI := { k := .plain, sz := 1, by_ := 8, zero := some [.v .nilFunc] }
theorem tok67 : ti67.Ok Try.prog 67 := ⟨(by kernel_rfl), (by kernel_rfl), (by kernel_rfl), (fun z h c => by cases h; kernel_rfl), (fun z h => by cases h), (fun z h => by cases h), (fun z h => by cases h)⟩
def ti68 : TI := { k := .plain, sz := 1, by_ := 8, zero := some [.v .nilFunc] }
theorem tok68 : ti68.Ok Try.prog 68 := ⟨(by kernel_rfl), (by kernel_rfl), (by kernel_rfl), (fun z h c => by cases h; kernel_rfl), (fun z h => by cases h), (fun z h => by cases h), (fun z h => by cases h)⟩
-- 69: Exception('tuple')
def ti70 : TI := { k := .plain, sz := 1, by_ := 8, zero := some [.v .nilFunc] }
theorem tok70 : ti70.Ok Try.prog 70 := ⟨(by kernel_rfl), (by kernel_rfl), (by kernel_rfl), (fun z h c => by cases h; kernel_rfl), (fun z h => by cases h), (fun z h => by cases h), (fun z h => by cases h)⟩
def ti71 : TI := { k := .plain, sz := 1, by_ := 8, zero := some [.v .nilFunc] }
theorem tok71 : ti71.Ok Try.prog 71 := ⟨(by kernel_rfl), (by kernel_rfl), (by kernel_rfl), (fun z h c => by cases h; kernel_rfl), (fun z h => by cases h), (fun z h => by cases h), (fun z h => by cases h)⟩
def ti72 : TI := { k := .plain, sz := 1, by_ := 8, zero := some [.v .nilFunc] }
theorem tok72 : ti72.Ok Try.prog 72 := ⟨(by kernel_rfl), (by kernel_rfl), (by kernel_rfl), (fun z h c => by cases h; kernel_rfl), (fun z h => by cases h), (fun z h => by cases h), (fun z h => by cases h)⟩
def ti73 : TI := { k := .plain, sz := 1, by_ := 8, zero := some [.v .nilFunc] }
theorem tok73 : ti73.Ok Try.prog 73 := ⟨(by kernel_rfl), (by kernel_rfl), (by kernel_rfl), (fun z h c => by cases h; kernel_rfl), (fun z h => by cases h), (fun z h => by cases h), (fun z h => by cases h)⟩
def ti74 : TI := { k := .struct [(0, 57), (1, 42), (2, 52)], sz := 6, by_ := 80, zero := some [.v (.slice none 0 0), .v (.slice none 0 0), .i .i64 (.lit 0), .i .i64 (.lit 0), .i .i64 (.lit 0), .i .i64 (.lit 0)] }
theorem tok74 : ti74.Ok Try.prog 74 := ⟨(by kernel_rfl), (by kernel_rfl), (by kernel_rfl), (fun z h c => by cases h; kernel_rfl), (fun z h => by cases h), (fun z h => by cases h), (fun z h => by cases h)⟩
def ti75 : TI := { k := .struct [(0, 57), (1, 42), (2, 52)], sz := 6, by_ := 80, zero := some [.v (.slice none 0 0), .v (.slice none 0 0), .i .i64 (.lit 0), .i .i64 (.lit 0), .i .i64 (.lit 0), .i .i64 (.lit 0)] }
theorem tok75 : ti75.Ok Try.prog 75 := ⟨(by kernel_rfl), (by kernel_rfl), (by kernel_rfl), (fun z h c => by cases h; kernel_rfl), (fun z h => by cases h), (fun z h => by cases h), (fun z h => by cases h)⟩
def ti76 : TI := { k := .plain, sz := 1, by_ := 8, zero := some [.v .nilFunc] }
theorem tok76 : ti76.Ok Try.prog 76 := ⟨(by kernel_rfl), (by kernel_rfl), (by kernel_rfl), (fun z h c => by cases h; kernel_rfl), (fun z h => by cases h), (fun z h => by cases h), (fun z h => by cases h)⟩
def ti77 : TI := { k := .slice 110, sz := 1, by_ := 24, zero := some [.v (.slice none 0 0)] }
theorem tok77 : ti77.Ok Try.prog 77 := ⟨(by kernel_rfl), (by kernel_rfl), (by kernel_rfl), (fun z h c => by cases h; kernel_rfl), (fun z h => by cases h), (fun z h => by cases h), (fun z h => by cases h)⟩
def ti78 : TI := { k := .slice 34, sz := 1, by_ := 24, zero := some [.v (.slice none 0 0)] }
theorem tok78 : ti78.Ok Try.prog 78 := ⟨(by kernel_rfl), (by kernel_rfl), (by kernel_rfl), (fun z h c => by cases h; kernel_rfl), (fun z h => by cases h), (fun z h => by cases h), (fun z h => by cases h)⟩
def ti79 : TI := { k := .struct [(0, 77), (1, 78), (2, 57)], sz := 3, by_ := 72, zero := some [.v (.slice none 0 0), .v (.slice none 0 0), .v (.slice none 0 0)] }
theorem tok79 : ti79.Ok Try.prog 79 := ⟨(by kernel_rfl), (by kernel_rfl), (by kernel_rfl), (fun z h c => by cases h; kernel_rfl), (fun z h => by cases h), (fun z h => by cases h), (fun z h => by cases h)⟩
def ti80 : TI := { k := .struct [(0, 77), (1, 78), (2, 57)], sz := 3, by_ := 72, zero := some [.v (.slice none 0 0), .v (.slice none 0 0), .v (.slice none 0 0)] }
theorem tok80 : ti80.Ok Try.prog 80 := ⟨(by kernel_rfl), (by kernel_rfl), (by kernel_rfl), (fun z h c => by cases h; kernel_rfl), (fun z h => by cases h), (fun z h => by cases h), (fun z h => by cases h)⟩
def ti81 : TI := { k := .plain, sz := 1, by_ := 8, zero := some [.v .nilFunc] }
theorem tok81 : ti81.Ok Try.prog 81 := ⟨(by kernel_rfl), (by kernel_rfl), (by kernel_rfl), (fun z h c => by cases h; kernel_rfl), (fun z h => by cases h), (fun z h => by cases h), (fun z h => by cases h)⟩
def ti82 : TI := { k := .plain, sz := 1, by_ := 8, zero := some [.v .nilFunc] }
theorem tok82 : ti82.Ok Try.prog 82 := ⟨(by kernel_rfl), (by kernel_rfl), (by kernel_rfl), (fun z h c => by cases h; kernel_rfl), (fun z h => by cases h), (fun z h => by cases h), (fun z h => by cases h)⟩
def ti83 : TI := { k := .plain, sz := 1, by_ := 8, zero := some [.v .nilFunc] }
theorem tok83 : ti83.Ok Try.prog 83 := ⟨(by kernel_rfl), (by kernel_rfl), (by kernel_rfl), (fun z h c => by cases h; kernel_rfl), (fun z h => by cases h), (fun z h => by cases h), (fun z h => by cases h)⟩
-- 84: Exception('tuple')
def ti85 : TI := { k := .plain, sz := 1, by_ := 8, zero := some [.v .nilFunc] }
theorem tok85 : ti85.Ok Try.prog 85 := ⟨(by kernel_rfl), (by kernel_rfl), (by kernel_rfl), (fun z h c => by cases h; kernel_rfl), (fun z h => by cases h), (fun z h => by cases h), (fun z h => by cases h)⟩
def ti86 : TI := { k := .plain, sz := 1, by_ := 8, zero := some [.v .nilFunc] }
theorem tok86 : ti86.Ok Try.prog 86 := ⟨(by kernel_rfl), (by kernel_rfl), (by kernel_rfl), (fun z h c => by cases h; kernel_rfl), (fun z h => by cases h), (fun z h => by cases h), (fun z h => by cases h)⟩
def ti87 : TI := { k := .struct [(0, 2), (1, 31)], sz := 2, by_ := 32, zero := some [.i .i64 (.lit 0), .v (.slice none 0 0)] }
theorem tok87 : ti87.Ok Try.prog 87 := ⟨(by kernel_rfl), (by kernel_rfl), (by kernel_rfl), (fun z h c => by cases h; kernel_rfl), (fun z h => by cases h), (fun z h => by cases h), (fun z h => by cases h)⟩
def ti88 : TI := { k := .struct [(0, 2), (1, 31)], sz := 2, by_ := 32, zero := some [.i .i64 (.lit 0), .v (.slice none 0 0)] }
theorem tok88 : ti88.Ok Try.prog 88 := ⟨(by kernel_rfl), (by kernel_rfl), (by kernel_rfl), (fun z h c => by cases h; kernel_rfl), (fun z h => by cases h), (fun z h => by cases h), (fun z h => by cases h)⟩
def ti89 : TI := { k := .plain, sz := 1, by_ := 8, zero := some [.v .nilFunc] }
theorem tok89 : ti89.Ok Try.prog 89 := ⟨(by kernel_rfl), (by kernel_rfl), (by kernel_rfl), (fun z h c => by cases h; kernel_rfl), (fun z h => by cases h), (fun z h => by cases h), (fun z h => by cases h)⟩
def ti90 : TI := { k := .plain, sz := 1, by_ := 8, zero := some [.v .nilFunc] }
theorem tok90 : ti90.Ok Try.prog 90 := ⟨(by kernel_rfl), (by kernel_rfl), (by kernel_rfl), (fun z h c => by cases h; kernel_rfl), (fun z h => by cases h), (fun z h => by cases h), (fun z h => by cases h)⟩
def ti91 : TI := { k := .plain, sz := 1, by_ := 8, zero := some [.v .nilFunc] }
theorem tok91 : ti91.Ok Try.prog 91 := ⟨(by kernel_rfl), (by kernel_rfl), (by kernel_rfl), (fun z h c => by cases h; kernel_rfl), (fun z h => by cases h), (fun z h => by cases h), (fun z h => by cases h)⟩
def ti92 : TI := { k := .struct [(0, 2), (1, 2), (2, 2), (3, 2), (4, 3), (5, 52)], sz := 9, by_ := 72, zero := some [.i .i64 (.lit 0), .i .i64 (.lit 0), .i .i64 (.lit 0), .i .i64 (.lit 0), .i .i64 (.lit 0), .i .i64 (.lit 0), .i .i64 (.lit 0), .i .i64 (.lit 0), .i .i64 (.lit 0)], flat := some [.int, .int, .int, .int, .int, .int, .int, .int, .int] }
theorem tok92 : ti92.Ok Try.prog 92 := ⟨(by kernel_rfl), (by kernel_rfl), (by kernel_rfl), (fun z h c => by cases h; kernel_rfl), (fun z h => by cases h), (fun z h => by cases h), (fun z h => by cases h; kernel_rfl)⟩
def ti93 : TI := { k := .struct [(0, 2), (1, 2), (2, 2), (3, 2), (4, 3), (5, 52)], sz := 9, by_ := 72, zero := some [.i .i64 (.lit 0), .i .i64 (.lit 0), .i .i64 (.lit 0), .i .i64 (.lit 0), .i .i64 (.lit 0), .i .i64 (.lit 0), .i .i64 (.lit 0), .i .i64 (.lit 0), .i .i64 (.lit 0)], flat := some [.int, .int, .int, .int, .int, .int, .int, .int, .int] }
theorem tok93 : ti93.Ok Try.prog 93 := ⟨(by kernel_rfl), (by kernel_rfl), (by kernel_rfl), (fun z h c => by cases h; kernel_rfl), (fun z h => by cases h), (fun z h => by cases h), (fun z h => by cases h; kernel_rfl)⟩
def ti94 : TI := { k := .slice 179, sz := 1, by_ := 24, zero := some [.v (.slice none 0 0)] }
theorem tok94 : ti94.Ok Try.prog 94 := ⟨(by kernel_rfl), (by kernel_rfl), (by kernel_rfl), (fun z h c => by cases h; kernel_rfl), (fun z h => by cases h), (fun z h => by cases h), (fun z h => by cases h)⟩
def ti95 : TI := { k := .slice 165, sz := 1, by_ := 24, zero := some [.v (.slice none 0 0)] }
theorem tok95 : ti95.Ok Try.prog 95 := ⟨(by kernel_rfl), (by kernel_rfl), (by kernel_rfl), (fun z h c => by cases h; kernel_rfl), (fun z h => by cases h), (fun z h => by cases h), (fun z h => by cases h)⟩
def ti96 : TI := { k := .slice 167, sz := 1, by_ := 24, zero := some [.v (.slice none 0 0)] }
theorem tok96 : ti96.Ok Try.prog 96 := ⟨(by kernel_rfl), (by kernel_rfl), (by kernel_rfl), (fun z h c => by cases h; kernel_rfl), (fun z h => by cases h), (fun z h => by cases h), (fun z h => by cases h)⟩
def ti97 : TI := { k := .slice 169, sz := 1, by_ := 24, zero := some [.v (.slice none 0 0)] }
theorem tok97 : ti97.Ok Try.prog 97 := ⟨(by kernel_rfl), (by kernel_rfl), (by kernel_rfl), (fun z h c => by cases h; kernel_rfl), (fun z h => by cases h), (fun z h => by cases h), (fun z h => by cases h)⟩
def ti98 : TI := { k := .slice 171, sz := 1, by_ := 24, zero := some [.v (.slice none 0 0)] }
theorem tok98 : ti98.Ok Try.prog 98 := ⟨(by kernel_rfl), (by kernel_rfl), (by kernel_rfl), (fun z h c => by cases h; kernel_rfl), (fun z h => by cases h), (fun z h => by cases h), (fun z h => by cases h)⟩
def ti99 : TI := { k := .struct [(0, 93), (9, 2), (10, 2), (11, 94), (12, 95), (13, 96), (14, 97), (15, 98)], sz := 16, by_ := 208, zero := some [.i .i64 (.lit 0), .i .i64 (.lit 0), .i .i64 (.lit 0), .i .i64 (.lit 0), .i .i64 (.lit 0), .i .i64 (.lit 0), .i .i64 (.lit 0), .i .i64 (.lit 0), .i .i64 (.lit 0), .i .i64 (.lit 0), .i .i64 (.lit 0), .v (.slice none 0 0), .v (.slice none 0 0), .v (.slice none 0 0), .v (.slice none 0 0), .v (.slice none 0 0)] }
theorem tok99 : ti99.Ok Try.prog 99 := ⟨(by kernel_rfl), (by kernel_rfl), (by kernel_rfl), (fun z h c => by cases h; kernel_rfl), (fun z h => by cases h), (fun z h => by cases h), (fun z h => by cases h)⟩
def ti100 : TI := { k := .struct [(0, 93), (9, 2), (10, 2), (11, 94), (12, 95), (13, 96), (14, 97), (15, 98)], sz := 16, by_ := 208, zero := some [.i .i64 (.lit 0), .i .i64 (.lit 0), .i .i64 (.lit 0), .i .i64 (.lit 0), .i .i64 (.lit 0), .i .i64 (.lit 0), .i .i64 (.lit 0), .i .i64 (.lit 0), .i .i64 (.lit 0), .i .i64 (.lit 0), .i .i64 (.lit 0), .v (.slice none 0 0), .v (.slice none 0 0), .v (.slice none 0 0), .v (.slice none 0 0), .v (.slice none 0 0)] }
theorem tok100 : ti100.Ok Try.prog 100 := ⟨(by kernel_rfl), (by kernel_rfl), (by kernel_rfl), (fun z h c => by cases h; kernel_rfl), (fun z h => by cases h), (fun z h => by cases h), (fun z h => by cases h)⟩
def ti101 : TI := { k := .arr 2 31, sz := 2, by_ := 48, zero := some [.v (.slice none 0 0), .v (.slice none 0 0)] }
theorem tok101 : ti101.Ok Try.prog 101 := ⟨(by kernel_rfl), (by kernel_rfl), (by kernel_rfl), (fun z h c => by cases h; kernel_rfl), (fun z h => by cases h), (fun z h => by cases h), (fun z h => by cases h)⟩
def ti102 : TI := { k := .plain, sz := 1, by_ := 8, zero := some [.v .nilFunc] }
theorem tok102 : ti102.Ok Try.prog 102 := ⟨(by kernel_rfl), (by kernel_rfl), (by kernel_rfl), (fun z h c => by cases h; kernel_rfl), (fun z h => by cases h), (fun z h => by cases h), (fun z h => by cases h)⟩
def ti103 : TI := { k := .plain, sz := 1, by_ := 8, zero := some [.v .nilFunc] }
theorem tok103 : ti103.Ok Try.prog 103 := ⟨(by kernel_rfl), (by kernel_rfl), (by kernel_rfl), (fun z h c => by cases h; kernel_rfl), (fun z h => by cases h), (fun z h => by cases h), (fun z h => by cases h)⟩
def ti104 : TI := { k := .plain, sz := 1, by_ := 8, zero := some [.v .nilFunc] }
theorem tok104 : ti104.Ok Try.prog 104 := ⟨(by kernel_rfl), (by kernel_rfl), (by kernel_rfl), (fun z h c => by cases h; kernel_rfl), (fun z h => by cases h), (fun z h => by cases h), (fun z h => by cases h)⟩
def ti105 : TI := { k := .plain, sz := 1, by_ := 8, zero := some [.v .nilFunc] }
theorem tok105 : ti105.Ok Try.prog 105 := ⟨(by kernel_rfl), (by kernel_rfl), (by kernel_rfl), (fun z h c => by cases h; kernel_rfl), (fun z h => by cases h), (fun z h => by cases h), (fun z h => by cases h)⟩
def ti106 : TI := { k := .plain, sz := 1, by_ := 8, zero := some [.v .nilFunc] }
theorem tok106 : ti106.Ok Try.prog 106 := ⟨(by kernel_rfl), (by kernel_rfl), (by kernel_rfl), (fun z h c => by cases h; kernel_rfl), (fun z h => by cases h), (fun z h => by cases h), (fun z h => by cases h)⟩
def ti107 : TI := { k := .struct [(0, 64), (2, 2)], sz := 3, by_ := 24, zero := some [.i .i64 (.lit 0), .i .i64 (.lit 0), .i .i64 (.lit 0)], flat := some [.int, .int, .int] }
theorem tok107 : ti107.Ok Try.prog 107 := ⟨(by kernel_rfl), (by kernel_rfl), (by kernel_rfl), (fun z h c => by cases h; kernel_rfl), (fun z h => by cases h), (fun z h => by cases h), (fun z h => by cases h; kernel_rfl)⟩
def ti108 : TI := { k := .struct [(0, 64), (2, 2)], sz := 3, by_ := 24, zero := some [.i .i64 (.lit 0), .i .i64 (.lit 0), .i .i64 (.lit 0)], flat := some [.int, .int, .int] }
theorem tok108 : ti108.Ok Try.prog 108 := ⟨(by kernel_rfl), (by kernel_rfl), (by kernel_rfl), (fun z h c => by cases h; kernel_rfl), (fun z h => by cases h), (fun z h => by cases h), (fun z h => by cases h; kernel_rfl)⟩
def ti109 : TI := { k := .struct [(0, 3), (1, 3), (2, 3), (3, 108), (6, 31), (7, 4)], sz := 8, by_ := 80, zero := some [.i .i64 (.lit 0), .i .i64 (.lit 0), .i .i64 (.lit 0), .i .i64 (.lit 0), .i .i64 (.lit 0), .i .i64 (.lit 0), .v (.slice none 0 0), .b .f] }
theorem tok109 : ti109.Ok Try.prog 109 := ⟨(by kernel_rfl), (by kernel_rfl), (by kernel_rfl), (fun z h c => by cases h; kernel_rfl), (fun z h => by cases h), (fun z h => by cases h), (fun z h => by cases h)⟩
def ti110 : TI := { k := .struct [(0, 3), (1, 3), (2, 3), (3, 108), (6, 31), (7, 4)], sz := 8, by_ := 80, zero := some [.i .i64 (.lit 0), .i .i64 (.lit 0), .i .i64 (.lit 0), .i .i64 (.lit 0), .i .i64 (.lit 0), .i .i64 (.lit 0), .v (.slice none 0 0), .b .f] }
theorem tok110 : ti110.Ok Try.prog 110 := ⟨(by kernel_rfl), (by kernel_rfl), (by kernel_rfl), (fun z h c => by cases h; kernel_rfl), (fun z h => by cases h), (fun z h => by cases h), (fun z h => by cases h)⟩
def ti111 : TI := { k := .slice 114, sz := 1, by_ := 24, zero := some [.v (.slice none 0 0)] }
theorem tok111 : ti111.Ok Try.prog 111 := ⟨(by kernel_rfl), (by kernel_rfl), (by kernel_rfl), (fun z h c => by cases h; kernel_rfl), (fun z h => by cases h), (fun z h => by cases h), (fun z h => by cases h)⟩
def ti112 : TI := { k := .plain, sz := 1, by_ := 8, zero := some [.v .nilFunc] }
theorem tok112 : ti112.Ok Try.prog 112 := ⟨(by kernel_rfl), (by kernel_rfl), (by kernel_rfl), (fun z h c => by cases h; kernel_rfl), (fun z h => by cases h), (fun z h => by cases h), (fun z h => by cases h)⟩
def ti113 : TI := { k := .plain, sz := 1, by_ := 8, zero := some [.v .nilFunc] }
theorem tok113 : ti113.Ok Try.prog 113 := ⟨(by kernel_rfl), (by kernel_rfl), (by kernel_rfl), (fun z h c => by cases h; kernel_rfl), (fun z h => by cases h), (fun z h => by cases h), (fun z h => by cases h)⟩
def ti114 : TI := { k := .arr 2 3, sz := 2, by_ := 16, zero := some [.i .i64 (.lit 0), .i .i64 (.lit 0)], flat := some [.int, .int] }
theorem tok114 : ti114.Ok Try.prog 114 := ⟨(by kernel_rfl), (by kernel_rfl), (by kernel_rfl), (fun z h c => by cases h; kernel_rfl), (fun z h => by cases h), (fun z h => by cases h), (fun z h => by cases h; kernel_rfl)⟩
def ti115 : TI := { k := .plain, sz := 1, by_ := 8, zero := some [.v .nilFunc] }
theorem tok115 : ti115.Ok Try.prog 115 := ⟨(by kernel_rfl), (by kernel_rfl), (by kernel_rfl), (fun z h c => by cases h; kernel_rfl), (fun z h => by cases h), (fun z h => by cases h), (fun z h => by cases h)⟩
def ti116 : TI := { k := .map 2 3, sz := 1, by_ := 8, zero := some [.v (.map none)] }
theorem tok116 : ti116.Ok Try.prog 116 := ⟨(by kernel_rfl), (by kernel_rfl), (by kernel_rfl), (fun z h c => by cases h; kernel_rfl), (fun z h => by cases h), (fun z h => by cases h), (fun z h => by cases h)⟩
def ti117 : TI := { k := .map 2 33, sz := 1, by_ := 8, zero := some [.v (.map none)] }
theorem tok117 : ti117.Ok Try.prog 117 := ⟨(by kernel_rfl), (by kernel_rfl), (by kernel_rfl), (fun z h c => by cases h; kernel_rfl), (fun z h => by cases h), (fun z h => by cases h), (fun z h => by cases h)⟩
def ti118 : TI := { k := .map 41 33, sz := 1, by_ := 8, zero := some [.v (.map none)] }
theorem tok118 : ti118.Ok Try.prog 118 := ⟨(by kernel_rfl), (by kernel_rfl), (by kernel_rfl), (fun z h c => by cases h; kernel_rfl), (fun z h => by cases h), (fun z h => by cases h), (fun z h => by cases h)⟩
def ti119 : TI := { k := .struct [(0, 116), (1, 116), (2, 117), (3, 118), (4, 2)], sz := 5, by_ := 40, zero := some [.v (.map none), .v (.map none), .v (.map none), .v (.map none), .i .i64 (.lit 0)] }
theorem tok119 : ti119.Ok Try.prog 119 := ⟨(by kernel_rfl), (by kernel_rfl), (by kernel_rfl), (fun z h c => by cases h; kernel_rfl), (fun z h => by cases h), (fun z h => by cases h), (fun z h => by cases h)⟩
def ti120 : TI := { k := .struct [(0, 116), (1, 116), (2, 117), (3, 118), (4, 2)], sz := 5, by_ := 40, zero := some [.v (.map none), .v (.map none), .v (.map none), .v (.map none), .i .i64 (.lit 0)] }
theorem tok120 : ti120.Ok Try.prog 120 := ⟨(by kernel_rfl), (by kernel_rfl), (by kernel_rfl), (fun z h c => by cases h; kernel_rfl), (fun z h => by cases h), (fun z h => by cases h), (fun z h => by cases h)⟩
def ti121 : TI := { k := .plain, sz := 1, by_ := 8, zero := some [.v .nilFunc] }
theorem tok121 : ti121.Ok Try.prog 121 := ⟨(by kernel_rfl), (by kernel_rfl), (by kernel_rfl), (fun z h c => by cases h; kernel_rfl), (fun z h => by cases h), (fun z h => by cases h), (fun z h => by cases h)⟩
def ti122 : TI := { k := .struct [(0, 3), (1, 3), (2, 2)], sz := 3, by_ := 24, zero := some [.i .i64 (.lit 0), .i .i64 (.lit 0), .i .i64 (.lit 0)], flat := some [.int, .int, .int] }
theorem tok122 : ti122.Ok Try.prog 122 := ⟨(by kernel_rfl), (by kernel_rfl), (by kernel_rfl), (fun z h c => by cases h; kernel_rfl), (fun z h => by cases h), (fun z h => by cases h), (fun z h => by cases h; kernel_rfl)⟩
def ti123 : TI := { k := .struct [(0, 3), (1, 3), (2, 2)], sz := 3, by_ := 24, zero := some [.i .i64 (.lit 0), .i .i64 (.lit 0), .i .i64 (.lit 0)], flat := some [.int, .int, .int] }
theorem tok123 : ti123.Ok Try.prog 123 := ⟨(by kernel_rfl), (by kernel_rfl), (by kernel_rfl), (fun z h c => by cases h; kernel_rfl), (fun z h => by cases h), (fun z h => by cases h), (fun z h => by cases h; kernel_rfl)⟩
def ti124 : TI := { k := .plain, sz := 1, by_ := 8, zero := some [.v .nilFunc] }
theorem tok124 : ti124.Ok Try.prog 124 := ⟨(by kernel_rfl), (by kernel_rfl), (by kernel_rfl), (fun z h c => by cases h; kernel_rfl), (fun z h => by cases h), (fun z h => by cases h), (fun z h => by cases h)⟩
def ti125 : TI := { k := .map 41 3, sz := 1, by_ := 8, zero := some [.v (.map none)] }
theorem tok125 : ti125.Ok Try.prog 125 := ⟨(by kernel_rfl), (by kernel_rfl), (by kernel_rfl), (fun z h c => by cases h; kernel_rfl), (fun z h => by cases h), (fun z h => by cases h), (fun z h => by cases h)⟩
def ti126 : TI := { k := .plain, sz := 1, by_ := 8, zero := some [.v .nilFunc] }
theorem tok126 : ti126.Ok Try.prog 126 := ⟨(by kernel_rfl), (by kernel_rfl), (by kernel_rfl), (fun z h c => by cases h; kernel_rfl), (fun z h => by cases h), (fun z h => by cases h), (fun z h => by cases h)⟩
def ti127 : TI := { k := .ptr 198, sz := 1, by_ := 8, zero := some [.v (.pointer none)] }
theorem tok127 : ti127.Ok Try.prog 127 := ⟨(by kernel_rfl), (by kernel_rfl), (by kernel_rfl), (fun z h c => by cases h; kernel_rfl), (fun z h => by cases h), (fun z h => by cases h), (fun z h => by cases h)⟩
-- 128: Exception('tuple')
def ti129 : TI := { k := .plain, sz := 1, by_ := 8, zero := some [.v .nilFunc] }
theorem tok129 : ti129.Ok Try.prog 129 := ⟨(by kernel_rfl), (by kernel_rfl), (by kernel_rfl), (fun z h c => by cases h; kernel_rfl), (fun z h => by cases h), (fun z h => by cases h), (fun z h => by cases h)⟩
def ti130 : TI := { k := .plain, sz := 1, by_ := 8, zero := some [.v .nilFunc] }
theorem tok130 : ti130.Ok Try.prog 130 := ⟨(by kernel_rfl), (by kernel_rfl), (by kernel_rfl), (fun z h c => by cases h; kernel_rfl), (fun z h => by cases h), (fun z h => by cases h), (fun z h => by cases h)⟩
def ti131 : TI := { k := .plain, sz := 1, by_ := 8, zero := some [.v .nilFunc] }
theorem tok131 : ti131.Ok Try.prog 131 := ⟨(by kernel_rfl), (by kernel_rfl), (by kernel_rfl), (fun z h c => by cases h; kernel_rfl), (fun z h => by cases h), (fun z h => by cases h), (fun z h => by cases h)⟩
def ti132 : TI := { k := .struct [(0, 2), (1, 31)], sz := 2, by_ := 32, zero := some [.i .i64 (.lit 0), .v (.slice none 0 0)] }
theorem tok132 : ti132.Ok Try.prog 132 := ⟨(by kernel_rfl), (by kernel_rfl), (by kernel_rfl), (fun z h c => by cases h; kernel_rfl), (fun z h => by cases h), (fun z h => by cases h), (fun z h => by cases h)⟩
def ti133 : TI := { k := .plain, sz := 1, by_ := 8, zero := some [.v .nilFunc] }
theorem tok133 : ti133.Ok Try.prog 133 := ⟨(by kernel_rfl), (by kernel_rfl), (by kernel_rfl), (fun z h c => by cases h; kernel_rfl), (fun z h => by cases h), (fun z h => by cases h), (fun z h => by cases h)⟩
-- 134: Exception('tuple')
def ti135 : TI := { k := .plain, sz := 1, by_ := 8, zero := some [.v .nilFunc] }
theorem tok135 : ti135.Ok Try.prog 135 := ⟨(by kernel_rfl), (by kernel_rfl), (by kernel_rfl), (fun z h c => by cases h; kernel_rfl), (fun z h => by cases h), (fun z h => by cases h), (fun z h => by cases h)⟩
def ti136 : TI := { k := .plain, sz := 1, by_ := 8, zero := some [.v .nilFunc] }
theorem tok136 : ti136.Ok Try.prog 136 := ⟨(by kernel_rfl), (by kernel_rfl), (by kernel_rfl), (fun z h c => by cases h; kernel_rfl), (fun z h => by cases h), (fun z h => by cases h), (fun z h => by cases h)⟩
def ti137 : TI := { k := .plain, sz := 1, by_ := 8, zero := some [.v .nilFunc] }
theorem tok137 : ti137.Ok Try.prog 137 := ⟨(by kernel_rfl), (by kernel_rfl), (by kernel_rfl), (fun z h c => by cases h; kernel_rfl), (fun z h => by cases h), (fun z h => by cases h), (fun z h => by cases h)⟩
def ti138 : TI := { k := .plain, sz := 1, by_ := 8, zero := some [.v .nilFunc] }
theorem tok138 : ti138.Ok Try.prog 138 := ⟨(by kernel_rfl), (by kernel_rfl), (by kernel_rfl), (fun z h c => by cases h; kernel_rfl), (fun z h => by cases h), (fun z h => by cases h), (fun z h => by cases h)⟩
def ti139 : TI := { k := .plain, sz := 1, by_ := 8, zero := some [.v .nilFunc] }
theorem tok139 : ti139.Ok Try.prog 139 := ⟨(by kernel_rfl), (by kernel_rfl), (by kernel_rfl), (fun z h c => by cases h; kernel_rfl), (fun z h => by cases h), (fun z h => by cases h), (fun z h => by cases h)⟩
def ti140 : TI := { k := .plain, sz := 1, by_ := 8, zero := some [.v .nilFunc] }
theorem tok140 : ti140.Ok Try.prog 140 := ⟨(by kernel_rfl), (by kernel_rfl), (by kernel_rfl), (fun z h c => by cases h; kernel_rfl), (fun z h => by cases h), (fun z h => by cases h), (fun z h => by cases h)⟩
def ti141 : TI := { k := .slice 220, sz := 1, by_ := 24, zero := some [.v (.slice none 0 0)] }
theorem tok141 : ti141.Ok Try.prog 141 := ⟨(by kernel_rfl), (by kernel_rfl), (by kernel_rfl), (fun z h c => by cases h; kernel_rfl), (fun z h => by cases h), (fun z h => by cases h), (fun z h => by cases h)⟩
def ti142 : TI := { k := .slice 220, sz := 1, by_ := 24, zero := some [.v (.slice none 0 0)] }
theorem tok142 : ti142.Ok Try.prog 142 := ⟨(by kernel_rfl), (by kernel_rfl), (by kernel_rfl), (fun z h c => by cases h; kernel_rfl), (fun z h => by cases h), (fun z h => by cases h), (fun z h => by cases h)⟩
def ti143 : TI := { k := .struct [(0, 4), (1, 142), (2, 142)], sz := 3, by_ := 56, zero := some [.b .f, .v (.slice none 0 0), .v (.slice none 0 0)] }
theorem tok143 : ti143.Ok Try.prog 143 := ⟨(by kernel_rfl), (by kernel_rfl), (by kernel_rfl), (fun z h c => by cases h; kernel_rfl), (fun z h => by cases h), (fun z h => by cases h), (fun z h => by cases h)⟩
def ti144 : TI := { k := .struct [(0, 4), (1, 142), (2, 142)], sz := 3, by_ := 56, zero := some [.b .f, .v (.slice none 0 0), .v (.slice none 0 0)] }
theorem tok144 : ti144.Ok Try.prog 144 := ⟨(by kernel_rfl), (by kernel_rfl), (by kernel_rfl), (fun z h c => by cases h; kernel_rfl), (fun z h => by cases h), (fun z h => by cases h), (fun z h => by cases h)⟩
def ti145 : TI := { k := .plain, sz := 1, by_ := 8, zero := some [.v .nilFunc] }
theorem tok145 : ti145.Ok Try.prog 145 := ⟨(by kernel_rfl), (by kernel_rfl), (by kernel_rfl), (fun z h c => by cases h; kernel_rfl), (fun z h => by cases h), (fun z h => by cases h), (fun z h => by cases h)⟩
def ti146 : TI := { k := .plain, sz := 1, by_ := 8, zero := some [.v .nilFunc] }
theorem tok146 : ti146.Ok Try.prog 146 := ⟨(by kernel_rfl), (by kernel_rfl), (by kernel_rfl), (fun z h c => by cases h; kernel_rfl), (fun z h => by cases h), (fun z h => by cases h), (fun z h => by cases h)⟩
def ti147 : TI := { k := .plain, sz := 1, by_ := 8, zero := some [.v .nilFunc] }
theorem tok147 : ti147.Ok Try.prog 147 := ⟨(by kernel_rfl), (by kernel_rfl), (by kernel_rfl), (fun z h c => by cases h; kernel_rfl), (fun z h => by cases h), (fun z h => by cases h), (fun z h => by cases h)⟩
def ti148 : TI := { k := .plain, sz := 1, by_ := 8, zero := some [.v .nilFunc] }
theorem tok148 : ti148.Ok Try.prog 148 := ⟨(by kernel_rfl), (by kernel_rfl), (by kernel_rfl), (fun z h c => by cases h; kernel_rfl), (fun z h => by cases h), (fun z h => by cases h), (fun z h => by cases h)⟩
def ti149 : TI := { k := .plain, sz := 1, by_ := 8, zero := some [.v .nilFunc] }
theorem tok149 : ti149.Ok Try.prog 149 := ⟨(by kernel_rfl), (by kernel_rfl), (by kernel_rfl), (fun z h c => by cases h; kernel_rfl), (fun z h => by cases h), (fun z h => by cases h), (fun z h => by cases h)⟩
def ti150 : TI := { k := .plain, sz := 1, by_ := 8, zero := some [.v .nilFunc] }
theorem tok150 : ti150.Ok Try.prog 150 := ⟨(by kernel_rfl), (by kernel_rfl), (by kernel_rfl), (fun z h c => by cases h; kernel_rfl), (fun z h => by cases h), (fun z h => by cases h), (fun z h => by cases h)⟩
def ti151 : TI := { k := .plain, sz := 1, by_ := 8, zero := some [.v .nilFunc] }
theorem tok151 : ti151.Ok Try.prog 151 := ⟨(by kernel_rfl), (by kernel_rfl), (by kernel_rfl), (fun z h c => by cases h; kernel_rfl), (fun z h => by cases h), (fun z h => by cases h), (fun z h => by cases h)⟩
def ti152 : TI := { k := .plain, sz := 1, by_ := 8, zero := some [.v .nilFunc] }
theorem tok152 : ti152.Ok Try.prog 152 := ⟨(by kernel_rfl), (by kernel_rfl), (by kernel_rfl), (fun z h c => by cases h; kernel_rfl), (fun z h => by cases h), (fun z h => by cases h), (fun z h => by cases h)⟩
def ti153 : TI := { k := .plain, sz := 1, by_ := 8, zero := some [.v .nilFunc] }
theorem tok153 : ti153.Ok Try.prog 153 := ⟨(by kernel_rfl), (by kernel_rfl), (by kernel_rfl), (fun z h c => by cases h; kernel_rfl), (fun z h => by cases h), (fun z h => by cases h), (fun z h => by cases h)⟩
def ti154 : TI := { k := .plain, sz := 1, by_ := 8, zero := some [.v .nilFunc] }
theorem tok154 : ti154.Ok Try.prog 154 := ⟨(by kernel_rfl), (by kernel_rfl), (by kernel_rfl), (fun z h c => by cases h; kernel_rfl), (fun z h => by cases h), (fun z h => by cases h), (fun z h => by cases h)⟩
def ti155 : TI := { k := .int .u64, sz := 1, by_ := 8, zero := some [.i .u64 (.lit 0)] }
theorem tok155 : ti155.Ok Try.prog 155 := ⟨(by kernel_rfl), (by kernel_rfl), (by kernel_rfl), (fun z h c => by cases h; kernel_rfl), (fun z h => by cases h), (fun z h => by cases h), (fun z h => by cases h)⟩
def ti156 : TI := { k := .slice 144, sz := 1, by_ := 24, zero := some [.v (.slice none 0 0)] }
theorem tok156 : ti156.Ok Try.prog 156 := ⟨(by kernel_rfl), (by kernel_rfl), (by kernel_rfl), (fun z h c => by cases h; kernel_rfl), (fun z h => by cases h), (fun z h => by cases h), (fun z h => by cases h)⟩
def ti157 : TI := { k := .struct [(0, 75), (6, 156), (7, 144), (10, 144)], sz := 13, by_ := 216, zero := some [.v (.slice none 0 0), .v (.slice none 0 0), .i .i64 (.lit 0), .i .i64 (.lit 0), .i .i64 (.lit 0), .i .i64 (.lit 0), .v (.slice none 0 0), .b .f, .v (.slice none 0 0), .v (.slice none 0 0), .b .f, .v (.slice none 0 0), .v (.slice none 0 0)] }
theorem tok157 : ti157.Ok Try.prog 157 := ⟨(by kernel_rfl), (by kernel_rfl), (by kernel_rfl), (fun z h c => by cases h; kernel_rfl), (fun z h => by cases h), (fun z h => by cases h), (fun z h => by cases h)⟩
def ti158 : TI := { k := .struct [(0, 75), (6, 156), (7, 144), (10, 144)], sz := 13, by_ := 216, zero := some [.v (.slice none 0 0), .v (.slice none 0 0), .i .i64 (.lit 0), .i .i64 (.lit 0), .i .i64 (.lit 0), .i .i64 (.lit 0), .v (.slice none 0 0), .b .f, .v (.slice none 0 0), .v (.slice none 0 0), .b .f, .v (.slice none 0 0), .v (.slice none 0 0)] }
theorem tok158 : ti158.Ok Try.prog 158 := ⟨(by kernel_rfl), (by kernel_rfl), (by kernel_rfl), (fun z h c => by cases h; kernel_rfl), (fun z h => by cases h), (fun z h => by cases h), (fun z h => by cases h)⟩
-- 159: Exception('tuple')
def ti160 : TI := { k := .plain, sz := 1, by_ := 8, zero := some [.v .nilFunc] }
theorem tok160 : ti160.Ok Try.prog 160 := ⟨(by kernel_rfl), (by kernel_rfl), (by kernel_rfl), (fun z h c => by cases h; kernel_rfl), (fun z h => by cases h), (fun z h => by cases h), (fun z h => by cases h)⟩
def ti161 : TI := { k := .plain, sz := 1, by_ := 8, zero := some [.v .nilFunc] }
theorem tok161 : ti161.Ok Try.prog 161 := ⟨(by kernel_rfl), (by kernel_rfl), (by kernel_rfl), (fun z h c => by cases h; kernel_rfl), (fun z h => by cases h), (fun z h => by cases h), (fun z h => by cases h)⟩
def ti162 : TI := { k := .plain, sz := 1, by_ := 8, zero := some [.v .nilFunc] }
theorem tok162 : ti162.Ok Try.prog 162 := ⟨(by kernel_rfl), (by kernel_rfl), (by kernel_rfl), (fun z h c => by cases h; kernel_rfl), (fun z h => by cases h), (fun z h => by cases h), (fun z h => by cases h)⟩
def ti163 : TI := { k := .plain, sz := 1, by_ := 8, zero := some [.v .nilFunc] }
theorem tok163 : ti163.Ok Try.prog 163 := ⟨(by kernel_rfl), (by kernel_rfl), (by kernel_rfl), (fun z h c => by cases h; kernel_rfl), (fun z h => by cases h), (fun z h => by cases h), (fun z h => by cases h)⟩
def ti164 : TI := { k := .struct [(0, 2), (1, 31), (2, 31)], sz := 3, by_ := 56, zero := some [.i .i64 (.lit 0), .v (.slice none 0 0), .v (.slice none 0 0)] }
theorem tok164 : ti164.Ok Try.prog 164 := ⟨(by kernel_rfl), (by kernel_rfl), (by kernel_rfl), (fun z h c => by cases h; kernel_rfl), (fun z h => by cases h), (fun z h => by cases h), (fun z h => by cases h)⟩
def ti165 : TI := { k := .struct [(0, 2), (1, 31), (2, 31)], sz := 3, by_ := 56, zero := some [.i .i64 (.lit 0), .v (.slice none 0 0), .v (.slice none 0 0)] }
theorem tok165 : ti165.Ok Try.prog 165 := ⟨(by kernel_rfl), (by kernel_rfl), (by kernel_rfl), (fun z h c => by cases h; kernel_rfl), (fun z h => by cases h), (fun z h => by cases h), (fun z h => by cases h)⟩
def ti166 : TI := { k := .struct [(0, 2), (1, 2), (2, 2), (3, 31), (4, 2)], sz := 5, by_ := 56, zero := some [.i .i64 (.lit 0), .i .i64 (.lit 0), .i .i64 (.lit 0), .v (.slice none 0 0), .i .i64 (.lit 0)] }
theorem tok166 : ti166.Ok Try.prog 166 := ⟨(by kernel_rfl), (by kernel_rfl), (by kernel_rfl), (fun z h c => by cases h; kernel_rfl), (fun z h => by cases h), (fun z h => by cases h), (fun z h => by cases h)⟩
def ti167 : TI := { k := .struct [(0, 2), (1, 2), (2, 2), (3, 31), (4, 2)], sz := 5, by_ := 56, zero := some [.i .i64 (.lit 0), .i .i64 (.lit 0), .i .i64 (.lit 0), .v (.slice none 0 0), .i .i64 (.lit 0)] }
theorem tok167 : ti167.Ok Try.prog 167 := ⟨(by kernel_rfl), (by kernel_rfl), (by kernel_rfl), (fun z h c => by cases h; kernel_rfl), (fun z h => by cases h), (fun z h => by cases h), (fun z h => by cases h)⟩
def ti168 : TI := { k := .struct [(0, 2), (1, 2), (2, 2), (3, 31)], sz := 4, by_ := 48, zero := some [.i .i64 (.lit 0), .i .i64 (.lit 0), .i .i64 (.lit 0), .v (.slice none 0 0)] }
theorem tok168 : ti168.Ok Try.prog 168 := ⟨(by kernel_rfl), (by kernel_rfl), (by kernel_rfl), (fun z h c => by cases h; kernel_rfl), (fun z h => by cases h), (fun z h => by cases h), (fun z h => by cases h)⟩
def ti169 : TI := { k := .struct [(0, 2), (1, 2), (2, 2), (3, 31)], sz := 4, by_ := 48, zero := some [.i .i64 (.lit 0), .i .i64 (.lit 0), .i .i64 (.lit 0), .v (.slice none 0 0)] }
theorem tok169 : ti169.Ok Try.prog 169 := ⟨(by kernel_rfl), (by kernel_rfl), (by kernel_rfl), (fun z h c => by cases h; kernel_rfl), (fun z h => by cases h), (fun z h => by cases h), (fun z h => by cases h)⟩
def ti170 : TI := { k := .struct [(0, 2), (1, 2), (2, 2), (3, 31)], sz := 4, by_ := 48, zero := some [.i .i64 (.lit 0), .i .i64 (.lit 0), .i .i64 (.lit 0), .v (.slice none 0 0)] }
theorem tok170 : ti170.Ok Try.prog 170 := ⟨(by kernel_rfl), (by kernel_rfl), (by kernel_rfl), (fun z h c => by cases h; kernel_rfl), (fun z h => by cases h), (fun z h => by cases h), (fun z h => by cases h)⟩
def ti171 : TI := { k := .struct [(0, 2), (1, 2), (2, 2), (3, 31)], sz := 4, by_ := 48, zero := some [.i .i64 (.lit 0), .i .i64 (.lit 0), .i .i64 (.lit 0), .v (.slice none 0 0)] }
theorem tok171 : ti171.Ok Try.prog 171 := ⟨(by kernel_rfl), (by kernel_rfl), (by kernel_rfl), (fun z h c => by cases h; kernel_rfl), (fun z h => by cases h), (fun z h => by cases h), (fun z h => by cases h)⟩
def ti172 : TI := { k := .plain, sz := 1, by_ := 8, zero := some [.v .nilFunc] }
theorem tok172 : ti172.Ok Try.prog 172 := ⟨(by kernel_rfl), (by kernel_rfl), (by kernel_rfl), (fun z h c => by cases h; kernel_rfl), (fun z h => by cases h), (fun z h => by cases h), (fun z h => by cases h)⟩
def ti173 : TI := { k := .plain, sz := 1, by_ := 8, zero := some [.v .nilFunc] }
theorem tok173 : ti173.Ok Try.prog 173 := ⟨(by kernel_rfl), (by kernel_rfl), (by kernel_rfl), (fun z h c => by cases h; kernel_rfl), (fun z h => by cases h), (fun z h => by cases h), (fun z h => by cases h)⟩
def ti174 : TI := { k := .plain, sz := 1, by_ := 8, zero := some [.v .nilFunc] }
theorem tok174 : ti174.Ok Try.prog 174 := ⟨(by kernel_rfl), (by kernel_rfl), (by kernel_rfl), (fun z h c => by cases h; kernel_rfl), (fun z h => by cases h), (fun z h => by cases h), (fun z h => by cases h)⟩
def ti175 : TI := { k := .plain, sz := 1, by_ := 8, zero := some [.v .nilFunc] }
theorem tok175 : ti175.Ok Try.prog 175 := ⟨(by kernel_rfl), (by kernel_rfl), (by kernel_rfl), (fun z h c => by cases h; kernel_rfl), (fun z h => by cases h), (fun z h => by cases h), (fun z h => by cases h)⟩
def ti176 : TI := { k := .plain, sz := 1, by_ := 8, zero := some [.v .nilFunc] }
theorem tok176 : ti176.Ok Try.prog 176 := ⟨(by kernel_rfl), (by kernel_rfl), (by kernel_rfl), (fun z h c => by cases h; kernel_rfl), (fun z h => by cases h), (fun z h => by cases h), (fun z h => by cases h)⟩
def ti177 : TI := { k := .plain, sz := 1, by_ := 8, zero := some [.v .nilFunc] }
theorem tok177 : ti177.Ok Try.prog 177 := ⟨(by kernel_rfl), (by kernel_rfl), (by kernel_rfl), (fun z h c => by cases h; kernel_rfl), (fun z h => by cases h), (fun z h => by cases h), (fun z h => by cases h)⟩
def ti178 : TI := { k := .struct [(0, 2), (1, 3), (2, 2), (3, 4), (4, 4), (5, 2), (6, 2)], sz := 7, by_ := 48, zero := some [.i .i64 (.lit 0), .i .i64 (.lit 0), .i .i64 (.lit 0), .b .f, .b .f, .i .i64 (.lit 0), .i .i64 (.lit 0)], flat := some [.int, .int, .int, .bool, .bool, .int, .int] }
theorem tok178 : ti178.Ok Try.prog 178 := ⟨(by kernel_rfl), (by kernel_rfl), (by kernel_rfl), (fun z h c => by cases h; kernel_rfl), (fun z h => by cases h), (fun z h => by cases h), (fun z h => by cases h; kernel_rfl)⟩
def ti179 : TI := { k := .struct [(0, 2), (1, 3), (2, 2), (3, 4), (4, 4), (5, 2), (6, 2)], sz := 7, by_ := 48, zero := some [.i .i64 (.lit 0), .i .i64 (.lit 0), .i .i64 (.lit 0), .b .f, .b .f, .i .i64 (.lit 0), .i .i64 (.lit 0)], flat := some [.int, .int, .int, .bool, .bool, .int, .int] }
theorem tok179 : ti179.Ok Try.prog 179 := ⟨(by kernel_rfl), (by kernel_rfl), (by kernel_rfl), (fun z h c => by cases h; kernel_rfl), (fun z h => by cases h), (fun z h => by cases h), (fun z h => by cases h; kernel_rfl)⟩
def ti180 : TI := { k := .plain, sz := 1, by_ := 8, zero := some [.v .nilFunc] }
theorem tok180 : ti180.Ok Try.prog 180 := ⟨(by kernel_rfl), (by kernel_rfl), (by kernel_rfl), (fun z h c => by cases h; kernel_rfl), (fun z h => by cases h), (fun z h => by cases h), (fun z h => by cases h)⟩
def ti181 : TI := { k := .plain, sz := 1, by_ := 8, zero := some [.v .nilFunc] }
theorem tok181 : ti181.Ok Try.prog 181 := ⟨(by kernel_rfl), (by kernel_rfl), (by kernel_rfl), (fun z h c => by cases h; kernel_rfl), (fun z h => by cases h), (fun z h => by cases h), (fun z h => by cases h)⟩
def ti182 : TI := { k := .plain, sz := 1, by_ := 8, zero := some [.v .nilFunc] }
theorem tok182 : ti182.Ok Try.prog 182 := ⟨(by kernel_rfl), (by kernel_rfl), (by kernel_rfl), (fun z h c => by cases h; kernel_rfl), (fun z h => by cases h), (fun z h => by cases h), (fun z h => by cases h)⟩
def ti183 : TI := { k := .plain, sz := 1, by_ := 8, zero := some [.v .nilFunc] }
theorem tok183 : ti183.Ok Try.prog 183 := ⟨(by kernel_rfl), (by kernel_rfl), (by kernel_rfl), (fun z h c => by cases h; kernel_rfl), (fun z h => by cases h), (fun z h => by cases h), (fun z h => by cases h)⟩
def ti184 : TI := { k := .plain, sz := 1, by_ := 8, zero := some [.v .nilFunc] }
theorem tok184 : ti184.Ok Try.prog 184 := ⟨(by kernel_rfl), (by kernel_rfl), (by kernel_rfl), (fun z h c => by cases h; kernel_rfl), (fun z h => by cases h), (fun z h => by cases h), (fun z h => by cases h)⟩
def ti185 : TI := { k := .plain, sz := 1, by_ := 8, zero := some [.v .nilFunc] }
theorem tok185 : ti185.Ok Try.prog 185 := ⟨(by kernel_rfl), (by kernel_rfl), (by kernel_rfl), (fun z h c => by cases h; kernel_rfl), (fun z h => by cases h), (fun z h => by cases h), (fun z h => by cases h)⟩
def ti186 : TI := { k := .plain, sz := 1, by_ := 8, zero := some [.v .nilFunc] }
theorem tok186 : ti186.Ok Try.prog 186 := ⟨(by kernel_rfl), (by kernel_rfl), (by kernel_rfl), (fun z h c => by cases h; kernel_rfl), (fun z h => by cases h), (fun z h => by cases h), (fun z h => by cases h)⟩
def ti187 : TI := { k := .plain, sz := 1, by_ := 8, zero := some [.v .nilFunc] }
theorem tok187 : ti187.Ok Try.prog 187 := ⟨(by kernel_rfl), (by kernel_rfl), (by kernel_rfl), (fun z h c => by cases h; kernel_rfl), (fun z h => by cases h), (fun z h => by cases h), (fun z h => by cases h)⟩
-- 188: Exception('tuple')
def ti189 : TI := { k := .plain, sz := 1, by_ := 8, zero := some [.v .nilFunc] }
theorem tok189 : ti189.Ok Try.prog 189 := ⟨(by kernel_rfl), (by kernel_rfl), (by kernel_rfl), (fun z h c => by cases h; kernel_rfl), (fun z h => by cases h), (fun z h => by cases h), (fun z h => by cases h)⟩
def ti190 : TI := { k := .plain, sz := 1, by_ := 8, zero := some [.v .nilFunc] }
theorem tok190 : ti190.Ok Try.prog 190 := ⟨(by kernel_rfl), (by kernel_rfl), (by kernel_rfl), (fun z h c => by cases h; kernel_rfl), (fun z h => by cases h), (fun z h => by cases h), (fun z h => by cases h)⟩
def ti191 : TI := { k := .plain, sz := 1, by_ := 8, zero := some [.v .nilFunc] }
theorem tok191 : ti191.Ok Try.prog 191 := ⟨(by kernel_rfl), (by kernel_rfl), (by kernel_rfl), (fun z h c => by cases h; kernel_rfl), (fun z h => by cases h), (fun z h => by cases h), (fun z h => by cases h)⟩
def ti192 : TI := { k := .ptr 120, sz := 1, by_ := 8, zero := some [.v (.pointer none)] }
theorem tok192 : ti192.Ok Try.prog 192 := ⟨(by kernel_rfl), (by kernel_rfl), (by kernel_rfl), (fun z h c => by cases h; kernel_rfl), (fun z h => by cases h), (fun z h => by cases h), (fun z h => by cases h)⟩
def ti193 : TI := { k := .plain, sz := 1, by_ := 8, zero := some [.v .nilFunc] }
theorem tok193 : ti193.Ok Try.prog 193 := ⟨(by kernel_rfl), (by kernel_rfl), (by kernel_rfl), (fun z h c => by cases h; kernel_rfl), (fun z h => by cases h), (fun z h => by cases h), (fun z h => by cases h)⟩
def ti194 : TI := { k := .plain, sz := 1, by_ := 8, zero := some [.v .nilFunc] }
theorem tok194 : ti194.Ok Try.prog 194 := ⟨(by kernel_rfl), (by kernel_rfl), (by kernel_rfl), (fun z h c => by cases h; kernel_rfl), (fun z h => by cases h), (fun z h => by cases h), (fun z h => by cases h)⟩
def ti195 : TI := { k := .plain, sz := 1, by_ := 8, zero := some [.v .nilFunc] }
theorem tok195 : ti195.Ok Try.prog 195 := ⟨(by kernel_rfl), (by kernel_rfl), (by kernel_rfl), (fun z h c => by cases h; kernel_rfl), (fun z h => by cases h), (fun z h => by cases h), (fun z h => by cases h)⟩
def ti196 : TI := { k := .slice 61, sz := 1, by_ := 24, zero := some [.v (.slice none 0 0)] }
theorem tok196 : ti196.Ok Try.prog 196 := ⟨(by kernel_rfl), (by kernel_rfl), (by kernel_rfl), (fun z h c => by cases h; kernel_rfl), (fun z h => by cases h), (fun z h => by cases h), (fun z h => by cases h)⟩
def ti197 : TI := { k := .struct [(0, 61), (4, 42), (5, 31), (6, 196)], sz := 7, by_ := 104, zero := some [.i .i64 (.lit 0), .i .i64 (.lit 0), .i .i64 (.lit 0), .i .i64 (.lit 0), .v (.slice none 0 0), .v (.slice none 0 0), .v (.slice none 0 0)] }
theorem tok197 : ti197.Ok Try.prog 197 := ⟨(by kernel_rfl), (by kernel_rfl), (by kernel_rfl), (fun z h c => by cases h; kernel_rfl), (fun z h => by cases h), (fun z h => by cases h), (fun z h => by cases h)⟩
def ti198 : TI := { k := .struct [(0, 61), (4, 42), (5, 31), (6, 196)], sz := 7, by_ := 104, zero := some [.i .i64 (.lit 0), .i .i64 (.lit 0), .i .i64 (.lit 0), .i .i64 (.lit 0), .v (.slice none 0 0), .v (.slice none 0 0), .v (.slice none 0 0)] }
theorem tok198 : ti198.Ok Try.prog 198 := ⟨(by kernel_rfl), (by kernel_rfl), (by kernel_rfl), (fun z h c => by cases h; kernel_rfl), (fun z h => by cases h), (fun z h => by cases h), (fun z h => by cases h)⟩
def ti199 : TI := { k := .plain, sz := 1, by_ := 8, zero := some [.v .nilFunc] }
theorem tok199 : ti199.Ok Try.prog 199 := ⟨(by kernel_rfl), (by kernel_rfl), (by kernel_rfl), (fun z h c => by cases h; kernel_rfl), (fun z h => by cases h), (fun z h => by cases h), (fun z h => by cases h)⟩
def ti200 : TI := { k := .slice 108, sz := 1, by_ := 24, zero := some [.v (.slice none 0 0)] }
theorem tok200 : ti200.Ok Try.prog 200 := ⟨(by kernel_rfl), (by kernel_rfl), (by kernel_rfl), (fun z h c => by cases h; kernel_rfl), (fun z h => by cases h), (fun z h => by cases h), (fun z h => by cases h)⟩
def ti201 : TI := { k := .plain, sz := 1, by_ := 8, zero := some [.v .nilFunc] }
theorem tok201 : ti201.Ok Try.prog 201 := ⟨(by kernel_rfl), (by kernel_rfl), (by kernel_rfl), (fun z h c => by cases h; kernel_rfl), (fun z h => by cases h), (fun z h => by cases h), (fun z h => by cases h)⟩
def ti202 : TI := { k := .plain, sz := 1, by_ := 8, zero := some [.v .nilFunc] }
theorem tok202 : ti202.Ok Try.prog 202 := ⟨(by kernel_rfl), (by kernel_rfl), (by kernel_rfl), (fun z h c => by cases h; kernel_rfl), (fun z h => by cases h), (fun z h => by cases h), (fun z h => by cases h)⟩
def ti203 : TI := { k := .plain, sz := 1, by_ := 8, zero := some [.v .nilFunc] }
theorem tok203 : ti203.Ok Try.prog 203 := ⟨(by kernel_rfl), (by kernel_rfl), (by kernel_rfl), (fun z h c => by cases h; kernel_rfl), (fun z h => by cases h), (fun z h => by cases h), (fun z h => by cases h)⟩
-- 204: Exception('tuple')
def ti205 : TI := { k := .plain, sz := 1, by_ := 8, zero := some [.v .nilFunc] }
theorem tok205 : ti205.Ok Try.prog 205 := ⟨(by kernel_rfl), (by kernel_rfl), (by kernel_rfl), (fun z h c => by cases h; kernel_rfl), (fun z h => by cases h), (fun z h => by cases h), (fun z h => by cases h)⟩
def ti206 : TI := { k := .plain, sz := 1, by_ := 8, zero := some [.v .nilFunc] }
theorem tok206 : ti206.Ok Try.prog 206 := ⟨(by kernel_rfl), (by kernel_rfl), (by kernel_rfl), (fun z h c => by cases h; kernel_rfl), (fun z h => by cases h), (fun z h => by cases h), (fun z h => by cases h)⟩
def ti207 : TI := { k := .plain, sz := 1, by_ := 8, zero := some [.v .nilFunc] }
theorem tok207 : ti207.Ok Try.prog 207 := ⟨(by kernel_rfl), (by kernel_rfl), (by kernel_rfl), (fun z h c => by cases h; kernel_rfl), (fun z h => by cases h), (fun z h => by cases h), (fun z h => by cases h)⟩
def ti208 : TI := { k := .struct [(0, 3), (1, 3)], sz := 2, by_ := 16, zero := some [.i .i64 (.lit 0), .i .i64 (.lit 0)], flat := some [.int, .int] }
theorem tok208 : ti208.Ok Try.prog 208 := ⟨(by kernel_rfl), (by kernel_rfl), (by kernel_rfl), (fun z h c => by cases h; kernel_rfl), (fun z h => by cases h), (fun z h => by cases h), (fun z h => by cases h; kernel_rfl)⟩
def ti209 : TI := { k := .struct [(0, 3), (1, 3)], sz := 2, by_ := 16, zero := some [.i .i64 (.lit 0), .i .i64 (.lit 0)], flat := some [.int, .int] }
theorem tok209 : ti209.Ok Try.prog 209 := ⟨(by kernel_rfl), (by kernel_rfl), (by kernel_rfl), (fun z h c => by cases h; kernel_rfl), (fun z h => by cases h), (fun z h => by cases h), (fun z h => by cases h; kernel_rfl)⟩
def ti210 : TI := { k := .plain, sz := 1, by_ := 8, zero := some [.v .nilFunc] }
theorem tok210 : ti210.Ok Try.prog 210 := ⟨(by kernel_rfl), (by kernel_rfl), (by kernel_rfl), (fun z h c => by cases h; kernel_rfl), (fun z h => by cases h), (fun z h => by cases h), (fun z h => by cases h)⟩
def ti211 : TI := { k := .plain, sz := 1, by_ := 8, zero := some [.v .nilFunc] }
theorem tok211 : ti211.Ok Try.prog 211 := ⟨(by kernel_rfl), (by kernel_rfl), (by kernel_rfl), (fun z h c => by cases h; kernel_rfl), (fun z h => by cases h), (fun z h => by cases h), (fun z h => by cases h)⟩
def ti212 : TI := { k := .plain, sz := 1, by_ := 8, zero := some [.v .nilFunc] }
theorem tok212 : ti212.Ok Try.prog 212 := ⟨(by kernel_rfl), (by kernel_rfl), (by kernel_rfl), (fun z h c => by cases h; kernel_rfl), (fun z h => by cases h), (fun z h => by cases h), (fun z h => by cases h)⟩
def ti213 : TI := { k := .plain, sz := 1, by_ := 8, zero := some [.v .nilFunc] }
theorem tok213 : ti213.Ok Try.prog 213 := ⟨(by kernel_rfl), (by kernel_rfl), (by kernel_rfl), (fun z h c => by cases h; kernel_rfl), (fun z h => by cases h), (fun z h => by cases h), (fun z h => by cases h)⟩
def ti214 : TI := { k := .plain, sz := 1, by_ := 8, zero := some [.v .nilFunc] }
theorem tok214 : ti214.Ok Try.prog 214 := ⟨(by kernel_rfl), (by kernel_rfl), (by kernel_rfl), (fun z h c => by cases h; kernel_rfl), (fun z h => by cases h), (fun z h => by cases h), (fun z h => by cases h)⟩
def ti215 : TI := { k := .plain, sz := 1, by_ := 8, zero := some [.v .nilFunc] }
theorem tok215 : ti215.Ok Try.prog 215 := ⟨(by kernel_rfl), (by kernel_rfl), (by kernel_rfl), (fun z h c => by cases h; kernel_rfl), (fun z h => by cases h), (fun z h => by cases h), (fun z h => by cases h)⟩
def ti216 : TI := { k := .plain, sz := 1, by_ := 8, zero := some [.v .nilFunc] }
theorem tok216 : ti216.Ok Try.prog 216 := ⟨(by kernel_rfl), (by kernel_rfl), (by kernel_rfl), (fun z h c => by cases h; kernel_rfl), (fun z h => by cases h), (fun z h => by cases h), (fun z h => by cases h)⟩
-- 217: Exception('tuple')
def ti218 : TI := { k := .plain, sz := 1, by_ := 8, zero := some [.v .nilFunc] }
theorem tok218 : ti218.Ok Try.prog 218 := ⟨(by kernel_rfl), (by kernel_rfl), (by kernel_rfl), (fun z h c => by cases h; kernel_rfl), (fun z h => by cases h), (fun z h => by cases h), (fun z h => by cases h)⟩
def ti219 : TI := { k := .plain, sz := 1, by_ := 8, zero := some [.v .nilFunc] }
theorem tok219 : ti219.Ok Try.prog 219 := ⟨(by kernel_rfl), (by kernel_rfl), (by kernel_rfl), (fun z h c => by cases h; kernel_rfl), (fun z h => by cases h), (fun z h => by cases h), (fun z h => by cases h)⟩
def ti220 : TI := { k := .int .u32, sz := 1, by_ := 4, zero := some [.i .u32 (.lit 0)] }
theorem tok220 : ti220.Ok Try.prog 220 := ⟨(by kernel_rfl), (by kernel_rfl), (by kernel_rfl), (fun z h c => by cases h; kernel_rfl), (fun z h => by cases h), (fun z h => by cases h), (fun z h => by cases h)⟩
def ti221 : TI := { k := .plain, sz := 1, by_ := 8, zero := some [.v .nilFunc] }
theorem tok221 : ti221.Ok Try.prog 221 := ⟨(by kernel_rfl), (by kernel_rfl), (by kernel_rfl), (fun z h c => by cases h; kernel_rfl), (fun z h => by cases h), (fun z h => by cases h), (fun z h => by cases h)⟩
def ti222 : TI := { k := .plain, sz := 1, by_ := 8, zero := some [.v .nilFunc] }
theorem tok222 : ti222.Ok Try.prog 222 := ⟨(by kernel_rfl), (by kernel_rfl), (by kernel_rfl), (fun z h c => by cases h; kernel_rfl), (fun z h => by cases h), (fun z h => by cases h), (fun z h => by cases h)⟩
def ti223 : TI := { k := .plain, sz := 1, by_ := 8, zero := some [.v .nilFunc] }
theorem tok223 : ti223.Ok Try.prog 223 := ⟨(by kernel_rfl), (by kernel_rfl), (by kernel_rfl), (fun z h c => by cases h; kernel_rfl), (fun z h => by cases h), (fun z h => by cases h), (fun z h => by cases h)⟩
def ti224 : TI := { k := .struct [(0, 100)], sz := 16, by_ := 208, zero := some [.i .i64 (.lit 0), .i .i64 (.lit 0), .i .i64 (.lit 0), .i .i64 (.lit 0), .i .i64 (.lit 0), .i .i64 (.lit 0), .i .i64 (.lit 0), .i .i64 (.lit 0), .i .i64 (.lit 0), .i .i64 (.lit 0), .i .i64 (.lit 0), .v (.slice none 0 0), .v (.slice none 0 0), .v (.slice none 0 0), .v (.slice none 0 0), .v (.slice none 0 0)] }
theorem tok224 : ti224.Ok Try.prog 224 := ⟨(by kernel_rfl), (by kernel_rfl), (by kernel_rfl), (fun z h c => by cases h; kernel_rfl), (fun z h => by cases h), (fun z h => by cases h), (fun z h => by cases h)⟩
def ti225 : TI := { k := .struct [(0, 100)], sz := 16, by_ := 208, zero := some [.i .i64 (.lit 0), .i .i64 (.lit 0), .i .i64 (.lit 0), .i .i64 (.lit 0), .i .i64 (.lit 0), .i .i64 (.lit 0), .i .i64 (.lit 0), .i .i64 (.lit 0), .i .i64 (.lit 0), .i .i64 (.lit 0), .i .i64 (.lit 0), .v (.slice none 0 0), .v (.slice none 0 0), .v (.slice none 0 0), .v (.slice none 0 0), .v (.slice none 0 0)] }
theorem tok225 : ti225.Ok Try.prog 225 := ⟨(by kernel_rfl), (by kernel_rfl), (by kernel_rfl), (fun z h c => by cases h; kernel_rfl), (fun z h => by cases h), (fun z h => by cases h), (fun z h => by cases h)⟩
def ti226 : TI := { k := .arr 8 26, sz := 8, by_ := 64, zero := some [.v .nilFunc, .v .nilFunc, .v .nilFunc, .v .nilFunc, .v .nilFunc, .v .nilFunc, .v .nilFunc, .v .nilFunc] }
theorem tok226 : ti226.Ok Try.prog 226 := ⟨(by kernel_rfl), (by kernel_rfl), (by kernel_rfl), (fun z h c => by cases h; kernel_rfl), (fun z h => by cases h), (fun z h => by cases h), (fun z h => by cases h)⟩
def ti227 : TI := { k := .plain, sz := 1, by_ := 8, zero := some [.v .nilFunc] }
theorem tok227 : ti227.Ok Try.prog 227 := ⟨(by kernel_rfl), (by kernel_rfl), (by kernel_rfl), (fun z h c => by cases h; kernel_rfl), (fun z h => by cases h), (fun z h => by cases h), (fun z h => by cases h)⟩
def ti228 : TI := { k := .plain, sz := 1, by_ := 8, zero := some [.v .nilFunc] }
theorem tok228 : ti228.Ok Try.prog 228 := ⟨(by kernel_rfl), (by kernel_rfl), (by kernel_rfl), (fun z h c => by cases h; kernel_rfl), (fun z h => by cases h), (fun z h => by cases h), (fun z h => by cases h)⟩
def ti229 : TI := { k := .plain, sz := 1, by_ := 8, zero := some [.v .nilFunc] }
theorem tok229 : ti229.Ok Try.prog 229 := ⟨(by kernel_rfl), (by kernel_rfl), (by kernel_rfl), (fun z h c => by cases h; kernel_rfl), (fun z h => by cases h), (fun z h => by cases h), (fun z h => by cases h)⟩
def ti230 : TI := { k := .plain, sz := 1, by_ := 8, zero := some [.v .nilFunc] }
theorem tok230 : ti230.Ok Try.prog 230 := ⟨(by kernel_rfl), (by kernel_rfl), (by kernel_rfl), (fun z h c => by cases h; kernel_rfl), (fun z h => by cases h), (fun z h => by cases h), (fun z h => by cases h)⟩
def ti231 : TI := { k := .plain, sz := 1, by_ := 8, zero := some [.v .nilFunc] }
theorem tok231 : ti231.Ok Try.prog 231 := ⟨(by kernel_rfl), (by kernel_rfl), (by kernel_rfl), (fun z h c => by cases h; kernel_rfl), (fun z h => by cases h), (fun z h => by cases h), (fun z h => by cases h)⟩
-- 232: Exception('tuple')
def ti233 : TI := { k := .plain, sz := 1, by_ := 8, zero := some [.v .nilFunc] }
theorem tok233 : ti233.Ok Try.prog 233 := ⟨(by kernel_rfl), (by kernel_rfl), (by kernel_rfl), (fun z h c => by cases h; kernel_rfl), (fun z h => by cases h), (fun z h => by cases h), (fun z h => by cases h)⟩
def ti234 : TI := { k := .struct [(0, 155), (1, 155)], sz := 2, by_ := 16, zero := some [.i .u64 (.lit 0), .i .u64 (.lit 0)], flat := some [.int, .int] }
theorem tok234 : ti234.Ok Try.prog 234 := ⟨(by kernel_rfl), (by kernel_rfl), (by kernel_rfl), (fun z h c => by cases h; kernel_rfl), (fun z h => by cases h), (fun z h => by cases h), (fun z h => by cases h; kernel_rfl)⟩
def ti235 : TI := { k := .struct [(0, 155), (1, 155)], sz := 2, by_ := 16, zero := some [.i .u64 (.lit 0), .i .u64 (.lit 0)], flat := some [.int, .int] }
theorem tok235 : ti235.Ok Try.prog 235 := ⟨(by kernel_rfl), (by kernel_rfl), (by kernel_rfl), (fun z h c => by cases h; kernel_rfl), (fun z h => by cases h), (fun z h => by cases h), (fun z h => by cases h; kernel_rfl)⟩
-- 236: Exception('tuple')
def ti237 : TI := { k := .plain, sz := 1, by_ := 8, zero := some [.v .nilFunc] }
theorem tok237 : ti237.Ok Try.prog 237 := ⟨(by kernel_rfl), (by kernel_rfl), (by kernel_rfl), (fun z h c => by cases h; kernel_rfl), (fun z h => by cases h), (fun z h => by cases h), (fun z h => by cases h)⟩
def ti238 : TI := { k := .plain, sz := 1, by_ := 8, zero := some [.v .nilFunc] }
theorem tok238 : ti238.Ok Try.prog 238 := ⟨(by kernel_rfl), (by kernel_rfl), (by kernel_rfl), (fun z h c => by cases h; kernel_rfl), (fun z h => by cases h), (fun z h => by cases h), (fun z h => by cases h)⟩
def ti239 : TI := { k := .plain, sz := 1, by_ := 8, zero := some [.v .nilFunc] }
theorem tok239 : ti239.Ok Try.prog 239 := ⟨(by kernel_rfl), (by kernel_rfl), (by kernel_rfl), (fun z h c => by cases h; kernel_rfl), (fun z h => by cases h), (fun z h => by cases h), (fun z h => by cases h)⟩
def ti240 : TI := { k := .plain, sz := 1, by_ := 8, zero := some [.v .nilFunc] }
theorem tok240 : ti240.Ok Try.prog 240 := ⟨(by kernel_rfl), (by kernel_rfl), (by kernel_rfl), (fun z h c => by cases h; kernel_rfl), (fun z h => by cases h), (fun z h => by cases h), (fun z h => by cases h)⟩
def ti241 : TI := { k := .plain, sz := 1, by_ := 8, zero := some [.v .nilFunc] }
theorem tok241 : ti241.Ok Try.prog 241 := ⟨(by kernel_rfl), (by kernel_rfl), (by kernel_rfl), (fun z h c => by cases h; kernel_rfl), (fun z h => by cases h), (fun z h => by cases h), (fun z h => by cases h)⟩
-- 242: Exception('tuple')
def ti243 : TI := { k := .plain, sz := 1, by_ := 8, zero := some [.v .nilFunc] }
theorem tok243 : ti243.Ok Try.prog 243 := ⟨(by kernel_rfl), (by kernel_rfl), (by kernel_rfl), (fun z h c => by cases h; kernel_rfl), (fun z h => by cases h), (fun z h => by cases h), (fun z h => by cases h)⟩
def ti244 : TI := { k := .plain, sz := 1, by_ := 8, zero := some [.v .nilFunc] }
theorem tok244 : ti244.Ok Try.prog 244 := ⟨(by kernel_rfl), (by kernel_rfl), (by kernel_rfl), (fun z h c => by cases h; kernel_rfl), (fun z h => by cases h), (fun z h => by cases h), (fun z h => by cases h)⟩
def ti245 : TI := { k := .plain, sz := 1, by_ := 8, zero := some [.v .nilFunc] }
theorem tok245 : ti245.Ok Try.prog 245 := ⟨(by kernel_rfl), (by kernel_rfl), (by kernel_rfl), (fun z h c => by cases h; kernel_rfl), (fun z h => by cases h), (fun z h => by cases h), (fun z h => by cases h)⟩
def ti246 : TI := { k := .plain, sz := 1, by_ := 8, zero := some [.v .nilFunc] }
theorem tok246 : ti246.Ok Try.prog 246 := ⟨(by kernel_rfl), (by kernel_rfl), (by kernel_rfl), (fun z h c => by cases h; kernel_rfl), (fun z h => by cases h), (fun z h => by cases h), (fun z h => by cases h)⟩
def ti247 : TI := { k := .plain, sz := 1, by_ := 8, zero := some [.v .nilFunc] }
theorem tok247 : ti247.Ok Try.prog 247 := ⟨(by kernel_rfl), (by kernel_rfl), (by kernel_rfl), (fun z h c => by cases h; kernel_rfl), (fun z h => by cases h), (fun z h => by cases h), (fun z h => by cases h)⟩
def ti248 : TI := { k := .int .u64, sz := 1, by_ := 8, zero := some [.i .u64 (.lit 0)] }
theorem tok248 : ti248.Ok Try.prog 248 := ⟨(by kernel_rfl), (by kernel_rfl), (by kernel_rfl), (fun z h c => by cases h; kernel_rfl), (fun z h => by cases h), (fun z h => by cases h), (fun z h => by cases h)⟩
def ti249 : TI := { k := .plain, sz := 1, by_ := 8, zero := some [.v .nilFunc] }
theorem tok249 : ti249.Ok Try.prog 249 := ⟨(by kernel_rfl), (by kernel_rfl), (by kernel_rfl), (fun z h c => by cases h; kernel_rfl), (fun z h => by cases h), (fun z h => by cases h), (fun z h => by cases h)⟩
def ti250 : TI := { k := .plain, sz := 1, by_ := 8, zero := some [.v .nilFunc] }
theorem tok250 : ti250.Ok Try.prog 250 := ⟨(by kernel_rfl), (by kernel_rfl), (by kernel_rfl), (fun z h c => by cases h; kernel_rfl), (fun z h => by cases h), (fun z h => by cases h), (fun z h => by cases h)⟩
def ti251 : TI := { k := .plain, sz := 1, by_ := 8, zero := some [.v .nilFunc] }
theorem tok251 : ti251.Ok Try.prog 251 := ⟨(by kernel_rfl), (by kernel_rfl), (by kernel_rfl), (fun z h c => by cases h; kernel_rfl), (fun z h => by cases h), (fun z h => by cases h), (fun z h => by cases h)⟩
-- 252: Exception('tuple')
def ti253 : TI := { k := .plain, sz := 1, by_ := 8, zero := some [.v .nilFunc] }
theorem tok253 : ti253.Ok Try.prog 253 := ⟨(by kernel_rfl), (by kernel_rfl), (by kernel_rfl), (fun z h c => by cases h; kernel_rfl), (fun z h => by cases h), (fun z h => by cases h), (fun z h => by cases h)⟩
def ti254 : TI := { k := .plain, sz := 1, by_ := 8, zero := some [.v .nilFunc] }
theorem tok254 : ti254.Ok Try.prog 254 := ⟨(by kernel_rfl), (by kernel_rfl), (by kernel_rfl), (fun z h c => by cases h; kernel_rfl), (fun z h => by cases h), (fun z h => by cases h), (fun z h => by cases h)⟩
def ti255 : TI := { k := .map 3 2, sz := 1, by_ := 8, zero := some [.v (.map none)] }
theorem tok255 : ti255.Ok Try.prog 255 := ⟨(by kernel_rfl), (by kernel_rfl), (by kernel_rfl), (fun z h c => by cases h; kernel_rfl), (fun z h => by cases h), (fun z h => by cases h), (fun z h => by cases h)⟩
def ti256 : TI := { k := .plain, sz := 1, by_ := 8, zero := some [.v .nilFunc] }
theorem tok256 : ti256.Ok Try.prog 256 := ⟨(by kernel_rfl), (by kernel_rfl), (by kernel_rfl), (fun z h c => by cases h; kernel_rfl), (fun z h => by cases h), (fun z h => by cases h), (fun z h => by cases h)⟩
-- 257: Exception('tuple')
def ti258 : TI := { k := .plain, sz := 1, by_ := 8, zero := some [.v .nilFunc] }
theorem tok258 : ti258.Ok Try.prog 258 := ⟨(by kernel_rfl), (by kernel_rfl), (by kernel_rfl), (fun z h c => by cases h; kernel_rfl), (fun z h => by cases h), (fun z h => by cases h), (fun z h => by cases h)⟩
def ti259 : TI := { k := .plain, sz := 1, by_ := 8, zero := some [.v .nilFunc] }
theorem tok259 : ti259.Ok Try.prog 259 := ⟨(by kernel_rfl), (by kernel_rfl), (by kernel_rfl), (fun z h c => by cases h; kernel_rfl), (fun z h => by cases h), (fun z h => by cases h), (fun z h => by cases h)⟩
def ti260 : TI := { k := .map 2 31, sz := 1, by_ := 8, zero := some [.v (.map none)] }
theorem tok260 : ti260.Ok Try.prog 260 := ⟨(by kernel_rfl), (by kernel_rfl), (by kernel_rfl), (fun z h c => by cases h; kernel_rfl), (fun z h => by cases h), (fun z h => by cases h), (fun z h => by cases h)⟩
def ti261 : TI := { k := .plain, sz := 1, by_ := 8, zero := some [.v .nilFunc] }
theorem tok261 : ti261.Ok Try.prog 261 := ⟨(by kernel_rfl), (by kernel_rfl), (by kernel_rfl), (fun z h c => by cases h; kernel_rfl), (fun z h => by cases h), (fun z h => by cases h), (fun z h => by cases h)⟩
def ti262 : TI := { k := .plain, sz := 1, by_ := 8, zero := some [.v .nilFunc] }
theorem tok262 : ti262.Ok Try.prog 262 := ⟨(by kernel_rfl), (by kernel_rfl), (by kernel_rfl), (fun z h c => by cases h; kernel_rfl), (fun z h => by cases h), (fun z h => by cases h), (fun z h => by cases h)⟩
def ti263 : TI := { k := .plain, sz := 1, by_ := 8, zero := some [.v .nilFunc] }
theorem tok263 : ti263.Ok Try.prog 263 := ⟨(by kernel_rfl), (by kernel_rfl), (by kernel_rfl), (fun z h c => by cases h; kernel_rfl), (fun z h => by cases h), (fun z h => by cases h), (fun z h => by cases h)⟩
def ti264 : TI := { k := .slice 5, sz := 1, by_ := 24, zero := some [.v (.slice none 0 0)] }
theorem tok264 : ti264.Ok Try.prog 264 := ⟨(by kernel_rfl), (by kernel_rfl), (by kernel_rfl), (fun z h c => by cases h; kernel_rfl), (fun z h => by cases h), (fun z h => by cases h), (fun z h => by cases h)⟩
def ti265 : TI := { k := .plain, sz := 1, by_ := 8, zero := some [.v .nilFunc] }
theorem tok265 : ti265.Ok Try.prog 265 := ⟨(by kernel_rfl), (by kernel_rfl), (by kernel_rfl), (fun z h c => by cases h; kernel_rfl), (fun z h => by cases h), (fun z h => by cases h), (fun z h => by cases h)⟩
def ti266 : TI := { k := .struct [(0, 2), (1, 2), (2, 2)], sz := 3, by_ := 24, zero := some [.i .i64 (.lit 0), .i .i64 (.lit 0), .i .i64 (.lit 0)], flat := some [.int, .int, .int] }
theorem tok266 : ti266.Ok Try.prog 266 := ⟨(by kernel_rfl), (by kernel_rfl), (by kernel_rfl), (fun z h c => by cases h; kernel_rfl), (fun z h => by cases h), (fun z h => by cases h), (fun z h => by cases h; kernel_rfl)⟩
def ti267 : TI := { k := .struct [(0, 2), (1, 2), (2, 2)], sz := 3, by_ := 24, zero := some [.i .i64 (.lit 0), .i .i64 (.lit 0), .i .i64 (.lit 0)], flat := some [.int, .int, .int] }
theorem tok267 : ti267.Ok Try.prog 267 := ⟨(by kernel_rfl), (by kernel_rfl), (by kernel_rfl), (fun z h c => by cases h; kernel_rfl), (fun z h => by cases h), (fun z h => by cases h), (fun z h => by cases h; kernel_rfl)⟩
def ti268 : TI := { k := .plain, sz := 1, by_ := 8, zero := some [.v .nilFunc] }
theorem tok268 : ti268.Ok Try.prog 268 := ⟨(by kernel_rfl), (by kernel_rfl), (by kernel_rfl), (fun z h c => by cases h; kernel_rfl), (fun z h => by cases h), (fun z h => by cases h), (fun z h => by cases h)⟩
def ti269 : TI := { k := .plain, sz := 1, by_ := 8, zero := some [.v .nilFunc] }
theorem tok269 : ti269.Ok Try.prog 269 := ⟨(by kernel_rfl), (by kernel_rfl), (by kernel_rfl), (fun z h c => by cases h; kernel_rfl), (fun z h => by cases h), (fun z h => by cases h), (fun z h => by cases h)⟩
def ti270 : TI := { k := .plain, sz := 1, by_ := 8, zero := some [.v .nilFunc] }
theorem tok270 : ti270.Ok Try.prog 270 := ⟨(by kernel_rfl), (by kernel_rfl), (by kernel_rfl), (fun z h c => by cases h; kernel_rfl), (fun z h => by cases h), (fun z h => by cases h), (fun z h => by cases h)⟩
def ti271 : TI := { k := .plain, sz := 1, by_ := 8, zero := some [.v .nilFunc] }
theorem tok271 : ti271.Ok Try.prog 271 := ⟨(by kernel_rfl), (by kernel_rfl), (by kernel_rfl), (fun z h c => by cases h; kernel_rfl), (fun z h => by cases h), (fun z h => by cases h), (fun z h => by cases h)⟩
def ti272 : TI := { k := .plain, sz := 1, by_ := 8, zero := some [.v .nilFunc] }
theorem tok272 : ti272.Ok Try.prog 272 := ⟨(by kernel_rfl), (by kernel_rfl), (by kernel_rfl), (fun z h c => by cases h; kernel_rfl), (fun z h => by cases h), (fun z h => by cases h), (fun z h => by cases h)⟩
def ti273 : TI := { k := .plain, sz := 1, by_ := 8, zero := some [.v .nilFunc] }
theorem tok273 : ti273.Ok Try.prog 273 := ⟨(by kernel_rfl), (by kernel_rfl), (by kernel_rfl), (fun z h c => by cases h; kernel_rfl), (fun z h => by cases h), (fun z h => by cases h), (fun z h => by cases h)⟩
def ti274 : TI := { k := .plain, sz := 1, by_ := 8, zero := some [.v .nilFunc] }
theorem tok274 : ti274.Ok Try.prog 274 := ⟨(by kernel_rfl), (by kernel_rfl), (by kernel_rfl), (fun z h c => by cases h; kernel_rfl), (fun z h => by cases h), (fun z h => by cases h), (fun z h => by cases h)⟩
def ti275 : TI := { k := .plain, sz := 1, by_ := 8, zero := some [.v .nilFunc] }
theorem tok275 : ti275.Ok Try.prog 275 := ⟨(by kernel_rfl), (by kernel_rfl), (by kernel_rfl), (fun z h c => by cases h; kernel_rfl), (fun z h => by cases h), (fun z h => by cases h), (fun z h => by cases h)⟩
def ti276 : TI := { k := .arr 20 5, sz := 20, by_ := 20, zero := some [.i .u8 (.lit 0), .i .u8 (.lit 0), .i .u8 (.lit 0), .i .u8 (.lit 0), .i .u8 (.lit 0), .i .u8 (.lit 0), .i .u8 (.lit 0), .i .u8 (.lit 0), .i .u8 (.lit 0), .i .u8 (.lit 0), .i .u8 (.lit 0), .i .u8 (.lit 0), .i .u8 (.lit 0), .i .u8 (.lit 0), .i .u8 (.lit 0), .i .u8 (.lit 0), .i .u8 (.lit 0), .i .u8 (.lit 0), .i .u8 (.lit 0), .i .u8 (.lit 0)], flat := some [.int, .int, .int, .int, .int, .int, .int, .int, .int, .int, .int, .int, .int, .int, .int, .int, .int, .int, .int, .int] }
theorem tok276 : ti276.Ok Try.prog 276 := ⟨(by kernel_rfl), (by kernel_rfl), (by kernel_rfl), (fun z h c => by cases h; kernel_rfl), (fun z h => by cases h), (fun z h => by cases h), (fun z h => by cases h; kernel_rfl)⟩
def ti277 : TI := { k := .plain, sz := 1, by_ := 8, zero := some [.v .nilFunc] }
theorem tok277 : ti277.Ok Try.prog 277 := ⟨(by kernel_rfl), (by kernel_rfl), (by kernel_rfl), (fun z h c => by cases h; kernel_rfl), (fun z h => by cases h), (fun z h => by cases h), (fun z h => by cases h)⟩
def ti278 : TI := { k := .struct [(0, 17), (1, 17), (2, 17), (3, 9)], sz := 4, by_ := 40, zero := some [.v (.pointer none), .v (.pointer none), .v (.pointer none), .v (.string ⟨#[]⟩)] }
theorem tok278 : ti278.Ok Try.prog 278 := ⟨(by kernel_rfl), (by kernel_rfl), (by kernel_rfl), (fun z h c => by cases h; kernel_rfl), (fun z h => by cases h), (fun z h => by cases h), (fun z h => by cases h)⟩
def ti279 : TI := { k := .struct [(0, 17), (1, 17), (2, 17), (3, 9)], sz := 4, by_ := 40, zero := some [.v (.pointer none), .v (.pointer none), .v (.pointer none), .v (.string ⟨#[]⟩)] }
theorem tok279 : ti279.Ok Try.prog 279 := ⟨(by kernel_rfl), (by kernel_rfl), (by kernel_rfl), (fun z h c => by cases h; kernel_rfl), (fun z h => by cases h), (fun z h => by cases h), (fun z h => by cases h)⟩
def ti280 : TI := { k := .arr 0 16, sz := 0, by_ := 0, zero := some [] }
theorem tok280 : ti280.Ok Try.prog 280 := ⟨(by kernel_rfl), (by kernel_rfl), (by kernel_rfl), (fun z h c => by cases h; kernel_rfl), (fun z h => by cases h), (fun z h => by cases h), (fun z h => by cases h)⟩
def ti281 : TI := { k := .struct [(0, 280)], sz := 0, by_ := 0, zero := some [] }
theorem tok281 : ti281.Ok Try.prog 281 := ⟨(by kernel_rfl), (by kernel_rfl), (by kernel_rfl), (fun z h c => by cases h; kernel_rfl), (fun z h => by cases h), (fun z h => by cases h), (fun z h => by cases h)⟩
def ti282 : TI := { k := .struct [(0, 280)], sz := 0, by_ := 0, zero := some [] }
theorem tok282 : ti282.Ok Try.prog 282 := ⟨(by kernel_rfl), (by kernel_rfl), (by kernel_rfl), (fun z h c => by cases h; kernel_rfl), (fun z h => by cases h), (fun z h => by cases h), (fun z h => by cases h)⟩
def ti283 : TI := { k := .plain, sz := 1, by_ := 8, zero := some [.v .nilFunc] }
theorem tok283 : ti283.Ok Try.prog 283 := ⟨(by kernel_rfl), (by kernel_rfl), (by kernel_rfl), (fun z h c => by cases h; kernel_rfl), (fun z h => by cases h), (fun z h => by cases h), (fun z h => by cases h)⟩
def ti284 : TI := { k := .int .u8, sz := 1, by_ := 1, zero := some [.i .u8 (.lit 0)] }
theorem tok284 : ti284.Ok Try.prog 284 := ⟨(by kernel_rfl), (by kernel_rfl), (by kernel_rfl), (fun z h c => by cases h; kernel_rfl), (fun z h => by cases h), (fun z h => by cases h), (fun z h => by cases h)⟩
def ti285 : TI := { k := .int .u8, sz := 1, by_ := 1, zero := some [.i .u8 (.lit 0)] }
theorem tok285 : ti285.Ok Try.prog 285 := ⟨(by kernel_rfl), (by kernel_rfl), (by kernel_rfl), (fun z h c => by cases h; kernel_rfl), (fun z h => by cases h), (fun z h => by cases h), (fun z h => by cases h)⟩
def ti286 : TI := { k := .plain, sz := 1, by_ := 8, zero := some [.v .nilFunc] }
theorem tok286 : ti286.Ok Try.prog 286 := ⟨(by kernel_rfl), (by kernel_rfl), (by kernel_rfl), (fun z h c => by cases h; kernel_rfl), (fun z h => by cases h), (fun z h => by cases h), (fun z h => by cases h)⟩
def ti287 : TI := { k := .ptr 5, sz := 1, by_ := 8, zero := some [.v (.pointer none)] }
theorem tok287 : ti287.Ok Try.prog 287 := ⟨(by kernel_rfl), (by kernel_rfl), (by kernel_rfl), (fun z h c => by cases h; kernel_rfl), (fun z h => by cases h), (fun z h => by cases h), (fun z h => by cases h)⟩
def ti288 : TI := { k := .int .i32, sz := 1, by_ := 4, zero := some [.i .i32 (.lit 0)] }
theorem tok288 : ti288.Ok Try.prog 288 := ⟨(by kernel_rfl), (by kernel_rfl), (by kernel_rfl), (fun z h c => by cases h; kernel_rfl), (fun z h => by cases h), (fun z h => by cases h), (fun z h => by cases h)⟩
def ti289 : TI := { k := .int .i32, sz := 1, by_ := 4, zero := some [.i .i32 (.lit 0)] }
theorem tok289 : ti289.Ok Try.prog 289 := ⟨(by kernel_rfl), (by kernel_rfl), (by kernel_rfl), (fun z h c => by cases h; kernel_rfl), (fun z h => by cases h), (fun z h => by cases h), (fun z h => by cases h)⟩
def ti290 : TI := { k := .struct [(0, 12), (1, 12), (2, 220), (3, 284), (4, 5), (5, 5), (6, 285), (7, 286), (8, 287), (9, 288), (10, 289)], sz := 11, by_ := 48, zero := some [.i .u64 (.lit 0), .i .u64 (.lit 0), .i .u32 (.lit 0), .i .u8 (.lit 0), .i .u8 (.lit 0), .i .u8 (.lit 0), .i .u8 (.lit 0), .v .nilFunc, .v (.pointer none), .i .i32 (.lit 0), .i .i32 (.lit 0)] }
theorem tok290 : ti290.Ok Try.prog 290 := ⟨(by kernel_rfl), (by kernel_rfl), (by kernel_rfl), (fun z h c => by cases h; kernel_rfl), (fun z h => by cases h), (fun z h => by cases h), (fun z h => by cases h)⟩
def ti291 : TI := { k := .struct [(0, 12), (1, 12), (2, 220), (3, 284), (4, 5), (5, 5), (6, 285), (7, 286), (8, 287), (9, 288), (10, 289)], sz := 11, by_ := 48, zero := some [.i .u64 (.lit 0), .i .u64 (.lit 0), .i .u32 (.lit 0), .i .u8 (.lit 0), .i .u8 (.lit 0), .i .u8 (.lit 0), .i .u8 (.lit 0), .v .nilFunc, .v (.pointer none), .i .i32 (.lit 0), .i .i32 (.lit 0)] }
theorem tok291 : ti291.Ok Try.prog 291 := ⟨(by kernel_rfl), (by kernel_rfl), (by kernel_rfl), (fun z h c => by cases h; kernel_rfl), (fun z h => by cases h), (fun z h => by cases h), (fun z h => by cases h)⟩
theorem mixed : Try.prog.follows .mixedOrders = true := by kernel_rfl
theorem fn2 : FnOk Try.prog 2 := ⟨_, Try.func2, rfl, rfl⟩
theorem fn3 : FnOk Try.prog 3 := ⟨_, Try.func3, rfl, rfl⟩
theorem fn4 : FnOk Try.prog 4 := ⟨_, Try.func4, rfl, rfl⟩
theorem fn5 : FnOk Try.prog 5 := ⟨_, Try.func5, rfl, rfl⟩
theorem fn6 : FnOk Try.prog 6 := ⟨_, Try.func6, rfl, rfl⟩
theorem fn7 : FnOk Try.prog 7 := ⟨_, Try.func7, rfl, rfl⟩
theorem fn8 : FnOk Try.prog 8 := ⟨_, Try.func8, rfl, rfl⟩
theorem fn9 : FnOk Try.prog 9 := ⟨_, Try.func9, rfl, rfl⟩
theorem fn10 : FnOk Try.prog 10 := ⟨_, Try.func10, rfl, rfl⟩
theorem fn11 : FnOk Try.prog 11 := ⟨_, Try.func11, rfl, rfl⟩
theorem fn12 : FnOk Try.prog 12 := ⟨_, Try.func12, rfl, rfl⟩
theorem fn13 : FnOk Try.prog 13 := ⟨_, Try.func13, rfl, rfl⟩
theorem fn14 : FnOk Try.prog 14 := ⟨_, Try.func14, rfl, rfl⟩
theorem fn15 : FnOk Try.prog 15 := ⟨_, Try.func15, rfl, rfl⟩
theorem fn16 : FnOk Try.prog 16 := ⟨_, Try.func16, rfl, rfl⟩
theorem fn17 : FnOk Try.prog 17 := ⟨_, Try.func17, rfl, rfl⟩
theorem fn18 : FnOk Try.prog 18 := ⟨_, Try.func18, rfl, rfl⟩
theorem fn19 : FnOk Try.prog 19 := ⟨_, Try.func19, rfl, rfl⟩
theorem fn20 : FnOk Try.prog 20 := ⟨_, Try.func20, rfl, rfl⟩
theorem fn21 : FnOk Try.prog 21 := ⟨_, Try.func21, rfl, rfl⟩
theorem fn22 : FnOk Try.prog 22 := ⟨_, Try.func22, rfl, rfl⟩
theorem fn23 : FnOk Try.prog 23 := ⟨_, Try.func23, rfl, rfl⟩
theorem fn24 : FnOk Try.prog 24 := ⟨_, Try.func24, rfl, rfl⟩
theorem fn25 : FnOk Try.prog 25 := ⟨_, Try.func25, rfl, rfl⟩
theorem fn26 : FnOk Try.prog 26 := ⟨_, Try.func26, rfl, rfl⟩
theorem fn27 : FnOk Try.prog 27 := ⟨_, Try.func27, rfl, rfl⟩
theorem fn28 : FnOk Try.prog 28 := ⟨_, Try.func28, rfl, rfl⟩
theorem fn29 : FnOk Try.prog 29 := ⟨_, Try.func29, rfl, rfl⟩
theorem fn30 : FnOk Try.prog 30 := ⟨_, Try.func30, rfl, rfl⟩
theorem fn31 : FnOk Try.prog 31 := ⟨_, Try.func31, rfl, rfl⟩
theorem fn32 : FnOk Try.prog 32 := ⟨_, Try.func32, rfl, rfl⟩
theorem fn33 : FnOk Try.prog 33 := ⟨_, Try.func33, rfl, rfl⟩
theorem fn34 : FnOk Try.prog 34 := ⟨_, Try.func34, rfl, rfl⟩
theorem fn35 : FnOk Try.prog 35 := ⟨_, Try.func35, rfl, rfl⟩
theorem fn36 : FnOk Try.prog 36 := ⟨_, Try.func36, rfl, rfl⟩
theorem fn37 : FnOk Try.prog 37 := ⟨_, Try.func37, rfl, rfl⟩
theorem fn38 : FnOk Try.prog 38 := ⟨_, Try.func38, rfl, rfl⟩
theorem fn39 : FnOk Try.prog 39 := ⟨_, Try.func39, rfl, rfl⟩
theorem fn40 : FnOk Try.prog 40 := ⟨_, Try.func40, rfl, rfl⟩
theorem fn41 : FnOk Try.prog 41 := ⟨_, Try.func41, rfl, rfl⟩
theorem fn42 : FnOk Try.prog 42 := ⟨_, Try.func42, rfl, rfl⟩
theorem fn43 : FnOk Try.prog 43 := ⟨_, Try.func43, rfl, rfl⟩
theorem fn44 : FnOk Try.prog 44 := ⟨_, Try.func44, rfl, rfl⟩
theorem fn45 : FnOk Try.prog 45 := ⟨_, Try.func45, rfl, rfl⟩
theorem fn46 : FnOk Try.prog 46 := ⟨_, Try.func46, rfl, rfl⟩
theorem fn47 : FnOk Try.prog 47 := ⟨_, Try.func47, rfl, rfl⟩
theorem fn48 : FnOk Try.prog 48 := ⟨_, Try.func48, rfl, rfl⟩
theorem fn49 : FnOk Try.prog 49 := ⟨_, Try.func49, rfl, rfl⟩
theorem fn50 : FnOk Try.prog 50 := ⟨_, Try.func50, rfl, rfl⟩
theorem fn51 : FnOk Try.prog 51 := ⟨_, Try.func51, rfl, rfl⟩
theorem fn52 : FnOk Try.prog 52 := ⟨_, Try.func52, rfl, rfl⟩
theorem fn53 : FnOk Try.prog 53 := ⟨_, Try.func53, rfl, rfl⟩
theorem fn54 : FnOk Try.prog 54 := ⟨_, Try.func54, rfl, rfl⟩
theorem fn55 : FnOk Try.prog 55 := ⟨_, Try.func55, rfl, rfl⟩
theorem fn56 : FnOk Try.prog 56 := ⟨_, Try.func56, rfl, rfl⟩
theorem fn57 : FnOk Try.prog 57 := ⟨_, Try.func57, rfl, rfl⟩
theorem fn58 : FnOk Try.prog 58 := ⟨_, Try.func58, rfl, rfl⟩
theorem fn59 : FnOk Try.prog 59 := ⟨_, Try.func59, rfl, rfl⟩
theorem fn60 : FnOk Try.prog 60 := ⟨_, Try.func60, rfl, rfl⟩
theorem fn61 : FnOk Try.prog 61 := ⟨_, Try.func61, rfl, rfl⟩
theorem fn62 : FnOk Try.prog 62 := ⟨_, Try.func62, rfl, rfl⟩
theorem fn63 : FnOk Try.prog 63 := ⟨_, Try.func63, rfl, rfl⟩
theorem fn64 : FnOk Try.prog 64 := ⟨_, Try.func64, rfl, rfl⟩
theorem fn65 : FnOk Try.prog 65 := ⟨_, Try.func65, rfl, rfl⟩
theorem fn66 : FnOk Try.prog 66 := ⟨_, Try.func66, rfl, rfl⟩
theorem fn67 : FnOk Try.prog 67 := ⟨_, Try.func67, rfl, rfl⟩
theorem fn68 : FnOk Try.prog 68 := ⟨_, Try.func68, rfl, rfl⟩
theorem fn69 : FnOk Try.prog 69 := ⟨_, Try.func69, rfl, rfl⟩
theorem fn70 : FnOk Try.prog 70 := ⟨_, Try.func70, rfl, rfl⟩
theorem fn71 : FnOk Try.prog 71 := ⟨_, Try.func71, rfl, rfl⟩
theorem fn72 : FnOk Try.prog 72 := ⟨_, Try.func72, rfl, rfl⟩
theorem fn73 : FnOk Try.prog 73 := ⟨_, Try.func73, rfl, rfl⟩
theorem fn74 : FnOk Try.prog 74 := ⟨_, Try.func74, rfl, rfl⟩
theorem fn75 : FnOk Try.prog 75 := ⟨_, Try.func75, rfl, rfl⟩
theorem fn76 : FnOk Try.prog 76 := ⟨_, Try.func76, rfl, rfl⟩
theorem fn77 : FnOk Try.prog 77 := ⟨_, Try.func77, rfl, rfl⟩
theorem fn78 : FnOk Try.prog 78 := ⟨_, Try.func78, rfl, rfl⟩
theorem fn79 : FnOk Try.prog 79 := ⟨_, Try.func79, rfl, rfl⟩
theorem fn80 : FnOk Try.prog 80 := ⟨_, Try.func80, rfl, rfl⟩
theorem fn81 : FnOk Try.prog 81 := ⟨_, Try.func81, rfl, rfl⟩
theorem fn82 : FnOk Try.prog 82 := ⟨_, Try.func82, rfl, rfl⟩
theorem fn83 : FnOk Try.prog 83 := ⟨_, Try.func83, rfl, rfl⟩
theorem fn84 : FnOk Try.prog 84 := ⟨_, Try.func84, rfl, rfl⟩
theorem fn85 : FnOk Try.prog 85 := ⟨_, Try.func85, rfl, rfl⟩
theorem fn86 : FnOk Try.prog 86 := ⟨_, Try.func86, rfl, rfl⟩
theorem fn87 : FnOk Try.prog 87 := ⟨_, Try.func87, rfl, rfl⟩
theorem fn88 : FnOk Try.prog 88 := ⟨_, Try.func88, rfl, rfl⟩
theorem fn89 : FnOk Try.prog 89 := ⟨_, Try.func89, rfl, rfl⟩
theorem fn90 : FnOk Try.prog 90 := ⟨_, Try.func90, rfl, rfl⟩
theorem fn91 : FnOk Try.prog 91 := ⟨_, Try.func91, rfl, rfl⟩
theorem fn92 : FnOk Try.prog 92 := ⟨_, Try.func92, rfl, rfl⟩
theorem fn93 : FnOk Try.prog 93 := ⟨_, Try.func93, rfl, rfl⟩
theorem fn94 : FnOk Try.prog 94 := ⟨_, Try.func94, rfl, rfl⟩
theorem fn95 : FnOk Try.prog 95 := ⟨_, Try.func95, rfl, rfl⟩
theorem fn96 : FnOk Try.prog 96 := ⟨_, Try.func96, rfl, rfl⟩
theorem fn97 : FnOk Try.prog 97 := ⟨_, Try.func97, rfl, rfl⟩
theorem fn98 : FnOk Try.prog 98 := ⟨_, Try.func98, rfl, rfl⟩
theorem fn99 : FnOk Try.prog 99 := ⟨_, Try.func99, rfl, rfl⟩
theorem fn100 : FnOk Try.prog 100 := ⟨_, Try.func100, rfl, rfl⟩
theorem fn101 : FnOk Try.prog 101 := ⟨_, Try.func101, rfl, rfl⟩
theorem fn102 : FnOk Try.prog 102 := ⟨_, Try.func102, rfl, rfl⟩
theorem fn103 : FnOk Try.prog 103 := ⟨_, Try.func103, rfl, rfl⟩
theorem fn104 : FnOk Try.prog 104 := ⟨_, Try.func104, rfl, rfl⟩
theorem fn105 : FnOk Try.prog 105 := ⟨_, Try.func105, rfl, rfl⟩
theorem fn106 : FnOk Try.prog 106 := ⟨_, Try.func106, rfl, rfl⟩
theorem fn107 : FnOk Try.prog 107 := ⟨_, Try.func107, rfl, rfl⟩
theorem fn108 : FnOk Try.prog 108 := ⟨_, Try.func108, rfl, rfl⟩
theorem fn109 : FnOk Try.prog 109 := ⟨_, Try.func109, rfl, rfl⟩
theorem fn110 : FnOk Try.prog 110 := ⟨_, Try.func110, rfl, rfl⟩
theorem fn111 : FnOk Try.prog 111 := ⟨_, Try.func111, rfl, rfl⟩
theorem fn112 : FnOk Try.prog 112 := ⟨_, Try.func112, rfl, rfl⟩
theorem fn113 : FnOk Try.prog 113 := ⟨_, Try.func113, rfl, rfl⟩
theorem fn114 : FnOk Try.prog 114 := ⟨_, Try.func114, rfl, rfl⟩
theorem fn115 : FnOk Try.prog 115 := ⟨_, Try.func115, rfl, rfl⟩
theorem fn116 : FnOk Try.prog 116 := ⟨_, Try.func116, rfl, rfl⟩
theorem fn117 : FnOk Try.prog 117 := ⟨_, Try.func117, rfl, rfl⟩
theorem fn118 : FnOk Try.prog 118 := ⟨_, Try.func118, rfl, rfl⟩
theorem fn119 : FnOk Try.prog 119 := ⟨_, Try.func119, rfl, rfl⟩
theorem fn120 : FnOk Try.prog 120 := ⟨_, Try.func120, rfl, rfl⟩
theorem fn121 : FnOk Try.prog 121 := ⟨_, Try.func121, rfl, rfl⟩
theorem fn122 : FnOk Try.prog 122 := ⟨_, Try.func122, rfl, rfl⟩
theorem fn123 : FnOk Try.prog 123 := ⟨_, Try.func123, rfl, rfl⟩
theorem fn124 : FnOk Try.prog 124 := ⟨_, Try.func124, rfl, rfl⟩
theorem fn125 : FnOk Try.prog 125 := ⟨_, Try.func125, rfl, rfl⟩
theorem fn126 : FnOk Try.prog 126 := ⟨_, Try.func126, rfl, rfl⟩
theorem fn127 : FnOk Try.prog 127 := ⟨_, Try.func127, rfl, rfl⟩
theorem fn128 : FnOk Try.prog 128 := ⟨_, Try.func128, rfl, rfl⟩
theorem fn129 : FnOk Try.prog 129 := ⟨_, Try.func129, rfl, rfl⟩
theorem fn130 : FnOk Try.prog 130 := ⟨_, Try.func130, rfl, rfl⟩
theorem fn131 : FnOk Try.prog 131 := ⟨_, Try.func131, rfl, rfl⟩
theorem fn132 : FnOk Try.prog 132 := ⟨_, Try.func132, rfl, rfl⟩
theorem fn133 : FnOk Try.prog 133 := ⟨_, Try.func133, rfl, rfl⟩
theorem fn134 : FnOk Try.prog 134 := ⟨_, Try.func134, rfl, rfl⟩
theorem fn135 : FnOk Try.prog 135 := ⟨_, Try.func135, rfl, rfl⟩
theorem fn136 : FnOk Try.prog 136 := ⟨_, Try.func136, rfl, rfl⟩
theorem fn137 : FnOk Try.prog 137 := ⟨_, Try.func137, rfl, rfl⟩
theorem fn138 : FnOk Try.prog 138 := ⟨_, Try.func138, rfl, rfl⟩
theorem fn139 : FnOk Try.prog 139 := ⟨_, Try.func139, rfl, rfl⟩
theorem fn140 : FnOk Try.prog 140 := ⟨_, Try.func140, rfl, rfl⟩
theorem fn141 : FnOk Try.prog 141 := ⟨_, Try.func141, rfl, rfl⟩
theorem fn142 : FnOk Try.prog 142 := ⟨_, Try.func142, rfl, rfl⟩
theorem fn143 : FnOk Try.prog 143 := ⟨_, Try.func143, rfl, rfl⟩
theorem fn144 : FnOk Try.prog 144 := ⟨_, Try.func144, rfl, rfl⟩
theorem fn145 : FnOk Try.prog 145 := ⟨_, Try.func145, rfl, rfl⟩
theorem fn146 : FnOk Try.prog 146 := ⟨_, Try.func146, rfl, rfl⟩
theorem fn147 : FnOk Try.prog 147 := ⟨_, Try.func147, rfl, rfl⟩
theorem fn148 : FnOk Try.prog 148 := ⟨_, Try.func148, rfl, rfl⟩
theorem fn149 : FnOk Try.prog 149 := ⟨_, Try.func149, rfl, rfl⟩
theorem fn150 : FnOk Try.prog 150 := ⟨_, Try.func150, rfl, rfl⟩
theorem fn151 : FnOk Try.prog 151 := ⟨_, Try.func151, rfl, rfl⟩
theorem fn152 : FnOk Try.prog 152 := ⟨_, Try.func152, rfl, rfl⟩
theorem fn153 : FnOk Try.prog 153 := ⟨_, Try.func153, rfl, rfl⟩
theorem fn154 : FnOk Try.prog 154 := ⟨_, Try.func154, rfl, rfl⟩
theorem fn155 : FnOk Try.prog 155 := ⟨_, Try.func155, rfl, rfl⟩
theorem fn156 : FnOk Try.prog 156 := ⟨_, Try.func156, rfl, rfl⟩
theorem fn157 : FnOk Try.prog 157 := ⟨_, Try.func157, rfl, rfl⟩
theorem fn158 : FnOk Try.prog 158 := ⟨_, Try.func158, rfl, rfl⟩
theorem fn159 : FnOk Try.prog 159 := ⟨_, Try.func159, rfl, rfl⟩
theorem fn160 : FnOk Try.prog 160 := ⟨_, Try.func160, rfl, rfl⟩
theorem fn161 : FnOk Try.prog 161 := ⟨_, Try.func161, rfl, rfl⟩
theorem fn162 : FnOk Try.prog 162 := ⟨_, Try.func162, rfl, rfl⟩
theorem fn163 : FnOk Try.prog 163 := ⟨_, Try.func163, rfl, rfl⟩
theorem fn164 : FnOk Try.prog 164 := ⟨_, Try.func164, rfl, rfl⟩
theorem fn165 : FnOk Try.prog 165 := ⟨_, Try.func165, rfl, rfl⟩
theorem fn166 : FnOk Try.prog 166 := ⟨_, Try.func166, rfl, rfl⟩
theorem fn167 : FnOk Try.prog 167 := ⟨_, Try.func167, rfl, rfl⟩
theorem fn168 : FnOk Try.prog 168 := ⟨_, Try.func168, rfl, rfl⟩
theorem fn169 : FnOk Try.prog 169 := ⟨_, Try.func169, rfl, rfl⟩
theorem fn170 : FnOk Try.prog 170 := ⟨_, Try.func170, rfl, rfl⟩
theorem fn171 : FnOk Try.prog 171 := ⟨_, Try.func171, rfl, rfl⟩
theorem fn172 : FnOk Try.prog 172 := ⟨_, Try.func172, rfl, rfl⟩
theorem fn173 : FnOk Try.prog 173 := ⟨_, Try.func173, rfl, rfl⟩
theorem fn174 : FnOk Try.prog 174 := ⟨_, Try.func174, rfl, rfl⟩
theorem fn175 : FnOk Try.prog 175 := ⟨_, Try.func175, rfl, rfl⟩
theorem fn176 : FnOk Try.prog 176 := ⟨_, Try.func176, rfl, rfl⟩
theorem fn177 : FnOk Try.prog 177 := ⟨_, Try.func177, rfl, rfl⟩
theorem fn178 : FnOk Try.prog 178 := ⟨_, Try.func178, rfl, rfl⟩
theorem fn179 : FnOk Try.prog 179 := ⟨_, Try.func179, rfl, rfl⟩
theorem fn180 : FnOk Try.prog 180 := ⟨_, Try.func180, rfl, rfl⟩
theorem fn181 : FnOk Try.prog 181 := ⟨_, Try.func181, rfl, rfl⟩
theorem fn182 : FnOk Try.prog 182 := ⟨_, Try.func182, rfl, rfl⟩
theorem fn183 : FnOk Try.prog 183 := ⟨_, Try.func183, rfl, rfl⟩
theorem fn184 : FnOk Try.prog 184 := ⟨_, Try.func184, rfl, rfl⟩
theorem fn185 : FnOk Try.prog 185 := ⟨_, Try.func185, rfl, rfl⟩
theorem fn186 : FnOk Try.prog 186 := ⟨_, Try.func186, rfl, rfl⟩
theorem fn187 : FnOk Try.prog 187 := ⟨_, Try.func187, rfl, rfl⟩
theorem fn188 : FnOk Try.prog 188 := ⟨_, Try.func188, rfl, rfl⟩
theorem fn189 : FnOk Try.prog 189 := ⟨_, Try.func189, rfl, rfl⟩
theorem fn190 : FnOk Try.prog 190 := ⟨_, Try.func190, rfl, rfl⟩
theorem fn191 : FnOk Try.prog 191 := ⟨_, Try.func191, rfl, rfl⟩
theorem fn192 : FnOk Try.prog 192 := ⟨_, Try.func192, rfl, rfl⟩
theorem fn193 : FnOk Try.prog 193 := ⟨_, Try.func193, rfl, rfl⟩
theorem fn194 : FnOk Try.prog 194 := ⟨_, Try.func194, rfl, rfl⟩
theorem fn195 : FnOk Try.prog 195 := ⟨_, Try.func195, rfl, rfl⟩
theorem fn196 : FnOk Try.prog 196 := ⟨_, Try.func196, rfl, rfl⟩
theorem fn197 : FnOk Try.prog 197 := ⟨_, Try.func197, rfl, rfl⟩
theorem fn198 : FnOk Try.prog 198 := ⟨_, Try.func198, rfl, rfl⟩
theorem fn199 : FnOk Try.prog 199 := ⟨_, Try.func199, rfl, rfl⟩
theorem fn200 : FnOk Try.prog 200 := ⟨_, Try.func200, rfl, rfl⟩
theorem fn201 : FnOk Try.prog 201 := ⟨_, Try.func201, rfl, rfl⟩
theorem fn202 : FnOk Try.prog 202 := ⟨_, Try.func202, rfl, rfl⟩
theorem fn203 : FnOk Try.prog 203 := ⟨_, Try.func203, rfl, rfl⟩
theorem fn204 : FnOk Try.prog 204 := ⟨_, Try.func204, rfl, rfl⟩
theorem fn205 : FnOk Try.prog 205 := ⟨_, Try.func205, rfl, rfl⟩
theorem fn206 : FnOk Try.prog 206 := ⟨_, Try.func206, rfl, rfl⟩
theorem fn207 : FnOk Try.prog 207 := ⟨_, Try.func207, rfl, rfl⟩
theorem fn208 : FnOk Try.prog 208 := ⟨_, Try.func208, rfl, rfl⟩
theorem fn209 : FnOk Try.prog 209 := ⟨_, Try.func209, rfl, rfl⟩
theorem fn210 : FnOk Try.prog 210 := ⟨_, Try.func210, rfl, rfl⟩
theorem fn211 : FnOk Try.prog 211 := ⟨_, Try.func211, rfl, rfl⟩
theorem fn212 : FnOk Try.prog 212 := ⟨_, Try.func212, rfl, rfl⟩
theorem fn213 : FnOk Try.prog 213 := ⟨_, Try.func213, rfl, rfl⟩
theorem fn214 : FnOk Try.prog 214 := ⟨_, Try.func214, rfl, rfl⟩
theorem fn215 : FnOk Try.prog 215 := ⟨_, Try.func215, rfl, rfl⟩
theorem fn216 : FnOk Try.prog 216 := ⟨_, Try.func216, rfl, rfl⟩
theorem fn217 : FnOk Try.prog 217 := ⟨_, Try.func217, rfl, rfl⟩
end Go.Proofs.Ytddgcegimmcbgaa.Sy

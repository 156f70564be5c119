/-
  The types of the seat's program: facts. Printed by gentypes2.py.
-/
import Derived.Test.YtddgcegimmcbgaaSyZa
import Derived.Test.YtddgcegimmcbgaaProg
import Derived.KernelRfl
set_option linter.unusedVariables false
set_option linter.unusedSimpArgs false
set_option linter.unusedSectionVars false
namespace Go.Proofs.Ytddgcegimmcbgaa.Sy
open Go Go.Sy Go.Proofs.Ytddgcegimmcbgaa
-- 0: Exception('tuple')
def ti2 : TI := { k := .int .i64, sz := 1, by_ := 8, zero := some [.i .i64 (.lit 0)], key := some (false, 1), zd := some (.i .i64 (.lit 0)) }
theorem tok2 : ti2.Ok Try.prog 2 := ⟨(by kernel_rfl), (by kernel_rfl), (by kernel_rfl), (fun z h c => by cases h; kernel_rfl), (fun z h => by cases h; kernel_rfl), (fun z h c => by cases h; kernel_rfl), (fun z h => by cases h)⟩
def ti3 : TI := { k := .int .i64, sz := 1, by_ := 8, zero := some [.i .i64 (.lit 0)], key := some (false, 1), zd := some (.i .i64 (.lit 0)) }
theorem tok3 : ti3.Ok Try.prog 3 := ⟨(by kernel_rfl), (by kernel_rfl), (by kernel_rfl), (fun z h c => by cases h; kernel_rfl), (fun z h => by cases h; kernel_rfl), (fun z h c => by cases h; kernel_rfl), (fun z h => by cases h)⟩
def ti4 : TI := { k := .bool, sz := 1, by_ := 1, zero := some [.b .f] }
theorem tok4 : ti4.Ok Try.prog 4 := ⟨(by kernel_rfl), (by kernel_rfl), (by kernel_rfl), (fun z h c => by cases h; kernel_rfl), (fun z h => by cases h), (fun z h => by cases h), (fun z h => by cases h)⟩
def ti5 : TI := { k := .int .u8, sz := 1, by_ := 1, zero := some [.i .u8 (.lit 0)] }
theorem tok5 : ti5.Ok Try.prog 5 := ⟨(by kernel_rfl), (by kernel_rfl), (by kernel_rfl), (fun z h c => by cases h; kernel_rfl), (fun z h => by cases h), (fun z h => by cases h), (fun z h => by cases h)⟩
def ti9 : TI := { k := .str, sz := 1, by_ := 16, zero := some [.v (.string ⟨#[]⟩)] }
theorem tok9 : ti9.Ok Try.prog 9 := ⟨(by kernel_rfl), (by kernel_rfl), (by kernel_rfl), (fun z h c => by cases h; kernel_rfl), (fun z h => by cases h), (fun z h => by cases h), (fun z h => by cases h)⟩
-- 23: Exception('tuple')
def ti26 : TI := { k := .plain, sz := 1, by_ := 8, zero := some [.v .nilFunc] }
theorem tok26 : ti26.Ok Try.prog 26 := ⟨(by kernel_rfl), (by kernel_rfl), (by kernel_rfl), (fun z h c => by cases h; kernel_rfl), (fun z h => by cases h), (fun z h => by cases h), (fun z h => by cases h)⟩
def ti31 : TI := { k := .slice 123, sz := 1, by_ := 24, zero := some [.v (.slice none 0 0)], zd := some (.v (.slice none 0 0)) }
theorem tok31 : ti31.Ok Try.prog 31 := ⟨(by kernel_rfl), (by kernel_rfl), (by kernel_rfl), (fun z h c => by cases h; kernel_rfl), (fun z h => by cases h), (fun z h c => by cases h; kernel_rfl), (fun z h => by cases h)⟩
def ti34 : TI := { k := .slice 2, sz := 1, by_ := 24, zero := some [.v (.slice none 0 0)] }
theorem tok34 : ti34.Ok Try.prog 34 := ⟨(by kernel_rfl), (by kernel_rfl), (by kernel_rfl), (fun z h c => by cases h; kernel_rfl), (fun z h => by cases h), (fun z h => by cases h), (fun z h => by cases h)⟩
-- 38: Exception('tuple')
def ti41 : TI := { k := .arr 2 2, sz := 2, by_ := 16, zero := some [.i .i64 (.lit 0), .i .i64 (.lit 0)], key := some (true, 2), flat := some [.int, .int] }
theorem tok41 : ti41.Ok Try.prog 41 := ⟨(by kernel_rfl), (by kernel_rfl), (by kernel_rfl), (fun z h c => by cases h; kernel_rfl), (fun z h => by cases h; kernel_rfl), (fun z h => by cases h), (fun z h => by cases h; kernel_rfl)⟩
def ti43 : TI := { k := .slice 3, sz := 1, by_ := 24, zero := some [.v (.slice none 0 0)] }
theorem tok43 : ti43.Ok Try.prog 43 := ⟨(by kernel_rfl), (by kernel_rfl), (by kernel_rfl), (fun z h c => by cases h; kernel_rfl), (fun z h => by cases h), (fun z h => by cases h), (fun z h => by cases h)⟩
def ti52 : TI := { k := .arr 4 2, sz := 4, by_ := 32, zero := some [.i .i64 (.lit 0), .i .i64 (.lit 0), .i .i64 (.lit 0), .i .i64 (.lit 0)], flat := some [.int, .int, .int, .int] }
theorem tok52 : ti52.Ok Try.prog 52 := ⟨(by kernel_rfl), (by kernel_rfl), (by kernel_rfl), (fun z h c => by cases h; kernel_rfl), (fun z h => by cases h), (fun z h => by cases h), (fun z h => by cases h; kernel_rfl)⟩
def ti53 : TI := { k := .int .i64, sz := 1, by_ := 8, zero := some [.i .i64 (.lit 0)] }
theorem tok53 : ti53.Ok Try.prog 53 := ⟨(by kernel_rfl), (by kernel_rfl), (by kernel_rfl), (fun z h c => by cases h; kernel_rfl), (fun z h => by cases h), (fun z h => by cases h), (fun z h => by cases h)⟩
-- 54: Exception('tuple')
def ti61 : TI := { k := .arr 4 2, sz := 4, by_ := 32, zero := some [.i .i64 (.lit 0), .i .i64 (.lit 0), .i .i64 (.lit 0), .i .i64 (.lit 0)], flat := some [.int, .int, .int, .int] }
theorem tok61 : ti61.Ok Try.prog 61 := ⟨(by kernel_rfl), (by kernel_rfl), (by kernel_rfl), (fun z h c => by cases h; kernel_rfl), (fun z h => by cases h), (fun z h => by cases h), (fun z h => by cases h; kernel_rfl)⟩
def ti64 : TI := { k := .struct [(0, 2), (1, 2)], sz := 2, by_ := 16, zero := some [.i .i64 (.lit 0), .i .i64 (.lit 0)], flat := some [.int, .int] }
theorem tok64 : ti64.Ok Try.prog 64 := ⟨(by kernel_rfl), (by kernel_rfl), (by kernel_rfl), (fun z h c => by cases h; kernel_rfl), (fun z h => by cases h), (fun z h => by cases h), (fun z h => by cases h; kernel_rfl)⟩
-- 65: Exception('tuple')
-- 69: Exception('tuple')
-- 84: Exception('tuple')
def ti93 : TI := { k := .struct [(0, 2), (1, 2), (2, 2), (3, 2), (4, 3), (5, 52)], sz := 9, by_ := 72, zero := some [.i .i64 (.lit 0), .i .i64 (.lit 0), .i .i64 (.lit 0), .i .i64 (.lit 0), .i .i64 (.lit 0), .i .i64 (.lit 0), .i .i64 (.lit 0), .i .i64 (.lit 0), .i .i64 (.lit 0)], flat := some [.int, .int, .int, .int, .int, .int, .int, .int, .int] }
theorem tok93 : ti93.Ok Try.prog 93 := ⟨(by kernel_rfl), (by kernel_rfl), (by kernel_rfl), (fun z h c => by cases h; kernel_rfl), (fun z h => by cases h), (fun z h => by cases h), (fun z h => by cases h; kernel_rfl)⟩
def ti94 : TI := { k := .slice 179, sz := 1, by_ := 24, zero := some [.v (.slice none 0 0)] }
theorem tok94 : ti94.Ok Try.prog 94 := ⟨(by kernel_rfl), (by kernel_rfl), (by kernel_rfl), (fun z h c => by cases h; kernel_rfl), (fun z h => by cases h), (fun z h => by cases h), (fun z h => by cases h)⟩
def ti95 : TI := { k := .slice 165, sz := 1, by_ := 24, zero := some [.v (.slice none 0 0)] }
theorem tok95 : ti95.Ok Try.prog 95 := ⟨(by kernel_rfl), (by kernel_rfl), (by kernel_rfl), (fun z h c => by cases h; kernel_rfl), (fun z h => by cases h), (fun z h => by cases h), (fun z h => by cases h)⟩
def ti96 : TI := { k := .slice 167, sz := 1, by_ := 24, zero := some [.v (.slice none 0 0)] }
theorem tok96 : ti96.Ok Try.prog 96 := ⟨(by kernel_rfl), (by kernel_rfl), (by kernel_rfl), (fun z h c => by cases h; kernel_rfl), (fun z h => by cases h), (fun z h => by cases h), (fun z h => by cases h)⟩
def ti97 : TI := { k := .slice 169, sz := 1, by_ := 24, zero := some [.v (.slice none 0 0)] }
theorem tok97 : ti97.Ok Try.prog 97 := ⟨(by kernel_rfl), (by kernel_rfl), (by kernel_rfl), (fun z h c => by cases h; kernel_rfl), (fun z h => by cases h), (fun z h => by cases h), (fun z h => by cases h)⟩
def ti98 : TI := { k := .slice 171, sz := 1, by_ := 24, zero := some [.v (.slice none 0 0)] }
theorem tok98 : ti98.Ok Try.prog 98 := ⟨(by kernel_rfl), (by kernel_rfl), (by kernel_rfl), (fun z h c => by cases h; kernel_rfl), (fun z h => by cases h), (fun z h => by cases h), (fun z h => by cases h)⟩
def ti100 : TI := { k := .struct [(0, 93), (9, 2), (10, 2), (11, 94), (12, 95), (13, 96), (14, 97), (15, 98)], sz := 16, by_ := 208, zero := some [.i .i64 (.lit 0), .i .i64 (.lit 0), .i .i64 (.lit 0), .i .i64 (.lit 0), .i .i64 (.lit 0), .i .i64 (.lit 0), .i .i64 (.lit 0), .i .i64 (.lit 0), .i .i64 (.lit 0), .i .i64 (.lit 0), .i .i64 (.lit 0), .v (.slice none 0 0), .v (.slice none 0 0), .v (.slice none 0 0), .v (.slice none 0 0), .v (.slice none 0 0)] }
theorem tok100 : ti100.Ok Try.prog 100 := ⟨(by kernel_rfl), (by kernel_rfl), (by kernel_rfl), (fun z h c => by cases h; kernel_rfl), (fun z h => by cases h), (fun z h => by cases h), (fun z h => by cases h)⟩
def ti101 : TI := { k := .arr 2 31, sz := 2, by_ := 48, zero := some [.v (.slice none 0 0), .v (.slice none 0 0)] }
theorem tok101 : ti101.Ok Try.prog 101 := ⟨(by kernel_rfl), (by kernel_rfl), (by kernel_rfl), (fun z h c => by cases h; kernel_rfl), (fun z h => by cases h), (fun z h => by cases h), (fun z h => by cases h)⟩
def ti108 : TI := { k := .struct [(0, 64), (2, 2)], sz := 3, by_ := 24, zero := some [.i .i64 (.lit 0), .i .i64 (.lit 0), .i .i64 (.lit 0)], flat := some [.int, .int, .int] }
theorem tok108 : ti108.Ok Try.prog 108 := ⟨(by kernel_rfl), (by kernel_rfl), (by kernel_rfl), (fun z h c => by cases h; kernel_rfl), (fun z h => by cases h), (fun z h => by cases h), (fun z h => by cases h; kernel_rfl)⟩
def ti123 : TI := { k := .struct [(0, 3), (1, 3), (2, 2)], sz := 3, by_ := 24, zero := some [.i .i64 (.lit 0), .i .i64 (.lit 0), .i .i64 (.lit 0)], flat := some [.int, .int, .int] }
theorem tok123 : ti123.Ok Try.prog 123 := ⟨(by kernel_rfl), (by kernel_rfl), (by kernel_rfl), (fun z h c => by cases h; kernel_rfl), (fun z h => by cases h), (fun z h => by cases h), (fun z h => by cases h; kernel_rfl)⟩
-- 128: Exception('tuple')
-- 134: Exception('tuple')
def ti155 : TI := { k := .int .u64, sz := 1, by_ := 8, zero := some [.i .u64 (.lit 0)] }
theorem tok155 : ti155.Ok Try.prog 155 := ⟨(by kernel_rfl), (by kernel_rfl), (by kernel_rfl), (fun z h c => by cases h; kernel_rfl), (fun z h => by cases h), (fun z h => by cases h), (fun z h => by cases h)⟩
-- 159: Exception('tuple')
def ti165 : TI := { k := .struct [(0, 2), (1, 31), (2, 31)], sz := 3, by_ := 56, zero := some [.i .i64 (.lit 0), .v (.slice none 0 0), .v (.slice none 0 0)] }
theorem tok165 : ti165.Ok Try.prog 165 := ⟨(by kernel_rfl), (by kernel_rfl), (by kernel_rfl), (fun z h c => by cases h; kernel_rfl), (fun z h => by cases h), (fun z h => by cases h), (fun z h => by cases h)⟩
def ti167 : TI := { k := .struct [(0, 2), (1, 2), (2, 2), (3, 31), (4, 2)], sz := 5, by_ := 56, zero := some [.i .i64 (.lit 0), .i .i64 (.lit 0), .i .i64 (.lit 0), .v (.slice none 0 0), .i .i64 (.lit 0)] }
theorem tok167 : ti167.Ok Try.prog 167 := ⟨(by kernel_rfl), (by kernel_rfl), (by kernel_rfl), (fun z h c => by cases h; kernel_rfl), (fun z h => by cases h), (fun z h => by cases h), (fun z h => by cases h)⟩
def ti169 : TI := { k := .struct [(0, 2), (1, 2), (2, 2), (3, 31)], sz := 4, by_ := 48, zero := some [.i .i64 (.lit 0), .i .i64 (.lit 0), .i .i64 (.lit 0), .v (.slice none 0 0)] }
theorem tok169 : ti169.Ok Try.prog 169 := ⟨(by kernel_rfl), (by kernel_rfl), (by kernel_rfl), (fun z h c => by cases h; kernel_rfl), (fun z h => by cases h), (fun z h => by cases h), (fun z h => by cases h)⟩
def ti171 : TI := { k := .struct [(0, 2), (1, 2), (2, 2), (3, 31)], sz := 4, by_ := 48, zero := some [.i .i64 (.lit 0), .i .i64 (.lit 0), .i .i64 (.lit 0), .v (.slice none 0 0)] }
theorem tok171 : ti171.Ok Try.prog 171 := ⟨(by kernel_rfl), (by kernel_rfl), (by kernel_rfl), (fun z h c => by cases h; kernel_rfl), (fun z h => by cases h), (fun z h => by cases h), (fun z h => by cases h)⟩
def ti179 : TI := { k := .struct [(0, 2), (1, 3), (2, 2), (3, 4), (4, 4), (5, 2), (6, 2)], sz := 7, by_ := 48, zero := some [.i .i64 (.lit 0), .i .i64 (.lit 0), .i .i64 (.lit 0), .b .f, .b .f, .i .i64 (.lit 0), .i .i64 (.lit 0)], flat := some [.int, .int, .int, .bool, .bool, .int, .int] }
theorem tok179 : ti179.Ok Try.prog 179 := ⟨(by kernel_rfl), (by kernel_rfl), (by kernel_rfl), (fun z h c => by cases h; kernel_rfl), (fun z h => by cases h), (fun z h => by cases h), (fun z h => by cases h; kernel_rfl)⟩
-- 188: Exception('tuple')
-- 204: Exception('tuple')
def ti209 : TI := { k := .struct [(0, 3), (1, 3)], sz := 2, by_ := 16, zero := some [.i .i64 (.lit 0), .i .i64 (.lit 0)], flat := some [.int, .int] }
theorem tok209 : ti209.Ok Try.prog 209 := ⟨(by kernel_rfl), (by kernel_rfl), (by kernel_rfl), (fun z h c => by cases h; kernel_rfl), (fun z h => by cases h), (fun z h => by cases h), (fun z h => by cases h; kernel_rfl)⟩
-- 217: Exception('tuple')
def ti225 : TI := { k := .struct [(0, 100)], sz := 16, by_ := 208, zero := some [.i .i64 (.lit 0), .i .i64 (.lit 0), .i .i64 (.lit 0), .i .i64 (.lit 0), .i .i64 (.lit 0), .i .i64 (.lit 0), .i .i64 (.lit 0), .i .i64 (.lit 0), .i .i64 (.lit 0), .i .i64 (.lit 0), .i .i64 (.lit 0), .v (.slice none 0 0), .v (.slice none 0 0), .v (.slice none 0 0), .v (.slice none 0 0), .v (.slice none 0 0)] }
theorem tok225 : ti225.Ok Try.prog 225 := ⟨(by kernel_rfl), (by kernel_rfl), (by kernel_rfl), (fun z h c => by cases h; kernel_rfl), (fun z h => by cases h), (fun z h => by cases h), (fun z h => by cases h)⟩
def ti226 : TI := { k := .arr 8 26, sz := 8, by_ := 64, zero := some [.v .nilFunc, .v .nilFunc, .v .nilFunc, .v .nilFunc, .v .nilFunc, .v .nilFunc, .v .nilFunc, .v .nilFunc] }
theorem tok226 : ti226.Ok Try.prog 226 := ⟨(by kernel_rfl), (by kernel_rfl), (by kernel_rfl), (fun z h c => by cases h; kernel_rfl), (fun z h => by cases h), (fun z h => by cases h), (fun z h => by cases h)⟩
-- 232: Exception('tuple')
def ti235 : TI := { k := .struct [(0, 155), (1, 155)], sz := 2, by_ := 16, zero := some [.i .u64 (.lit 0), .i .u64 (.lit 0)], flat := some [.int, .int] }
theorem tok235 : ti235.Ok Try.prog 235 := ⟨(by kernel_rfl), (by kernel_rfl), (by kernel_rfl), (fun z h c => by cases h; kernel_rfl), (fun z h => by cases h), (fun z h => by cases h), (fun z h => by cases h; kernel_rfl)⟩
-- 236: Exception('tuple')
-- 242: Exception('tuple')
-- 252: Exception('tuple')
def ti255 : TI := { k := .map 3 2, sz := 1, by_ := 8, zero := some [.v (.map none)] }
theorem tok255 : ti255.Ok Try.prog 255 := ⟨(by kernel_rfl), (by kernel_rfl), (by kernel_rfl), (fun z h c => by cases h; kernel_rfl), (fun z h => by cases h), (fun z h => by cases h), (fun z h => by cases h)⟩
-- 257: Exception('tuple')
def ti260 : TI := { k := .map 2 31, sz := 1, by_ := 8, zero := some [.v (.map none)] }
theorem tok260 : ti260.Ok Try.prog 260 := ⟨(by kernel_rfl), (by kernel_rfl), (by kernel_rfl), (fun z h c => by cases h; kernel_rfl), (fun z h => by cases h), (fun z h => by cases h), (fun z h => by cases h)⟩
def ti264 : TI := { k := .slice 5, sz := 1, by_ := 24, zero := some [.v (.slice none 0 0)] }
theorem tok264 : ti264.Ok Try.prog 264 := ⟨(by kernel_rfl), (by kernel_rfl), (by kernel_rfl), (fun z h c => by cases h; kernel_rfl), (fun z h => by cases h), (fun z h => by cases h), (fun z h => by cases h)⟩
def ti276 : TI := { k := .arr 20 5, sz := 20, by_ := 20, zero := some [.i .u8 (.lit 0), .i .u8 (.lit 0), .i .u8 (.lit 0), .i .u8 (.lit 0), .i .u8 (.lit 0), .i .u8 (.lit 0), .i .u8 (.lit 0), .i .u8 (.lit 0), .i .u8 (.lit 0), .i .u8 (.lit 0), .i .u8 (.lit 0), .i .u8 (.lit 0), .i .u8 (.lit 0), .i .u8 (.lit 0), .i .u8 (.lit 0), .i .u8 (.lit 0), .i .u8 (.lit 0), .i .u8 (.lit 0), .i .u8 (.lit 0), .i .u8 (.lit 0)], flat := some [.int, .int, .int, .int, .int, .int, .int, .int, .int, .int, .int, .int, .int, .int, .int, .int, .int, .int, .int, .int] }
theorem tok276 : ti276.Ok Try.prog 276 := ⟨(by kernel_rfl), (by kernel_rfl), (by kernel_rfl), (fun z h c => by cases h; kernel_rfl), (fun z h => by cases h), (fun z h => by cases h), (fun z h => by cases h; kernel_rfl)⟩
theorem mixed : Try.prog.follows .mixedOrders = true := by kernel_rfl
theorem fn46 : FnOk Try.prog 46 := ⟨_, Try.func46, rfl, rfl⟩
theorem fn47 : FnOk Try.prog 47 := ⟨_, Try.func47, rfl, rfl⟩
theorem fn48 : FnOk Try.prog 48 := ⟨_, Try.func48, rfl, rfl⟩
theorem fn49 : FnOk Try.prog 49 := ⟨_, Try.func49, rfl, rfl⟩
theorem fn50 : FnOk Try.prog 50 := ⟨_, Try.func50, rfl, rfl⟩
theorem fn51 : FnOk Try.prog 51 := ⟨_, Try.func51, rfl, rfl⟩
theorem fn52 : FnOk Try.prog 52 := ⟨_, Try.func52, rfl, rfl⟩
theorem fn53 : FnOk Try.prog 53 := ⟨_, Try.func53, rfl, rfl⟩
theorem fn54 : FnOk Try.prog 54 := ⟨_, Try.func54, rfl, rfl⟩
theorem fn55 : FnOk Try.prog 55 := ⟨_, Try.func55, rfl, rfl⟩
theorem fn56 : FnOk Try.prog 56 := ⟨_, Try.func56, rfl, rfl⟩
theorem fn57 : FnOk Try.prog 57 := ⟨_, Try.func57, rfl, rfl⟩
theorem fn65 : FnOk Try.prog 65 := ⟨_, Try.func65, rfl, rfl⟩
theorem fn78 : FnOk Try.prog 78 := ⟨_, Try.func78, rfl, rfl⟩
theorem fn82 : FnOk Try.prog 82 := ⟨_, Try.func82, rfl, rfl⟩
theorem fn97 : FnOk Try.prog 97 := ⟨_, Try.func97, rfl, rfl⟩
theorem fn98 : FnOk Try.prog 98 := ⟨_, Try.func98, rfl, rfl⟩
theorem fn99 : FnOk Try.prog 99 := ⟨_, Try.func99, rfl, rfl⟩
theorem fn100 : FnOk Try.prog 100 := ⟨_, Try.func100, rfl, rfl⟩
theorem fn101 : FnOk Try.prog 101 := ⟨_, Try.func101, rfl, rfl⟩
theorem fn102 : FnOk Try.prog 102 := ⟨_, Try.func102, rfl, rfl⟩
theorem fn103 : FnOk Try.prog 103 := ⟨_, Try.func103, rfl, rfl⟩
theorem fn104 : FnOk Try.prog 104 := ⟨_, Try.func104, rfl, rfl⟩
theorem fn105 : FnOk Try.prog 105 := ⟨_, Try.func105, rfl, rfl⟩
theorem fn106 : FnOk Try.prog 106 := ⟨_, Try.func106, rfl, rfl⟩
theorem fn107 : FnOk Try.prog 107 := ⟨_, Try.func107, rfl, rfl⟩
theorem fn108 : FnOk Try.prog 108 := ⟨_, Try.func108, rfl, rfl⟩
theorem fn109 : FnOk Try.prog 109 := ⟨_, Try.func109, rfl, rfl⟩
theorem fn110 : FnOk Try.prog 110 := ⟨_, Try.func110, rfl, rfl⟩
theorem fn111 : FnOk Try.prog 111 := ⟨_, Try.func111, rfl, rfl⟩
theorem fn112 : FnOk Try.prog 112 := ⟨_, Try.func112, rfl, rfl⟩
theorem fn113 : FnOk Try.prog 113 := ⟨_, Try.func113, rfl, rfl⟩
theorem fn122 : FnOk Try.prog 122 := ⟨_, Try.func122, rfl, rfl⟩
theorem fn124 : FnOk Try.prog 124 := ⟨_, Try.func124, rfl, rfl⟩
theorem fn129 : FnOk Try.prog 129 := ⟨_, Try.func129, rfl, rfl⟩
theorem fn143 : FnOk Try.prog 143 := ⟨_, Try.func143, rfl, rfl⟩
theorem fn144 : FnOk Try.prog 144 := ⟨_, Try.func144, rfl, rfl⟩
theorem fn151 : FnOk Try.prog 151 := ⟨_, Try.func151, rfl, rfl⟩
theorem fn152 : FnOk Try.prog 152 := ⟨_, Try.func152, rfl, rfl⟩
theorem fn153 : FnOk Try.prog 153 := ⟨_, Try.func153, rfl, rfl⟩
theorem fn154 : FnOk Try.prog 154 := ⟨_, Try.func154, rfl, rfl⟩
theorem fn155 : FnOk Try.prog 155 := ⟨_, Try.func155, rfl, rfl⟩
theorem fn156 : FnOk Try.prog 156 := ⟨_, Try.func156, rfl, rfl⟩
theorem fn157 : FnOk Try.prog 157 := ⟨_, Try.func157, rfl, rfl⟩
theorem fn158 : FnOk Try.prog 158 := ⟨_, Try.func158, rfl, rfl⟩
theorem fn159 : FnOk Try.prog 159 := ⟨_, Try.func159, rfl, rfl⟩
theorem fn160 : FnOk Try.prog 160 := ⟨_, Try.func160, rfl, rfl⟩
theorem fn161 : FnOk Try.prog 161 := ⟨_, Try.func161, rfl, rfl⟩
theorem fn162 : FnOk Try.prog 162 := ⟨_, Try.func162, rfl, rfl⟩
theorem fn163 : FnOk Try.prog 163 := ⟨_, Try.func163, rfl, rfl⟩
theorem fn164 : FnOk Try.prog 164 := ⟨_, Try.func164, rfl, rfl⟩
theorem fn165 : FnOk Try.prog 165 := ⟨_, Try.func165, rfl, rfl⟩
theorem fn166 : FnOk Try.prog 166 := ⟨_, Try.func166, rfl, rfl⟩
theorem fn167 : FnOk Try.prog 167 := ⟨_, Try.func167, rfl, rfl⟩
theorem fn169 : FnOk Try.prog 169 := ⟨_, Try.func169, rfl, rfl⟩
theorem fn171 : FnOk Try.prog 171 := ⟨_, Try.func171, rfl, rfl⟩
theorem fn180 : FnOk Try.prog 180 := ⟨_, Try.func180, rfl, rfl⟩
theorem fn182 : FnOk Try.prog 182 := ⟨_, Try.func182, rfl, rfl⟩
theorem fn189 : FnOk Try.prog 189 := ⟨_, Try.func189, rfl, rfl⟩
theorem fn190 : FnOk Try.prog 190 := ⟨_, Try.func190, rfl, rfl⟩
theorem fn191 : FnOk Try.prog 191 := ⟨_, Try.func191, rfl, rfl⟩
theorem fn192 : FnOk Try.prog 192 := ⟨_, Try.func192, rfl, rfl⟩
theorem fn194 : FnOk Try.prog 194 := ⟨_, Try.func194, rfl, rfl⟩
theorem fn195 : FnOk Try.prog 195 := ⟨_, Try.func195, rfl, rfl⟩
theorem fn196 : FnOk Try.prog 196 := ⟨_, Try.func196, rfl, rfl⟩
theorem fn197 : FnOk Try.prog 197 := ⟨_, Try.func197, rfl, rfl⟩
theorem fn198 : FnOk Try.prog 198 := ⟨_, Try.func198, rfl, rfl⟩
theorem fn199 : FnOk Try.prog 199 := ⟨_, Try.func199, rfl, rfl⟩
theorem fn200 : FnOk Try.prog 200 := ⟨_, Try.func200, rfl, rfl⟩
theorem fn201 : FnOk Try.prog 201 := ⟨_, Try.func201, rfl, rfl⟩
theorem fn208 : FnOk Try.prog 208 := ⟨_, Try.func208, rfl, rfl⟩
theorem fn209 : FnOk Try.prog 209 := ⟨_, Try.func209, rfl, rfl⟩
theorem fn210 : FnOk Try.prog 210 := ⟨_, Try.func210, rfl, rfl⟩
theorem fn213 : FnOk Try.prog 213 := ⟨_, Try.func213, rfl, rfl⟩
theorem fn214 : FnOk Try.prog 214 := ⟨_, Try.func214, rfl, rfl⟩
theorem fn216 : FnOk Try.prog 216 := ⟨_, Try.func216, rfl, rfl⟩
end Go.Proofs.Ytddgcegimmcbgaa.Sy

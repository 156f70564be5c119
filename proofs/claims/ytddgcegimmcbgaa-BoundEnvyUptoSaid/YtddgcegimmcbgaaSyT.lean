/-
  The types of the seat's program: facts. Printed by gentypes2.py.
-/
import Derived.Test.YtddgcegimmcbgaaSyZa
import Derived.Test.YtddgcegimmcbgaaProg
import Derived.KernelRfl
set_option linter.unusedVariables false
set_option linter.unusedSimpArgs false
set_option linter.unusedSectionVars false
namespace Go.Proofs.Ytddgcegimmcbgaa.Sy
open Go Go.Sy Go.Proofs.Ytddgcegimmcbgaa
-- 0: Exception('tuple')
def ti2 : TI := { k := .int .i64, sz := 1, by_ := 8, zero := some [.i .i64 (.lit 0)], key := some (false, 1), zd := some (.i .i64 (.lit 0)) }
theorem tok2 : ti2.Ok Try.prog 2 := ⟨(by kernel_rfl), (by kernel_rfl), (by kernel_rfl), (fun z h c => by cases h; kernel_rfl), (fun z h => by cases h; kernel_rfl), (fun z h c => by cases h; kernel_rfl), (fun z h => by cases h)⟩
def ti3 : TI := { k := .int .i64, sz := 1, by_ := 8, zero := some [.i .i64 (.lit 0)], key := some (false, 1), zd := some (.i .i64 (.lit 0)) }
theorem tok3 : ti3.Ok Try.prog 3 := ⟨(by kernel_rfl), (by kernel_rfl), (by kernel_rfl), (fun z h c => by cases h; kernel_rfl), (fun z h => by cases h; kernel_rfl), (fun z h c => by cases h; kernel_rfl), (fun z h => by cases h)⟩
def ti4 : TI := { k := .bool, sz := 1, by_ := 1, zero := some [.b .f] }
theorem tok4 : ti4.Ok Try.prog 4 := ⟨(by kernel_rfl), (by kernel_rfl), (by kernel_rfl), (fun z h c => by cases h; kernel_rfl), (fun z h => by cases h), (fun z h => by cases h), (fun z h => by cases h)⟩
-- 23: Exception('tuple')
def ti31 : TI := { k := .slice 123, sz := 1, by_ := 24, zero := some [.v (.slice none 0 0)], zd := some (.v (.slice none 0 0)) }
theorem tok31 : ti31.Ok Try.prog 31 := ⟨(by kernel_rfl), (by kernel_rfl), (by kernel_rfl), (fun z h c => by cases h; kernel_rfl), (fun z h => by cases h), (fun z h c => by cases h; kernel_rfl), (fun z h => by cases h)⟩
def ti34 : TI := { k := .slice 2, sz := 1, by_ := 24, zero := some [.v (.slice none 0 0)] }
theorem tok34 : ti34.Ok Try.prog 34 := ⟨(by kernel_rfl), (by kernel_rfl), (by kernel_rfl), (fun z h c => by cases h; kernel_rfl), (fun z h => by cases h), (fun z h => by cases h), (fun z h => by cases h)⟩
-- 38: Exception('tuple')
def ti42 : TI := { k := .slice 132, sz := 1, by_ := 24, zero := some [.v (.slice none 0 0)] }
theorem tok42 : ti42.Ok Try.prog 42 := ⟨(by kernel_rfl), (by kernel_rfl), (by kernel_rfl), (fun z h c => by cases h; kernel_rfl), (fun z h => by cases h), (fun z h => by cases h), (fun z h => by cases h)⟩
def ti43 : TI := { k := .slice 3, sz := 1, by_ := 24, zero := some [.v (.slice none 0 0)] }
theorem tok43 : ti43.Ok Try.prog 43 := ⟨(by kernel_rfl), (by kernel_rfl), (by kernel_rfl), (fun z h c => by cases h; kernel_rfl), (fun z h => by cases h), (fun z h => by cases h), (fun z h => by cases h)⟩
def ti47 : TI := { k := .slice 88, sz := 1, by_ := 24, zero := some [.v (.slice none 0 0)] }
theorem tok47 : ti47.Ok Try.prog 47 := ⟨(by kernel_rfl), (by kernel_rfl), (by kernel_rfl), (fun z h c => by cases h; kernel_rfl), (fun z h => by cases h), (fun z h => by cases h), (fun z h => by cases h)⟩
def ti52 : TI := { k := .arr 4 2, sz := 4, by_ := 32, zero := some [.i .i64 (.lit 0), .i .i64 (.lit 0), .i .i64 (.lit 0), .i .i64 (.lit 0)], flat := some [.int, .int, .int, .int] }
theorem tok52 : ti52.Ok Try.prog 52 := ⟨(by kernel_rfl), (by kernel_rfl), (by kernel_rfl), (fun z h c => by cases h; kernel_rfl), (fun z h => by cases h), (fun z h => by cases h), (fun z h => by cases h; kernel_rfl)⟩
def ti53 : TI := { k := .int .i64, sz := 1, by_ := 8, zero := some [.i .i64 (.lit 0)] }
theorem tok53 : ti53.Ok Try.prog 53 := ⟨(by kernel_rfl), (by kernel_rfl), (by kernel_rfl), (fun z h c => by cases h; kernel_rfl), (fun z h => by cases h), (fun z h => by cases h), (fun z h => by cases h)⟩
-- 54: Exception('tuple')
def ti57 : TI := { k := .slice 31, sz := 1, by_ := 24, zero := some [.v (.slice none 0 0)] }
theorem tok57 : ti57.Ok Try.prog 57 := ⟨(by kernel_rfl), (by kernel_rfl), (by kernel_rfl), (fun z h c => by cases h; kernel_rfl), (fun z h => by cases h), (fun z h => by cases h), (fun z h => by cases h)⟩
def ti60 : TI := { k := .slice 64, sz := 1, by_ := 24, zero := some [.v (.slice none 0 0)] }
theorem tok60 : ti60.Ok Try.prog 60 := ⟨(by kernel_rfl), (by kernel_rfl), (by kernel_rfl), (fun z h c => by cases h; kernel_rfl), (fun z h => by cases h), (fun z h => by cases h), (fun z h => by cases h)⟩
def ti61 : TI := { k := .arr 4 2, sz := 4, by_ := 32, zero := some [.i .i64 (.lit 0), .i .i64 (.lit 0), .i .i64 (.lit 0), .i .i64 (.lit 0)], flat := some [.int, .int, .int, .int] }
theorem tok61 : ti61.Ok Try.prog 61 := ⟨(by kernel_rfl), (by kernel_rfl), (by kernel_rfl), (fun z h c => by cases h; kernel_rfl), (fun z h => by cases h), (fun z h => by cases h), (fun z h => by cases h; kernel_rfl)⟩
def ti64 : TI := { k := .struct [(0, 2), (1, 2)], sz := 2, by_ := 16, zero := some [.i .i64 (.lit 0), .i .i64 (.lit 0)], flat := some [.int, .int] }
theorem tok64 : ti64.Ok Try.prog 64 := ⟨(by kernel_rfl), (by kernel_rfl), (by kernel_rfl), (fun z h c => by cases h; kernel_rfl), (fun z h => by cases h), (fun z h => by cases h), (fun z h => by cases h; kernel_rfl)⟩
-- 65: Exception('tuple')
-- 69: Exception('tuple')
def ti75 : TI := { k := .struct [(0, 57), (1, 42), (2, 52)], sz := 6, by_ := 80, zero := some [.v (.slice none 0 0), .v (.slice none 0 0), .i .i64 (.lit 0), .i .i64 (.lit 0), .i .i64 (.lit 0), .i .i64 (.lit 0)] }
theorem tok75 : ti75.Ok Try.prog 75 := ⟨(by kernel_rfl), (by kernel_rfl), (by kernel_rfl), (fun z h c => by cases h; kernel_rfl), (fun z h => by cases h), (fun z h => by cases h), (fun z h => by cases h)⟩
def ti77 : TI := { k := .slice 110, sz := 1, by_ := 24, zero := some [.v (.slice none 0 0)] }
theorem tok77 : ti77.Ok Try.prog 77 := ⟨(by kernel_rfl), (by kernel_rfl), (by kernel_rfl), (fun z h c => by cases h; kernel_rfl), (fun z h => by cases h), (fun z h => by cases h), (fun z h => by cases h)⟩
def ti78 : TI := { k := .slice 34, sz := 1, by_ := 24, zero := some [.v (.slice none 0 0)] }
theorem tok78 : ti78.Ok Try.prog 78 := ⟨(by kernel_rfl), (by kernel_rfl), (by kernel_rfl), (fun z h c => by cases h; kernel_rfl), (fun z h => by cases h), (fun z h => by cases h), (fun z h => by cases h)⟩
def ti80 : TI := { k := .struct [(0, 77), (1, 78), (2, 57)], sz := 3, by_ := 72, zero := some [.v (.slice none 0 0), .v (.slice none 0 0), .v (.slice none 0 0)] }
theorem tok80 : ti80.Ok Try.prog 80 := ⟨(by kernel_rfl), (by kernel_rfl), (by kernel_rfl), (fun z h c => by cases h; kernel_rfl), (fun z h => by cases h), (fun z h => by cases h), (fun z h => by cases h)⟩
-- 84: Exception('tuple')
def ti88 : TI := { k := .struct [(0, 2), (1, 31)], sz := 2, by_ := 32, zero := some [.i .i64 (.lit 0), .v (.slice none 0 0)] }
theorem tok88 : ti88.Ok Try.prog 88 := ⟨(by kernel_rfl), (by kernel_rfl), (by kernel_rfl), (fun z h c => by cases h; kernel_rfl), (fun z h => by cases h), (fun z h => by cases h), (fun z h => by cases h)⟩
def ti108 : TI := { k := .struct [(0, 64), (2, 2)], sz := 3, by_ := 24, zero := some [.i .i64 (.lit 0), .i .i64 (.lit 0), .i .i64 (.lit 0)], flat := some [.int, .int, .int] }
theorem tok108 : ti108.Ok Try.prog 108 := ⟨(by kernel_rfl), (by kernel_rfl), (by kernel_rfl), (fun z h c => by cases h; kernel_rfl), (fun z h => by cases h), (fun z h => by cases h), (fun z h => by cases h; kernel_rfl)⟩
def ti110 : TI := { k := .struct [(0, 3), (1, 3), (2, 3), (3, 108), (6, 31), (7, 4)], sz := 8, by_ := 80, zero := some [.i .i64 (.lit 0), .i .i64 (.lit 0), .i .i64 (.lit 0), .i .i64 (.lit 0), .i .i64 (.lit 0), .i .i64 (.lit 0), .v (.slice none 0 0), .b .f] }
theorem tok110 : ti110.Ok Try.prog 110 := ⟨(by kernel_rfl), (by kernel_rfl), (by kernel_rfl), (fun z h c => by cases h; kernel_rfl), (fun z h => by cases h), (fun z h => by cases h), (fun z h => by cases h)⟩
def ti111 : TI := { k := .slice 114, sz := 1, by_ := 24, zero := some [.v (.slice none 0 0)] }
theorem tok111 : ti111.Ok Try.prog 111 := ⟨(by kernel_rfl), (by kernel_rfl), (by kernel_rfl), (fun z h c => by cases h; kernel_rfl), (fun z h => by cases h), (fun z h => by cases h), (fun z h => by cases h)⟩
def ti114 : TI := { k := .arr 2 3, sz := 2, by_ := 16, zero := some [.i .i64 (.lit 0), .i .i64 (.lit 0)], flat := some [.int, .int] }
theorem tok114 : ti114.Ok Try.prog 114 := ⟨(by kernel_rfl), (by kernel_rfl), (by kernel_rfl), (fun z h c => by cases h; kernel_rfl), (fun z h => by cases h), (fun z h => by cases h), (fun z h => by cases h; kernel_rfl)⟩
def ti123 : TI := { k := .struct [(0, 3), (1, 3), (2, 2)], sz := 3, by_ := 24, zero := some [.i .i64 (.lit 0), .i .i64 (.lit 0), .i .i64 (.lit 0)], flat := some [.int, .int, .int] }
theorem tok123 : ti123.Ok Try.prog 123 := ⟨(by kernel_rfl), (by kernel_rfl), (by kernel_rfl), (fun z h c => by cases h; kernel_rfl), (fun z h => by cases h), (fun z h => by cases h), (fun z h => by cases h; kernel_rfl)⟩
-- 128: Exception('tuple')
def ti132 : TI := { k := .struct [(0, 2), (1, 31)], sz := 2, by_ := 32, zero := some [.i .i64 (.lit 0), .v (.slice none 0 0)] }
theorem tok132 : ti132.Ok Try.prog 132 := ⟨(by kernel_rfl), (by kernel_rfl), (by kernel_rfl), (fun z h c => by cases h; kernel_rfl), (fun z h => by cases h), (fun z h => by cases h), (fun z h => by cases h)⟩
-- 134: Exception('tuple')
def ti142 : TI := { k := .slice 220, sz := 1, by_ := 24, zero := some [.v (.slice none 0 0)] }
theorem tok142 : ti142.Ok Try.prog 142 := ⟨(by kernel_rfl), (by kernel_rfl), (by kernel_rfl), (fun z h c => by cases h; kernel_rfl), (fun z h => by cases h), (fun z h => by cases h), (fun z h => by cases h)⟩
def ti144 : TI := { k := .struct [(0, 4), (1, 142), (2, 142)], sz := 3, by_ := 56, zero := some [.b .f, .v (.slice none 0 0), .v (.slice none 0 0)] }
theorem tok144 : ti144.Ok Try.prog 144 := ⟨(by kernel_rfl), (by kernel_rfl), (by kernel_rfl), (fun z h c => by cases h; kernel_rfl), (fun z h => by cases h), (fun z h => by cases h), (fun z h => by cases h)⟩
def ti155 : TI := { k := .int .u64, sz := 1, by_ := 8, zero := some [.i .u64 (.lit 0)] }
theorem tok155 : ti155.Ok Try.prog 155 := ⟨(by kernel_rfl), (by kernel_rfl), (by kernel_rfl), (fun z h c => by cases h; kernel_rfl), (fun z h => by cases h), (fun z h => by cases h), (fun z h => by cases h)⟩
def ti156 : TI := { k := .slice 144, sz := 1, by_ := 24, zero := some [.v (.slice none 0 0)] }
theorem tok156 : ti156.Ok Try.prog 156 := ⟨(by kernel_rfl), (by kernel_rfl), (by kernel_rfl), (fun z h c => by cases h; kernel_rfl), (fun z h => by cases h), (fun z h => by cases h), (fun z h => by cases h)⟩
def ti158 : TI := { k := .struct [(0, 75), (6, 156), (7, 144), (10, 144)], sz := 13, by_ := 216, zero := some [.v (.slice none 0 0), .v (.slice none 0 0), .i .i64 (.lit 0), .i .i64 (.lit 0), .i .i64 (.lit 0), .i .i64 (.lit 0), .v (.slice none 0 0), .b .f, .v (.slice none 0 0), .v (.slice none 0 0), .b .f, .v (.slice none 0 0), .v (.slice none 0 0)] }
theorem tok158 : ti158.Ok Try.prog 158 := ⟨(by kernel_rfl), (by kernel_rfl), (by kernel_rfl), (fun z h c => by cases h; kernel_rfl), (fun z h => by cases h), (fun z h => by cases h), (fun z h => by cases h)⟩
-- 159: Exception('tuple')
-- 188: Exception('tuple')
-- 204: Exception('tuple')
def ti209 : TI := { k := .struct [(0, 3), (1, 3)], sz := 2, by_ := 16, zero := some [.i .i64 (.lit 0), .i .i64 (.lit 0)], flat := some [.int, .int] }
theorem tok209 : ti209.Ok Try.prog 209 := ⟨(by kernel_rfl), (by kernel_rfl), (by kernel_rfl), (fun z h c => by cases h; kernel_rfl), (fun z h => by cases h), (fun z h => by cases h), (fun z h => by cases h; kernel_rfl)⟩
-- 217: Exception('tuple')
def ti220 : TI := { k := .int .u32, sz := 1, by_ := 4, zero := some [.i .u32 (.lit 0)] }
theorem tok220 : ti220.Ok Try.prog 220 := ⟨(by kernel_rfl), (by kernel_rfl), (by kernel_rfl), (fun z h c => by cases h; kernel_rfl), (fun z h => by cases h), (fun z h => by cases h), (fun z h => by cases h)⟩
-- 232: Exception('tuple')
def ti235 : TI := { k := .struct [(0, 155), (1, 155)], sz := 2, by_ := 16, zero := some [.i .u64 (.lit 0), .i .u64 (.lit 0)], flat := some [.int, .int] }
theorem tok235 : ti235.Ok Try.prog 235 := ⟨(by kernel_rfl), (by kernel_rfl), (by kernel_rfl), (fun z h c => by cases h; kernel_rfl), (fun z h => by cases h), (fun z h => by cases h), (fun z h => by cases h; kernel_rfl)⟩
-- 236: Exception('tuple')
-- 242: Exception('tuple')
-- 252: Exception('tuple')
-- 257: Exception('tuple')
theorem mixed : Try.prog.follows .mixedOrders = true := by kernel_rfl
theorem fn22 : FnOk Try.prog 22 := ⟨_, Try.func22, rfl, rfl⟩
theorem fn28 : FnOk Try.prog 28 := ⟨_, Try.func28, rfl, rfl⟩
theorem fn31 : FnOk Try.prog 31 := ⟨_, Try.func31, rfl, rfl⟩
theorem fn33 : FnOk Try.prog 33 := ⟨_, Try.func33, rfl, rfl⟩
theorem fn35 : FnOk Try.prog 35 := ⟨_, Try.func35, rfl, rfl⟩
theorem fn37 : FnOk Try.prog 37 := ⟨_, Try.func37, rfl, rfl⟩
theorem fn38 : FnOk Try.prog 38 := ⟨_, Try.func38, rfl, rfl⟩
theorem fn39 : FnOk Try.prog 39 := ⟨_, Try.func39, rfl, rfl⟩
theorem fn40 : FnOk Try.prog 40 := ⟨_, Try.func40, rfl, rfl⟩
theorem fn41 : FnOk Try.prog 41 := ⟨_, Try.func41, rfl, rfl⟩
theorem fn45 : FnOk Try.prog 45 := ⟨_, Try.func45, rfl, rfl⟩
theorem fn58 : FnOk Try.prog 58 := ⟨_, Try.func58, rfl, rfl⟩
theorem fn59 : FnOk Try.prog 59 := ⟨_, Try.func59, rfl, rfl⟩
theorem fn65 : FnOk Try.prog 65 := ⟨_, Try.func65, rfl, rfl⟩
theorem fn72 : FnOk Try.prog 72 := ⟨_, Try.func72, rfl, rfl⟩
theorem fn75 : FnOk Try.prog 75 := ⟨_, Try.func75, rfl, rfl⟩
theorem fn76 : FnOk Try.prog 76 := ⟨_, Try.func76, rfl, rfl⟩
theorem fn77 : FnOk Try.prog 77 := ⟨_, Try.func77, rfl, rfl⟩
theorem fn78 : FnOk Try.prog 78 := ⟨_, Try.func78, rfl, rfl⟩
theorem fn79 : FnOk Try.prog 79 := ⟨_, Try.func79, rfl, rfl⟩
theorem fn80 : FnOk Try.prog 80 := ⟨_, Try.func80, rfl, rfl⟩
theorem fn81 : FnOk Try.prog 81 := ⟨_, Try.func81, rfl, rfl⟩
theorem fn82 : FnOk Try.prog 82 := ⟨_, Try.func82, rfl, rfl⟩
theorem fn83 : FnOk Try.prog 83 := ⟨_, Try.func83, rfl, rfl⟩
theorem fn84 : FnOk Try.prog 84 := ⟨_, Try.func84, rfl, rfl⟩
theorem fn85 : FnOk Try.prog 85 := ⟨_, Try.func85, rfl, rfl⟩
theorem fn89 : FnOk Try.prog 89 := ⟨_, Try.func89, rfl, rfl⟩
theorem fn90 : FnOk Try.prog 90 := ⟨_, Try.func90, rfl, rfl⟩
theorem fn91 : FnOk Try.prog 91 := ⟨_, Try.func91, rfl, rfl⟩
theorem fn92 : FnOk Try.prog 92 := ⟨_, Try.func92, rfl, rfl⟩
theorem fn93 : FnOk Try.prog 93 := ⟨_, Try.func93, rfl, rfl⟩
theorem fn94 : FnOk Try.prog 94 := ⟨_, Try.func94, rfl, rfl⟩
theorem fn96 : FnOk Try.prog 96 := ⟨_, Try.func96, rfl, rfl⟩
theorem fn114 : FnOk Try.prog 114 := ⟨_, Try.func114, rfl, rfl⟩
theorem fn115 : FnOk Try.prog 115 := ⟨_, Try.func115, rfl, rfl⟩
theorem fn121 : FnOk Try.prog 121 := ⟨_, Try.func121, rfl, rfl⟩
theorem fn122 : FnOk Try.prog 122 := ⟨_, Try.func122, rfl, rfl⟩
theorem fn124 : FnOk Try.prog 124 := ⟨_, Try.func124, rfl, rfl⟩
theorem fn128 : FnOk Try.prog 128 := ⟨_, Try.func128, rfl, rfl⟩
theorem fn129 : FnOk Try.prog 129 := ⟨_, Try.func129, rfl, rfl⟩
theorem fn132 : FnOk Try.prog 132 := ⟨_, Try.func132, rfl, rfl⟩
theorem fn133 : FnOk Try.prog 133 := ⟨_, Try.func133, rfl, rfl⟩
theorem fn136 : FnOk Try.prog 136 := ⟨_, Try.func136, rfl, rfl⟩
theorem fn137 : FnOk Try.prog 137 := ⟨_, Try.func137, rfl, rfl⟩
theorem fn138 : FnOk Try.prog 138 := ⟨_, Try.func138, rfl, rfl⟩
theorem fn139 : FnOk Try.prog 139 := ⟨_, Try.func139, rfl, rfl⟩
theorem fn140 : FnOk Try.prog 140 := ⟨_, Try.func140, rfl, rfl⟩
theorem fn141 : FnOk Try.prog 141 := ⟨_, Try.func141, rfl, rfl⟩
theorem fn142 : FnOk Try.prog 142 := ⟨_, Try.func142, rfl, rfl⟩
theorem fn143 : FnOk Try.prog 143 := ⟨_, Try.func143, rfl, rfl⟩
theorem fn144 : FnOk Try.prog 144 := ⟨_, Try.func144, rfl, rfl⟩
theorem fn145 : FnOk Try.prog 145 := ⟨_, Try.func145, rfl, rfl⟩
theorem fn146 : FnOk Try.prog 146 := ⟨_, Try.func146, rfl, rfl⟩
theorem fn147 : FnOk Try.prog 147 := ⟨_, Try.func147, rfl, rfl⟩
theorem fn148 : FnOk Try.prog 148 := ⟨_, Try.func148, rfl, rfl⟩
theorem fn149 : FnOk Try.prog 149 := ⟨_, Try.func149, rfl, rfl⟩
theorem fn150 : FnOk Try.prog 150 := ⟨_, Try.func150, rfl, rfl⟩
theorem fn168 : FnOk Try.prog 168 := ⟨_, Try.func168, rfl, rfl⟩
theorem fn169 : FnOk Try.prog 169 := ⟨_, Try.func169, rfl, rfl⟩
theorem fn170 : FnOk Try.prog 170 := ⟨_, Try.func170, rfl, rfl⟩
theorem fn171 : FnOk Try.prog 171 := ⟨_, Try.func171, rfl, rfl⟩
theorem fn172 : FnOk Try.prog 172 := ⟨_, Try.func172, rfl, rfl⟩
theorem fn178 : FnOk Try.prog 178 := ⟨_, Try.func178, rfl, rfl⟩
theorem fn179 : FnOk Try.prog 179 := ⟨_, Try.func179, rfl, rfl⟩
theorem fn180 : FnOk Try.prog 180 := ⟨_, Try.func180, rfl, rfl⟩
theorem fn182 : FnOk Try.prog 182 := ⟨_, Try.func182, rfl, rfl⟩
theorem fn183 : FnOk Try.prog 183 := ⟨_, Try.func183, rfl, rfl⟩
theorem fn185 : FnOk Try.prog 185 := ⟨_, Try.func185, rfl, rfl⟩
theorem fn186 : FnOk Try.prog 186 := ⟨_, Try.func186, rfl, rfl⟩
theorem fn187 : FnOk Try.prog 187 := ⟨_, Try.func187, rfl, rfl⟩
theorem fn188 : FnOk Try.prog 188 := ⟨_, Try.func188, rfl, rfl⟩
theorem fn202 : FnOk Try.prog 202 := ⟨_, Try.func202, rfl, rfl⟩
theorem fn203 : FnOk Try.prog 203 := ⟨_, Try.func203, rfl, rfl⟩
theorem fn205 : FnOk Try.prog 205 := ⟨_, Try.func205, rfl, rfl⟩
theorem fn206 : FnOk Try.prog 206 := ⟨_, Try.func206, rfl, rfl⟩
theorem fn207 : FnOk Try.prog 207 := ⟨_, Try.func207, rfl, rfl⟩
theorem fn208 : FnOk Try.prog 208 := ⟨_, Try.func208, rfl, rfl⟩
theorem fn209 : FnOk Try.prog 209 := ⟨_, Try.func209, rfl, rfl⟩
theorem fn210 : FnOk Try.prog 210 := ⟨_, Try.func210, rfl, rfl⟩
theorem fn212 : FnOk Try.prog 212 := ⟨_, Try.func212, rfl, rfl⟩
theorem fn214 : FnOk Try.prog 214 := ⟨_, Try.func214, rfl, rfl⟩
end Go.Proofs.Ytddgcegimmcbgaa.Sy

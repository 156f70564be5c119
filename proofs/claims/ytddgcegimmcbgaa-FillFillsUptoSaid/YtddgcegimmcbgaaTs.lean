/-
  The types of the seat's program: facts. Printed by gentypes2.py.
-/
import Derived.Test.YtddgcegimmcbgaaSyZa
import Derived.Test.YtddgcegimmcbgaaProg
import Derived.KernelRfl
set_option linter.unusedVariables false
set_option linter.unusedSimpArgs false
set_option linter.unusedSectionVars false
namespace Go.Proofs.Ytddgcegimmcbgaa.Sy
open Go Go.Sy Go.Proofs.Ytddgcegimmcbgaa

def ti2 : TI := { k := .int .i64, sz := 1, by_ := 8, zero := some [.i .i64 (.lit 0)], key := some (false, 1), zd := some (.i .i64 (.lit 0)) }
theorem tok2 : ti2.Ok Try.prog 2 := ⟨(by kernel_rfl), (by kernel_rfl), (by kernel_rfl), (fun z h c => by cases h; kernel_rfl), (fun z h => by cases h; kernel_rfl), (fun z h c => by cases h; kernel_rfl), (fun z h => by cases h)⟩
def ti3 : TI := { k := .int .i64, sz := 1, by_ := 8, zero := some [.i .i64 (.lit 0)], key := some (false, 1), zd := some (.i .i64 (.lit 0)) }
theorem tok3 : ti3.Ok Try.prog 3 := ⟨(by kernel_rfl), (by kernel_rfl), (by kernel_rfl), (fun z h c => by cases h; kernel_rfl), (fun z h => by cases h; kernel_rfl), (fun z h c => by cases h; kernel_rfl), (fun z h => by cases h)⟩
def ti4 : TI := { k := .bool, sz := 1, by_ := 1, zero := some [.b .f] }
theorem tok4 : ti4.Ok Try.prog 4 := ⟨(by kernel_rfl), (by kernel_rfl), (by kernel_rfl), (fun z h c => by cases h; kernel_rfl), (fun z h => by cases h), (fun z h => by cases h), (fun z h => by cases h)⟩
def ti31 : TI := { k := .slice 123, sz := 1, by_ := 24, zero := some [.v (.slice none 0 0)], zd := some (.v (.slice none 0 0)) }
theorem tok31 : ti31.Ok Try.prog 31 := ⟨(by kernel_rfl), (by kernel_rfl), (by kernel_rfl), (fun z h c => by cases h; kernel_rfl), (fun z h => by cases h), (fun z h c => by cases h; kernel_rfl), (fun z h => by cases h)⟩
def ti34 : TI := { k := .slice 2, sz := 1, by_ := 24, zero := some [.v (.slice none 0 0)] }
theorem tok34 : ti34.Ok Try.prog 34 := ⟨(by kernel_rfl), (by kernel_rfl), (by kernel_rfl), (fun z h c => by cases h; kernel_rfl), (fun z h => by cases h), (fun z h => by cases h), (fun z h => by cases h)⟩
def ti42 : TI := { k := .slice 132, sz := 1, by_ := 24, zero := some [.v (.slice none 0 0)] }
theorem tok42 : ti42.Ok Try.prog 42 := ⟨(by kernel_rfl), (by kernel_rfl), (by kernel_rfl), (fun z h c => by cases h; kernel_rfl), (fun z h => by cases h), (fun z h => by cases h), (fun z h => by cases h)⟩
def ti43 : TI := { k := .slice 3, sz := 1, by_ := 24, zero := some [.v (.slice none 0 0)] }
theorem tok43 : ti43.Ok Try.prog 43 := ⟨(by kernel_rfl), (by kernel_rfl), (by kernel_rfl), (fun z h c => by cases h; kernel_rfl), (fun z h => by cases h), (fun z h => by cases h), (fun z h => by cases h)⟩
def ti47 : TI := { k := .slice 88, sz := 1, by_ := 24, zero := some [.v (.slice none 0 0)] }
theorem tok47 : ti47.Ok Try.prog 47 := ⟨(by kernel_rfl), (by kernel_rfl), (by kernel_rfl), (fun z h c => by cases h; kernel_rfl), (fun z h => by cases h), (fun z h => by cases h), (fun z h => by cases h)⟩
def ti52 : TI := { k := .arr 4 2, sz := 4, by_ := 32, zero := some [.i .i64 (.lit 0), .i .i64 (.lit 0), .i .i64 (.lit 0), .i .i64 (.lit 0)], flat := some [.int, .int, .int, .int] }
theorem tok52 : ti52.Ok Try.prog 52 := ⟨(by kernel_rfl), (by kernel_rfl), (by kernel_rfl), (fun z h c => by cases h; kernel_rfl), (fun z h => by cases h), (fun z h => by cases h), (fun z h => by cases h; kernel_rfl)⟩
def ti53 : TI := { k := .int .i64, sz := 1, by_ := 8, zero := some [.i .i64 (.lit 0)] }
theorem tok53 : ti53.Ok Try.prog 53 := ⟨(by kernel_rfl), (by kernel_rfl), (by kernel_rfl), (fun z h c => by cases h; kernel_rfl), (fun z h => by cases h), (fun z h => by cases h), (fun z h => by cases h)⟩
def ti57 : TI := { k := .slice 31, sz := 1, by_ := 24, zero := some [.v (.slice none 0 0)] }
theorem tok57 : ti57.Ok Try.prog 57 := ⟨(by kernel_rfl), (by kernel_rfl), (by kernel_rfl), (fun z h c => by cases h; kernel_rfl), (fun z h => by cases h), (fun z h => by cases h), (fun z h => by cases h)⟩
def ti61 : TI := { k := .arr 4 2, sz := 4, by_ := 32, zero := some [.i .i64 (.lit 0), .i .i64 (.lit 0), .i .i64 (.lit 0), .i .i64 (.lit 0)], flat := some [.int, .int, .int, .int] }
theorem tok61 : ti61.Ok Try.prog 61 := ⟨(by kernel_rfl), (by kernel_rfl), (by kernel_rfl), (fun z h c => by cases h; kernel_rfl), (fun z h => by cases h), (fun z h => by cases h), (fun z h => by cases h; kernel_rfl)⟩
def ti64 : TI := { k := .struct [(0, 2), (1, 2)], sz := 2, by_ := 16, zero := some [.i .i64 (.lit 0), .i .i64 (.lit 0)], flat := some [.int, .int] }
theorem tok64 : ti64.Ok Try.prog 64 := ⟨(by kernel_rfl), (by kernel_rfl), (by kernel_rfl), (fun z h c => by cases h; kernel_rfl), (fun z h => by cases h), (fun z h => by cases h), (fun z h => by cases h; kernel_rfl)⟩
def ti75 : TI := { k := .struct [(0, 57), (1, 42), (2, 52)], sz := 6, by_ := 80, zero := some [.v (.slice none 0 0), .v (.slice none 0 0), .i .i64 (.lit 0), .i .i64 (.lit 0), .i .i64 (.lit 0), .i .i64 (.lit 0)] }
theorem tok75 : ti75.Ok Try.prog 75 := ⟨(by kernel_rfl), (by kernel_rfl), (by kernel_rfl), (fun z h c => by cases h; kernel_rfl), (fun z h => by cases h), (fun z h => by cases h), (fun z h => by cases h)⟩
def ti88 : TI := { k := .struct [(0, 2), (1, 31)], sz := 2, by_ := 32, zero := some [.i .i64 (.lit 0), .v (.slice none 0 0)] }
theorem tok88 : ti88.Ok Try.prog 88 := ⟨(by kernel_rfl), (by kernel_rfl), (by kernel_rfl), (fun z h c => by cases h; kernel_rfl), (fun z h => by cases h), (fun z h => by cases h), (fun z h => by cases h)⟩
def ti108 : TI := { k := .struct [(0, 64), (2, 2)], sz := 3, by_ := 24, zero := some [.i .i64 (.lit 0), .i .i64 (.lit 0), .i .i64 (.lit 0)], flat := some [.int, .int, .int] }
theorem tok108 : ti108.Ok Try.prog 108 := ⟨(by kernel_rfl), (by kernel_rfl), (by kernel_rfl), (fun z h c => by cases h; kernel_rfl), (fun z h => by cases h), (fun z h => by cases h), (fun z h => by cases h; kernel_rfl)⟩
def ti123 : TI := { k := .struct [(0, 3), (1, 3), (2, 2)], sz := 3, by_ := 24, zero := some [.i .i64 (.lit 0), .i .i64 (.lit 0), .i .i64 (.lit 0)], flat := some [.int, .int, .int] }
theorem tok123 : ti123.Ok Try.prog 123 := ⟨(by kernel_rfl), (by kernel_rfl), (by kernel_rfl), (fun z h c => by cases h; kernel_rfl), (fun z h => by cases h), (fun z h => by cases h), (fun z h => by cases h; kernel_rfl)⟩
def ti127 : TI := { k := .ptr 198, sz := 1, by_ := 8, zero := some [.v (.pointer none)] }
theorem tok127 : ti127.Ok Try.prog 127 := ⟨(by kernel_rfl), (by kernel_rfl), (by kernel_rfl), (fun z h c => by cases h; kernel_rfl), (fun z h => by cases h), (fun z h => by cases h), (fun z h => by cases h)⟩
def ti132 : TI := { k := .struct [(0, 2), (1, 31)], sz := 2, by_ := 32, zero := some [.i .i64 (.lit 0), .v (.slice none 0 0)] }
theorem tok132 : ti132.Ok Try.prog 132 := ⟨(by kernel_rfl), (by kernel_rfl), (by kernel_rfl), (fun z h c => by cases h; kernel_rfl), (fun z h => by cases h), (fun z h => by cases h), (fun z h => by cases h)⟩
def ti155 : TI := { k := .int .u64, sz := 1, by_ := 8, zero := some [.i .u64 (.lit 0)] }
theorem tok155 : ti155.Ok Try.prog 155 := ⟨(by kernel_rfl), (by kernel_rfl), (by kernel_rfl), (fun z h c => by cases h; kernel_rfl), (fun z h => by cases h), (fun z h => by cases h), (fun z h => by cases h)⟩
def ti196 : TI := { k := .slice 61, sz := 1, by_ := 24, zero := some [.v (.slice none 0 0)] }
theorem tok196 : ti196.Ok Try.prog 196 := ⟨(by kernel_rfl), (by kernel_rfl), (by kernel_rfl), (fun z h c => by cases h; kernel_rfl), (fun z h => by cases h), (fun z h => by cases h), (fun z h => by cases h)⟩
def ti198 : TI := { k := .struct [(0, 61), (4, 42), (5, 31), (6, 196)], sz := 7, by_ := 104, zero := some [.i .i64 (.lit 0), .i .i64 (.lit 0), .i .i64 (.lit 0), .i .i64 (.lit 0), .v (.slice none 0 0), .v (.slice none 0 0), .v (.slice none 0 0)] }
theorem tok198 : ti198.Ok Try.prog 198 := ⟨(by kernel_rfl), (by kernel_rfl), (by kernel_rfl), (fun z h c => by cases h; kernel_rfl), (fun z h => by cases h), (fun z h => by cases h), (fun z h => by cases h)⟩
def ti200 : TI := { k := .slice 108, sz := 1, by_ := 24, zero := some [.v (.slice none 0 0)] }
theorem tok200 : ti200.Ok Try.prog 200 := ⟨(by kernel_rfl), (by kernel_rfl), (by kernel_rfl), (fun z h c => by cases h; kernel_rfl), (fun z h => by cases h), (fun z h => by cases h), (fun z h => by cases h)⟩
def ti209 : TI := { k := .struct [(0, 3), (1, 3)], sz := 2, by_ := 16, zero := some [.i .i64 (.lit 0), .i .i64 (.lit 0)], flat := some [.int, .int] }
theorem tok209 : ti209.Ok Try.prog 209 := ⟨(by kernel_rfl), (by kernel_rfl), (by kernel_rfl), (fun z h c => by cases h; kernel_rfl), (fun z h => by cases h), (fun z h => by cases h), (fun z h => by cases h; kernel_rfl)⟩
def ti235 : TI := { k := .struct [(0, 155), (1, 155)], sz := 2, by_ := 16, zero := some [.i .u64 (.lit 0), .i .u64 (.lit 0)], flat := some [.int, .int] }
theorem tok235 : ti235.Ok Try.prog 235 := ⟨(by kernel_rfl), (by kernel_rfl), (by kernel_rfl), (fun z h c => by cases h; kernel_rfl), (fun z h => by cases h), (fun z h => by cases h), (fun z h => by cases h; kernel_rfl)⟩
theorem mixed : Try.prog.follows .mixedOrders = true := by kernel_rfl
theorem fn19 : FnOk Try.prog 19 := ⟨_, Try.func19, rfl, rfl⟩
theorem fn20 : FnOk Try.prog 20 := ⟨_, Try.func20, rfl, rfl⟩
theorem fn21 : FnOk Try.prog 21 := ⟨_, Try.func21, rfl, rfl⟩
theorem fn22 : FnOk Try.prog 22 := ⟨_, Try.func22, rfl, rfl⟩
theorem fn23 : FnOk Try.prog 23 := ⟨_, Try.func23, rfl, rfl⟩
theorem fn24 : FnOk Try.prog 24 := ⟨_, Try.func24, rfl, rfl⟩
theorem fn25 : FnOk Try.prog 25 := ⟨_, Try.func25, rfl, rfl⟩
theorem fn26 : FnOk Try.prog 26 := ⟨_, Try.func26, rfl, rfl⟩
theorem fn27 : FnOk Try.prog 27 := ⟨_, Try.func27, rfl, rfl⟩
theorem fn28 : FnOk Try.prog 28 := ⟨_, Try.func28, rfl, rfl⟩
theorem fn29 : FnOk Try.prog 29 := ⟨_, Try.func29, rfl, rfl⟩
theorem fn30 : FnOk Try.prog 30 := ⟨_, Try.func30, rfl, rfl⟩
theorem fn34 : FnOk Try.prog 34 := ⟨_, Try.func34, rfl, rfl⟩
theorem fn35 : FnOk Try.prog 35 := ⟨_, Try.func35, rfl, rfl⟩
theorem fn36 : FnOk Try.prog 36 := ⟨_, Try.func36, rfl, rfl⟩
theorem fn45 : FnOk Try.prog 45 := ⟨_, Try.func45, rfl, rfl⟩
theorem fn63 : FnOk Try.prog 63 := ⟨_, Try.func63, rfl, rfl⟩
theorem fn65 : FnOk Try.prog 65 := ⟨_, Try.func65, rfl, rfl⟩
theorem fn66 : FnOk Try.prog 66 := ⟨_, Try.func66, rfl, rfl⟩
theorem fn67 : FnOk Try.prog 67 := ⟨_, Try.func67, rfl, rfl⟩
theorem fn68 : FnOk Try.prog 68 := ⟨_, Try.func68, rfl, rfl⟩
theorem fn69 : FnOk Try.prog 69 := ⟨_, Try.func69, rfl, rfl⟩
theorem fn70 : FnOk Try.prog 70 := ⟨_, Try.func70, rfl, rfl⟩
theorem fn71 : FnOk Try.prog 71 := ⟨_, Try.func71, rfl, rfl⟩
theorem fn72 : FnOk Try.prog 72 := ⟨_, Try.func72, rfl, rfl⟩
theorem fn73 : FnOk Try.prog 73 := ⟨_, Try.func73, rfl, rfl⟩
theorem fn74 : FnOk Try.prog 74 := ⟨_, Try.func74, rfl, rfl⟩
theorem fn75 : FnOk Try.prog 75 := ⟨_, Try.func75, rfl, rfl⟩
theorem fn76 : FnOk Try.prog 76 := ⟨_, Try.func76, rfl, rfl⟩
theorem fn78 : FnOk Try.prog 78 := ⟨_, Try.func78, rfl, rfl⟩
theorem fn82 : FnOk Try.prog 82 := ⟨_, Try.func82, rfl, rfl⟩
theorem fn83 : FnOk Try.prog 83 := ⟨_, Try.func83, rfl, rfl⟩
theorem fn85 : FnOk Try.prog 85 := ⟨_, Try.func85, rfl, rfl⟩
theorem fn86 : FnOk Try.prog 86 := ⟨_, Try.func86, rfl, rfl⟩
theorem fn87 : FnOk Try.prog 87 := ⟨_, Try.func87, rfl, rfl⟩
theorem fn88 : FnOk Try.prog 88 := ⟨_, Try.func88, rfl, rfl⟩
theorem fn96 : FnOk Try.prog 96 := ⟨_, Try.func96, rfl, rfl⟩
theorem fn115 : FnOk Try.prog 115 := ⟨_, Try.func115, rfl, rfl⟩
theorem fn121 : FnOk Try.prog 121 := ⟨_, Try.func121, rfl, rfl⟩
theorem fn122 : FnOk Try.prog 122 := ⟨_, Try.func122, rfl, rfl⟩
theorem fn123 : FnOk Try.prog 123 := ⟨_, Try.func123, rfl, rfl⟩
theorem fn124 : FnOk Try.prog 124 := ⟨_, Try.func124, rfl, rfl⟩
theorem fn125 : FnOk Try.prog 125 := ⟨_, Try.func125, rfl, rfl⟩
theorem fn126 : FnOk Try.prog 126 := ⟨_, Try.func126, rfl, rfl⟩
theorem fn127 : FnOk Try.prog 127 := ⟨_, Try.func127, rfl, rfl⟩
theorem fn128 : FnOk Try.prog 128 := ⟨_, Try.func128, rfl, rfl⟩
theorem fn129 : FnOk Try.prog 129 := ⟨_, Try.func129, rfl, rfl⟩
theorem fn130 : FnOk Try.prog 130 := ⟨_, Try.func130, rfl, rfl⟩
theorem fn131 : FnOk Try.prog 131 := ⟨_, Try.func131, rfl, rfl⟩
theorem fn132 : FnOk Try.prog 132 := ⟨_, Try.func132, rfl, rfl⟩
theorem fn133 : FnOk Try.prog 133 := ⟨_, Try.func133, rfl, rfl⟩
theorem fn134 : FnOk Try.prog 134 := ⟨_, Try.func134, rfl, rfl⟩
theorem fn135 : FnOk Try.prog 135 := ⟨_, Try.func135, rfl, rfl⟩
theorem fn143 : FnOk Try.prog 143 := ⟨_, Try.func143, rfl, rfl⟩
theorem fn144 : FnOk Try.prog 144 := ⟨_, Try.func144, rfl, rfl⟩
theorem fn146 : FnOk Try.prog 146 := ⟨_, Try.func146, rfl, rfl⟩
theorem fn149 : FnOk Try.prog 149 := ⟨_, Try.func149, rfl, rfl⟩
theorem fn150 : FnOk Try.prog 150 := ⟨_, Try.func150, rfl, rfl⟩
theorem fn162 : FnOk Try.prog 162 := ⟨_, Try.func162, rfl, rfl⟩
theorem fn165 : FnOk Try.prog 165 := ⟨_, Try.func165, rfl, rfl⟩
theorem fn169 : FnOk Try.prog 169 := ⟨_, Try.func169, rfl, rfl⟩
theorem fn171 : FnOk Try.prog 171 := ⟨_, Try.func171, rfl, rfl⟩
theorem fn178 : FnOk Try.prog 178 := ⟨_, Try.func178, rfl, rfl⟩
theorem fn179 : FnOk Try.prog 179 := ⟨_, Try.func179, rfl, rfl⟩
theorem fn180 : FnOk Try.prog 180 := ⟨_, Try.func180, rfl, rfl⟩
theorem fn181 : FnOk Try.prog 181 := ⟨_, Try.func181, rfl, rfl⟩
theorem fn182 : FnOk Try.prog 182 := ⟨_, Try.func182, rfl, rfl⟩
theorem fn183 : FnOk Try.prog 183 := ⟨_, Try.func183, rfl, rfl⟩
theorem fn184 : FnOk Try.prog 184 := ⟨_, Try.func184, rfl, rfl⟩
theorem fn205 : FnOk Try.prog 205 := ⟨_, Try.func205, rfl, rfl⟩
theorem fn206 : FnOk Try.prog 206 := ⟨_, Try.func206, rfl, rfl⟩
theorem fn207 : FnOk Try.prog 207 := ⟨_, Try.func207, rfl, rfl⟩
theorem fn208 : FnOk Try.prog 208 := ⟨_, Try.func208, rfl, rfl⟩
theorem fn209 : FnOk Try.prog 209 := ⟨_, Try.func209, rfl, rfl⟩
theorem fn210 : FnOk Try.prog 210 := ⟨_, Try.func210, rfl, rfl⟩
theorem fn211 : FnOk Try.prog 211 := ⟨_, Try.func211, rfl, rfl⟩
theorem fn214 : FnOk Try.prog 214 := ⟨_, Try.func214, rfl, rfl⟩
end Go.Proofs.Ytddgcegimmcbgaa.Sy

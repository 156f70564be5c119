/-
  The types of the seat's program: facts. Printed by gentypes2.py.
-/
import Derived.Test.YtkjjihicaefmcaaDoorSyVa
import Derived.Test.YtkjjihicaefmcaaDoorProg
import Derived.KernelRfl
set_option linter.unusedVariables false
set_option linter.unusedSimpArgs false
set_option linter.unusedSectionVars false
namespace Go.Proofs.YtkjjihicaefmcaaDoor.Sy
open Go Go.Sy Go.Proofs.YtkjjihicaefmcaaDoor
-- 0: Exception('tuple')
def ti2 : TI := { k := .int .i64, sz := 1, by_ := 8, zero := some [.i .i64 (.lit 0)] }
theorem tok2 : ti2.Ok Tryd.prog 2 := ⟨(by kernel_rfl), (by kernel_rfl), (by kernel_rfl), (fun z h c => by cases h; kernel_rfl), (fun z h => by cases h), (fun z h => by cases h), (fun z h => by cases h)⟩
def ti3 : TI := { k := .int .i64, sz := 1, by_ := 8, zero := some [.i .i64 (.lit 0)] }
theorem tok3 : ti3.Ok Tryd.prog 3 := ⟨(by kernel_rfl), (by kernel_rfl), (by kernel_rfl), (fun z h c => by cases h; kernel_rfl), (fun z h => by cases h), (fun z h => by cases h), (fun z h => by cases h)⟩
def ti4 : TI := { k := .bool, sz := 1, by_ := 1, zero := some [.b .f] }
theorem tok4 : ti4.Ok Tryd.prog 4 := ⟨(by kernel_rfl), (by kernel_rfl), (by kernel_rfl), (fun z h c => by cases h; kernel_rfl), (fun z h => by cases h), (fun z h => by cases h), (fun z h => by cases h)⟩
def ti5 : TI := { k := .int .u8, sz := 1, by_ := 1, zero := some [.i .u8 (.lit 0)] }
def ti9 : TI := { k := .str, sz := 1, by_ := 16, zero := some [.v (.string ⟨#[]⟩)] }
theorem tok9 : ti9.Ok Tryd.prog 9 := ⟨(by kernel_rfl), (by kernel_rfl), (by kernel_rfl), (fun z h c => by cases h; kernel_rfl), (fun z h => by cases h), (fun z h => by cases h), (fun z h => by cases h)⟩
def ti22 : TI := { k := .slice 2, sz := 1, by_ := 24, zero := some [.v (.slice none 0 0)] }
theorem tok22 : ti22.Ok Tryd.prog 22 := ⟨(by kernel_rfl), (by kernel_rfl), (by kernel_rfl), (fun z h c => by cases h; kernel_rfl), (fun z h => by cases h), (fun z h => by cases h), (fun z h => by cases h)⟩
def ti23 : TI := { k := .slice 79, sz := 1, by_ := 24, zero := some [.v (.slice none 0 0)] }
theorem tok23 : ti23.Ok Tryd.prog 23 := ⟨(by kernel_rfl), (by kernel_rfl), (by kernel_rfl), (fun z h c => by cases h; kernel_rfl), (fun z h => by cases h), (fun z h => by cases h), (fun z h => by cases h)⟩
def ti24 : TI := { k := .slice 46, sz := 1, by_ := 24, zero := some [.v (.slice none 0 0)] }
theorem tok24 : ti24.Ok Tryd.prog 24 := ⟨(by kernel_rfl), (by kernel_rfl), (by kernel_rfl), (fun z h c => by cases h; kernel_rfl), (fun z h => by cases h), (fun z h => by cases h), (fun z h => by cases h)⟩
def ti26 : TI := { k := .struct [(0, 3), (1, 2), (2, 2), (3, 2), (4, 3), (5, 2), (6, 2), (7, 22), (8, 23), (9, 24)], sz := 10, by_ := 128, zero := some [.i .i64 (.lit 0), .i .i64 (.lit 0), .i .i64 (.lit 0), .i .i64 (.lit 0), .i .i64 (.lit 0), .i .i64 (.lit 0), .i .i64 (.lit 0), .v (.slice none 0 0), .v (.slice none 0 0), .v (.slice none 0 0)] }
theorem tok26 : ti26.Ok Tryd.prog 26 := ⟨(by kernel_rfl), (by kernel_rfl), (by kernel_rfl), (fun z h c => by cases h; kernel_rfl), (fun z h => by cases h), (fun z h => by cases h), (fun z h => by cases h)⟩
def ti28 : TI := { k := .slice 32, sz := 1, by_ := 24, zero := some [.v (.slice none 0 0)] }
theorem tok28 : ti28.Ok Tryd.prog 28 := ⟨(by kernel_rfl), (by kernel_rfl), (by kernel_rfl), (fun z h c => by cases h; kernel_rfl), (fun z h => by cases h), (fun z h => by cases h), (fun z h => by cases h)⟩
def ti30 : TI := { k := .slice 3, sz := 1, by_ := 24, zero := some [.v (.slice none 0 0)] }
theorem tok30 : ti30.Ok Tryd.prog 30 := ⟨(by kernel_rfl), (by kernel_rfl), (by kernel_rfl), (fun z h c => by cases h; kernel_rfl), (fun z h => by cases h), (fun z h => by cases h), (fun z h => by cases h)⟩
def ti32 : TI := { k := .int .i64, sz := 1, by_ := 8, zero := some [.i .i64 (.lit 0)] }
theorem tok32 : ti32.Ok Tryd.prog 32 := ⟨(by kernel_rfl), (by kernel_rfl), (by kernel_rfl), (fun z h c => by cases h; kernel_rfl), (fun z h => by cases h), (fun z h => by cases h), (fun z h => by cases h)⟩
def ti35 : TI := { k := .int .i64, sz := 1, by_ := 8, zero := some [.i .i64 (.lit 0)] }
theorem tok35 : ti35.Ok Tryd.prog 35 := ⟨(by kernel_rfl), (by kernel_rfl), (by kernel_rfl), (fun z h c => by cases h; kernel_rfl), (fun z h => by cases h), (fun z h => by cases h), (fun z h => by cases h)⟩
def ti38 : TI := { k := .slice 9, sz := 1, by_ := 24, zero := some [.v (.slice none 0 0)] }
theorem tok38 : ti38.Ok Tryd.prog 38 := ⟨(by kernel_rfl), (by kernel_rfl), (by kernel_rfl), (fun z h c => by cases h; kernel_rfl), (fun z h => by cases h), (fun z h => by cases h), (fun z h => by cases h)⟩
-- 41: Exception('tuple')
def ti46 : TI := { k := .struct [(0, 3), (1, 2), (2, 23)], sz := 3, by_ := 40, zero := some [.i .i64 (.lit 0), .i .i64 (.lit 0), .v (.slice none 0 0)] }
theorem tok46 : ti46.Ok Tryd.prog 46 := ⟨(by kernel_rfl), (by kernel_rfl), (by kernel_rfl), (fun z h c => by cases h; kernel_rfl), (fun z h => by cases h), (fun z h => by cases h), (fun z h => by cases h)⟩
def ti47 : TI := { k := .slice 35, sz := 1, by_ := 24, zero := some [.v (.slice none 0 0)] }
theorem tok47 : ti47.Ok Tryd.prog 47 := ⟨(by kernel_rfl), (by kernel_rfl), (by kernel_rfl), (fun z h c => by cases h; kernel_rfl), (fun z h => by cases h), (fun z h => by cases h), (fun z h => by cases h)⟩
def ti64 : TI := { k := .arr 16 9, sz := 16, by_ := 256, zero := some [.v (.string ⟨#[]⟩), .v (.string ⟨#[]⟩), .v (.string ⟨#[]⟩), .v (.string ⟨#[]⟩), .v (.string ⟨#[]⟩), .v (.string ⟨#[]⟩), .v (.string ⟨#[]⟩), .v (.string ⟨#[]⟩), .v (.string ⟨#[]⟩), .v (.string ⟨#[]⟩), .v (.string ⟨#[]⟩), .v (.string ⟨#[]⟩), .v (.string ⟨#[]⟩), .v (.string ⟨#[]⟩), .v (.string ⟨#[]⟩), .v (.string ⟨#[]⟩)], flat := some [.str, .str, .str, .str, .str, .str, .str, .str, .str, .str, .str, .str, .str, .str, .str, .str] }
theorem tok64 : ti64.Ok Tryd.prog 64 := ⟨(by kernel_rfl), (by kernel_rfl), (by kernel_rfl), (fun z h c => by cases h; kernel_rfl), (fun z h => by cases h), (fun z h => by cases h), (fun z h => by cases h; kernel_rfl)⟩
def ti76 : TI := { k := .arr 4 9, sz := 4, by_ := 64, zero := some [.v (.string ⟨#[]⟩), .v (.string ⟨#[]⟩), .v (.string ⟨#[]⟩), .v (.string ⟨#[]⟩)], flat := some [.str, .str, .str, .str] }
theorem tok76 : ti76.Ok Tryd.prog 76 := ⟨(by kernel_rfl), (by kernel_rfl), (by kernel_rfl), (fun z h c => by cases h; kernel_rfl), (fun z h => by cases h), (fun z h => by cases h), (fun z h => by cases h; kernel_rfl)⟩
def ti79 : TI := { k := .struct [(0, 3), (1, 3), (2, 2)], sz := 3, by_ := 24, zero := some [.i .i64 (.lit 0), .i .i64 (.lit 0), .i .i64 (.lit 0)], flat := some [.int, .int, .int] }
theorem tok79 : ti79.Ok Tryd.prog 79 := ⟨(by kernel_rfl), (by kernel_rfl), (by kernel_rfl), (fun z h c => by cases h; kernel_rfl), (fun z h => by cases h), (fun z h => by cases h), (fun z h => by cases h; kernel_rfl)⟩
def ti86 : TI := { k := .struct [(0, 3), (1, 3)], sz := 2, by_ := 16, zero := some [.i .i64 (.lit 0), .i .i64 (.lit 0)], flat := some [.int, .int] }
theorem tok86 : ti86.Ok Tryd.prog 86 := ⟨(by kernel_rfl), (by kernel_rfl), (by kernel_rfl), (fun z h c => by cases h; kernel_rfl), (fun z h => by cases h), (fun z h => by cases h), (fun z h => by cases h; kernel_rfl)⟩
def ti92 : TI := { k := .int .u64, sz := 1, by_ := 8, zero := some [.i .u64 (.lit 0)] }
def ti95 : TI := { k := .int .i64, sz := 1, by_ := 8, zero := some [.i .i64 (.lit 0)] }
-- 96: Exception('tuple')
def ti103 : TI := { k := .int .u32, sz := 1, by_ := 4, zero := some [.i .u32 (.lit 0)] }
def ti105 : TI := { k := .int .u64, sz := 1, by_ := 8, zero := some [.i .u64 (.lit 0)] }
def ti106 : TI := { k := .int .u64, sz := 1, by_ := 8, zero := some [.i .u64 (.lit 0)] }
-- 113: Exception('tuple')
theorem mixed : Tryd.prog.follows .mixedOrders = true := by kernel_rfl
theorem fn6 : FnOk Tryd.prog 6 := ⟨_, Tryd.func6, rfl, rfl⟩
theorem fn7 : FnOk Tryd.prog 7 := ⟨_, Tryd.func7, rfl, rfl⟩
theorem fn9 : FnOk Tryd.prog 9 := ⟨_, Tryd.func9, rfl, rfl⟩
theorem fn10 : FnOk Tryd.prog 10 := ⟨_, Tryd.func10, rfl, rfl⟩
theorem fn11 : FnOk Tryd.prog 11 := ⟨_, Tryd.func11, rfl, rfl⟩
theorem fn12 : FnOk Tryd.prog 12 := ⟨_, Tryd.func12, rfl, rfl⟩
theorem fn15 : FnOk Tryd.prog 15 := ⟨_, Tryd.func15, rfl, rfl⟩
theorem fn19 : FnOk Tryd.prog 19 := ⟨_, Tryd.func19, rfl, rfl⟩
theorem fn20 : FnOk Tryd.prog 20 := ⟨_, Tryd.func20, rfl, rfl⟩
theorem fn21 : FnOk Tryd.prog 21 := ⟨_, Tryd.func21, rfl, rfl⟩
theorem fn22 : FnOk Tryd.prog 22 := ⟨_, Tryd.func22, rfl, rfl⟩
theorem fn23 : FnOk Tryd.prog 23 := ⟨_, Tryd.func23, rfl, rfl⟩
theorem fn24 : FnOk Tryd.prog 24 := ⟨_, Tryd.func24, rfl, rfl⟩
theorem fn27 : FnOk Tryd.prog 27 := ⟨_, Tryd.func27, rfl, rfl⟩
theorem fn28 : FnOk Tryd.prog 28 := ⟨_, Tryd.func28, rfl, rfl⟩
theorem fn29 : FnOk Tryd.prog 29 := ⟨_, Tryd.func29, rfl, rfl⟩
theorem fn30 : FnOk Tryd.prog 30 := ⟨_, Tryd.func30, rfl, rfl⟩
theorem fn31 : FnOk Tryd.prog 31 := ⟨_, Tryd.func31, rfl, rfl⟩
theorem fn32 : FnOk Tryd.prog 32 := ⟨_, Tryd.func32, rfl, rfl⟩
theorem fn33 : FnOk Tryd.prog 33 := ⟨_, Tryd.func33, rfl, rfl⟩
theorem fn34 : FnOk Tryd.prog 34 := ⟨_, Tryd.func34, rfl, rfl⟩
theorem fn35 : FnOk Tryd.prog 35 := ⟨_, Tryd.func35, rfl, rfl⟩
theorem fn37 : FnOk Tryd.prog 37 := ⟨_, Tryd.func37, rfl, rfl⟩
theorem fn40 : FnOk Tryd.prog 40 := ⟨_, Tryd.func40, rfl, rfl⟩
theorem fn41 : FnOk Tryd.prog 41 := ⟨_, Tryd.func41, rfl, rfl⟩
theorem fn42 : FnOk Tryd.prog 42 := ⟨_, Tryd.func42, rfl, rfl⟩
theorem fn43 : FnOk Tryd.prog 43 := ⟨_, Tryd.func43, rfl, rfl⟩
theorem fn44 : FnOk Tryd.prog 44 := ⟨_, Tryd.func44, rfl, rfl⟩
theorem fn45 : FnOk Tryd.prog 45 := ⟨_, Tryd.func45, rfl, rfl⟩
theorem fn46 : FnOk Tryd.prog 46 := ⟨_, Tryd.func46, rfl, rfl⟩
theorem fn47 : FnOk Tryd.prog 47 := ⟨_, Tryd.func47, rfl, rfl⟩
theorem fn48 : FnOk Tryd.prog 48 := ⟨_, Tryd.func48, rfl, rfl⟩
theorem fn50 : FnOk Tryd.prog 50 := ⟨_, Tryd.func50, rfl, rfl⟩
theorem fn52 : FnOk Tryd.prog 52 := ⟨_, Tryd.func52, rfl, rfl⟩
theorem fn53 : FnOk Tryd.prog 53 := ⟨_, Tryd.func53, rfl, rfl⟩
theorem fn54 : FnOk Tryd.prog 54 := ⟨_, Tryd.func54, rfl, rfl⟩
theorem fn55 : FnOk Tryd.prog 55 := ⟨_, Tryd.func55, rfl, rfl⟩
theorem fn56 : FnOk Tryd.prog 56 := ⟨_, Tryd.func56, rfl, rfl⟩
theorem fn57 : FnOk Tryd.prog 57 := ⟨_, Tryd.func57, rfl, rfl⟩
theorem fn64 : FnOk Tryd.prog 64 := ⟨_, Tryd.func64, rfl, rfl⟩
theorem fn65 : FnOk Tryd.prog 65 := ⟨_, Tryd.func65, rfl, rfl⟩
theorem fn66 : FnOk Tryd.prog 66 := ⟨_, Tryd.func66, rfl, rfl⟩
theorem fn67 : FnOk Tryd.prog 67 := ⟨_, Tryd.func67, rfl, rfl⟩
theorem fn68 : FnOk Tryd.prog 68 := ⟨_, Tryd.func68, rfl, rfl⟩
theorem fn75 : FnOk Tryd.prog 75 := ⟨_, Tryd.func75, rfl, rfl⟩
@[reducible] def tl2 : List (TypeId × TI) := []
@[reducible] def tl3 : List (TypeId × TI) := [(2, ti2), (3, ti3), (4, ti4), (22, ti22), (23, ti23), (24, ti24), (26, ti26), (28, ti28), (30, ti30), (32, ti32)]
@[reducible] def dt3 : DT := [(3, [(1, 2)]), (9, [])]
@[reducible] def tl4 : List (TypeId × TI) := [(2, ti2), (3, ti3), (4, ti4), (22, ti22), (23, ti23), (24, ti24), (26, ti26), (28, ti28), (32, ti32), (46, ti46), (79, ti79)]
theorem tk4 : TOk Tryd.prog tl4 := (.cons tok2 (.cons tok3 (.cons tok4 (.cons tok22 (.cons tok23 (.cons tok24 (.cons tok26 (.cons tok28 (.cons tok32 (.cons tok46 (.cons tok79 .nil)))))))))))
@[reducible] def dt4 : DT := [(18, [(1, 2), (1, 4), (3, 4)]), (24, []), (26, [(1, 2)])]
@[reducible] def tl5 : List (TypeId × TI) := [(2, ti2), (3, ti3), (4, ti4), (9, ti9), (22, ti22), (23, ti23), (24, ti24), (26, ti26), (38, ti38)]
@[reducible] def dt5 : DT := [(16, [(3, 4), (3, 5)]), (19, [(1, 2), (8, 9), (8, 10)])]
@[reducible] def tl6 : List (TypeId × TI) := [(2, ti2), (3, ti3), (22, ti22), (23, ti23), (24, ti24), (26, ti26), (46, ti46), (79, ti79)]
theorem tk6 : TOk Tryd.prog tl6 := (.cons tok2 (.cons tok3 (.cons tok22 (.cons tok23 (.cons tok24 (.cons tok26 (.cons tok46 (.cons tok79 .nil))))))))
@[reducible] def tl7 : List (TypeId × TI) := [(2, ti2), (3, ti3), (22, ti22), (23, ti23), (24, ti24), (26, ti26), (28, ti28), (32, ti32), (35, ti35), (46, ti46), (47, ti47)]
theorem tk7 : TOk Tryd.prog tl7 := (.cons tok2 (.cons tok3 (.cons tok22 (.cons tok23 (.cons tok24 (.cons tok26 (.cons tok28 (.cons tok32 (.cons tok35 (.cons tok46 (.cons tok47 .nil)))))))))))
@[reducible] def tl8 : List (TypeId × TI) := [(2, ti2), (3, ti3), (4, ti4), (22, ti22), (23, ti23), (24, ti24), (26, ti26), (30, ti30)]
@[reducible] def tl9 : List (TypeId × TI) := [(2, ti2), (3, ti3), (9, ti9), (22, ti22), (23, ti23), (24, ti24), (26, ti26), (28, ti28), (32, ti32)]
theorem tk9 : TOk Tryd.prog tl9 := (.cons tok2 (.cons tok3 (.cons tok9 (.cons tok22 (.cons tok23 (.cons tok24 (.cons tok26 (.cons tok28 (.cons tok32 .nil)))))))))
@[reducible] def tl10 : List (TypeId × TI) := []
theorem tk10 : TOk Tryd.prog tl10 := .nil
@[reducible] def tl11 : List (TypeId × TI) := [(2, ti2), (3, ti3), (22, ti22), (23, ti23), (24, ti24), (26, ti26), (35, ti35), (46, ti46), (47, ti47), (79, ti79)]
theorem tk11 : TOk Tryd.prog tl11 := (.cons tok2 (.cons tok3 (.cons tok22 (.cons tok23 (.cons tok24 (.cons tok26 (.cons tok35 (.cons tok46 (.cons tok47 (.cons tok79 .nil))))))))))
@[reducible] def tl12 : List (TypeId × TI) := [(2, ti2), (3, ti3), (22, ti22), (23, ti23), (24, ti24), (26, ti26), (46, ti46), (79, ti79)]
theorem tk12 : TOk Tryd.prog tl12 := (.cons tok2 (.cons tok3 (.cons tok22 (.cons tok23 (.cons tok24 (.cons tok26 (.cons tok46 (.cons tok79 .nil))))))))
@[reducible] def tl13 : List (TypeId × TI) := [(9, ti9), (38, ti38)]
@[reducible] def tl14 : List (TypeId × TI) := [(3, ti3), (30, ti30)]
@[reducible] def tl15 : List (TypeId × TI) := [(3, ti3), (9, ti9), (64, ti64)]
theorem tk15 : TOk Tryd.prog tl15 := (.cons tok3 (.cons tok9 (.cons tok64 .nil)))
@[reducible] def tl16 : List (TypeId × TI) := [(2, ti2), (3, ti3), (4, ti4), (22, ti22), (23, ti23), (24, ti24), (26, ti26), (46, ti46), (79, ti79)]
@[reducible] def dt16 : DT := [(6, []), (11, [])]
@[reducible] def tl17 : List (TypeId × TI) := [(2, ti2), (3, ti3), (22, ti22), (23, ti23), (24, ti24), (26, ti26), (46, ti46), (79, ti79)]
@[reducible] def dt17 : DT := [(9, [(2, 5), (3, 5)])]
@[reducible] def tl18 : List (TypeId × TI) := [(3, ti3), (9, ti9), (64, ti64)]
@[reducible] def tl19 : List (TypeId × TI) := [(3, ti3), (35, ti35), (47, ti47)]
theorem tk19 : TOk Tryd.prog tl19 := (.cons tok3 (.cons tok35 (.cons tok47 .nil)))
@[reducible] def tl20 : List (TypeId × TI) := [(2, ti2), (3, ti3), (4, ti4), (22, ti22), (23, ti23), (24, ti24), (26, ti26)]
theorem tk20 : TOk Tryd.prog tl20 := (.cons tok2 (.cons tok3 (.cons tok4 (.cons tok22 (.cons tok23 (.cons tok24 (.cons tok26 .nil)))))))
@[reducible] def tl21 : List (TypeId × TI) := [(2, ti2), (3, ti3), (4, ti4), (22, ti22), (23, ti23), (24, ti24), (26, ti26), (35, ti35), (46, ti46), (79, ti79)]
theorem tk21 : TOk Tryd.prog tl21 := (.cons tok2 (.cons tok3 (.cons tok4 (.cons tok22 (.cons tok23 (.cons tok24 (.cons tok26 (.cons tok35 (.cons tok46 (.cons tok79 .nil))))))))))
@[reducible] def tl22 : List (TypeId × TI) := [(3, ti3)]
theorem tk22 : TOk Tryd.prog tl22 := (.cons tok3 .nil)
@[reducible] def tl23 : List (TypeId × TI) := [(2, ti2), (3, ti3), (22, ti22)]
theorem tk23 : TOk Tryd.prog tl23 := (.cons tok2 (.cons tok3 (.cons tok22 .nil)))
@[reducible] def tl24 : List (TypeId × TI) := [(2, ti2), (3, ti3), (22, ti22), (23, ti23), (24, ti24), (46, ti46)]
theorem tk24 : TOk Tryd.prog tl24 := (.cons tok2 (.cons tok3 (.cons tok22 (.cons tok23 (.cons tok24 (.cons tok46 .nil))))))
@[reducible] def tl25 : List (TypeId × TI) := [(2, ti2), (3, ti3), (4, ti4), (22, ti22), (23, ti23), (24, ti24), (26, ti26)]
@[reducible] def tl26 : List (TypeId × TI) := [(2, ti2), (3, ti3), (22, ti22), (23, ti23), (24, ti24), (26, ti26), (46, ti46)]
@[reducible] def dt26 : DT := [(7, []), (15, [])]
@[reducible] def tl27 : List (TypeId × TI) := [(3, ti3), (9, ti9), (76, ti76)]
theorem tk27 : TOk Tryd.prog tl27 := (.cons tok3 (.cons tok9 (.cons tok76 .nil)))
@[reducible] def tl28 : List (TypeId × TI) := [(3, ti3)]
theorem tk28 : TOk Tryd.prog tl28 := (.cons tok3 .nil)
@[reducible] def tl29 : List (TypeId × TI) := [(2, ti2), (22, ti22)]
theorem tk29 : TOk Tryd.prog tl29 := (.cons tok2 (.cons tok22 .nil))
@[reducible] def tl30 : List (TypeId × TI) := [(23, ti23), (79, ti79)]
theorem tk30 : TOk Tryd.prog tl30 := (.cons tok23 (.cons tok79 .nil))
@[reducible] def tl31 : List (TypeId × TI) := [(2, ti2), (3, ti3), (23, ti23), (24, ti24), (46, ti46), (79, ti79)]
theorem tk31 : TOk Tryd.prog tl31 := (.cons tok2 (.cons tok3 (.cons tok23 (.cons tok24 (.cons tok46 (.cons tok79 .nil))))))
@[reducible] def dt31 : DT := [(5, [(0, 4), (1, 4), (0, 6), (1, 6), (2, 6), (3, 6), (4, 6)])]
@[reducible] def tl32 : List (TypeId × TI) := [(2, ti2), (3, ti3), (23, ti23), (46, ti46), (79, ti79)]
theorem tk32 : TOk Tryd.prog tl32 := (.cons tok2 (.cons tok3 (.cons tok23 (.cons tok46 (.cons tok79 .nil)))))
@[reducible] def tl33 : List (TypeId × TI) := []
theorem tk33 : TOk Tryd.prog tl33 := .nil
@[reducible] def tl34 : List (TypeId × TI) := [(2, ti2), (3, ti3), (22, ti22)]
theorem tk34 : TOk Tryd.prog tl34 := (.cons tok2 (.cons tok3 (.cons tok22 .nil)))
@[reducible] def dt34 : DT := [(6, [])]
@[reducible] def tl35 : List (TypeId × TI) := [(2, ti2), (3, ti3), (4, ti4), (23, ti23), (24, ti24), (46, ti46)]
theorem tk35 : TOk Tryd.prog tl35 := (.cons tok2 (.cons tok3 (.cons tok4 (.cons tok23 (.cons tok24 (.cons tok46 .nil))))))
@[reducible] def tl36 : List (TypeId × TI) := [(3, ti3), (30, ti30)]
@[reducible] def tl37 : List (TypeId × TI) := [(3, ti3), (9, ti9), (38, ti38)]
theorem tk37 : TOk Tryd.prog tl37 := (.cons tok3 (.cons tok9 (.cons tok38 .nil)))
@[reducible] def tl38 : List (TypeId × TI) := [(2, ti2), (3, ti3), (23, ti23), (79, ti79)]
@[reducible] def dt38 : DT := [(6, [])]
@[reducible] def tl39 : List (TypeId × TI) := [(2, ti2), (3, ti3), (23, ti23), (24, ti24), (46, ti46), (79, ti79)]
@[reducible] def dt39 : DT := [(5, [(2, 11), (3, 11), (4, 11), (7, 11), (8, 11), (9, 11)])]
@[reducible] def tl40 : List (TypeId × TI) := [(2, ti2)]
theorem tk40 : TOk Tryd.prog tl40 := (.cons tok2 .nil)
@[reducible] def tl41 : List (TypeId × TI) := [(3, ti3)]
theorem tk41 : TOk Tryd.prog tl41 := (.cons tok3 .nil)
@[reducible] def tl42 : List (TypeId × TI) := [(4, ti4)]
theorem tk42 : TOk Tryd.prog tl42 := (.cons tok4 .nil)
@[reducible] def tl43 : List (TypeId × TI) := [(3, ti3), (23, ti23), (79, ti79)]
theorem tk43 : TOk Tryd.prog tl43 := (.cons tok3 (.cons tok23 (.cons tok79 .nil)))
@[reducible] def tl44 : List (TypeId × TI) := [(3, ti3)]
theorem tk44 : TOk Tryd.prog tl44 := (.cons tok3 .nil)
@[reducible] def tl45 : List (TypeId × TI) := [(2, ti2), (3, ti3), (4, ti4), (23, ti23), (46, ti46)]
theorem tk45 : TOk Tryd.prog tl45 := (.cons tok2 (.cons tok3 (.cons tok4 (.cons tok23 (.cons tok46 .nil)))))
@[reducible] def tl46 : List (TypeId × TI) := [(2, ti2), (3, ti3), (4, ti4), (23, ti23), (30, ti30), (46, ti46), (79, ti79)]
theorem tk46 : TOk Tryd.prog tl46 := (.cons tok2 (.cons tok3 (.cons tok4 (.cons tok23 (.cons tok30 (.cons tok46 (.cons tok79 .nil)))))))
@[reducible] def dt46 : DT := [(1, [(0, 2), (1, 2), (2, 5), (3, 5), (2, 6), (3, 6), (2, 7), (3, 7)])]
@[reducible] def tl47 : List (TypeId × TI) := [(3, ti3), (35, ti35), (47, ti47)]
theorem tk47 : TOk Tryd.prog tl47 := (.cons tok3 (.cons tok35 (.cons tok47 .nil)))
@[reducible] def tl48 : List (TypeId × TI) := []
@[reducible] def tl49 : List (TypeId × TI) := [(2, ti2), (22, ti22)]
theorem tk49 : TOk Tryd.prog tl49 := (.cons tok2 (.cons tok22 .nil))
@[reducible] def tl50 : List (TypeId × TI) := [(2, ti2), (3, ti3), (22, ti22)]
@[reducible] def dt50 : DT := [(6, []), (11, [])]
@[reducible] def tl51 : List (TypeId × TI) := [(2, ti2), (3, ti3), (4, ti4), (22, ti22), (23, ti23), (24, ti24), (26, ti26), (46, ti46), (79, ti79)]
@[reducible] def tl52 : List (TypeId × TI) := [(3, ti3), (35, ti35), (47, ti47)]
theorem tk52 : TOk Tryd.prog tl52 := (.cons tok3 (.cons tok35 (.cons tok47 .nil)))
@[reducible] def tl53 : List (TypeId × TI) := [(2, ti2), (3, ti3), (23, ti23), (79, ti79)]
theorem tk53 : TOk Tryd.prog tl53 := (.cons tok2 (.cons tok3 (.cons tok23 (.cons tok79 .nil))))
@[reducible] def dt53 : DT := [(6, [])]
@[reducible] def tl54 : List (TypeId × TI) := [(2, ti2), (3, ti3), (22, ti22)]
theorem tk54 : TOk Tryd.prog tl54 := (.cons tok2 (.cons tok3 (.cons tok22 .nil)))
@[reducible] def tl55 : List (TypeId × TI) := [(2, ti2), (3, ti3), (4, ti4), (23, ti23), (79, ti79)]
theorem tk55 : TOk Tryd.prog tl55 := (.cons tok2 (.cons tok3 (.cons tok4 (.cons tok23 (.cons tok79 .nil)))))
@[reducible] def dt55 : DT := [(4, [(24, 25)])]
@[reducible] def tl56 : List (TypeId × TI) := [(2, ti2), (3, ti3), (23, ti23), (24, ti24), (46, ti46)]
theorem tk56 : TOk Tryd.prog tl56 := (.cons tok2 (.cons tok3 (.cons tok23 (.cons tok24 (.cons tok46 .nil)))))
@[reducible] def tl57 : List (TypeId × TI) := [(2, ti2), (3, ti3), (23, ti23), (79, ti79)]
theorem tk57 : TOk Tryd.prog tl57 := (.cons tok2 (.cons tok3 (.cons tok23 (.cons tok79 .nil))))
@[reducible] def tl58 : List (TypeId × TI) := []
@[reducible] def tl59 : List (TypeId × TI) := [(2, ti2), (3, ti3), (22, ti22), (92, ti92)]
@[reducible] def tl60 : List (TypeId × TI) := [(2, ti2), (3, ti3), (4, ti4), (22, ti22)]
@[reducible] def tl61 : List (TypeId × TI) := [(2, ti2)]
@[reducible] def tl62 : List (TypeId × TI) := [(2, ti2), (3, ti3), (4, ti4), (23, ti23), (79, ti79)]
@[reducible] def dt62 : DT := [(4, [(32, 35), (32, 36)])]
@[reducible] def tl63 : List (TypeId × TI) := [(2, ti2), (3, ti3), (4, ti4), (23, ti23), (46, ti46), (79, ti79)]
@[reducible] def tl64 : List (TypeId × TI) := [(3, ti3), (86, ti86)]
theorem tk64 : TOk Tryd.prog tl64 := (.cons tok3 (.cons tok86 .nil))
@[reducible] def tl65 : List (TypeId × TI) := [(2, ti2), (3, ti3), (79, ti79), (86, ti86)]
theorem tk65 : TOk Tryd.prog tl65 := (.cons tok2 (.cons tok3 (.cons tok79 (.cons tok86 .nil))))
@[reducible] def tl66 : List (TypeId × TI) := [(2, ti2)]
theorem tk66 : TOk Tryd.prog tl66 := (.cons tok2 .nil)
@[reducible] def tl67 : List (TypeId × TI) := [(3, ti3), (86, ti86)]
theorem tk67 : TOk Tryd.prog tl67 := (.cons tok3 (.cons tok86 .nil))
@[reducible] def tl68 : List (TypeId × TI) := [(3, ti3)]
theorem tk68 : TOk Tryd.prog tl68 := (.cons tok3 .nil)
@[reducible] def tl69 : List (TypeId × TI) := [(2, ti2), (22, ti22)]
@[reducible] def tl70 : List (TypeId × TI) := [(2, ti2), (3, ti3), (4, ti4), (22, ti22), (95, ti95)]
@[reducible] def dt70 : DT := [(17, [])]
@[reducible] def tl71 : List (TypeId × TI) := [(92, ti92), (103, ti103)]
@[reducible] def tl72 : List (TypeId × TI) := [(3, ti3), (86, ti86)]
@[reducible] def tl73 : List (TypeId × TI) := [(2, ti2), (3, ti3), (79, ti79), (86, ti86)]
@[reducible] def tl74 : List (TypeId × TI) := [(3, ti3), (86, ti86)]
@[reducible] def tl75 : List (TypeId × TI) := [(3, ti3), (30, ti30)]
theorem tk75 : TOk Tryd.prog tl75 := (.cons tok3 (.cons tok30 .nil))
@[reducible] def tl76 : List (TypeId × TI) := [(2, ti2), (3, ti3), (22, ti22)]
@[reducible] def dt76 : DT := [(4, []), (6, [])]
@[reducible] def tl77 : List (TypeId × TI) := [(2, ti2), (3, ti3), (22, ti22)]
@[reducible] def dt77 : DT := [(10, [])]
@[reducible] def tl78 : List (TypeId × TI) := [(2, ti2), (3, ti3), (22, ti22), (92, ti92), (106, ti106)]
@[reducible] def dt78 : DT := [(10, [])]
@[reducible] def tl79 : List (TypeId × TI) := [(3, ti3)]
@[reducible] def tl80 : List (TypeId × TI) := [(2, ti2), (3, ti3), (22, ti22)]
@[reducible] def dt80 : DT := [(3, [])]
@[reducible] def tl81 : List (TypeId × TI) := [(2, ti2), (3, ti3), (4, ti4), (22, ti22)]
@[reducible] def dt81 : DT := [(5, []), (11, []), (16, []), (17, []), (22, []), (23, [])]
@[reducible] def tl82 : List (TypeId × TI) := [(2, ti2), (4, ti4)]
@[reducible] def tl83 : List (TypeId × TI) := [(2, ti2), (3, ti3), (4, ti4), (22, ti22)]
@[reducible] def dt83 : DT := [(1, []), (3, []), (5, []), (8, [])]
@[reducible] def tl84 : List (TypeId × TI) := [(2, ti2), (3, ti3), (4, ti4), (22, ti22)]
@[reducible] def dt84 : DT := [(1, []), (3, []), (5, []), (8, []), (10, []), (13, []), (15, []), (18, []), (21, [])]
@[reducible] def tl85 : List (TypeId × TI) := [(3, ti3), (5, ti5), (9, ti9), (103, ti103)]
@[reducible] def tl86 : List (TypeId × TI) := [(3, ti3), (5, ti5), (9, ti9), (105, ti105)]
@[reducible] def tl87 : List (TypeId × TI) := [(2, ti2), (3, ti3), (4, ti4), (22, ti22)]
@[reducible] def dt87 : DT := [(3, []), (5, []), (6, [])]
@[reducible] def tl88 : List (TypeId × TI) := [(3, ti3), (92, ti92)]
@[reducible] def tl89 : List (TypeId × TI) := [(106, ti106)]
@[reducible] def dt89 : DT := [(1, []), (2, []), (3, [])]
@[reducible] def tl90 : List (TypeId × TI) := [(3, ti3)]
@[reducible] def tl91 : List (TypeId × TI) := []
@[reducible] def tl92 : List (TypeId × TI) := [(2, ti2)]
@[reducible] def tl93 : List (TypeId × TI) := [(2, ti2), (3, ti3), (22, ti22)]
@[reducible] def dt93 : DT := [(1, [])]
@[reducible] def tl116 : List (TypeId × TI) := [(9, ti9), (64, ti64), (76, ti76)]
end Go.Proofs.YtkjjihicaefmcaaDoor.Sy

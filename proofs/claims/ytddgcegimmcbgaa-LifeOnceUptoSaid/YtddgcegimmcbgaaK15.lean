/-
  The life of offers: the small run. Plain theorems.
-/
import Derived.Test.YtddgcegimmcbgaaK14
set_option linter.unusedSectionVars false
namespace Go.Proofs.Ytddgcegimmcbgaa.Sy
open Go Go.Sy Go.Proofs.Ytddgcegimmcbgaa
set_option maxRecDepth 100000
set_option maxHeartbeats 8000000
set_option linter.unusedVariables false
set_option linter.unusedSimpArgs false

theorem XC_res {P : Program} {f : FuncId} {args : List X} {O O' : List OX} {r r' : X} (h : XC P f args O r O') (hr : ∀ c, r.toD c = r'.toD c) : XC P f args O r' O' := by
  intro c h1 h2
  rw [← hr c]
  exact h c h1 h2
def runV : List Part := [⟨0, 0, 2⟩]
def runL : List Ev := [⟨1, 0, 0, 1, runV⟩, ⟨3, 1, 0, 0, []⟩, ⟨6, 1, 1, 1, runV⟩, ⟨8, 1, 1, 1, runV⟩]
def runL2 : List Ev := runL ++ [⟨8, 1, 1, 1, runV⟩]
theorem runL_ok : EvOk runL := ⟨by decide, by decide⟩
theorem runL2_ok : EvOk runL2 := ⟨by decide, by decide⟩
theorem runL3_ok : EvOk (runL.take 3) := ⟨by decide, by decide⟩
theorem run1 : checkR runL = (4, true) := by decide +kernel
def runS1 : There := ⟨⟨1, [([1], 1)], by decide⟩, ⟨0, [], by decide⟩, ⟨0, [], by decide⟩, ⟨0, [], by decide⟩, 0⟩
def runS2 : There := ⟨⟨1, [([1], 1)], by decide⟩, ⟨1, [([1], 1)], by decide⟩, ⟨0, [], by decide⟩, ⟨0, [], by decide⟩, 0⟩
def runS3 : There := ⟨⟨1, [([1], 1)], by decide⟩, ⟨1, [([1], 1)], by decide⟩, ⟨2, [([1], ⟨6, 1, 1, 1, runV⟩)], by decide⟩, ⟨0, [], by decide⟩, 1⟩
def runS4 : There := ⟨⟨1, [([1], 1)], by decide⟩, ⟨1, [([1], 1)], by decide⟩, ⟨3, [], by decide⟩, ⟨0, [], by decide⟩, 1⟩
theorem runT1 : stS runL2 1 = runS1 := by rfl
theorem runT2 : stS runL2 2 = runS2 := by rw [stS, runT1]; rfl
theorem runT3 : stS runL2 3 = runS3 := by rw [stS, runT2]; rfl
theorem runT4 : stS runL2 4 = runS4 := by rw [stS, runT3]; rfl
theorem run2 : checkR runL2 = (4, false) := by
  refine checkR_bad (i := 4) (by decide) (fun j hj => ?_) ?_
  · have hj' : j = 0 ∨ j = 1 ∨ j = 2 ∨ j = 3 := by omega
    rcases hj' with rfl | rfl | rfl | rfl
    · decide +kernel
    · rw [okAt, runT1]; decide +kernel
    · rw [okAt, runT2]; decide +kernel
    · rw [okAt, runT3]; decide +kernel
  · rw [okAt, runT4]; decide +kernel
theorem run3 : offs runL = [⟨1, 1, 1, 2, 3, 8⟩] := by decide +kernel
theorem run4 : openR (runL.take 3) = [1] := by decide +kernel
theorem x_works : XC Try.prog 13 [] [] (xb true) [] := by
  have h1 : XC Try.prog 11 [.ro (SL Ar.real Ev.X runL)] [] (.tup [.i .i64 (.lit 4), .b .t]) [] := XC_res (x_Check runL runL_ok) fun c => by rw [run1]; rfl
  have h2 (v : Nat) (o : Ar) (ho : o = Ar.real) : XC Try.prog 11 [.own (.out 0) v] [.row v 33 5 (SL o Ev.X runL2)] (.tup [.i .i64 (.lit 4), .b .f]) [.row v 33 5 (SL o Ev.X runL2)] := XC_res (x_CheckO runL2 runL2_ok v o ho) fun c => by rw [run2]; rfl
  have h3 : XC Try.prog 14 [.ro (SL Ar.real Ev.X runL)] [] (.ro (.lits [[.i .i64 (.lit 1), .i .i64 (.lit 1), .i .i64 (.lit 1), .i .i64 (.lit 2), .i .i64 (.lit 3), .i .i64 (.lit 8)]])) [] := XC_res (x_Of runL runL_ok) fun c => by rw [run3]; rfl
  have h4 : XC Try.prog 15 [.ro (SL Ar.real Ev.X (runL.take 3))] [] (.ro (.lits [[.i .i64 (.lit 1)]])) [] := XC_res (x_Open _ runL3_ok) fun c => by rw [run4]; rfl
  (refine XC.of_body ([(4, [(0, 4), (2, 4), (0, 5), (2, 5), (0, 6), (2, 6)])]) Try.func13 rfl Try.ntmps13 mixed (T := [(2, ti2), (3, ti3), (4, ti4), (22, ti22), (27, ti27), (30, ti30), (31, ti31), (33, ti33), (34, ti34), (123, ti123)]) (.cons tok2 (.cons tok3 (.cons tok4 (.cons tok22 (.cons tok27 (.cons tok30 (.cons tok31 (.cons tok33 (.cons tok34 (.cons tok123 .nil)))))))))) (by kernel_rfl) (by simp) rfl rfl rfl rfl rfl ?_; rintro o ho P hP c K hK; have hm : P.follows .mixedOrders = true := hP ▸ mixed; have hT : TOk P [(2, ti2), (3, ti3), (4, ti4), (22, ti22), (27, ti27), (30, ti30), (31, ti31), (33, ti33), (34, ti34), (123, ti123)] := hP ▸ (.cons tok2 (.cons tok3 (.cons tok4 (.cons tok22 (.cons tok27 (.cons tok30 (.cons tok31 (.cons tok33 (.cons tok34 (.cons tok123 .nil)))))))))); (try rw [← ho]); cbv)
  refine CallN.pure hP h1 fn11 rfl rfl (by rfl) ?_
  cbv
  repeat' (first | (refine NeedT.mk (by rw [ho]; rfl) ?_))
  refine CallN.objs [.loc 0] hP (h2 2 o ho) fn11 rfl rfl rfl rfl (by rfl) rfl rfl rfl rfl (by rfl) ⟨⟨_, rfl, (by subst ho; rfl)⟩, trivial⟩ ?_
  cbv
  repeat' (first | (refine NeedT.mk (by rw [ho]; rfl) ?_))
  refine CallN.pure hP h3 fn14 rfl rfl (by rfl) ?_
  cbv
  repeat' (first | (refine NeedT.mk (by rw [ho]; rfl) ?_))
  refine CallN.pure hP h4 fn15 rfl rfl (by rfl) ?_
  cbv
  exact hK _ _ (.b rfl)
end Go.Proofs.Ytddgcegimmcbgaa.Sy

/-
  ShapeChecks answers true for all arguments that together hold at most 1048576 values, the package variables holding what the program's text lays. Plain theorems.
-/
import Derived.Test.YtkjjihicaefmcaaDoorMc
set_option linter.unusedSimpArgs false
set_option linter.unusedSectionVars false
set_option maxRecDepth 100000
set_option linter.unusedVariables false
namespace Go.Proofs.YtkjjihicaefmcaaDoor.Sy
open Go Go.Sy Go.Proofs.YtkjjihicaefmcaaDoor Go.RowKit Go.ChangeShapes Go.WideShapes
theorem walkSC (css : List (List C)) (h : hasAllT 1048576 [tdCal] css) : CRule Tryd.prog 3 (argsD [tdCal] css) [] (.bool true) {} := by
  obtain ⟨c1, rfl, h1⟩ := hasAllT1 h
  obtain ⟨a, ha, rfl⟩ := decCal c1 h1
  exact x_ShapeChecks a ha cx0 List.nodup_nil rfl
noncomputable def argSC : Array Value := #[.agg #[.int .i64 0, .int .i64 0, .int .i64 0, .int .i64 0, .int .i64 0, .int .i64 0, .int .i64 0, .slice none 0 0, .slice none 0 0, .slice none 0 0]]
theorem laid_metSC (os : Os) : laidMet Tryd.prog Rows.shapeChecksUptoRow.laid ((laidWorld os).forCall (fun _ _ => 0) ⟨#[], argSC, []⟩).memory :=
  laidMet_of_run' 8 (by kernel_rfl) (by kernel_rfl)
theorem readsSC (os : Os) {H : Type} (enc : TypeId × Value → H) : ∃ places, DataW.whole enc Tryd.prog ((laidWorld os).forCall (fun _ _ => 0) ⟨#[], argSC, []⟩).memory Tryd.f3.params.toList Rows.shapeChecksSpec.vars false argSC.toList 8 = some ([.agg [.lit (.int .i64 0), .lit (.int .i64 0), .lit (.int .i64 0), .lit (.int .i64 0), .lit (.int .i64 0), .lit (.int .i64 0), .lit (.int .i64 0), .nil, .nil, .nil]], [], places) :=
  ⟨[], by kernel_rfl⟩
theorem lifted_ShapeChecks (os : Os) (started : os.Started) (H : Type) (enc : TypeId × Value → H) (F : Stop.Interp) :
    ReturnsInHanded {} Tryd.checked os 3 .any ((Rows.OpenSpec.upto Rows.shapeChecksSpec).preRow enc Tryd.prog Tryd.f3 Rows.shapeChecksUptoRow.domain false Rows.shapeChecksUptoRow.laid) (((Rows.OpenSpec.upto Rows.shapeChecksSpec).at F).post enc Tryd.prog Tryd.f3 false true false false) := by
  obtain ⟨places, hx⟩ := readsSC os enc
  refine returnsInHanded_of_row (C := Tryd.checked) (s := Rows.OpenSpec.upto Rows.shapeChecksSpec) own started (by kernel_rfl) Tryd.func3
    (witness_row_at (enc := enc) (C := Tryd.checked) false (laidWorld os) argSC rfl (by kernel_rfl) (by kernel_rfl) (by kernel_rfl)
      (OpenSpec.preRow_of_cond 8 hx (by kernel_rfl) (fun k hk => by cases hk; kernel_rfl) (by kernel_rfl) (laid_metSC os))) ?_
  intro W base args ds gs before hval hW _ hk _ hL _ _
  have hgs : gs = [] := by
    obtain ⟨_, _, _, hV, _⟩ := hW
    exact (trodVars_none hV).1
  subst hgs
  refine said_core (tds := [tdCal]) (tb := 4) (M := 1048576) (by decide) laidOut rowed full (by kernel_rfl) (by kernel_rfl) rfl (by kernel_rfl) rfl (fun ds h => ?_) walkSC base args ds [] before hval hW (by simpa [Rows.uptoSmall] using hk _ rfl) (tables hL)
  match ds, h with
  | [d0], _ => rfl
theorem saidUpto_ShapeChecks : Rows.ShapeChecksUptoSaid :=
  OpenClaim.holds_of_cond 3 Tryd.f3 rfl rfl rfl rfl rfl rfl rfl ⟨rfl, rfl, rfl, rfl, rfl⟩ rfl rfl rfl rfl rfl (by kernel_rfl) Tryd.func3 (by kernel_rfl)
    (of_decide_eq_true (by kernel_rfl)) (by unfold Func.isWrapper; first | (rw [if_pos (by decide +kernel)]; kernel_rfl) | (rw [if_neg (by decide +kernel)]; exact ⟨rfl, rfl⟩))
    (fun os started H enc _ F => by rw [OpenClaim.pre_eq_preRow]; exact lifted_ShapeChecks os started H enc F)
theorem plainSC (f : FuncId) (fn : Func) (hf : Tryd.pinned.checked.prog.funcNamed "manciple/manciplelaw14.ShapeChecks" = some f) (hfn : Tryd.pinned.checked.prog.funcs[f]? = some fn) :
    false = Tryd.pinned.checked.prog.looks [] ∧ ∀ (j : Nat) t, fn.params[j]? = some t → Tryd.pinned.checked.prog.wantsStandIn t = false := by
  obtain rfl : f = 3 := Option.some.inj ((show Tryd.prog.funcNamed "manciple/manciplelaw14.ShapeChecks" = some 3 by kernel_rfl).symm.trans hf) |>.symm
  obtain rfl : fn = Tryd.f3 := (Option.some.inj (Tryd.func3.symm.trans hfn)).symm
  refine ⟨by kernel_rfl, fun j t ht => ?_⟩
  have hp : Tryd.f3.params = #[26] := by kernel_rfl
  rw [hp] at ht
  obtain rfl : t = 26 := by simpa using Array.mem_of_getElem? ht
  exact (show Tryd.prog.wantsStandIn 26 = false by kernel_rfl)
theorem said_ShapeChecks : Rows.ShapeChecksUptoCardSaid :=
  Claim7.holds_tied_plain_at .later [] _ _ _ _ saidUpto_ShapeChecks (fun _ h => by cases h) (by kernel_rfl) (fun _ h => by cases h) shapeChecksUpto_row_tie rfl ⟨rfl, rfl⟩ (by kernel_rfl) rfl plainSC (by kernel_rfl)
end Go.Proofs.YtkjjihicaefmcaaDoor.Sy

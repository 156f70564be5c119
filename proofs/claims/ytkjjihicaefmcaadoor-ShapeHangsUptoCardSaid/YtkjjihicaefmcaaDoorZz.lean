/-
  ShapeHangs answers true for all arguments that together hold at most 1048576 values, the package variables holding what the program's text lays. Plain theorems.
-/
import Derived.Test.YtkjjihicaefmcaaDoorMc
set_option linter.unusedSimpArgs false
set_option linter.unusedSectionVars false
set_option maxRecDepth 100000
set_option linter.unusedVariables false
namespace Go.Proofs.YtkjjihicaefmcaaDoor.Sy
open Go Go.Sy Go.Proofs.YtkjjihicaefmcaaDoor Go.RowKit Go.ChangeShapes Go.WideShapes
theorem hasT_ShapeHangs {M : Nat} {t1 t2 : TD} : ∀ {css : List (List C)}, hasAllT M [t1, t2] css → ∃ c1 c2, css = [c1, c2] ∧ t1.has M c1 ∧ t2.has M c2
  | [c1, c2], h => ⟨c1, c2, rfl, h.1, h.2.1⟩
theorem walk_ShapeHangs (css : List (List C)) (h : hasAllT 1048576 [tdCal, tdCal] css) : CRule Tryd.prog 4 (argsD [tdCal, tdCal] css) [] (.bool true) {} := by
  obtain ⟨c1, c2, rfl, h1, h2⟩ := hasT_ShapeHangs h
  obtain ⟨x1, k1, rfl⟩ := decCal c1 h1
  obtain ⟨x2, k2, rfl⟩ := decCal c2 h2
  exact x_ShapeHangs x1 x2 k1 k2 cx0 List.nodup_nil rfl
noncomputable def arg_ShapeHangs : Array Value := #[.agg #[.int .i64 0, .int .i64 0, .int .i64 0, .int .i64 0, .int .i64 0, .int .i64 0, .int .i64 0, .slice none 0 0, .slice none 0 0, .slice none 0 0], .agg #[.int .i64 0, .int .i64 0, .int .i64 0, .int .i64 0, .int .i64 0, .int .i64 0, .int .i64 0, .slice none 0 0, .slice none 0 0, .slice none 0 0]]
theorem laid_met_ShapeHangs (os : Os) : laidMet Tryd.prog Rows.shapeHangsUptoRow.laid ((laidWorld os).forCall (fun _ _ => 0) ⟨#[], arg_ShapeHangs, []⟩).memory :=
  laidMet_of_run' 8 (by kernel_rfl) (by kernel_rfl)
theorem reads_ShapeHangs (os : Os) {H : Type} (enc : TypeId × Value → H) : ∃ places, DataW.whole enc Tryd.prog ((laidWorld os).forCall (fun _ _ => 0) ⟨#[], arg_ShapeHangs, []⟩).memory Tryd.f4.params.toList Rows.shapeHangsSpec.vars false arg_ShapeHangs.toList 8 = some ([.agg [.lit (.int .i64 0), .lit (.int .i64 0), .lit (.int .i64 0), .lit (.int .i64 0), .lit (.int .i64 0), .lit (.int .i64 0), .lit (.int .i64 0), .nil, .nil, .nil], .agg [.lit (.int .i64 0), .lit (.int .i64 0), .lit (.int .i64 0), .lit (.int .i64 0), .lit (.int .i64 0), .lit (.int .i64 0), .lit (.int .i64 0), .nil, .nil, .nil]], [], places) :=
  ⟨[], by kernel_rfl⟩
theorem lifted_ShapeHangs (os : Os) (started : os.Started) (H : Type) (enc : TypeId × Value → H) (F : Stop.Interp) :
    ReturnsInHanded {} Tryd.checked os 4 .any ((Rows.OpenSpec.upto Rows.shapeHangsSpec).preRow enc Tryd.prog Tryd.f4 Rows.shapeHangsUptoRow.domain false Rows.shapeHangsUptoRow.laid) (((Rows.OpenSpec.upto Rows.shapeHangsSpec).at F).post enc Tryd.prog Tryd.f4 false true false false) := by
  obtain ⟨places, hx⟩ := reads_ShapeHangs os enc
  refine returnsInHanded_of_row (C := Tryd.checked) (s := Rows.OpenSpec.upto Rows.shapeHangsSpec) own started (by kernel_rfl) Tryd.func4
    (witness_row_at (enc := enc) (C := Tryd.checked) false (laidWorld os) arg_ShapeHangs rfl (by kernel_rfl) (by kernel_rfl) (by kernel_rfl)
      (OpenSpec.preRow_of_cond 8 hx (by kernel_rfl) (fun k hk => by cases hk; kernel_rfl) (by kernel_rfl) (laid_met_ShapeHangs os))) ?_
  intro W base args ds gs before hval hW _ hk _ hL _ _
  have hgs : gs = [] := by
    obtain ⟨_, _, _, hV, _⟩ := hW
    exact (trodVars_none hV).1
  subst hgs
  refine said_core (tds := [tdCal, tdCal]) (tb := 4) (M := 1048576) (by decide) laidOut rowed full (by kernel_rfl) (by kernel_rfl) rfl (by kernel_rfl) rfl (fun ds h => ?_) walk_ShapeHangs base args ds [] before hval hW (by simpa [Rows.uptoSmall] using hk _ rfl) (tables hL)
  match ds, h with
  | [d0, d1], _ => rfl
theorem saidUpto_ShapeHangs : Rows.ShapeHangsUptoSaid :=
  OpenClaim.holds_of_cond 4 Tryd.f4 rfl rfl rfl rfl rfl rfl rfl ⟨rfl, rfl, rfl, rfl, rfl⟩ rfl rfl rfl rfl rfl (by kernel_rfl) Tryd.func4 (by kernel_rfl)
    (of_decide_eq_true (by kernel_rfl)) (by unfold Func.isWrapper; first | (rw [if_pos (by decide +kernel)]; kernel_rfl) | (rw [if_neg (by decide +kernel)]; exact ⟨rfl, rfl⟩))
    (fun os started H enc _ F => by rw [OpenClaim.pre_eq_preRow]; exact lifted_ShapeHangs os started H enc F)
theorem plain_ShapeHangs (f : FuncId) (fn : Func) (hf : Tryd.pinned.checked.prog.funcNamed "manciple/manciplelaw14.ShapeHangs" = some f) (hfn : Tryd.pinned.checked.prog.funcs[f]? = some fn) :
    false = Tryd.pinned.checked.prog.looks [] ∧ ∀ (j : Nat) t, fn.params[j]? = some t → Tryd.pinned.checked.prog.wantsStandIn t = false := by
  obtain rfl : f = 4 := Option.some.inj ((show Tryd.prog.funcNamed "manciple/manciplelaw14.ShapeHangs" = some 4 by kernel_rfl).symm.trans hf) |>.symm
  obtain rfl : fn = Tryd.f4 := (Option.some.inj (Tryd.func4.symm.trans hfn)).symm
  refine ⟨by kernel_rfl, fun j t ht => ?_⟩
  have hp : Tryd.f4.params = #[26, 26] := by kernel_rfl
  rw [hp] at ht
  obtain rfl : t = 26 := by simpa using Array.mem_of_getElem? ht
  · exact (show Tryd.prog.wantsStandIn 26 = false by kernel_rfl)
theorem said_ShapeHangs : Rows.ShapeHangsUptoCardSaid :=
  Claim7.holds_tied_plain_at .later [] _ _ _ _ saidUpto_ShapeHangs (fun _ h => by cases h) (by kernel_rfl) (fun _ h => by cases h) shapeHangsUpto_row_tie rfl ⟨rfl, rfl⟩ (by kernel_rfl) rfl plain_ShapeHangs (by kernel_rfl)
end Go.Proofs.YtkjjihicaefmcaaDoor.Sy

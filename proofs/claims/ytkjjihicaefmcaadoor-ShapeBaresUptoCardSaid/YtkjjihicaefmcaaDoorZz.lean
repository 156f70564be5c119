/-
  ShapeBares answers true for all arguments that together hold at most 1048576 values, the package variables holding what the program's text lays. Plain theorems.
-/
import Derived.Test.YtkjjihicaefmcaaDoorMc
set_option linter.unusedSimpArgs false
set_option linter.unusedSectionVars false
set_option maxRecDepth 100000
set_option linter.unusedVariables false
namespace Go.Proofs.YtkjjihicaefmcaaDoor.Sy
open Go Go.Sy Go.Proofs.YtkjjihicaefmcaaDoor Go.RowKit Go.ChangeShapes Go.WideShapes
theorem hasT_ShapeBares {M : Nat} {t1 t2 t3 : TD} : ∀ {css : List (List C)}, hasAllT M [t1, t2, t3] css → ∃ c1 c2 c3, css = [c1, c2, c3] ∧ t1.has M c1 ∧ t2.has M c2 ∧ t3.has M c3
  | [c1, c2, c3], h => ⟨c1, c2, c3, rfl, h.1, h.2.1, h.2.2.1⟩
theorem walk_ShapeBares (css : List (List C)) (h : hasAllT 1048576 [tdCal, tdCal, .str] css) : CRule Tryd.prog 5 (argsD [tdCal, tdCal, .str] css) [] (.bool true) {} := by
  obtain ⟨c1, c2, c3, rfl, h1, h2, h3⟩ := hasT_ShapeBares h
  obtain ⟨x1, k1, rfl⟩ := decCal c1 h1
  obtain ⟨x2, k2, rfl⟩ := decCal c2 h2
  obtain ⟨x3, rfl, -⟩ := h3
  exact x_ShapeBares x1 x2 x3 k1 k2 cx0 List.nodup_nil rfl
noncomputable def arg_ShapeBares : Array Value := #[.agg #[.int .i64 0, .int .i64 0, .int .i64 0, .int .i64 0, .int .i64 0, .int .i64 0, .int .i64 0, .slice none 0 0, .slice none 0 0, .slice none 0 0], .agg #[.int .i64 0, .int .i64 0, .int .i64 0, .int .i64 0, .int .i64 0, .int .i64 0, .int .i64 0, .slice none 0 0, .slice none 0 0, .slice none 0 0], .string ⟨#[]⟩]
theorem laid_met_ShapeBares (os : Os) : laidMet Tryd.prog Rows.shapeBaresUptoRow.laid ((laidWorld os).forCall (fun _ _ => 0) ⟨#[], arg_ShapeBares, []⟩).memory :=
  laidMet_of_run' 8 (by kernel_rfl) (by kernel_rfl)
theorem reads_ShapeBares (os : Os) {H : Type} (enc : TypeId × Value → H) : ∃ places, DataW.whole enc Tryd.prog ((laidWorld os).forCall (fun _ _ => 0) ⟨#[], arg_ShapeBares, []⟩).memory Tryd.f5.params.toList Rows.shapeBaresSpec.vars false arg_ShapeBares.toList 8 = some ([.agg [.lit (.int .i64 0), .lit (.int .i64 0), .lit (.int .i64 0), .lit (.int .i64 0), .lit (.int .i64 0), .lit (.int .i64 0), .lit (.int .i64 0), .nil, .nil, .nil], .agg [.lit (.int .i64 0), .lit (.int .i64 0), .lit (.int .i64 0), .lit (.int .i64 0), .lit (.int .i64 0), .lit (.int .i64 0), .lit (.int .i64 0), .nil, .nil, .nil], .lit (.string [])], [], places) :=
  ⟨[], by kernel_rfl⟩
theorem lifted_ShapeBares (os : Os) (started : os.Started) (H : Type) (enc : TypeId × Value → H) (F : Stop.Interp) :
    ReturnsInHanded {} Tryd.checked os 5 .any ((Rows.OpenSpec.upto Rows.shapeBaresSpec).preRow enc Tryd.prog Tryd.f5 Rows.shapeBaresUptoRow.domain false Rows.shapeBaresUptoRow.laid) (((Rows.OpenSpec.upto Rows.shapeBaresSpec).at F).post enc Tryd.prog Tryd.f5 false true false false) := by
  obtain ⟨places, hx⟩ := reads_ShapeBares os enc
  refine returnsInHanded_of_row (C := Tryd.checked) (s := Rows.OpenSpec.upto Rows.shapeBaresSpec) own started (by kernel_rfl) Tryd.func5
    (witness_row_at (enc := enc) (C := Tryd.checked) false (laidWorld os) arg_ShapeBares rfl (by kernel_rfl) (by kernel_rfl) (by kernel_rfl)
      (OpenSpec.preRow_of_cond 8 hx (by kernel_rfl) (fun k hk => by cases hk; kernel_rfl) (by kernel_rfl) (laid_met_ShapeBares os))) ?_
  intro W base args ds gs before hval hW _ hk _ hL _ _
  have hgs : gs = [] := by
    obtain ⟨_, _, _, hV, _⟩ := hW
    exact (trodVars_none hV).1
  subst hgs
  refine said_core (tds := [tdCal, tdCal, .str]) (tb := 4) (M := 1048576) (by decide) laidOut rowed full (by kernel_rfl) (by kernel_rfl) rfl (by kernel_rfl) rfl (fun ds h => ?_) walk_ShapeBares base args ds [] before hval hW (by simpa [Rows.uptoSmall] using hk _ rfl) (tables hL)
  match ds, h with
  | [d0, d1, d2], _ => rfl
theorem saidUpto_ShapeBares : Rows.ShapeBaresUptoSaid :=
  OpenClaim.holds_of_cond 5 Tryd.f5 rfl rfl rfl rfl rfl rfl rfl ⟨rfl, rfl, rfl, rfl, rfl⟩ rfl rfl rfl rfl rfl (by kernel_rfl) Tryd.func5 (by kernel_rfl)
    (of_decide_eq_true (by kernel_rfl)) (by unfold Func.isWrapper; first | (rw [if_pos (by decide +kernel)]; kernel_rfl) | (rw [if_neg (by decide +kernel)]; exact ⟨rfl, rfl⟩))
    (fun os started H enc _ F => by rw [OpenClaim.pre_eq_preRow]; exact lifted_ShapeBares os started H enc F)
theorem plain_ShapeBares (f : FuncId) (fn : Func) (hf : Tryd.pinned.checked.prog.funcNamed "manciple/manciplelaw14.ShapeBares" = some f) (hfn : Tryd.pinned.checked.prog.funcs[f]? = some fn) :
    false = Tryd.pinned.checked.prog.looks [] ∧ ∀ (j : Nat) t, fn.params[j]? = some t → Tryd.pinned.checked.prog.wantsStandIn t = false := by
  obtain rfl : f = 5 := Option.some.inj ((show Tryd.prog.funcNamed "manciple/manciplelaw14.ShapeBares" = some 5 by kernel_rfl).symm.trans hf) |>.symm
  obtain rfl : fn = Tryd.f5 := (Option.some.inj (Tryd.func5.symm.trans hfn)).symm
  refine ⟨by kernel_rfl, fun j t ht => ?_⟩
  have hp : Tryd.f5.params = #[26, 26, 9] := by kernel_rfl
  rw [hp] at ht
  obtain rfl | rfl : t = 26 ∨ t = 9 := by simpa using Array.mem_of_getElem? ht
  · exact (show Tryd.prog.wantsStandIn 26 = false by kernel_rfl)
  · exact (show Tryd.prog.wantsStandIn 9 = false by kernel_rfl)
theorem said_ShapeBares : Rows.ShapeBaresUptoCardSaid :=
  Claim7.holds_tied_plain_at .later [] _ _ _ _ saidUpto_ShapeBares (fun _ h => by cases h) (by kernel_rfl) (fun _ h => by cases h) shapeBaresUpto_row_tie rfl ⟨rfl, rfl⟩ (by kernel_rfl) rfl plain_ShapeBares (by kernel_rfl)
end Go.Proofs.YtkjjihicaefmcaaDoor.Sy

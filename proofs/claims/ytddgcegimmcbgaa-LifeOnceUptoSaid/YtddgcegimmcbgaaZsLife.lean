/-
  LifeLives and LifeOnce answer true for all events that together hold at most 1048576 values. Plain theorems.
-/
import Derived.Test.YtddgcegimmcbgaaK7
import Derived.Test.YtddgcegimmcbgaaK17
import Derived.Test.YtddgcegimmcbgaaSyJd
set_option linter.unusedSimpArgs false
set_option linter.unusedSectionVars false
namespace Go.Proofs.Ytddgcegimmcbgaa.Sy
open Go Go.Sy Go.Proofs.Ytddgcegimmcbgaa Go.RowKit Go.ChangeShapes Go.WideShapes
set_option maxRecDepth 100000
set_option linter.unusedVariables false

theorem laidOut : laidOutB Try.prog = true := by kernel_rfl
theorem rowed : mapsRowed Try.prog = true := by kernel_rfl
theorem full : ((List.range Try.prog.types.size).all fun t => match Try.prog.underlying t with | some (.slice e) => decide (0 < Try.prog.cellsOf e) | _ => true) = true := by kernel_rfl
theorem own : ownKnob Try.prog.godebug = none := by kernel_rfl
def tdPart : TD := .agg [.int .i64, .int .i64, .int .i64]
def tdEv : TD := .agg [.int .i64, .int .i64, .int .i64, .int .i64, .slice tdPart]
theorem decPart (M : Nat) : Dec tdPart M (fun _ => True) Part.X := by
  rintro cs ⟨a, r1, rfl, h1, b, r2, rfl, h2, c, r3, rfl, h3, h4⟩
  obtain rfl := hasL_nil h4
  obtain ⟨x, -, rfl⟩ := Dec.int M a h1
  obtain ⟨y, -, rfl⟩ := Dec.int M b h2
  obtain ⟨z, -, rfl⟩ := Dec.int M c h3
  exact ⟨⟨x, y, z⟩, trivial, rfl⟩
theorem decEv (M : Nat) : Dec tdEv M (fun e => e.vec.length ≤ M) Ev.X := by
  rintro cs ⟨a, r1, rfl, h1, b, r2, rfl, h2, c, r3, rfl, h3, d, r4, rfl, h4, e, r5, rfl, h5, h6⟩
  obtain rfl := hasL_nil h6
  obtain ⟨x, -, rfl⟩ := Dec.int M a h1
  obtain ⟨y, -, rfl⟩ := Dec.int M b h2
  obtain ⟨z, -, rfl⟩ := Dec.int M c h3
  obtain ⟨u, -, rfl⟩ := Dec.int M d h4
  obtain ⟨l, hl, rfl⟩ := (decPart M).slice e h5
  exact ⟨⟨x, y, z, u, l⟩, hl.len, rfl⟩
theorem walkEv {f : FuncId} (hx : ∀ l : List Ev, EvOk l → XC Try.prog f [.ro (SL Ar.real Ev.X l)] [] (xb true) []) (css : List (List C)) (h : hasAllT 1048576 [.slice tdEv] css) : CRule Try.prog f (argsD [.slice tdEv] css) [] (.bool true) {} := by
  match css, h with
  | [cs], ⟨h, _⟩ =>
    obtain ⟨l, hl, rfl⟩ := (decEv 1048576).slice cs h
    exact hx l ⟨hl.len, hl.all⟩ cx0 List.nodup_nil rfl

theorem lifted_LifeLives (os : Os) (started : os.Started) (H : Type) (enc : TypeId × Value → H) (F : Stop.Interp) :
    ReturnsInHanded {} Try.checked os 4 .any ((Rows.OpenSpec.upto Rows.lifeLivesSpec).pre6 enc Try.prog Try.f4 Rows.lifeLivesUptoRow.domain false) (((Rows.OpenSpec.upto Rows.lifeLivesSpec).at F).post enc Try.prog Try.f4 false true false false) := by
  refine returnsInHanded_of_cond (C := Try.checked) (s := Rows.OpenSpec.upto Rows.lifeLivesSpec) (k := Rows.uptoSmall) rfl own started (by kernel_rfl) Try.func4
    (OpenSpec.witness (enc := enc) (C := Try.checked) (s := Rows.OpenSpec.upto Rows.lifeLivesSpec) (k := Rows.uptoSmall) rfl false ⟨#[], #[.slice none 0 0], []⟩ 8 (by kernel_rfl) (by kernel_rfl) (by kernel_rfl)
      (x := ([.nil], [], [])) (by kernel_rfl) rfl (by kernel_rfl)) ?_
  intro W base args ds gs before hval hW _ hk _
  have hgs : gs = [] := by
    obtain ⟨_, _, _, hV, _⟩ := hW
    exact (trodVars_none hV).1
  subst hgs
  refine said_core (tds := [.slice tdEv]) (tb := 4) (M := 1048576) (by decide) laidOut rowed full (by kernel_rfl) (by kernel_rfl) rfl (by kernel_rfl) rfl (fun ds h => ?_) (walkEv x_LifeLives) base args ds [] before hval hW (by simpa [Rows.uptoSmall] using hk)
  match ds, h with
  | [d0], _ => rfl

theorem said_LifeLives : Rows.LifeLivesUptoSaid :=
  OpenClaim.holds_of_cond 4 Try.f4 rfl rfl rfl rfl rfl rfl rfl ⟨rfl, rfl, rfl, rfl, rfl⟩ rfl rfl rfl rfl rfl (by kernel_rfl) Try.func4 (by kernel_rfl)
    (of_decide_eq_true (by kernel_rfl)) (by unfold Func.isWrapper; first | (rw [if_pos (by decide +kernel)]; kernel_rfl) | (rw [if_neg (by decide +kernel)]; exact ⟨rfl, rfl⟩))
    (fun os started H enc _ F => lifted_LifeLives os started H enc F)

theorem lifted_LifeOnce (os : Os) (started : os.Started) (H : Type) (enc : TypeId × Value → H) (F : Stop.Interp) :
    ReturnsInHanded {} Try.checked os 3 .any ((Rows.OpenSpec.upto Rows.lifeOnceSpec).pre6 enc Try.prog Try.f3 Rows.lifeOnceUptoRow.domain false) (((Rows.OpenSpec.upto Rows.lifeOnceSpec).at F).post enc Try.prog Try.f3 false true false false) := by
  refine returnsInHanded_of_cond (C := Try.checked) (s := Rows.OpenSpec.upto Rows.lifeOnceSpec) (k := Rows.uptoSmall) rfl own started (by kernel_rfl) Try.func3
    (OpenSpec.witness (enc := enc) (C := Try.checked) (s := Rows.OpenSpec.upto Rows.lifeOnceSpec) (k := Rows.uptoSmall) rfl false ⟨#[], #[.slice none 0 0], []⟩ 8 (by kernel_rfl) (by kernel_rfl) (by kernel_rfl)
      (x := ([.nil], [], [])) (by kernel_rfl) rfl (by kernel_rfl)) ?_
  intro W base args ds gs before hval hW _ hk _
  have hgs : gs = [] := by
    obtain ⟨_, _, _, hV, _⟩ := hW
    exact (trodVars_none hV).1
  subst hgs
  refine said_core (tds := [.slice tdEv]) (tb := 4) (M := 1048576) (by decide) laidOut rowed full (by kernel_rfl) (by kernel_rfl) rfl (by kernel_rfl) rfl (fun ds h => ?_) (walkEv x_LifeOnce) base args ds [] before hval hW (by simpa [Rows.uptoSmall] using hk)
  match ds, h with
  | [d0], _ => rfl

theorem said_LifeOnce : Rows.LifeOnceUptoSaid :=
  OpenClaim.holds_of_cond 3 Try.f3 rfl rfl rfl rfl rfl rfl rfl ⟨rfl, rfl, rfl, rfl, rfl⟩ rfl rfl rfl rfl rfl (by kernel_rfl) Try.func3 (by kernel_rfl)
    (of_decide_eq_true (by kernel_rfl)) (by unfold Func.isWrapper; first | (rw [if_pos (by decide +kernel)]; kernel_rfl) | (rw [if_neg (by decide +kernel)]; exact ⟨rfl, rfl⟩))
    (fun os started H enc _ F => lifted_LifeOnce os started H enc F)
end Go.Proofs.Ytddgcegimmcbgaa.Sy

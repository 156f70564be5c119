/-
  BoundSums answers true for all arguments that together hold at most 1048576 values. Plain theorems.
-/
import Derived.Test.YtddgcegimmcbgaaMd
import Derived.Test.YtddgcegimmcbgaaSyJd
set_option linter.unusedSimpArgs false
set_option linter.unusedSectionVars false
namespace Go.Proofs.Ytddgcegimmcbgaa.Sy
open Go Go.Sy Go.Proofs.Ytddgcegimmcbgaa Go.RowKit Go.ChangeShapes Go.WideShapes
set_option maxRecDepth 100000
set_option linter.unusedVariables false

theorem laidOut : laidOutB Try.prog = true := by kernel_rfl
theorem rowed : mapsRowed Try.prog = true := by kernel_rfl
theorem full : ((List.range Try.prog.types.size).all fun t => match Try.prog.underlying t with | some (.slice e) => decide (0 < Try.prog.cellsOf e) | _ => true) = true := by kernel_rfl
theorem own : ownKnob Try.prog.godebug = none := by kernel_rfl
def tdFr : TD := .agg [.int .i64, .int .i64]
theorem decFr (M : Nat) : Dec tdFr M (fun f => i64B f.num ∧ i64B f.den) Fr.X := by
  rintro cs ⟨a, r1, rfl, h1, b, r2, rfl, h2, h3⟩
  obtain rfl := hasL_nil h3
  obtain ⟨x, hx, rfl⟩ := Dec.int M a h1
  obtain ⟨y, hy, rfl⟩ := Dec.int M b h2
  exact ⟨⟨x, y⟩, ⟨hx, hy⟩, rfl⟩
def tdS4 : TD := .arr 4 (.int .i64)
theorem decS4 (M : Nat) : Dec tdS4 M (fun _ => True) S4.X := by
  rintro cs ⟨rows, h1, rfl, h2⟩
  match rows, h1 with
  | [a, b, c, d], _ =>
    obtain ⟨x, -, rfl⟩ := Dec.int M a (h2 _ (by simp))
    obtain ⟨y, -, rfl⟩ := Dec.int M b (h2 _ (by simp))
    obtain ⟨z, -, rfl⟩ := Dec.int M c (h2 _ (by simp))
    obtain ⟨w, -, rfl⟩ := Dec.int M d (h2 _ (by simp))
    exact ⟨⟨x, y, z, w⟩, trivial, rfl⟩
theorem hasAllT3 {M : Nat} {t1 t2 t3 : TD} : ∀ {css : List (List C)}, hasAllT M [t1, t2, t3] css → ∃ c1 c2 c3, css = [c1, c2, c3] ∧ t1.has M c1 ∧ t2.has M c2 ∧ t3.has M c3
  | [c1, c2, c3], h => ⟨c1, c2, c3, rfl, h.1, h.2.1, h.2.2.1⟩
theorem walkBS (css : List (List C)) (h : hasAllT 1048576 [.slice tdFr, tdS4, tdS4] css) : CRule Try.prog 7 (argsD [.slice tdFr, tdS4, tdS4] css) [] (.bool true) {} := by
  obtain ⟨c1, c2, c3, rfl, h1, h2, h3⟩ := hasAllT3 h
  obtain ⟨l, hl, rfl⟩ := (decFr 1048576).slice c1 h1
  obtain ⟨s, -, rfl⟩ := decS4 1048576 c2 h2
  obtain ⟨t, -, rfl⟩ := decS4 1048576 c3 h3
  exact x_BoundSums l hl.len (getD_leP (Q := fun f : Fr => i64B f.num ∧ i64B f.den) hl.all (by unfold i64B; decide)) s t cx0 List.nodup_nil rfl

theorem lifted_BoundSums (os : Os) (started : os.Started) (H : Type) (enc : TypeId × Value → H) (F : Stop.Interp) :
    ReturnsInHanded {} Try.checked os 7 .any ((Rows.OpenSpec.upto Rows.boundSumsSpec).pre6 enc Try.prog Try.f7 Rows.boundSumsUptoRow.domain false) (((Rows.OpenSpec.upto Rows.boundSumsSpec).at F).post enc Try.prog Try.f7 false true false false) := by
  refine returnsInHanded_of_cond (C := Try.checked) (s := Rows.OpenSpec.upto Rows.boundSumsSpec) (k := Rows.uptoSmall) rfl own started (by kernel_rfl) Try.func7
    (OpenSpec.witness (enc := enc) (C := Try.checked) (s := Rows.OpenSpec.upto Rows.boundSumsSpec) (k := Rows.uptoSmall) rfl false ⟨#[], #[.slice none 0 0, .agg #[.int .i64 0, .int .i64 0, .int .i64 0, .int .i64 0], .agg #[.int .i64 0, .int .i64 0, .int .i64 0, .int .i64 0]], []⟩ 8 (by kernel_rfl) (by kernel_rfl) (by kernel_rfl)
      (x := ([.nil, .agg [.lit (.int .i64 0), .lit (.int .i64 0), .lit (.int .i64 0), .lit (.int .i64 0)], .agg [.lit (.int .i64 0), .lit (.int .i64 0), .lit (.int .i64 0), .lit (.int .i64 0)]], [], [])) (by kernel_rfl) rfl (by kernel_rfl)) ?_
  intro W base args ds gs before hval hW _ hk _
  have hgs : gs = [] := by
    obtain ⟨_, _, _, hV, _⟩ := hW
    exact (trodVars_none hV).1
  subst hgs
  refine said_core (tds := [.slice tdFr, tdS4, tdS4]) (tb := 4) (M := 1048576) (by decide) laidOut rowed full (by kernel_rfl) (by kernel_rfl) rfl (by kernel_rfl) rfl (fun ds h => ?_) (walkBS) base args ds [] before hval hW (by simpa [Rows.uptoSmall] using hk)
  match ds, h with
  | [d0, d1, d2], _ => rfl

theorem said_BoundSums : Rows.BoundSumsUptoSaid :=
  OpenClaim.holds_of_cond 7 Try.f7 rfl rfl rfl rfl rfl rfl rfl ⟨rfl, rfl, rfl, rfl, rfl⟩ rfl rfl rfl rfl rfl (by kernel_rfl) Try.func7 (by kernel_rfl)
    (of_decide_eq_true (by kernel_rfl)) (by unfold Func.isWrapper; first | (rw [if_pos (by decide +kernel)]; kernel_rfl) | (rw [if_neg (by decide +kernel)]; exact ⟨rfl, rfl⟩))
    (fun os started H enc _ F => lifted_BoundSums os started H enc F)
end Go.Proofs.Ytddgcegimmcbgaa.Sy

/-
  FillFills answers true for all arguments that together hold at most 1048576 values. Plain theorems.
-/
import Derived.Test.YtddgcegimmcbgaaMd
import Derived.Test.YtddgcegimmcbgaaSyJd
set_option linter.unusedSimpArgs false
set_option linter.unusedSectionVars false
namespace Go.Proofs.Ytddgcegimmcbgaa.Sy
open Go Go.Sy Go.Proofs.Ytddgcegimmcbgaa Go.RowKit Go.ChangeShapes Go.WideShapes
set_option maxRecDepth 100000
set_option linter.unusedVariables false

theorem laidOut : laidOutB Try.prog = true := by kernel_rfl
theorem rowed : mapsRowed Try.prog = true := by kernel_rfl
theorem full : ((List.range Try.prog.types.size).all fun t => match Try.prog.underlying t with | some (.slice e) => decide (0 < Try.prog.cellsOf e) | _ => true) = true := by kernel_rfl
theorem own : ownKnob Try.prog.godebug = none := by kernel_rfl
def tdPart : TD := .agg [.int .i64, .int .i64, .int .i64]
theorem decPart (M : Nat) : Dec tdPart M (fun _ => True) Part.X := by
  rintro cs ⟨a, r1, rfl, h1, b, r2, rfl, h2, c, r3, rfl, h3, h4⟩
  obtain rfl := hasL_nil h4
  obtain ⟨x, -, rfl⟩ := Dec.int M a h1
  obtain ⟨y, -, rfl⟩ := Dec.int M b h2
  obtain ⟨z, -, rfl⟩ := Dec.int M c h3
  exact ⟨⟨x, y, z⟩, trivial, rfl⟩
def tdWant : TD := .agg [.int .i64, .slice tdPart]
theorem decWant (M : Nat) : Dec tdWant M (fun w => w.need.length ≤ M) Want.X := by
  rintro cs ⟨a, r1, rfl, h1, e, r5, rfl, h5, h6⟩
  obtain rfl := hasL_nil h6
  obtain ⟨x, -, rfl⟩ := Dec.int M a h1
  obtain ⟨l, hl, rfl⟩ := (decPart M).slice e h5
  exact ⟨⟨x, l⟩, hl.len, rfl⟩
theorem decI (M : Nat) : Dec (.int .i64) M (fun n : Int => -9223372036854775808 ≤ n ∧ n ≤ 9223372036854775807) encI := (Dec.int M).one
theorem prof1_ok {v : List Part} {ws : List Want} (hv : v.length ≤ 1048576) (hws : ws.length ≤ 1048576) (hw : ∀ w ∈ ws, w.need.length ≤ 1048576) : ProfOk (prof1 v ws) :=
  ⟨show (1 : Nat) ≤ 1048576 by decide, hws, getD_le (f := List.length) (l := [v]) (fun x hx => by rw [List.mem_singleton.1 hx]; exact hv) (Nat.zero_le _), getD_le (f := fun w : Want => w.need.length) (l := ws) hw (Nat.zero_le _)⟩
theorem hasAllT3 {M : Nat} {t1 t2 t3 : TD} : ∀ {css : List (List C)}, hasAllT M [t1, t2, t3] css → ∃ c1 c2 c3, css = [c1, c2, c3] ∧ t1.has M c1 ∧ t2.has M c2 ∧ t3.has M c3
  | [c1, c2, c3], h => ⟨c1, c2, c3, rfl, h.1, h.2.1, h.2.2.1⟩
theorem walkFF (css : List (List C)) (h : hasAllT 1048576 [.slice tdPart, .slice tdWant, .int .i64] css) : CRule Try.prog 6 (argsD [.slice tdPart, .slice tdWant, .int .i64] css) [] (.bool true) {} := by
  obtain ⟨c1, c2, c3, rfl, h1, h2, h3⟩ := hasAllT3 h
  obtain ⟨v, hv, rfl⟩ := (decPart 1048576).slice c1 h1
  obtain ⟨ws, hws, rfl⟩ := (decWant 1048576).slice c2 h2
  obtain ⟨n, hn, rfl⟩ := Dec.int 1048576 c3 h3
  exact x_FillFills v ws n (prof1_ok hv.len hws.len hws.all) hv.len cx0 List.nodup_nil rfl

theorem lifted_FillFills (os : Os) (started : os.Started) (H : Type) (enc : TypeId × Value → H) (F : Stop.Interp) :
    ReturnsInHanded {} Try.checked os 6 .any ((Rows.OpenSpec.upto Rows.fillFillsSpec).pre6 enc Try.prog Try.f6 Rows.fillFillsUptoRow.domain false) (((Rows.OpenSpec.upto Rows.fillFillsSpec).at F).post enc Try.prog Try.f6 false true false false) := by
  refine returnsInHanded_of_cond (C := Try.checked) (s := Rows.OpenSpec.upto Rows.fillFillsSpec) (k := Rows.uptoSmall) rfl own started (by kernel_rfl) Try.func6
    (OpenSpec.witness (enc := enc) (C := Try.checked) (s := Rows.OpenSpec.upto Rows.fillFillsSpec) (k := Rows.uptoSmall) rfl false ⟨#[], #[.slice none 0 0, .slice none 0 0, .int .i64 0], []⟩ 8 (by kernel_rfl) (by kernel_rfl) (by kernel_rfl)
      (x := ([.nil, .nil, .lit (.int .i64 0)], [], [])) (by kernel_rfl) rfl (by kernel_rfl)) ?_
  intro W base args ds gs before hval hW _ hk _
  have hgs : gs = [] := by
    obtain ⟨_, _, _, hV, _⟩ := hW
    exact (trodVars_none hV).1
  subst hgs
  refine said_core (tds := [.slice tdPart, .slice tdWant, .int .i64]) (tb := 4) (M := 1048576) (by decide) laidOut rowed full (by kernel_rfl) (by kernel_rfl) rfl (by kernel_rfl) rfl (fun ds h => ?_) (walkFF) base args ds [] before hval hW (by simpa [Rows.uptoSmall] using hk)
  match ds, h with
  | [d0, d1, d2], _ => rfl

theorem said_FillFills : Rows.FillFillsUptoSaid :=
  OpenClaim.holds_of_cond 6 Try.f6 rfl rfl rfl rfl rfl rfl rfl ⟨rfl, rfl, rfl, rfl, rfl⟩ rfl rfl rfl rfl rfl (by kernel_rfl) Try.func6 (by kernel_rfl)
    (of_decide_eq_true (by kernel_rfl)) (by unfold Func.isWrapper; first | (rw [if_pos (by decide +kernel)]; kernel_rfl) | (rw [if_neg (by decide +kernel)]; exact ⟨rfl, rfl⟩))
    (fun os started H enc _ F => lifted_FillFills os started H enc F)
end Go.Proofs.Ytddgcegimmcbgaa.Sy

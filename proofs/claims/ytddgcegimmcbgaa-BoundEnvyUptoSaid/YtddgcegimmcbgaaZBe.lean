/-
  BoundEnvy answers true for all arguments that together hold at most 1048576 values. Plain theorems.
-/
import Derived.Test.YtddgcegimmcbgaaMe
import Derived.Test.YtddgcegimmcbgaaSyJd
set_option linter.unusedSimpArgs false
set_option linter.unusedSectionVars false
set_option maxRecDepth 100000
set_option linter.unusedVariables false
namespace Go.Proofs.Ytddgcegimmcbgaa.Sy
open Go Go.Sy Go.Proofs.Ytddgcegimmcbgaa Go.RowKit Go.ChangeShapes Go.WideShapes
theorem laidOut : laidOutB Try.prog = true := by kernel_rfl
theorem rowed : mapsRowed Try.prog = true := by kernel_rfl
theorem full : ((List.range Try.prog.types.size).all fun t => match Try.prog.underlying t with | some (.slice e) => decide (0 < Try.prog.cellsOf e) | _ => true) = true := by kernel_rfl
theorem own : ownKnob Try.prog.godebug = none := by kernel_rfl
def tdPart : TD := .agg [.int .i64, .int .i64, .int .i64]
theorem decPart (M : Nat) : Dec tdPart M (fun _ => True) Part.X := by
  rintro cs ⟨a, r1, rfl, h1, b, r2, rfl, h2, c, r3, rfl, h3, h4⟩
  obtain rfl := hasL_nil h4
  obtain ⟨x, -, rfl⟩ := Dec.int M a h1
  obtain ⟨y, -, rfl⟩ := Dec.int M b h2
  obtain ⟨z, -, rfl⟩ := Dec.int M c h3
  exact ⟨⟨x, y, z⟩, trivial, rfl⟩
def tdWant : TD := .agg [.int .i64, .slice tdPart]
theorem decWant (M : Nat) : Dec tdWant M (fun w => w.need.length ≤ M ∧ i64B w.weight) Want.X := by
  rintro cs ⟨a, r1, rfl, h1, e, r5, rfl, h5, h6⟩
  obtain rfl := hasL_nil h6
  obtain ⟨x, hx, rfl⟩ := Dec.int M a h1
  obtain ⟨l, hl, rfl⟩ := (decPart M).slice e h5
  exact ⟨⟨x, l⟩, ⟨hl.len, hx⟩, rfl⟩
theorem decPV (M : Nat) : Dec (.slice tdPart) M (fun v => v.length ≤ M) PV.X := fun cs h => by
  obtain ⟨l, hl, rfl⟩ := (decPart M).slice cs h
  exact ⟨l, hl.len, rfl⟩
def tdS4 : TD := .arr 4 (.int .i64)
theorem decS4 (M : Nat) : Dec tdS4 M (fun _ => True) S4.X := by
  rintro cs ⟨rows, h1, rfl, h2⟩
  match rows, h1 with
  | [a, b, c, d], _ =>
    obtain ⟨x, -, rfl⟩ := Dec.int M a (h2 _ (by simp))
    obtain ⟨y, -, rfl⟩ := Dec.int M b (h2 _ (by simp))
    obtain ⟨z, -, rfl⟩ := Dec.int M c (h2 _ (by simp))
    obtain ⟨w, -, rfl⟩ := Dec.int M d (h2 _ (by simp))
    exact ⟨⟨x, y, z, w⟩, trivial, rfl⟩
def tdProf : TD := .agg [.slice (.slice tdPart), .slice tdWant, tdS4]
theorem decProf : Dec tdProf 1048576 (fun p => ProfOk p ∧ ∀ i, i64B (p.wants.getD i default).weight) Prof.X := by
  rintro cs ⟨a, r1, rfl, h1, b, r2, rfl, h2, c, r3, rfl, h3, h4⟩
  obtain rfl := hasL_nil h4
  obtain ⟨ags, ha, rfl⟩ := (decPV 1048576).slice a h1
  obtain ⟨ws, hw, rfl⟩ := (decWant 1048576).slice b h2
  obtain ⟨s, -, rfl⟩ := decS4 1048576 c h3
  refine ⟨⟨ags, ws, s⟩, ⟨⟨ha.len, hw.len, getD_leP (Q := fun v : List Part => v.length ≤ 1048576) ha.all (Nat.zero_le _), getD_leP (Q := fun w : Want => w.need.length ≤ 1048576) (fun w h => (hw.all w h).1) (Nat.zero_le _)⟩, getD_leP (Q := fun w : Want => i64B w.weight) (fun w h => (hw.all w h).2) (by unfold i64B; decide)⟩, rfl⟩
theorem decI (M : Nat) : Dec (.int .i64) M (fun n : Int => -9223372036854775808 ≤ n ∧ n ≤ 9223372036854775807) encI := (Dec.int M).one
def tdGrant : TD := .agg [.int .i64, .int .i64, .int .i64, .agg [.agg [.int .i64, .int .i64], .int .i64], .slice tdPart, .bool]
theorem decGrant (M : Nat) : Dec tdGrant M (fun g => g.off.length ≤ M) Gt.X := by
  rintro cs ⟨a, r1, rfl, h1, b, r2, rfl, h2, c, r3, rfl, h3, d, r4, rfl, ⟨d1, s1, rfl, ⟨e1, s2, rfl, k1, e2, s3, rfl, k2, k3⟩, d2, s4, rfl, k4, k5⟩, e, r5, rfl, h5, f, r6, rfl, h6, h7⟩
  obtain rfl := hasL_nil h7
  obtain rfl := hasL_nil k3
  obtain rfl := hasL_nil k5
  obtain ⟨x1, -, rfl⟩ := Dec.int M a h1
  obtain ⟨x2, -, rfl⟩ := Dec.int M b h2
  obtain ⟨x3, -, rfl⟩ := Dec.int M c h3
  obtain ⟨x4, -, rfl⟩ := Dec.int M e1 k1
  obtain ⟨x5, -, rfl⟩ := Dec.int M e2 k2
  obtain ⟨x6, -, rfl⟩ := Dec.int M d2 k4
  obtain ⟨l, hl, rfl⟩ := (decPart M).slice e h5
  obtain ⟨x7, -, rfl⟩ := Dec.bool M f h6
  exact ⟨⟨x1, x2, x3, x4, x5, x6, l, x7⟩, hl.len, rfl⟩
theorem hasAllT3 {M : Nat} {t1 t2 t3 : TD} : ∀ {css : List (List C)}, hasAllT M [t1, t2, t3] css → ∃ c1 c2 c3, css = [c1, c2, c3] ∧ t1.has M c1 ∧ t2.has M c2 ∧ t3.has M c3
  | [c1, c2, c3], h => ⟨c1, c2, c3, rfl, h.1, h.2.1, h.2.2.1⟩
theorem walkBE (css : List (List C)) (h : hasAllT 1048576 [tdProf, .slice (.int .i64), .slice tdGrant] css) : CRule Try.prog 10 (argsD [tdProf, .slice (.int .i64), .slice tdGrant] css) [] (.bool true) {} := by
  obtain ⟨c1, c2, c3, rfl, h1, h2, h3⟩ := hasAllT3 h
  obtain ⟨p, hp, rfl⟩ := decProf c1 h1
  obtain ⟨t, ht, rfl⟩ := (decI 1048576).slice c2 h2
  obtain ⟨g, hg, rfl⟩ := (decGrant 1048576).slice c3 h3
  exact x_BoundEnvy p hp.1 hp.2 t ht.len g hg.len (getD_leP (Q := fun g : Gt => g.off.length ≤ 1048576) hg.all (Nat.zero_le _)) cx0 List.nodup_nil rfl
theorem lifted_BoundEnvy (os : Os) (started : os.Started) (H : Type) (enc : TypeId × Value → H) (F : Stop.Interp) :
    ReturnsInHanded {} Try.checked os 10 .any ((Rows.OpenSpec.upto Rows.boundEnvySpec).pre6 enc Try.prog Try.f10 Rows.boundEnvyUptoRow.domain false) (((Rows.OpenSpec.upto Rows.boundEnvySpec).at F).post enc Try.prog Try.f10 false true false false) := by
  refine returnsInHanded_of_cond (C := Try.checked) (s := Rows.OpenSpec.upto Rows.boundEnvySpec) (k := Rows.uptoSmall) rfl own started (by kernel_rfl) Try.func10
    (OpenSpec.witness (enc := enc) (C := Try.checked) (s := Rows.OpenSpec.upto Rows.boundEnvySpec) (k := Rows.uptoSmall) rfl false ⟨#[], #[.agg #[.slice none 0 0, .slice none 0 0, .int .i64 0, .int .i64 0, .int .i64 0, .int .i64 0], .slice none 0 0, .slice none 0 0], []⟩ 8 (by kernel_rfl) (by kernel_rfl) (by kernel_rfl)
      (x := ([.agg [.nil, .nil, .agg [.lit (.int .i64 0), .lit (.int .i64 0), .lit (.int .i64 0), .lit (.int .i64 0)]], .nil, .nil], [], [])) (by kernel_rfl) rfl (by kernel_rfl)) ?_
  intro W base args ds gs before hval hW _ hk _
  have hgs : gs = [] := by
    obtain ⟨_, _, _, hV, _⟩ := hW
    exact (trodVars_none hV).1
  subst hgs
  refine said_core (tds := [tdProf, .slice (.int .i64), .slice tdGrant]) (tb := 4) (M := 1048576) (by decide) laidOut rowed full (by kernel_rfl) (by kernel_rfl) rfl (by kernel_rfl) rfl (fun ds h => ?_) (walkBE) base args ds [] before hval hW (by simpa [Rows.uptoSmall] using hk)
  match ds, h with
  | [d0, d1, d2], _ => rfl
theorem said_BoundEnvy : Rows.BoundEnvyUptoSaid :=
  OpenClaim.holds_of_cond 10 Try.f10 rfl rfl rfl rfl rfl rfl rfl ⟨rfl, rfl, rfl, rfl, rfl⟩ rfl rfl rfl rfl rfl (by kernel_rfl) Try.func10 (by kernel_rfl)
    (of_decide_eq_true (by kernel_rfl)) (by unfold Func.isWrapper; first | (rw [if_pos (by decide +kernel)]; kernel_rfl) | (rw [if_neg (by decide +kernel)]; exact ⟨rfl, rfl⟩))
    (fun os started H enc _ F => lifted_BoundEnvy os started H enc F)
end Go.Proofs.Ytddgcegimmcbgaa.Sy

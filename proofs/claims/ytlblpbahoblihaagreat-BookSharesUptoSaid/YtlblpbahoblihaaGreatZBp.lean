/-
  Books as arguments of laws. Plain theorems.
-/
import Derived.Test.YtlblpbahoblihaaGreatMd
import Derived.Test.YtlblpbahoblihaaGreatSyJd
import Derived.Test.YtlblpbahoblihaaGreatMh
set_option linter.unusedSimpArgs false
set_option linter.unusedSectionVars false
set_option maxRecDepth 100000
set_option linter.unusedVariables false
namespace Go.Proofs.YtlblpbahoblihaaGreat.Sy
open Go Go.Sy Go.Proofs.YtlblpbahoblihaaGreat Go.RowKit Go.ChangeShapes Go.WideShapes
def tdPart : TD := .agg [.int .i64, .int .i64, .int .i64]
theorem decPart (M : Nat) : Dec tdPart M (fun _ => True) Part.X := by
  rintro cs ⟨a, r1, rfl, h1, b, r2, rfl, h2, c, r3, rfl, h3, h4⟩
  obtain rfl := hasL_nil h4
  obtain ⟨x, -, rfl⟩ := Dec.int M a h1
  obtain ⟨y, -, rfl⟩ := Dec.int M b h2
  obtain ⟨z, -, rfl⟩ := Dec.int M c h3
  exact ⟨⟨x, y, z⟩, trivial, rfl⟩
def tdFrm : TD := .agg [.int .i64, .int .i64, .int .i64, .bool, .bool, .int .i64, .int .i64]
theorem decFrm (M : Nat) : Dec tdFrm M (fun _ => True) Frm.X := by
  rintro cs ⟨a, r1, rfl, h1, b, r2, rfl, h2, c, r3, rfl, h3, d, r4, rfl, h4, e, r5, rfl, h5, f, r6, rfl, h6, g, r7, rfl, h7, h8⟩
  obtain rfl := hasL_nil h8
  obtain ⟨x1, -, rfl⟩ := Dec.int M a h1
  obtain ⟨x2, -, rfl⟩ := Dec.int M b h2
  obtain ⟨x3, -, rfl⟩ := Dec.int M c h3
  obtain ⟨x4, -, rfl⟩ := Dec.bool M d h4
  obtain ⟨x5, -, rfl⟩ := Dec.bool M e h5
  obtain ⟨x6, -, rfl⟩ := Dec.int M f h6
  obtain ⟨x7, -, rfl⟩ := Dec.int M g h7
  exact ⟨⟨x1, x2, x3, x4, x5, x6, x7⟩, trivial, rfl⟩
def tdAgt : TD := .agg [.int .i64, .slice tdPart, .slice tdPart]
theorem decAgt (M : Nat) : Dec tdAgt M (fun a => a.total.length ≤ M ∧ a.free.length ≤ M) Agt.X := by
  rintro cs ⟨a, r1, rfl, h1, b, r2, rfl, h2, c, r3, rfl, h3, h8⟩
  obtain rfl := hasL_nil h8
  obtain ⟨x1, -, rfl⟩ := Dec.int M a h1
  obtain ⟨x2, k2, rfl⟩ := (decPart M).slice b h2
  obtain ⟨x3, k3, rfl⟩ := (decPart M).slice c h3
  exact ⟨⟨x1, x2, x3⟩, ⟨k2.len, k3.len⟩, rfl⟩
def tdOfr : TD := .agg [.int .i64, .int .i64, .int .i64, .slice tdPart, .int .i64]
theorem decOfr (M : Nat) : Dec tdOfr M (fun a => a.vec.length ≤ M) Ofr.X := by
  rintro cs ⟨a, r1, rfl, h1, b, r2, rfl, h2, c, r3, rfl, h3, d, r4, rfl, h4, e, r5, rfl, h5, h8⟩
  obtain rfl := hasL_nil h8
  obtain ⟨x1, -, rfl⟩ := Dec.int M a h1
  obtain ⟨x2, -, rfl⟩ := Dec.int M b h2
  obtain ⟨x3, -, rfl⟩ := Dec.int M c h3
  obtain ⟨x4, k4, rfl⟩ := (decPart M).slice d h4
  obtain ⟨x5, -, rfl⟩ := Dec.int M e h5
  exact ⟨⟨x1, x2, x3, x4, x5⟩, k4.len, rfl⟩
def tdTsk : TD := .agg [.int .i64, .int .i64, .int .i64, .slice tdPart]
theorem decTsk (M : Nat) : Dec tdTsk M (fun a => a.vec.length ≤ M) Tsk.X := by
  rintro cs ⟨a, r1, rfl, h1, b, r2, rfl, h2, c, r3, rfl, h3, d, r4, rfl, h4, h8⟩
  obtain rfl := hasL_nil h8
  obtain ⟨x1, -, rfl⟩ := Dec.int M a h1
  obtain ⟨x2, -, rfl⟩ := Dec.int M b h2
  obtain ⟨x3, -, rfl⟩ := Dec.int M c h3
  obtain ⟨x4, k4, rfl⟩ := (decPart M).slice d h4
  exact ⟨⟨x1, x2, x3, x4⟩, k4.len, rfl⟩
theorem decFlt (M : Nat) : Dec tdTsk M (fun a => a.vec.length ≤ M) Flt.X := by
  rintro cs ⟨a, r1, rfl, h1, b, r2, rfl, h2, c, r3, rfl, h3, d, r4, rfl, h4, h8⟩
  obtain rfl := hasL_nil h8
  obtain ⟨x1, -, rfl⟩ := Dec.int M a h1
  obtain ⟨x2, -, rfl⟩ := Dec.int M b h2
  obtain ⟨x3, -, rfl⟩ := Dec.int M c h3
  obtain ⟨x4, k4, rfl⟩ := (decPart M).slice d h4
  exact ⟨⟨x1, x2, x3, x4⟩, k4.len, rfl⟩
def tdCfg : TD := .agg [.int .i64, .int .i64, .int .i64, .int .i64, .int .i64, .arr 4 (.int .i64)]
theorem decCfg (M : Nat) : Dec tdCfg M (fun _ => True) Cfg.X := by
  rintro cs ⟨a, r1, rfl, h1, b, r2, rfl, h2, c, r3, rfl, h3, d, r4, rfl, h4, e, r5, rfl, h5, f, r6, rfl, ⟨rows, q1, rfl, q2⟩, h8⟩
  obtain rfl := hasL_nil h8
  obtain ⟨x1, -, rfl⟩ := Dec.int M a h1
  obtain ⟨x2, -, rfl⟩ := Dec.int M b h2
  obtain ⟨x3, -, rfl⟩ := Dec.int M c h3
  obtain ⟨x4, -, rfl⟩ := Dec.int M d h4
  obtain ⟨x5, -, rfl⟩ := Dec.int M e h5
  match rows, q1 with
  | [a, b, c, d], _ =>
    obtain ⟨y1, -, rfl⟩ := Dec.int M a (q2 _ (by simp))
    obtain ⟨y2, -, rfl⟩ := Dec.int M b (q2 _ (by simp))
    obtain ⟨y3, -, rfl⟩ := Dec.int M c (q2 _ (by simp))
    obtain ⟨y4, -, rfl⟩ := Dec.int M d (q2 _ (by simp))
    exact ⟨⟨x1, x2, x3, x4, x5, ⟨y1, y2, y3, y4⟩⟩, trivial, rfl⟩
def tdBook : TD := .agg [tdCfg, .int .i64, .int .i64, .slice tdFrm, .slice tdAgt, .slice tdOfr, .slice tdTsk, .slice tdTsk]
theorem getD_all {α : Type} [Inhabited α] {l : List α} {Q : α → Prop} (h : ∀ x ∈ l, Q x) (hd : Q default) (k : Nat) : Q (l.getD k default) := by
  by_cases hk : k < l.length
  · rw [getD_el hk]
    exact h _ (List.getElem_mem hk)
  · rw [List.getD_eq_getElem?_getD, List.getElem?_eq_none (by omega)]
    exact hd
theorem decBook : Dec tdBook 1048576 BkOk Bk.X := by
  rintro cs ⟨a, r1, rfl, h1, b, r2, rfl, h2, c, r3, rfl, h3, d, r4, rfl, h4, e, r5, rfl, h5, f, r6, rfl, h6, g, r7, rfl, h7, i, r8, rfl, h8, h9⟩
  obtain rfl := hasL_nil h9
  obtain ⟨x1, -, rfl⟩ := decCfg 1048576 a h1
  obtain ⟨x2, -, rfl⟩ := Dec.int 1048576 b h2
  obtain ⟨x3, -, rfl⟩ := Dec.int 1048576 c h3
  obtain ⟨x4, k4, rfl⟩ := (decFrm 1048576).slice d h4
  obtain ⟨x5, k5, rfl⟩ := (decAgt 1048576).slice e h5
  obtain ⟨x6, k6, rfl⟩ := (decOfr 1048576).slice f h6
  obtain ⟨x7, k7, rfl⟩ := (decTsk 1048576).slice g h7
  obtain ⟨x8, k8, rfl⟩ := (decFlt 1048576).slice i h8
  refine ⟨⟨x1, x2, x3, x4, x5, x6, x7, x8⟩, ⟨k4.len, k5.len, k6.len, k7.len, k8.len, ?_, ?_, ?_, ?_, ?_⟩, rfl⟩
  · exact getD_all (Q := fun a : Agt => a.total.length ≤ 1048576) (fun x hx => (k5.all x hx).1) (Nat.zero_le _)
  · exact getD_all (Q := fun a : Agt => a.free.length ≤ 1048576) (fun x hx => (k5.all x hx).2) (Nat.zero_le _)
  · exact getD_all (Q := fun a : Ofr => a.vec.length ≤ 1048576) k6.all (Nat.zero_le _)
  · exact getD_all (Q := fun a : Tsk => a.vec.length ≤ 1048576) k7.all (Nat.zero_le _)
  · exact getD_all (Q := fun a : Flt => a.vec.length ≤ 1048576) k8.all (Nat.zero_le _)
theorem hasAllT3 {M : Nat} {t1 t2 t3 : TD} : ∀ {css : List (List C)}, hasAllT M [t1, t2, t3] css → ∃ c1 c2 c3, css = [c1, c2, c3] ∧ t1.has M c1 ∧ t2.has M c2 ∧ t3.has M c3
  | [c1, c2, c3], h => ⟨c1, c2, c3, rfl, h.1, h.2.1, h.2.2.1⟩
end Go.Proofs.YtlblpbahoblihaaGreat.Sy
namespace Go.Proofs.YtlblpbahoblihaaGreat.Sy
open Go Go.Sy Go.Proofs.YtlblpbahoblihaaGreat Go.RowKit Go.ChangeShapes Go.WideShapes
theorem laidOut : laidOutB Tryz.prog = true := by kernel_rfl
theorem rowed : mapsRowed Tryz.prog = true := by kernel_rfl
theorem full : ((List.range Tryz.prog.types.size).all fun t => match Tryz.prog.underlying t with | some (.slice e) => decide (0 < Tryz.prog.cellsOf e) | _ => true) = true := by kernel_rfl
theorem own : ownKnob Tryz.prog.godebug = none := by kernel_rfl
theorem walkBP (css : List (List C)) (h : hasAllT 1048576 [tdBook, .int .i64, .int .i64] css) : CRule Tryz.prog 3 (argsD [tdBook, .int .i64, .int .i64] css) [] (.bool true) {} := by
  obtain ⟨c1, c2, c3, rfl, h1, h2, h3⟩ := hasAllT3 h
  obtain ⟨b, hb, rfl⟩ := decBook c1 h1
  obtain ⟨x, -, rfl⟩ := Dec.int 1048576 c2 h2
  obtain ⟨y, -, rfl⟩ := Dec.int 1048576 c3 h3
  exact x_BookShares b hb x y cx0 List.nodup_nil rfl
theorem lifted_BookShares (os : Os) (started : os.Started) (H : Type) (enc : TypeId × Value → H) (F : Stop.Interp) :
    ReturnsInHanded {} Tryz.checked os 3 .any ((Rows.OpenSpec.upto Rows.bookSharesSpec).pre6 enc Tryz.prog Tryz.f3 Rows.bookSharesUptoRow.domain false) (((Rows.OpenSpec.upto Rows.bookSharesSpec).at F).post enc Tryz.prog Tryz.f3 false true false false) := by
  refine returnsInHanded_of_cond (C := Tryz.checked) (s := Rows.OpenSpec.upto Rows.bookSharesSpec) (k := Rows.uptoSmall) rfl own started (by kernel_rfl) Tryz.func3
    (OpenSpec.witness (enc := enc) (C := Tryz.checked) (s := Rows.OpenSpec.upto Rows.bookSharesSpec) (k := Rows.uptoSmall) rfl false ⟨#[], #[.agg #[.int .i64 0, .int .i64 0, .int .i64 0, .int .i64 0, .int .i64 0, .int .i64 0, .int .i64 0, .int .i64 0, .int .i64 0, .int .i64 0, .int .i64 0, .slice none 0 0, .slice none 0 0, .slice none 0 0, .slice none 0 0, .slice none 0 0], .int .i64 0, .int .i64 0], []⟩ 8 (by kernel_rfl) (by kernel_rfl) (by kernel_rfl)
      (x := ([.agg [.agg [.lit (.int .i64 0), .lit (.int .i64 0), .lit (.int .i64 0), .lit (.int .i64 0), .lit (.int .i64 0), .agg [.lit (.int .i64 0), .lit (.int .i64 0), .lit (.int .i64 0), .lit (.int .i64 0)]], .lit (.int .i64 0), .lit (.int .i64 0), .nil, .nil, .nil, .nil, .nil], .lit (.int .i64 0), .lit (.int .i64 0)], [], [])) (by kernel_rfl) rfl (by kernel_rfl)) ?_
  intro W base args ds gs before hval hW _ hk _
  have hgs : gs = [] := by
    obtain ⟨_, _, _, hV, _⟩ := hW
    exact (trodVars_none hV).1
  subst hgs
  refine said_core (tds := [tdBook, .int .i64, .int .i64]) (tb := 4) (M := 1048576) (by decide) laidOut rowed full (by kernel_rfl) (by kernel_rfl) rfl (by kernel_rfl) rfl (fun ds h => ?_) (walkBP) base args ds [] before hval hW (by simpa [Rows.uptoSmall] using hk)
  match ds, h with
  | [d0, d1, d2], _ => rfl
theorem said_BookShares : Rows.BookSharesUptoSaid :=
  OpenClaim.holds_of_cond 3 Tryz.f3 rfl rfl rfl rfl rfl rfl rfl ⟨rfl, rfl, rfl, rfl, rfl⟩ rfl rfl rfl rfl rfl (by kernel_rfl) Tryz.func3 (by kernel_rfl)
    (of_decide_eq_true (by kernel_rfl)) (by unfold Func.isWrapper; first | (rw [if_pos (by decide +kernel)]; kernel_rfl) | (rw [if_neg (by decide +kernel)]; exact ⟨rfl, rfl⟩))
    (fun os started H enc _ F => lifted_BookShares os started H enc F)
end Go.Proofs.YtlblpbahoblihaaGreat.Sy

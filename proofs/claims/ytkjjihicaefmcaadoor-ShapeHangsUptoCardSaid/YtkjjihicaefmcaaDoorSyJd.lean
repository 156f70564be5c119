/-
  What cells of a kind are, as typed data. Plain theorems.
-/
import Derived.Test.YtkjjihicaefmcaaDoorSyJo
set_option linter.unusedVariables false
set_option linter.unusedSimpArgs false
set_option linter.unusedSectionVars false
namespace Go.Sy
open Go Go.RowKit Go.Proofs.YtkjjihicaefmcaaDoor
def Dec {α : Type} (td : TD) (M : Nat) (ok : α → Prop) (enc : Ar → α → List X) : Prop := ∀ cs, td.has M cs → ∃ a, ok a ∧ cs = X.toCL (enc Ar.real a)
def DecC {α : Type} (td : TD) (M : Nat) (ok : α → Prop) (enc : Ar → α → X) : Prop := ∀ cs, td.has M cs → ∃ a, ok a ∧ cs = [X.toC (enc Ar.real a)]
theorem Dec.rows {α : Type} [Inhabited α] {td : TD} {M : Nat} {ok : α → Prop} {enc : Ar → α → List X} (h : Dec td M ok enc) : ∀ rows : List (List C), (∀ row ∈ rows, td.has M row) → ∃ l : List α, l.length = rows.length ∧ (∀ a ∈ l, ok a) ∧ rows = l.map fun a => X.toCL (enc Ar.real a)
  | [], _ => ⟨[], rfl, fun a h => by simp at h, rfl⟩
  | r :: rows, hr => by
    obtain ⟨a, h1, h2⟩ := h r (hr r (by simp))
    obtain ⟨l, h3, h4, h5⟩ := Dec.rows h rows (fun x hx => hr x (by simp [hx]))
    refine ⟨a :: l, by simp [h3], fun x hx => ?_, by simp [h2, h5]⟩
    rcases List.mem_cons.1 hx with rfl | hx
    · exact h1
    · exact h4 x hx
structure OkL {α : Type} (M : Nat) (ok : α → Prop) (l : List α) : Prop where
  len : l.length ≤ M
  all : ∀ a ∈ l, ok a
theorem Dec.slice {α : Type} [Inhabited α] {td : TD} {M : Nat} {ok : α → Prop} {enc : Ar → α → List X} (h : Dec td M ok enc) : DecC (.slice td) M (OkL M ok) (fun o l => .ro (SL o enc l)) := by
  rintro cs ⟨rows, rfl, hl, hr⟩
  obtain ⟨l, h1, h2, h3⟩ := h.rows rows hr
  refine ⟨l, ⟨by omega, h2⟩, ?_⟩
  show [roL rows] = [roL (RR.rows (SL Ar.real enc l))]
  rw [rows_SL Ar.real rfl enc l, h3]
theorem DecC.one {α : Type} {td : TD} {M : Nat} {ok : α → Prop} {enc : Ar → α → X} (h : DecC td M ok enc) : Dec td M ok (fun o a => [enc o a]) := fun cs hc => by
  obtain ⟨a, h1, h2⟩ := h cs hc
  exact ⟨a, h1, by rw [h2]; rfl⟩
theorem Dec.int (M : Nat) : DecC (.int .i64) M (fun n : Int => -9223372036854775808 ≤ n ∧ n ≤ 9223372036854775807) (fun _ n => xi n) := by
  rintro cs ⟨n, rfl, hw⟩
  refine ⟨n, ?_, rfl⟩
  simp only [Lit.wf, decide_eq_true_eq] at hw
  have h1 : IntKind.i64.min = -9223372036854775808 := by decide
  have h2 : IntKind.i64.max = 9223372036854775807 := by decide
  first | (rw [h1, h2] at hw; exact hw) | (simp only [IntKind.inRange] at hw; omega) | (simp at hw; omega)
theorem Dec.bool (M : Nat) : DecC .bool M (fun _ : Bool => True) (fun _ b => xb b) := by
  rintro cs ⟨n, rfl⟩
  exact ⟨n, trivial, rfl⟩
theorem hasL_nil {M : Nat} {cs : List C} (h : TD.hasL M [] cs) : cs = [] := h
end Go.Sy

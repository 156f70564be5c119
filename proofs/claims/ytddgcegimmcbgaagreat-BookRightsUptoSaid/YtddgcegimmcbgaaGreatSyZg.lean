/-
  A function that is given a slice of none, nil or not, by its run. Plain theorems.
-/
import Derived.Test.YtddgcegimmcbgaaGreatSyZf
set_option linter.unusedVariables false
set_option linter.unusedSimpArgs false
set_option linter.unusedSectionVars false
namespace Go.Sy
open Go Go.RowKit
theorem run_eq_nil0 {P : Program} {t e : TypeId} (h : P.underlying t = some (.slice e)) (A : Option Addr) (c : Nat) (w : World) : (binOp .eql t (.slice A 0 c) (.slice none 0 0)).run P w = .ok (.bool A.isNone) w := by
  have h1 : (Op.equal t (.slice A 0 c) (.slice none 0 0)).run P w = .ok A.isNone w := by
    unfold Op.equal
    rw [show Op.maxDepth = 9999 + 1 from rfl, Op.equalIn]
    cases A <;> simp [run_underlying h]
  simp [binOp, eqGuard, h1]
theorem XC.empty {P : Program} {f : FuncId} (hC : ∀ (A : Option Addr) (c : Nat) (w : World), Calls P f #[.slice A 0 c] w fun e w' => ∃ A', e = .returned (.slice A' 0 0) ∧ (w' = w ∨ ∃ x, w' = w.alloc x)) : XC P f [.ro (.lits [])] [] (.ro (.lits [])) [] := by
  intro cx h1 h2 K ρ Z H w vs hS hrd hf hargs
  have hz : cx.ons.zip (List.map (OX.toOb cx) []) = [] := by simp
  rw [hz] at *
  obtain ⟨v, vs', rfl, hv, hnil⟩ := hargs.inv_cons
  have hnil : vs' = [] := hnil.inv_nil
  subst hnil
  have hv' : Rel ρ w Z (.ro 0 fun i => ([] : List (List C)).getD i []) v := hv
  cases hv' with
  | c hv' =>
    cases hv' with
    | ro A c sz us hn hnc hsz hA hc hr =>
      refine (hC A c w).mono fun en w' => ?_
      rintro ⟨A', rfl, hw⟩
      have hres : ∀ ρ' Z', Rel ρ' w' Z' (X.toD cx (.ro (.lits []))) (.slice A' 0 0) := fun ρ' Z' =>
        .c (.ro A' 0 0 (fun _ _ => undef) (Nat.zero_le _) (Nat.le_refl _) (fun i hi => absurd hi (Nat.not_lt_zero _)) (fun h => absurd h (Nat.lt_irrefl _)) (fun _ _ i hi => absurd hi (Nat.not_lt_zero _)) (fun i hi => absurd hi (Nat.not_lt_zero _)))
      rcases hw with rfl | ⟨x, rfl⟩
      · exact ⟨_, ρ, Z, rfl, hres _ _, hS, .refl _ _ _, fun n hn => .inl hn⟩
      · obtain ⟨hx, hm⟩ := hS.newZ (w' := w.alloc x) (x := x) rfl rfl rfl rfl
        exact ⟨_, ρ, _, rfl, hres _ _, hm, hx, fun n hn => .inl hn⟩
end Go.Sy

/-
  A nil slice as a row of none, at a loop. Plain theorems.
-/
import Derived.Test.YtkjjihicaefmcaaDoorSyZb
set_option linter.unusedVariables false
set_option linter.unusedSimpArgs false
set_option linter.unusedSectionVars false
namespace Go.Sy
open Go Go.RowKit
theorem Awp.coe {P : Program} {N : Nat} {Q : Exit → St → Prop} {c : Code} {env : Nat → D} {B : Heap} {n0 : Nat} {L : List (Option Ob)} {lv : Nat → Prop} (t : Nat)
    (h : Awp P N c Q ⟨upd env t (env t).coe, B, n0, L, lv⟩) : Awp P N c Q ⟨env, B, n0, L, lv⟩ := by
  intro K ρ Z a w hS
  refine h K ρ Z a w ⟨⟨hS.sat.tmps, hS.sat.defers, fun k => ?_, hS.sat.mem, hS.sat.live⟩, hS.Bok⟩
  have h1 := hS.sat.env k
  show Rel ρ w Z (upd env t (env t).coe k) _
  by_cases e : k = t
  · subst e
    rw [upd_same]
    exact Rel.coe h1
  · rw [upd_ne _ _ _ _ e]
    exact h1
theorem LoopN.coe {P : Program} {N : Nat} {c : Cx} {code : Code} {Q : Exit → Sx → Prop} {σ : Sx} (t : Nat)
    (h : LoopN P N c code Q ⟨putE σ.E t (getE σ.E t).coe, σ.L, σ.O⟩) : LoopN P N c code Q σ := by
  obtain ⟨h⟩ := h
  refine ⟨fun hc => ?_⟩
  have h' := h ⟨hc.len, hc.nod, hc.lt⟩
  refine Awp.coe t ?_
  have e : (Sx.toSt c ⟨putE σ.E t (getE σ.E t).coe, σ.L, σ.O⟩) = ⟨upd (σ.toSt c).env t ((σ.toSt c).env t).coe, (σ.toSt c).B, c.n0, (σ.toSt c).L, c.lv⟩ := by
    have h1 := env_put c σ (some t) (getE σ.E t).coe
    simp only [Sx.put, updO] at h1
    have h2 : ((getE σ.E t).coe).toD c = ((σ.toSt c).env t).coe := toD_coe c _
    simp only [Sx.toSt] at h2 ⊢
    rw [← h2]
    congr 1
  rw [e] at h'
  exact h'
end Go.Sy

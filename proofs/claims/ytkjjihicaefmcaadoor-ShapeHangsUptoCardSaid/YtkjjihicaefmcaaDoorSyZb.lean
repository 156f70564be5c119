/-
  At a loop's head an object may take an older name. Plain theorems.
-/
import Derived.Test.YtkjjihicaefmcaaDoorSyZa
import Derived.Test.YtkjjihicaefmcaaDoorSyKb
set_option linter.unusedVariables false
set_option linter.unusedSectionVars false
set_option linter.unusedSimpArgs false
namespace Go.Sy
open Go Go.RowKit
def keepE (b n : Nat) (p : Nat × X) : Nat × X := if p.2.nmB b n = true then p else (p.1, .junk)
def keepO (b n : Nat) : Option OX → Option OX
  | some ob => if ob.nmB b n = true then some ob else none
  | none => none
def Sx.down (σ : Sx) (t b v : Nat) (ob : OX) : Sx := ⟨(t, .own (.loc b) v) :: σ.E.map (keepE b σ.O.length), (σ.L.take b).map (keepO b σ.O.length) ++ [some ob], σ.O⟩
theorem getE_keep (b n : Nat) : ∀ (E : List (Nat × X)) (u : Nat), getE (E.map (keepE b n)) u = .junk ∨ (getE (E.map (keepE b n)) u = getE E u ∧ (getE E u).nmB b n = true)
  | [], u => .inl rfl
  | (k, x) :: l, u => by
    by_cases h : x.nmB b n = true
    · have e0 : keepE b n (k, x) = (k, x) := if_pos h
      rw [List.map_cons, e0]
      by_cases e : u = k
      · subst e
        simp only [getE, if_true]
        exact .inr ⟨trivial, h⟩
      · simp only [getE, e, if_false]
        exact getE_keep b n l u
    · have e0 : keepE b n (k, x) = (k, .junk) := if_neg h
      rw [List.map_cons, e0]
      by_cases e : u = k
      · subst e
        simp only [getE, if_true]
        exact .inl trivial
      · simp only [getE, e, if_false]
        exact getE_keep b n l u
inductive WkD (c : Cx) (τ : Sx) : Sx → Prop
  | wk {σ : Sx} (h : WkX c σ τ) : WkD c τ σ
  | down {σ : Sx} (t b j v : Nat) (ob : OX) (h1 : getE σ.E t = .own (.loc j) v) (h2 : σ.L.getD j none = some ob) (h3 : ob.nmB b σ.O.length = true) (h4 : b ≤ j) (h : WkD c τ (σ.down t b v ob)) : WkD c τ σ
theorem down_imp {c : Cx} {σ : Sx} (hc : c.Ok σ) {t b j v : Nat} {ob : OX} (h1 : getE σ.E t = .own (.loc j) v) (h2 : σ.L.getD j none = some ob) (h3 : ob.nmB b σ.O.length = true) (h4 : b ≤ j) : c.Ok (σ.down t b v ob) ∧ ImpS (σ.toSt c) ((σ.down t b v ob).toSt c) := by
  refine ⟨⟨hc.len, hc.nod, hc.lt⟩, rfl, rfl, fun K N ρ Z a w hS => ?_⟩
  have hjl : j < σ.L.length := by
    rcases Nat.lt_or_ge j σ.L.length with h | h
    · exact h
    · rw [List.getD_eq_getElem?_getD, List.getElem?_eq_none h] at h2; cases h2
  have hlen : (((σ.L.take b).map (keepO b σ.O.length)).map (Option.map (OX.toOb c))).length = b := by simp; omega
  have e : ((σ.down t b v ob).toSt c) = ⟨(σ.down t b v ob).env c, ovr c c.ons σ.O, c.n0, ((σ.L.take b).map (keepO b σ.O.length)).map (Option.map (OX.toOb c)) ++ [some (ob.toOb c)], c.lv⟩ := by
    simp only [Sx.toSt, Sx.down, List.map_append, List.map_cons, List.map_nil, Option.map_some]
  rw [e]
  have hO : σ.O.length = c.ons.length := hc.len
  refine SatS.down (L := σ.L.map (Option.map (OX.toOb c))) hS t j v (ob.toOb c) (by rw [hlen]; exact h4) ?_ ?_ ?_ ?_ ?_ ?_
  · rw [List.getD_eq_getElem?_getD, List.getElem?_map]
    rw [List.getD_eq_getElem?_getD, List.getElem?_eq_getElem hjl] at h2
    simp only [Option.getD_some] at h2
    rw [List.getElem?_eq_getElem hjl, h2]
    rfl
  · show (getE σ.E t).toD c = _
    rw [h1]
    rfl
  · rw [hlen]
    exact obB_nms hc.lt (by rw [← hO]; exact h3)
  · intro i o ho
    rw [hlen]
    have hi : i < b := by
      rcases Nat.lt_or_ge i b with h | h
      · exact h
      · rw [List.getD_eq_getElem?_getD, List.getElem?_eq_none (by rw [hlen]; exact h)] at ho; cases ho
    have hil : i < σ.L.length := by omega
    simp only [List.getD_eq_getElem?_getD, List.getElem?_map, List.getElem?_take, hi, if_true, List.getElem?_eq_getElem hil, Option.map_some, Option.getD_some] at ho ⊢
    generalize σ.L[i] = x at ho ⊢
    cases x with
    | none => simp [keepO] at ho
    | some y =>
      simp only [keepO] at ho
      split at ho
      · rename_i hy
        simp only [Option.map_some, Option.some.injEq] at ho
        subst ho
        exact ⟨rfl, obB_nms hc.lt (by rw [← hO]; exact hy)⟩
      · simp at ho
  · intro u hu
    have e1 : (σ.down t b v ob).env c u = (getE (σ.E.map (keepE b σ.O.length)) u).toD c := by
      simp only [Sx.env, Sx.down, getE, hu, if_false]
    rcases getE_keep b σ.O.length σ.E u with h | ⟨h, h'⟩
    · left
      rw [e1, h]
      rfl
    · right
      rw [e1, h, hlen]
      exact ⟨rfl, nmB_nms hc.lt _ (by rw [← hO]; exact h')⟩
  · rw [hlen]
    simp [Sx.env, Sx.down, getE, X.toD, Nm.at]
theorem WkD.imp {c : Cx} {σ τ : Sx} (h : WkD c τ σ) : c.Ok σ → c.Ok τ ∧ ImpS (σ.toSt c) (τ.toSt c) := by
  induction h with
  | wk h => exact fun hc => ⟨(h.weak hc).1, (h.weak hc).2.impS⟩
  | down t b j v ob h1 h2 h3 h4 _ ih =>
    intro hc
    obtain ⟨hc1, hi⟩ := down_imp hc h1 h2 h3 h4
    obtain ⟨hc2, hi2⟩ := ih hc1
    exact ⟨hc2, hi.trans hi2⟩
end Go.Sy

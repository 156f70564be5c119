/-
  Books, the document's answers: configs, numbers, whose a vector is. Plain theorems.
-/
import Derived.Test.YtpijibffjohikaaMe
set_option linter.unusedSectionVars false
set_option maxRecDepth 100000
set_option maxHeartbeats 8000000
set_option linter.unusedVariables false
set_option linter.unusedSimpArgs false
namespace Go.Proofs.Ytpijibffjohikaa.Sy
open Go Go.Sy Go.Proofs.Ytpijibffjohikaa
def ownB (v : List Part) (r : Int) : Bool := (nextAt (fun i => decide ((v.getD i default).role ≠ 0) && decide ((v.getD i default).role ≠ r)) 0 v.length).isNone && (decide (0 < v.length) && vecRight v)
end Go.Proofs.Ytpijibffjohikaa.Sy
namespace Go.Proofs.Ytpijibffjohikaa.Sy
open Go Go.Sy Go.Proofs.Ytpijibffjohikaa
end Go.Proofs.Ytpijibffjohikaa.Sy
namespace Go.Proofs.Ytpijibffjohikaa.Sy
open Go Go.Sy Go.Proofs.Ytpijibffjohikaa
theorem ownB_iff (v : List Part) (r : Int) : ownB v r = true ↔ (∀ p ∈ v, p.role = 0 ∨ p.role = r) ∧ 0 < v.length ∧ vecRight v = true := by
  unfold ownB
  rw [Bool.and_eq_true, Bool.and_eq_true, nextAt_isNone, decide_eq_true_eq]
  refine and_congr ⟨fun h p hp => ?_, fun h i hi => ?_⟩ Iff.rfl
  · obtain ⟨i, hi, rfl⟩ := List.mem_iff_getElem.1 hp
    have := h i hi
    rw [getD_el hi] at this
    by_cases h0 : v[i].role = 0
    · exact .inl h0
    · rw [decide_eq_true h0, Bool.true_and] at this
      exact .inr (Classical.byContradiction fun h1 => by
        have h2 := of_decide_eq_false this
        exact h2 h1)
  · rw [getD_el hi]
    rcases h _ (List.getElem_mem hi) with e | e
    · rw [decide_eq_false (fun h => h e)]
      rfl
    · rw [decide_eq_false (p := v[i].role ≠ r) (fun h => h e), Bool.and_false]
theorem only_iff (v : List Part) (r : Int) (h : vecRight v = true) : (onlyR v [0, r]).length = v.length ↔ ∀ p ∈ v, p.role = 0 ∨ p.role = r := by
  unfold onlyR
  rw [if_pos h, List.length_filter_eq_length_iff]
  simp [inR]
theorem held_own (b : Bk) (f a : Int) (v : List Part) : heldB b f a v = (decide (0 ≤ atFrame b.fr f) && (decide (0 ≤ atAgent b.ag a) && ownB v (b.fr.getD (atFrame b.fr f).toNat default).role)) := by
  unfold heldB
  congr 1
  congr 1
  rw [Bool.eq_iff_iff, ownB_iff, Bool.and_eq_true, Bool.and_eq_true, decide_eq_true_eq, decide_eq_true_eq]
  constructor
  · rintro ⟨h1, h2, h3⟩
    exact ⟨(only_iff v _ h2).1 h3, h1, h2⟩
  · rintro ⟨h1, h2, h3⟩
    exact ⟨h2, h3, (only_iff v _ h3).2 h1⟩
end Go.Proofs.Ytpijibffjohikaa.Sy
namespace Go.Proofs.Ytpijibffjohikaa.Sy
open Go Go.Sy Go.Proofs.Ytpijibffjohikaa
theorem atFrame_lt (l : List Frm) (f : Int) (h : 0 ≤ atFrame l f) : (atFrame l f).toNat < l.length := by
  have hsp := ixR_spec (fun x : Frm => decide (x.id = f)) l
  change (atFrame l f = -1 ∧ _) ∨ (∃ i, i < l.length ∧ atFrame l f = (i : Int) ∧ _) at hsp
  rcases hsp with ⟨e, _⟩ | ⟨i, h1, e, _⟩ <;> omega
end Go.Proofs.Ytpijibffjohikaa.Sy
namespace Go.Proofs.Ytpijibffjohikaa.Sy
open Go Go.Sy Go.Proofs.Ytpijibffjohikaa
end Go.Proofs.Ytpijibffjohikaa.Sy
namespace Go.Proofs.Ytpijibffjohikaa.Sy
open Go Go.Sy Go.Proofs.Ytpijibffjohikaa
theorem OfrOk_iff (b : Bk) (i : Nat) : OfrOk b i ↔ (0 ≤ atFrame b.fr (b.of.getD i default).frame ∧ 0 ≤ atAgent b.ag (b.of.getD i default).agent ∧ ownB (b.of.getD i default).vec (b.fr.getD (atFrame b.fr (b.of.getD i default).frame).toNat default).role = true) ∧ (b.fr.getD (atFrame b.fr (b.of.getD i default).frame).toNat default).up = true ∧
    1 ≤ (b.of.getD i default).id ∧ (b.of.getD i default).id ≤ b.last ∧ (0 < i → (b.of.getD (i - 1) default).id < (b.of.getD i default).id) ∧ (b.cfg.life = 0 → (b.of.getD i default).til = 0) ∧ (0 < b.cfg.life → b.now < (b.of.getD i default).til ∧ (b.of.getD i default).til ≤ b.now + b.cfg.life) := by
  have hf : ∀ f a v, 0 ≤ atFrame b.fr f ∧ 0 ≤ atAgent b.ag a ∧ ownB v (b.fr.getD (atFrame b.fr f).toNat default).role = true → heldF b f a v = b.fr.getD (atFrame b.fr f).toNat default := fun f a v h => by
    have ho := (ownB_iff v _).1 h.2.2
    exact if_pos ⟨h.1, h.2.1, ho.2.1, ho.2.2⟩
  constructor
  · intro k
    have h := k.held
    rw [held_own, Bool.and_eq_true, Bool.and_eq_true, decide_eq_true_eq, decide_eq_true_eq] at h
    have hu := k.up
    rw [hf _ _ _ h] at hu
    exact ⟨h, hu, k.id0, k.id1, k.asc, k.u0, k.u1⟩
  · rintro ⟨h, hu, c, d, e, f, g⟩
    refine ⟨?_, ?_, c, d, e, f, g⟩
    · rw [held_own, Bool.and_eq_true, Bool.and_eq_true, decide_eq_true_eq, decide_eq_true_eq]
      exact h
    · rw [hf _ _ _ h]
      exact hu
end Go.Proofs.Ytpijibffjohikaa.Sy
namespace Go.Proofs.Ytpijibffjohikaa.Sy
open Go Go.Sy Go.Proofs.Ytpijibffjohikaa
end Go.Proofs.Ytpijibffjohikaa.Sy
namespace Go.Proofs.Ytpijibffjohikaa.Sy
open Go Go.Sy Go.Proofs.Ytpijibffjohikaa
end Go.Proofs.Ytpijibffjohikaa.Sy
namespace Go.Proofs.Ytpijibffjohikaa.Sy
open Go Go.Sy Go.Proofs.Ytpijibffjohikaa
end Go.Proofs.Ytpijibffjohikaa.Sy

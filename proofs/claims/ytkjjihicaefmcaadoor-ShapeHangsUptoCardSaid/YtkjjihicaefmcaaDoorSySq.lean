/-
  A callee that leaves all that lay alone and makes new blocks: what it means for abstract states. Plain theorems.
-/
import Derived.Test.YtkjjihicaefmcaaDoorSySp
set_option linter.unusedVariables false
set_option linter.unusedSimpArgs false
set_option linter.unusedSectionVars false
namespace Go.Sy
open Go Go.RowKit Go.Sort
theorem HSat.below {K : Ctx} {ρ : Env} {Z : Nat → Prop} {H : Heap} {w w' : World} (h : HSat K ρ Z H w) (hb : Below w.heap.size w w') :
    Ext ρ Z w ρ (fun b => Z b ∨ (w.heap.size ≤ b ∧ b < w'.heap.size)) w' ∧ HSat K ρ (fun b => Z b ∨ (w.heap.size ≤ b ∧ b < w'.heap.size)) H w' := by
  have hold : ∀ b, b < w.heap.size → w'.heap[b]? = w.heap[b]? := fun b hb' => hb.block b hb'
  have hsz : w.heap.size ≤ w'.heap.size := hb.size
  refine ⟨⟨.refl _, fun b hb => .inl hb, fun b hb => hold b (h.Zlt b hb)⟩, ⟨hb.os.trans h.os, hb.tape.trans h.tape, hb.output.trans h.output, Nat.le_trans h.size hsz, fun b hb => .inl (h.Zmono b hb), fun b hb => ?_, fun b hb => (hold b (h.Zlt b (h.Zmono b hb))).trans (h.same b hb), fun n o ho => ?_, fun n o b ho hb => ?_, h.inj, h.bd⟩⟩
  · rcases hb with hb | hb
    · have := h.Zlt b hb; omega
    · exact hb.2
  · obtain ⟨h1, h2⟩ := h.obj n o ho
    exact ⟨h1, Ob.at_mono h2 (fun b hb => hold b (h.own n o b ho hb).2) (fun b hb => hold b (h.Zlt b hb)) (fun b hb => .inl hb) (.refl _) rfl rfl rfl⟩
  · have := h.own n o b ho hb
    refine ⟨fun hz => ?_, by omega⟩
    rcases hz with hz | hz
    · exact this.1 hz
    · omega
theorem rel_ownInts {ρ : Env} {Z : Nat → Prop} {w w' : World} {E : TypeId} {v : Value} {l : List Int} (h : w'.ownsRow w.heap.size E 1 v l.length (l.map (Value.int .i64))) (hm : l.length ≤ 1048576) :
    Rel ρ w' (fun b => Z b ∨ (w.heap.size ≤ b ∧ b < w'.heap.size)) (D.ro l.length fun i => [.v (.int .i64 (l.getD i 0))]) v := by
  have hmx : maxLen = 9223372036854775807 := rfl
  rcases h.2 with ⟨rfl, hn⟩ | ⟨g, cap, cur, rfl, hg0, hheap, hncap, hcapm, hsz, htake⟩
  · refine .c ?_
    rw [hn]
    exact .ro none 0 1 (fun _ _ => undef) (Nat.zero_le _) (Nat.le_refl _) (fun i hi => absurd hi (Nat.not_lt_zero _)) (fun h => absurd h (Nat.lt_irrefl _)) (fun _ _ i hi => absurd hi (Nat.not_lt_zero _)) (fun i hi => absurd hi (Nat.not_lt_zero _))
  · have hlt : g < w'.heap.size := by
      rcases Nat.lt_or_ge g w'.heap.size with h | h
      · exact h
      · rw [Array.getElem?_eq_none h] at hheap
        cases hheap
    refine .c (.ro (some ⟨g, 0, none⟩) cap 1 (fun i _ => .int .i64 (l.getD i 0)) (by omega) hncap (fun i hi => rfl) (fun _ => ⟨_, rfl, .inr ⟨hg0, hlt⟩, rfl⟩) (fun ad e i hi j hj => ?_) (fun i hi j hj => ?_))
    · cases e
      obtain rfl : j = 0 := by omega
      simp only [World.cell?, hheap, Nat.mul_one, Nat.add_zero, Nat.zero_add]
      have h9 := congrArg (fun z => z[i]?) htake
      simp only [Nat.mul_one] at h9
      rw [List.getElem?_take, if_pos hi, Array.getElem?_toList, List.getElem?_map] at h9
      rw [h9]
      simp [hi]
    · obtain rfl : j = 0 := by omega
      exact .v _
theorem ints_at {ρ : Env} {Z : Nat → Prop} {w : World} {H : Heap} {K : Ctx} (hS : HSat K ρ Z H w) {v : Value} {l : List Int} (h : Rel ρ w Z (D.ro l.length fun i => [.v (.int .i64 (l.getD i 0))]) v) :
    ((∃ A c, v = .slice A 0 c) ∧ l = []) ∨ ∃ b off cap, v = .slice (some ⟨b, off, none⟩) l.length cap ∧ b < w.heap.size ∧ ∀ j, j < l.length → w.cell? ⟨b, off + j, none⟩ = some (.int .i64 (l[j]?.getD 0)) := by
  cases h with
  | c h =>
    generalize hn : l.length = n at h
    cases h with
    | ro A c sz us hm hnc hsz hA hc hr =>
      rcases Nat.eq_zero_or_pos l.length with h0 | h0
      · have : l = [] := List.length_eq_zero_iff.1 h0
        subst this
        have hn0 : n = 0 := hn.symm
        subst hn0
        exact .inl ⟨⟨A, c, rfl⟩, rfl⟩
      · obtain ⟨ad, rfl, hz, hsp⟩ := hA (by omega)
        have hs1 : sz = 1 := (hsz 0 (by omega)).symm
        subst hs1
        obtain ⟨b, off, sp⟩ := ad
        have hsp' : sp = none := hsp
        subst hsp'
        refine .inr ⟨b, off, c, rfl, hS.Zlt b hz, fun j hj => ?_⟩
        have h1 := hc _ rfl j (by omega) 0 (by omega)
        have h2 := hr j (by omega) 0 (by omega)
        simp only [Nat.mul_one, Nat.add_zero] at h1
        rw [h1]
        generalize us j 0 = u at h2
        have h3 : CRel w Z (.v (.int .i64 (l.getD j 0))) u := h2
        cases h3
        rw [List.getD_eq_getElem?_getD]
theorem XC.empty2 {P : Program} {f : FuncId} (hC : ∀ (A : Option Addr) (c : Nat) (w : World), Calls P f #[.slice A 0 c] w fun e w' => ∃ A' c', e = .returned (.slice A' 0 c') ∧ (w' = w ∨ ∃ x, w' = w.alloc x)) : XC P f [.ro (.lits [])] [] (.ro (.lits [])) [] := by
  intro cx h1 h2 K ρ Z H w vs hS hrd hf hargs
  have hz : cx.ons.zip (List.map (OX.toOb cx) []) = [] := by simp
  rw [hz] at *
  obtain ⟨v, vs', rfl, hv, hnil⟩ := hargs.inv_cons
  have hnil : vs' = [] := hnil.inv_nil
  subst hnil
  have hv' : Rel ρ w Z (.ro 0 fun i => ([] : List (List C)).getD i []) v := hv
  cases hv' with
  | c hv' =>
    cases hv' with
    | ro A c sz us hn hnc hsz hA hc hr =>
      refine (hC A c w).mono fun en w' => ?_
      rintro ⟨A', c', rfl, hw⟩
      have hres : ∀ ρ' Z', Rel ρ' w' Z' (X.toD cx (.ro (.lits []))) (.slice A' 0 c') := fun ρ' Z' =>
        .c (.ro A' c' 0 (fun _ _ => undef) (Nat.zero_le _) (Nat.zero_le _) (fun i hi => absurd hi (Nat.not_lt_zero _)) (fun h => absurd h (Nat.lt_irrefl _)) (fun _ _ i hi => absurd hi (Nat.not_lt_zero _)) (fun i hi => absurd hi (Nat.not_lt_zero _)))
      rcases hw with rfl | ⟨x, rfl⟩
      · exact ⟨_, ρ, Z, rfl, hres _ _, hS, .refl _ _ _, fun n hn => .inl hn⟩
      · obtain ⟨hx, hm⟩ := hS.newZ (w' := w.alloc x) (x := x) rfl rfl rfl rfl
        exact ⟨_, ρ, _, rfl, hres _ _, hm, hx, fun n hn => .inl hn⟩
end Go.Sy

/-
  An object takes an older name; loops up to it. Plain theorems.
-/
import Derived.Test.YtkjjihicaefmcaaDoorSyKa
set_option linter.unusedVariables false
set_option linter.unusedSimpArgs false
set_option linter.unusedSectionVars false
namespace Go.Sy
open Go Go.RowKit
theorem Ob.at_ren {ρ ρ' : Env} {w : World} {Z : Nat → Prop} {n m : Nat} {o : Ob} (h : o.at_ ρ w Z n) (hρ : ρ.le ρ') (hbk : ρ'.blk m = ρ.blk n) (hvl : ρ'.val m = ρ.val n) (hvr : ρ'.ver m = ρ.ver n) : o.at_ ρ' w Z m := by
  have hw : ∀ b, Z b → w.heap[b]? = w.heap[b]? := fun _ _ => rfl
  have hZ : ∀ b, Z b → Z b := fun _ h => h
  cases o with
  | var cs T =>
    obtain ⟨vs, h1, h2⟩ := h
    exact ⟨vs, by rw [hbk]; exact h1, h2.mono hw hZ hρ⟩
  | row ver E sz l =>
    obtain ⟨hv, h0, xs, h1, h2⟩ := h
    refine ⟨hvr.trans hv, h0, xs, ?_, h2.mono hw hZ hρ⟩
    rw [hvl]
    exact h1
  | map ver ag m es =>
    obtain ⟨hv, ms, ck, h1, h0, h2, h3, h4, h5⟩ := h
    exact ⟨hvr.trans hv, ms, ck, by rw [hbk]; exact h1, hvl.trans h0, h2, h3, h4.mono hw hZ hρ, h5⟩
  | iter mp ver seen =>
    obtain ⟨hl, hle, since, sn, stepped, h1, h2⟩ := h
    have hlv := hρ.ver mp hl
    refine ⟨hρ.live mp hl, Nat.le_trans hle hlv, since, sn, stepped, by rw [hbk, hρ.blk mp hl]; exact h1, fun e => ?_⟩
    rw [hρ.val mp hl (by omega)]
    exact h2 (by omega)
theorem Ob.blk_ren {ρ ρ' : Env} {n m : Nat} (o : Ob) (hbk : ρ'.blk m = ρ.blk n) (hvl : ρ'.val m = ρ.val n) : o.blk ρ' m = o.blk ρ n := by
  cases o <;> simp only [Ob.blk, hbk, hvl]
structure ImpS (S S' : St) : Prop where
  n0 : S'.n0 = S.n0
  lv : S'.lv = S.lv
  imp : ∀ (K : Ctx) (N : Nat) (ρ : Env) (Z : Nat → Prop) (a : Act) (w : World), SatS K N ρ Z S a w → ∃ ρ', SatS K N ρ' Z S' a w ∧ ExtO S.n0 ρ Z w ρ' Z w
theorem Weak.impS {S S' : St} (h : Weak S S') : ImpS S S' := ⟨h.n0, h.lv, fun _ _ _ _ _ _ hS => hS.weak h⟩
theorem ImpS.trans {S S' S'' : St} (h : ImpS S S') (k : ImpS S' S'') : ImpS S S'' := by
  refine ⟨k.n0.trans h.n0, k.lv.trans h.lv, fun K N ρ Z a w hS => ?_⟩
  obtain ⟨ρ1, h1, x1⟩ := h.imp K N ρ Z a w hS
  obtain ⟨ρ2, h2, x2⟩ := k.imp K N ρ1 Z a w h1
  rw [h.n0] at x2
  exact ⟨ρ2, h2, x1.trans x2⟩
theorem SatS.down {K : Ctx} {N : Nat} {ρ : Env} {Z : Nat → Prop} {env env' : Nat → D} {B : Heap} {n0 : Nat} {L L0 : List (Option Ob)} {lv : Nat → Prop} {a : Act} {w : World} (h : SatS K N ρ Z ⟨env, B, n0, L, lv⟩ a w)
    (t j v : Nat) (ob : Ob) (hj : L0.length ≤ j) (hob : L.getD j none = some ob) (ht : env t = .own (n0 + j) v) (hnm : ob.nms (n0 + L0.length))
    (hL : ∀ i o, L0.getD i none = some o → L.getD i none = some o ∧ o.nms (n0 + L0.length))
    (he : ∀ u, u ≠ t → env' u = .junk ∨ (env' u = env u ∧ (env u).nms (n0 + L0.length))) (he' : env' t = .own (n0 + L0.length) v) :
    ∃ ρ', SatS K N ρ' Z ⟨env', B, n0, L0 ++ [some ob], lv⟩ a w ∧ ExtO n0 ρ Z w ρ' Z w := by
  let nm := n0 + L0.length
  let jm := n0 + j
  have hm := h.sat.mem
  have hget0 : ∀ (k : Nat) (o : Ob), k < nm → (if k < n0 then B k else L0.getD (k - n0) none) = some o → St.get ⟨env, B, n0, L, lv⟩ k = some o ∧ o.nms nm := fun k o hk ho => by
    show (if k < n0 then B k else L.getD (k - n0) none) = some o ∧ _
    by_cases h1 : k < n0
    · simp only [h1, if_true] at ho ⊢
      exact ⟨ho, Ob.nms_mono (b := n0) (b' := nm) (Nat.le_add_right _ _) (h.Bok k o ho).2⟩
    · simp only [h1, if_false] at ho ⊢
      exact hL _ _ ho
  have hgj : St.get ⟨env, B, n0, L, lv⟩ jm = some ob := by
    show (if n0 + j < n0 then B (n0 + j) else L.getD (n0 + j - n0) none) = some ob
    rw [if_neg (by omega), Nat.add_sub_cancel_left]
    exact hob
  obtain ⟨hlj, haj⟩ := hm.obj jm ob hgj
  let ρc : Env := ρ.cut nm
  let ρ1 : Env := { live := fun k => (ρ.live k ∧ k < nm) ∨ k = nm, blk := upd ρ.blk nm (ρ.blk jm), val := upd ρ.val nm (ρ.val jm), ver := upd ρ.ver nm (ρ.ver jm) }
  have hne : ∀ k, ρc.live k → k ≠ nm := fun k hl e => by have := hl.2; omega
  have hle : ρc.le ρ1 := ⟨fun k hl => .inl hl, fun k hl => upd_ne _ _ _ _ (hne k hl), fun k hl => by show ρ.ver k ≤ upd ρ.ver nm _ k; rw [upd_ne _ _ _ _ (hne k hl)]; exact Nat.le_refl _, fun k hl _ => upd_ne _ _ _ _ (hne k hl)⟩
  have hb1 : ρ1.blk nm = ρ.blk jm := upd_same _ _ _
  have hv1 : ρ1.val nm = ρ.val jm := upd_same _ _ _
  have hr1 : ρ1.ver nm = ρ.ver jm := upd_same _ _ _
  have hget : (St.get ⟨env', B, n0, L0 ++ [some ob], lv⟩) = upd (St.get ⟨env', B, n0, L0, lv⟩) nm (some ob) := St.get_new1 ⟨env', B, n0, L0, lv⟩ ob
  have hlt : ∀ (k : Nat) (o : Ob), k ≠ nm → (St.get ⟨env', B, n0, L0, lv⟩) k = some o → k < nm := fun k o hk ho => by
    rcases Nat.lt_or_ge k nm with h1 | h1
    · exact h1
    · have ho' : (if k < n0 then B k else L0.getD (k - n0) none) = some o := ho
      rw [if_neg (by omega), List.getD_eq_getElem?_getD, List.getElem?_eq_none (by omega)] at ho'
      cases ho'
  have hold : ∀ (k : Nat) (o : Ob), k ≠ nm → upd (St.get ⟨env', B, n0, L0, lv⟩) nm (some ob) k = some o → k < nm ∧ St.get ⟨env, B, n0, L, lv⟩ k = some o ∧ o.nms nm := fun k o hk ho => by
    rw [upd_ne _ _ _ _ hk] at ho
    have h1 := hlt k o hk ho
    exact ⟨h1, hget0 k o h1 ho⟩
  have hnew : ∀ (k : Nat) (o : Ob), k = nm → upd (St.get ⟨env', B, n0, L0, lv⟩) nm (some ob) k = some o → o = ob := fun k o hk ho => by
    subst hk
    rw [upd_same] at ho
    cases ho
    rfl
  have hbk : ∀ (k : Nat) (o : Ob), k ≠ nm → o.blk ρ1 k = o.blk ρ k := fun k o hk => Ob.blk_ren o (upd_ne _ _ _ _ hk) (upd_ne _ _ _ _ hk)
  refine ⟨ρ1, ⟨⟨h.sat.tmps, h.sat.defers, fun u => ?_, ?_, fun k hk => ?_⟩, h.Bok⟩, ⟨fun n hn hl => ⟨.inl ⟨hl, by omega⟩, upd_ne _ _ _ _ (by omega), Nat.le_of_eq (upd_ne _ _ _ _ (by omega)).symm, fun _ => upd_ne _ _ _ _ (by omega)⟩, fun _ h => h, fun _ _ => rfl⟩⟩
  · show Rel ρ1 w Z (env' u) _
    by_cases e : u = t
    · subst e
      rw [he']
      have hr : Rel ρ w Z (.own jm v) (a.tmps.getD u undef) := by have := h.sat.env u; rw [show (St.toG ⟨env, B, n0, L, lv⟩).env u = env u from rfl, ht] at this; exact this
      generalize a.tmps.getD u undef = val at hr
      cases hr with
      | own A l c h1 h2 h3 => exact .own A l c (.inr rfl) (by rw [hr1]; exact h2) (fun e => by rw [hv1]; exact h3 (by rw [e, hr1]))
    · rcases he u e with e1 | ⟨e1, e2⟩
      · rw [e1]; exact .junk _
      · rw [e1]
        exact ((h.sat.env u).cut e2).mono (fun _ _ => rfl) (fun _ h => h) hle
  · show HSat K ρ1 Z (St.get ⟨env', B, n0, L0 ++ [some ob], lv⟩) w
    rw [hget]
    refine ⟨hm.os, hm.tape, hm.output, hm.size, hm.Zmono, hm.Zlt, hm.same, fun k o hk => ?_, fun k o b hk hb' => ?_, fun k k' o o' b h1 h2 b1 b2 => ?_, ?_⟩
    · by_cases e' : k = nm
      · rw [hnew k o e' hk]
        subst e'
        exact ⟨.inr rfl, Ob.at_ren (Ob.at_cut haj hnm) hle hb1 hv1 hr1⟩
      · obtain ⟨g1, g2, g3⟩ := hold k o e' hk
        obtain ⟨o1, o2⟩ := hm.obj k o g2
        exact ⟨.inl ⟨o1, g1⟩, Ob.at_ren (Ob.at_cut o2 g3) hle (upd_ne _ _ _ _ e') (upd_ne _ _ _ _ e') (upd_ne _ _ _ _ e')⟩
    · by_cases e' : k = nm
      · rw [hnew k o e' hk] at hb'
        subst e'
        rw [Ob.blk_ren ob hb1 hv1] at hb'
        exact hm.own jm ob b hgj hb'
      · rw [hbk k o e'] at hb'
        exact hm.own k o b (hold k o e' hk).2.1 hb'
    · have key : ∀ (k : Nat) (o : Ob), k ≠ nm → upd (St.get ⟨env', B, n0, L0, lv⟩) nm (some ob) k = some o → o.blk ρ1 k = some b → ob.blk ρ1 nm = some b → False := fun k o e hk hb1' hb2' => by
        obtain ⟨g1, g2, g3⟩ := hold k o e hk
        rw [hbk k o e] at hb1'
        rw [Ob.blk_ren ob hb1 hv1] at hb2'
        have := hm.inj k jm o ob b g2 hgj hb1' hb2'
        have h3 : nm ≤ jm := Nat.add_le_add_left hj n0
        omega
      by_cases e1 : k = nm
      · by_cases e2 : k' = nm
        · exact e1.trans e2.symm
        · rw [hnew k o e1 h1, e1] at b1
          exact (key k' o' e2 h2 b2 b1).elim
      · by_cases e2 : k' = nm
        · rw [hnew k' o' e2 h2, e2] at b2
          exact (key k o e1 h1 b1 b2).elim
        · rw [hbk k o e1] at b1
          rw [hbk k' o' e2] at b2
          exact hm.inj k k' o o' b (hold k o e1 h1).2.1 (hold k' o' e2 h2).2.1 b1 b2
    · refine ⟨nm + 1, fun k hk => ?_⟩
      rcases hk with hk | hk
      · have := hk.2; omega
      · omega
  · show (k < n0 → lv k) ∧ k < n0 + (L0 ++ [some ob]).length
    simp only [List.length_append, List.length_cons, List.length_nil]
    rcases hk with hk | hk
    · exact ⟨(h.sat.live k hk.1).1, by have h2 : k < n0 + L0.length := hk.2; omega⟩
    · have : k = n0 + L0.length := hk
      exact ⟨fun h' => by omega, by omega⟩
end Go.Sy

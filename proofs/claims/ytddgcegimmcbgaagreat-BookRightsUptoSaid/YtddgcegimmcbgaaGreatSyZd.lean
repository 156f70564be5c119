/-
  A nil slice in a variable's cell, as a row of the call's own. Plain theorems.
-/
import Derived.Test.YtddgcegimmcbgaaGreatSyZc
set_option linter.unusedVariables false
set_option linter.unusedSimpArgs false
set_option linter.unusedSectionVars false
namespace Go.Sy
open Go Go.RowKit
theorem RelL.set {ρ : Env} {w : World} {Z : Nat → Prop} {l : List D} {vs : List Value} (h : RelL ρ w Z l vs) {j : Nat} {d d' : D} (hj : l[j]? = some d) (hd : ∀ v, Rel ρ w Z d v → Rel ρ w Z d' v) : RelL ρ w Z (l.set j d') vs := by
  obtain ⟨h1, h2⟩ := h
  refine ⟨by rw [List.length_set]; exact h1, fun i hi => ?_⟩
  have h3 := h2 i hi
  rw [List.getD_eq_getElem?_getD, List.getElem?_set]
  split
  · rename_i e
    subst e
    rw [List.getD_eq_getElem?_getD, hj] at h3
    have hjl : j < l.length := by omega
    first
      | (rw [if_pos hjl]; exact hd _ h3)
      | exact hd _ h3
  · rw [← List.getD_eq_getElem?_getD]
    exact h3
theorem SatS.ghostv {K : Ctx} {N : Nat} {ρ : Env} {Z : Nat → Prop} {env : Nat → D} {B : Heap} {n0 : Nat} {L : List (Option Ob)} {lv : Nat → Prop} {a : Act} {w : World} (h : SatS K N ρ Z ⟨env, B, n0, L, lv⟩ a w) (i j E sz T : Nat) (cs : List D) (hi : L[i]? = some (some (.var cs T))) (hj : cs[j]? = some (.v (.slice none 0 0))) :
    ∃ ρ', SatS K N ρ' Z ⟨env, B, n0, L.set i (some (.var (cs.set j (.own (n0 + L.length) 0)) T)) ++ [some (.row 0 E sz [])], lv⟩ a w ∧ ExtO n0 ρ Z w ρ' Z w := by
  let nm := n0 + L.length
  let ob' : Ob := .var (cs.set j (.own nm 0)) T
  have hil : i < L.length := by
    apply Classical.byContradiction
    intro hn
    rw [List.getElem?_eq_none (by omega)] at hi
    cases hi
  have hn : ¬ ρ.live nm := fun hl => by have := (h.sat.live nm hl).2; exact Nat.lt_irrefl _ this
  have hne : ∀ k, ρ.live k → k ≠ nm := fun k hl e => hn (e ▸ hl)
  let ρ1 : Env := { live := fun k => ρ.live k ∨ k = nm, blk := ρ.blk, val := upd ρ.val nm (.slice none 0 0), ver := upd ρ.ver nm 0 }
  have hle : ρ.le ρ1 := ⟨fun k hl => .inl hl, fun _ _ => rfl, fun k hl => by show ρ.ver k ≤ upd ρ.ver nm 0 k; rw [upd_ne _ _ _ _ (hne k hl)]; exact Nat.le_refl _, fun k hl _ => upd_ne _ _ _ _ (hne k hl)⟩
  have hx1 : Ext ρ Z w ρ1 Z w := ⟨hle, fun _ h => h, fun _ _ => rfl⟩
  have hm := h.sat.mem
  have hg0 : St.get ⟨env, B, n0, L, lv⟩ (n0 + i) = some (.var cs T) := by
    simp only [St.get]
    rw [if_neg (by omega), show n0 + i - n0 = i by omega, List.getD_eq_getElem?_getD, hi]
    rfl
  have hne0 : n0 + i ≠ nm := by show n0 + i ≠ n0 + L.length; omega
  have hget : (St.get ⟨env, B, n0, L.set i (some ob') ++ [some (.row 0 E sz [])], lv⟩) = upd (upd (St.get ⟨env, B, n0, L, lv⟩) (n0 + i) (some ob')) nm (some (Ob.row 0 E sz [])) := by
    have h1 := St.get_new1 ⟨env, B, n0, L.set i (some ob'), lv⟩ (.row 0 E sz [])
    have h2 := St.get_set1 ⟨env, B, n0, L, lv⟩ (n0 + i) ob' _ hg0
    have h3 : St.set1 ⟨env, B, n0, L, lv⟩ (n0 + i) ob' = ⟨env, B, n0, L.set i (some ob'), lv⟩ := by
      unfold St.set1
      dsimp only
      rw [if_neg (by omega), show n0 + i - n0 = i by omega]
    rw [h3] at h2
    rw [h2] at h1
    have h4 : n0 + (L.set i (some ob')).length = nm := by rw [List.length_set]
    dsimp only at h1
    rw [h4] at h1
    exact h1
  have hkeep : ∀ (k : Nat) (ob : Ob), St.get ⟨env, B, n0, L, lv⟩ k = some ob → ob.blk ρ1 k = ob.blk ρ k := fun k ob hk => by
    have e2 : ρ1.val k = ρ.val k := upd_ne _ _ _ _ (hne k (hm.obj k ob hk).1)
    cases ob <;> simp only [Ob.blk] <;> first | rfl | rw [e2]
  -- what was there before
  have back : ∀ (k : Nat) (ob : Ob), k ≠ nm → upd (upd (St.get ⟨env, B, n0, L, lv⟩) (n0 + i) (some ob')) nm (some (Ob.row 0 E sz [])) k = some ob → ∃ ob0, St.get ⟨env, B, n0, L, lv⟩ k = some ob0 ∧ ob.blk ρ1 k = ob0.blk ρ k ∧ (k ≠ n0 + i → ob0 = ob) ∧ (k = n0 + i → ob = ob') := by
    intro k ob hk hob
    rw [upd_ne _ _ _ _ hk] at hob
    by_cases e : k = n0 + i
    · subst e
      rw [upd_same] at hob
      cases hob
      exact ⟨_, hg0, rfl, fun h => absurd rfl h, fun _ => rfl⟩
    · rw [upd_ne _ _ _ _ e] at hob
      exact ⟨ob, hob, hkeep k ob hob, fun _ => rfl, fun h => absurd h e⟩
  have nob : ∀ (k : Nat) (ob : Ob) (b : Nat), k = nm → upd (upd (St.get ⟨env, B, n0, L, lv⟩) (n0 + i) (some ob')) nm (some (Ob.row 0 E sz [])) k = some ob → ob.blk ρ1 k = some b → False := fun k ob b e' hk hb' => by
    subst e'
    rw [upd_same] at hk
    cases hk
    have : ρ1.val nm = .slice none 0 0 := upd_same _ _ _
    simp [Ob.blk, this, Value.ownBlock] at hb'
  refine ⟨ρ1, ⟨⟨h.sat.tmps, h.sat.defers, fun k => (h.sat.env k).mono (fun _ _ => rfl) (fun _ h => h) hle, ?_, fun k hk => ?_⟩, h.Bok⟩, .of hx1⟩
  · show HSat K ρ1 Z (St.get ⟨env, B, n0, L.set i (some ob') ++ [some (.row 0 E sz [])], lv⟩) w
    rw [hget]
    refine ⟨hm.os, hm.tape, hm.output, hm.size, hm.Zmono, hm.Zlt, hm.same, fun k ob hk => ?_, fun k ob b hk hb' => ?_, fun k k' ob ob2 b h1 h2 b1 b2 => ?_, ?_⟩
    · by_cases e' : k = nm
      · subst e'
        rw [upd_same] at hk
        cases hk
        refine ⟨.inr rfl, upd_same _ _ _, by simp, [], ?_, .nil⟩
        have : ρ1.val nm = .slice none 0 0 := upd_same _ _ _
        rw [this]
        exact World.ownsRow_nil w 0 E sz
      · obtain ⟨ob0, g0, _, g2, g3⟩ := back k ob e' hk
        obtain ⟨o1, o2⟩ := hm.obj k ob0 g0
        have o3 := Ob.at_mono (ρ' := ρ1) (w' := w) (Z' := Z) o2 (fun _ _ => rfl) (fun _ _ => rfl) (fun _ h => h) hle rfl (upd_ne _ _ _ _ e') (upd_ne _ _ _ _ e')
        by_cases e : k = n0 + i
        · subst e
          rw [hg0] at g0
          cases g0
          obtain rfl := g3 rfl
          obtain ⟨vs, v1, v2⟩ := o3
          refine ⟨.inl o1, vs, v1, v2.set hj fun v hv => ?_⟩
          rw [hv.inv_v]
          exact .own none 0 0 (.inr rfl) (Nat.zero_le _) (fun _ => (upd_same ρ.val nm _).symm)
        · obtain rfl := g2 e
          exact ⟨.inl o1, o3⟩
    · by_cases e' : k = nm
      · exact (nob k ob b e' hk hb').elim
      · obtain ⟨ob0, g0, g1, _⟩ := back k ob e' hk
        rw [g1] at hb'
        exact hm.own k ob0 b g0 hb'
    · by_cases e1 : k = nm
      · exact (nob k ob b e1 h1 b1).elim
      · by_cases e2 : k' = nm
        · exact (nob k' ob2 b e2 h2 b2).elim
        · obtain ⟨oa, g0, g1, _⟩ := back k ob e1 h1
          obtain ⟨ob3, g2, g3, _⟩ := back k' ob2 e2 h2
          rw [g1] at b1
          rw [g3] at b2
          exact hm.inj k k' oa ob3 b g0 g2 b1 b2
    · obtain ⟨nx, hnx⟩ := hm.bd
      refine ⟨max nx (nm + 1), fun k hk => ?_⟩
      rcases hk with hk | hk
      · have := hnx k hk; omega
      · omega
  · show (k < n0 → lv k) ∧ k < n0 + (L.set i (some ob') ++ [some (Ob.row 0 E sz [])]).length
    simp only [List.length_append, List.length_cons, List.length_nil, List.length_set]
    rcases hk with hk | hk
    · have := h.sat.live k hk
      exact ⟨this.1, by have h2 : k < n0 + L.length := this.2; omega⟩
    · have : k = n0 + L.length := hk
      exact ⟨fun h' => by omega, by omega⟩
theorem Awp.ghostv {P : Program} {N : Nat} {Q : Exit → St → Prop} {c : Code} {env : Nat → D} {B : Heap} {n0 : Nat} {L : List (Option Ob)} {lv : Nat → Prop} (i j E sz T : Nat) (cs : List D) (hi : L[i]? = some (some (.var cs T))) (hj : cs[j]? = some (.v (.slice none 0 0)))
    (h : Awp P N c Q ⟨env, B, n0, L.set i (some (.var (cs.set j (.own (n0 + L.length) 0)) T)) ++ [some (.row 0 E sz [])], lv⟩) : Awp P N c Q ⟨env, B, n0, L, lv⟩ := by
  intro K ρ Z a w hS
  obtain ⟨ρ', hS', hx⟩ := hS.ghostv i j E sz T cs hi hj
  refine wp_mono (h K ρ' Z a w hS') fun e a1 w1 hp => ?_
  obtain ⟨S1, ρ1, Z1, q, e0, e1, hs, hx1⟩ := hp
  exact ⟨S1, ρ1, Z1, q, e0, e1, hs, hx.trans hx1⟩
theorem LoopN.ghostv {P : Program} {N : Nat} {c : Cx} {code : Code} {Q : Exit → Sx → Prop} {σ : Sx} (i j E sz T : Nat) (xs : List X) (hi : σ.L[i]? = some (some (.var xs T))) (hj : xs[j]? = some (.v (.slice none 0 0)))
    (h : LoopN P N c code Q ⟨σ.E, σ.L.set i (some (.var (xs.set j (.own (.loc σ.L.length) 0)) T)) ++ [some (.row 0 E sz (.lits []))], σ.O⟩) : LoopN P N c code Q σ := by
  obtain ⟨h⟩ := h
  refine ⟨fun hc => ?_⟩
  have h' := h ⟨hc.len, hc.nod, hc.lt⟩
  refine Awp.ghostv (env := (σ.toSt c).env) (B := (σ.toSt c).B) (n0 := c.n0) (L := (σ.toSt c).L) (lv := c.lv) i j E sz T (X.toDL c xs) ?_ ?_ ?_
  · simp only [Sx.toSt, List.getElem?_map, hi]
    rfl
  · rw [toDL_eq, List.getElem?_map, hj]
    rfl
  · have e : (Sx.toSt c ⟨σ.E, σ.L.set i (some (.var (xs.set j (.own (.loc σ.L.length) 0)) T)) ++ [some (.row 0 E sz (.lits []))], σ.O⟩) = ⟨(σ.toSt c).env, (σ.toSt c).B, c.n0, (σ.toSt c).L.set i (some (.var ((X.toDL c xs).set j (.own (c.n0 + (σ.toSt c).L.length) 0)) T)) ++ [some (.row 0 E sz [])], c.lv⟩ := by
      simp only [Sx.toSt, List.map_append, List.map_cons, List.map_nil, Option.map_some, OX.toOb, RR.rows, X.toCLL, List.length_map, List.map_set, toDL_eq]
      congr 1
    rw [e] at h'
    exact h'
end Go.Sy

/-
  A row of the call's own that lies in a variable's cell, handed to a callee by value: nobody writes to it any more. Plain theorems.
-/
import Derived.Test.YtkjjihicaefmcaaDoorSyZd
set_option linter.unusedVariables false
set_option linter.unusedSimpArgs false
set_option linter.unusedSectionVars false
namespace Go.Sy
open Go Go.RowKit
theorem SatS.fzo {K : Ctx} {N : Nat} {ρ : Env} {Z : Nat → Prop} {c : Cx} {σ : Sx} {a : Act} {w : World} (hS : SatS K N ρ Z (σ.toSt c) a w) (hc : c.Ok σ) (i : Nat) {ver E sz : Nat} {r : RR} (h1 : σ.L.getD i none = some (.row ver E sz r)) :
    ∃ Z', SatS K N ρ Z' ((σ.fz i r []).toSt c) a w ∧ ExtO c.n0 ρ Z w ρ Z' w ∧ ∀ v, Rel ρ w Z' (X.toD c (.own (.loc i) ver)) v → Rel ρ w Z' (X.toD c (.ro r)) v := by
  have hg := toSt_get hc (n := .loc i) h1
  simp only [OX.toOb] at hg
  have hm := hS.sat.mem
  let Z' : Nat → Prop := fun b => Z b ∨ (ρ.val (c.n0 + i)).ownBlock = some b
  have hget : ∀ n o, ((σ.fz i r []).toSt c).get n = some o → (σ.toSt c).get n = some o ∧ n ≠ c.n0 + i := fun n o ho => by
    by_cases hn : n < c.n0
    · have e1 : ((σ.fz i r []).toSt c).get n = ovr c c.ons σ.O n := if_pos hn
      have e2 : (σ.toSt c).get n = ovr c c.ons σ.O n := if_pos hn
      rw [e2, ← e1]
      exact ⟨ho, by omega⟩
    · have e1 : ((σ.fz i r []).toSt c).get n = ((σ.L.set i none).map (Option.map (OX.toOb c))).getD (n - c.n0) none := if_neg hn
      have e2 : (σ.toSt c).get n = (σ.L.map (Option.map (OX.toOb c))).getD (n - c.n0) none := if_neg hn
      rw [e1] at ho
      rw [e2]
      simp only [List.getD_eq_getElem?_getD, List.getElem?_map, List.getElem?_set] at ho ⊢
      by_cases hi : i = n - c.n0
      · rw [if_pos hi] at ho
        split at ho <;> simp at ho
      · rw [if_neg hi] at ho
        exact ⟨ho, by omega⟩
  refine ⟨Z', ⟨⟨hS.sat.tmps, hS.sat.defers, fun t => ?_, ?_, fun n hl => ?_⟩, hS.Bok⟩, ⟨fun n _ hl => ⟨hl, rfl, Nat.le_refl _, fun _ => rfl⟩, fun b hb => .inl hb, fun _ _ => rfl⟩, fun v hv => ?_⟩
  · show Rel ρ w Z' ((getE σ.E t).toD c) _
    have hold : Rel ρ w Z ((getE σ.E t).toD c) (a.tmps.getD t undef) := hS.sat.env t
    exact hold.mono (fun _ _ => rfl) (fun b hb => .inl hb) (.refl _)
  · refine ⟨hm.os, hm.tape, hm.output, hm.size, fun b hb => .inl (hm.Zmono b hb), fun b hb => ?_, hm.same, fun n o ho => ?_, fun n o b ho hb => ?_, fun n m o o' b h3 h4 b1 b2 => ?_, hm.bd⟩
    · rcases hb with hb | hb
      · exact hm.Zlt b hb
      · exact (hm.own _ _ b hg hb).2
    · obtain ⟨g1, _⟩ := hget n o ho
      obtain ⟨o1, o2⟩ := hm.obj n o g1
      exact ⟨o1, Ob.at_mono o2 (fun _ _ => rfl) (fun _ _ => rfl) (fun b hb => .inl hb) (.refl _) rfl rfl rfl⟩
    · obtain ⟨g1, gne⟩ := hget n o ho
      have h9 := hm.own n o b g1 hb
      refine ⟨fun hz => ?_, h9.2⟩
      rcases hz with hz | hz
      · exact h9.1 hz
      · exact gne (hm.inj n _ o _ b g1 hg hb hz)
    · exact hm.inj n m o o' b (hget n o h3).1 (hget m o' h4).1 b1 b2
  · have := hS.sat.live n hl
    refine ⟨this.1, ?_⟩
    have h5 : n < c.n0 + (σ.L.map (Option.map (OX.toOb c))).length := this.2
    show n < c.n0 + ((σ.L.set i none).map _).length
    simpa using h5
  · simp only [X.toD] at hv ⊢
    refine own_ro hS (v := v) ?_ hg Z' (fun b hb => .inl hb) (fun b hb => .inr hb)
    cases hv with
    | own A l cp hl hle h => exact .own A l cp hl hle h
theorem SatS.cell {K : Ctx} {N : Nat} {ρ : Env} {Z : Nat → Prop} {env : Nat → D} {B : Heap} {n0 : Nat} {L : List (Option Ob)} {lv : Nat → Prop} {a : Act} {w : World} (h : SatS K N ρ Z ⟨env, B, n0, L, lv⟩ a w) (i j T : Nat) (cs : List D) (d d' : D) (hi : L[i]? = some (some (.var cs T))) (hj : cs[j]? = some d)
    (hd : ∀ v, Rel ρ w Z d v → Rel ρ w Z d' v) : SatS K N ρ Z ⟨env, B, n0, L.set i (some (.var (cs.set j d') T)), lv⟩ a w := by
  have hm := h.sat.mem
  have hg0 : St.get ⟨env, B, n0, L, lv⟩ (n0 + i) = some (.var cs T) := by
    simp only [St.get]
    rw [if_neg (by omega), show n0 + i - n0 = i by omega, List.getD_eq_getElem?_getD, hi]
    rfl
  have hget : (St.get ⟨env, B, n0, L.set i (some (.var (cs.set j d') T)), lv⟩) = upd (St.get ⟨env, B, n0, L, lv⟩) (n0 + i) (some (.var (cs.set j d') T)) := by
    have h2 := St.get_set1 ⟨env, B, n0, L, lv⟩ (n0 + i) (.var (cs.set j d') T) _ hg0
    have h3 : St.set1 ⟨env, B, n0, L, lv⟩ (n0 + i) (.var (cs.set j d') T) = ⟨env, B, n0, L.set i (some (.var (cs.set j d') T)), lv⟩ := by
      unfold St.set1
      dsimp only
      rw [if_neg (by omega), show n0 + i - n0 = i by omega]
    rw [h3] at h2
    exact h2
  have back : ∀ (k : Nat) (ob : Ob), upd (St.get ⟨env, B, n0, L, lv⟩) (n0 + i) (some (.var (cs.set j d') T)) k = some ob → ∃ ob0, St.get ⟨env, B, n0, L, lv⟩ k = some ob0 ∧ ob.blk ρ k = ob0.blk ρ k ∧ (k ≠ n0 + i → ob0 = ob) ∧ (k = n0 + i → ob = .var (cs.set j d') T) := by
    intro k ob hob
    by_cases e : k = n0 + i
    · subst e
      rw [upd_same] at hob
      cases hob
      exact ⟨_, hg0, rfl, fun h => absurd rfl h, fun _ => rfl⟩
    · rw [upd_ne _ _ _ _ e] at hob
      exact ⟨ob, hob, rfl, fun _ => rfl, fun h => absurd h e⟩
  refine ⟨⟨h.sat.tmps, h.sat.defers, h.sat.env, ?_, fun k hk => ?_⟩, h.Bok⟩
  · show HSat K ρ Z (St.get ⟨env, B, n0, L.set i (some (.var (cs.set j d') T)), lv⟩) w
    rw [hget]
    refine ⟨hm.os, hm.tape, hm.output, hm.size, hm.Zmono, hm.Zlt, hm.same, fun k ob hk => ?_, fun k ob b hk hb' => ?_, fun k k' ob ob2 b h1 h2 b1 b2 => ?_, hm.bd⟩
    · obtain ⟨ob0, g0, _, g2, g3⟩ := back k ob hk
      obtain ⟨o1, o2⟩ := hm.obj k ob0 g0
      by_cases e : k = n0 + i
      · subst e
        rw [hg0] at g0
        cases g0
        obtain rfl := g3 rfl
        obtain ⟨vs, v1, v2⟩ := o2
        exact ⟨o1, vs, v1, v2.set hj hd⟩
      · obtain rfl := g2 e
        exact ⟨o1, o2⟩
    · obtain ⟨ob0, g0, g1, _⟩ := back k ob hk
      rw [g1] at hb'
      exact hm.own k ob0 b g0 hb'
    · obtain ⟨oa, g0, g1, _⟩ := back k ob h1
      obtain ⟨ob3, g2, g3, _⟩ := back k' ob2 h2
      rw [g1] at b1
      rw [g3] at b2
      exact hm.inj k k' oa ob3 b g0 g2 b1 b2
  · have := h.sat.live k hk
    refine ⟨this.1, ?_⟩
    have h5 : k < n0 + L.length := this.2
    show k < n0 + (L.set i _).length
    rw [List.length_set]
    exact h5
theorem CallI.frzv {P : Program} {c : Cx} {f : FuncId} {args : List X} {σ : Sx} {kk : X → Sx → Prop} (i k jc pa ja : Nat) {ver E sz T : Nat} {r : RR} {xs ys : List X}
    (h1 : σ.L.getD i none = some (.row ver E sz r)) (h2 : (σ.L.set i none)[k]? = some (some (.var xs T))) (h3 : xs[jc]? = some (.own (.loc i) ver)) (h4 : args[pa]? = some (.agg ys)) (h5 : ys[ja]? = some (.own (.loc i) ver))
    (h : CallI P c f (args.set pa (.agg (ys.set ja (.ro r)))) ⟨σ.E, (σ.L.set i none).set k (some (.var (xs.set jc (.ro r)) T)), σ.O⟩ kk) : CallI P c f args σ kk := by
  obtain ⟨h⟩ := h
  refine ⟨fun hc => ?_⟩
  obtain ⟨hf, h'⟩ := h ⟨hc.len, hc.nod, hc.lt⟩
  refine ⟨hf, fun K N ρ Z a w vs hS hA => ?_⟩
  obtain ⟨Z', hS1, hx, hro⟩ := hS.fzo hc i h1
  have hS2 := SatS.cell (env := ((σ.fz i r []).toSt c).env) (B := ((σ.fz i r []).toSt c).B) (n0 := c.n0) (L := ((σ.fz i r []).toSt c).L) (lv := c.lv) hS1 k jc T (X.toDL c xs) (X.toD c (.own (.loc i) ver)) (X.toD c (.ro r)) (by
      simp only [Sx.toSt, Sx.fz, List.getElem?_map, h2]
      rfl) (by rw [toDL_eq, List.getElem?_map, h3]; rfl) hro
  have e : (Sx.toSt c ⟨σ.E, (σ.L.set i none).set k (some (.var (xs.set jc (.ro r)) T)), σ.O⟩) = ⟨((σ.fz i r []).toSt c).env, ((σ.fz i r []).toSt c).B, c.n0, ((σ.fz i r []).toSt c).L.set k (some (.var ((X.toDL c xs).set jc (X.toD c (.ro r))) T)), c.lv⟩ := by
    simp only [Sx.toSt, Sx.fz, List.foldl_nil, Option.map_some, OX.toOb, List.map_set, toDL_eq]
    rfl
  rw [e] at h'
  have hA2 : RelL ρ w Z' (X.toDL c (args.set pa (.agg (ys.set ja (.ro r))))) vs := by
    have hA1 : RelL ρ w Z' (X.toDL c args) vs := ⟨hA.len, fun i hi => (hA.at_ i hi).mono (fun _ _ => rfl) hx.mono (.refl _)⟩
    have e2 : X.toDL c (args.set pa (.agg (ys.set ja (.ro r)))) = (X.toDL c args).set pa (X.toD c (.agg (ys.set ja (.ro r)))) := by
      simp only [toDL_eq, List.map_set]
    rw [e2]
    refine hA1.set (d := X.toD c (.agg ys)) (by rw [toDL_eq, List.getElem?_map, h4]; rfl) fun v hv => ?_
    simp only [X.toD, toDL_eq, List.map_set] at hv ⊢
    cases hv with
    | @agg _ vs' g1 g2 =>
      have q : RelL ρ w Z' ((ys.map (X.toD c)).set ja (X.toD c (.ro r))) vs'.toList := RelL.set (d := X.toD c (.own (.loc i) ver)) ⟨by simpa using g1, fun i hi => by
        have := g2 i (by simpa using hi)
        simpa using this⟩ (by rw [List.getElem?_map, h5]; rfl) hro
      refine .agg (by simpa using q.len) fun i hi => ?_
      have := q.at_ i (by simpa using hi)
      simpa [X.toD] using this
  refine (h' K N ρ Z' a w vs hS2 hA2).mono fun en w' hen => ?_
  obtain ⟨v, d, S', ρ', Z2, q, e0, e1, e2, hs, hr, hx1⟩ := hen
  exact ⟨v, d, S', ρ', Z2, q, e0, e1, e2, hs, hr, hx.trans hx1⟩
end Go.Sy

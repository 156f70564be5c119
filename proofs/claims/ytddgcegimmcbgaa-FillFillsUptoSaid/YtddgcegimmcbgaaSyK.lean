/-
  Loops, calls, sane data: helpers of the walks. Plain theorems.
-/
import Derived.Test.YtddgcegimmcbgaaSyJ
import Derived.IntWalk
set_option linter.unusedVariables false
set_option linter.unusedSimpArgs false
set_option linter.unusedSectionVars false
namespace Go.Sy
open Go Go.RowKit

/-! ### One operation at a time -/
/-- What of an operation counts: its slot, itself, its guard's slot. -/
abbrev WO := Option Tmp × Op × Option (Option Tmp × Bool)
def strip (ops : Array Oper) (o : Oper) : WO := (o.dst, o.op, o.guard.map fun g => ((ops[g.1]?).bind (·.dst), g.2))
@[reducible] def bare (op : Op) : Oper := { dst := none, op := op, type := 0, pos := "", after := #[], guard := none }
theorem stepOp_bare (P : Program) (o : Oper) (S : St) (k : D → List Nat → List (Nat × Ob) → List Ob → Prop) : stepOp P (bare o.op) S k = stepOp P o S k := rfl
theorem stepAny_bare (P : Program) (o : Oper) (S : St) (k : D → List Nat → List (Nat × Ob) → List Ob → Prop) : stepAny P (bare o.op) S k = stepAny P o S k := rfl
def stepW (P : Program) (N : Nat) (x : WO) (S : St) (X : St → Prop) : Prop :=
  dstOk x.1 N ∧
  match x.2.2 with
  | none => stepAny P (bare x.2.1) S fun d _ sets news => X (S.after x.1 d sets news)
  | some (none, _) => False
  | some (some t, want) =>
    match gd (S.env t) with
    | some (some b) => (b = want → stepAny P (bare x.2.1) (S.lit t want) fun d _ sets news => X ((S.lit t want).after x.1 d sets news)) ∧ (b = (!want) → X ((S.lit t (!want)).after x.1 (.v undef) [] []))
    | some none => X (S.after x.1 (.v undef) [] [])
    | none => False
def runW (P : Program) (N : Nat) : List WO → St → (St → Prop) → Prop
  | [], S, K => K S
  | x :: r, S, K => stepW P N x S fun S' => runW P N r S' K
theorem runOps_W {P : Program} {N : Nat} {ops : Array Oper} {K : St → Prop} : ∀ (l : List Oper) (S : St), runW P N (l.map (strip ops)) S K = runOps P N ops l S K
  | [], S => rfl
  | o :: l, S => by
    have ih : (fun S' => runW P N (l.map (strip ops)) S' K) = fun S' => runOps P N ops l S' K := funext fun S' => runOps_W l S'
    have ih' : ∀ S', runW P N (l.map (strip ops)) S' K = runOps P N ops l S' K := fun S' => runOps_W l S'
    show stepW P N (strip ops o) S (fun S' => runW P N (l.map (strip ops)) S' K) = _
    rw [ih, runOps]
    unfold stepW strip
    simp only [stepAny_bare]
    cases hg : o.guard with
    | none => simp only [Option.map_none]
    | some g =>
      obtain ⟨j, want⟩ := g
      simp only [Option.map_some]
      cases ht : (ops[j]?).bind (·.dst) with
      | none => simp only
      | some t =>
        simp only
        cases hgd : gd (S.env t) with
        | none => rfl
        | some x => cases x <;> rfl
theorem runW_start {P : Program} {N : Nat} {ops : Array Oper} {K : St → Prop} {S : St} {l : List WO} (hl : ops.toList.map (strip ops) = l) (h : runW P N l S K) : runOps P N ops ops.toList S K := by rw [← runOps_W, hl]; exact h
theorem runW_cons {P : Program} {N : Nat} {x : WO} {r : List WO} {S : St} {K : St → Prop} (h : ∀ X : St → Prop, (∀ S', runW P N r S' K → X S') → stepW P N x S X) : runW P N (x :: r) S K :=
  h _ fun _ h => h
theorem runW_nil {P : Program} {N : Nat} {S : St} {K : St → Prop} (h : K S) : runW P N [] S K := h

def stepV (P : Program) (N : Nat) (x : WO) (S : St) (X : St → List Nat × List Nat → Prop) : Prop :=
  dstOk x.1 N ∧
  match x.2.2 with
  | none => stepOp P (bare x.2.1) S fun d rd sets news => X (S.after x.1 d sets news) (rd, sets.map (·.1) ++ (nameNew S.nx news).map (·.1))
  | some (none, _) => False
  | some (some t, want) =>
    match gd (S.env t) with
    | some (some b) => (b = want → stepOp P (bare x.2.1) (S.lit t want) fun d rd sets news => X ((S.lit t want).after x.1 d sets news) (rd, sets.map (·.1) ++ (nameNew (S.lit t want).nx news).map (·.1))) ∧ (b = (!want) → X ((S.lit t (!want)).after x.1 (.v undef) [] []) ([], []))
    | some none => X (S.after x.1 (.v undef) [] []) ([], [])
    | none => False
def runV (P : Program) (N : Nat) : List WO → St → List (List Nat × List Nat) → (St → List (List Nat × List Nat) → Prop) → Prop
  | [], S, is, K => K S is
  | x :: r, S, is, K => stepV P N x S fun S' i => runV P N r S' (is ++ [i]) K
theorem runDraw_V {P : Program} {N : Nat} {ops : Array Oper} {K : St → List (List Nat × List Nat) → Prop} : ∀ (l : List Oper) (S : St) (is : List (List Nat × List Nat)), runV P N (l.map (strip ops)) S is K = runDraw P N ops l S is K
  | [], S, is => rfl
  | o :: l, S, is => by
    have ih : (fun S' i => runV P N (l.map (strip ops)) S' (is ++ [i]) K) = fun S' i => runDraw P N ops l S' (is ++ [i]) K := funext fun S' => funext fun i => runDraw_V l S' _
    show stepV P N (strip ops o) S (fun S' i => runV P N (l.map (strip ops)) S' (is ++ [i]) K) = _
    rw [ih, runDraw]
    unfold stepV strip
    simp only [stepOp_bare]
    cases hg : o.guard with
    | none => simp only [Option.map_none]
    | some g =>
      obtain ⟨j, want⟩ := g
      simp only [Option.map_some]
      cases ht : (ops[j]?).bind (·.dst) with
      | none => simp only
      | some t =>
        simp only
        cases hgd : gd (S.env t) with
        | none => rfl
        | some x => cases x <;> rfl
theorem runV_start {P : Program} {N : Nat} {ops : Array Oper} {K : St → List (List Nat × List Nat) → Prop} {S : St} {is : List (List Nat × List Nat)} {l : List WO} (hl : ops.toList.map (strip ops) = l) (h : runV P N l S is K) : runDraw P N ops ops.toList S is K := by rw [← runDraw_V, hl]; exact h
theorem runV_cons {P : Program} {N : Nat} {x : WO} {r : List WO} {S : St} {is : List (List Nat × List Nat)} {K : St → List (List Nat × List Nat) → Prop} (h : ∀ X : St → List Nat × List Nat → Prop, (∀ S' i, runV P N r S' (is ++ [i]) K → X S' i) → stepV P N x S X) : runV P N (x :: r) S is K :=
  h _ fun _ _ h => h
theorem runV_nil {P : Program} {N : Nat} {S : St} {is : List (List Nat × List Nat)} {K : St → List (List Nat × List Nat) → Prop} (h : K S is) : runV P N [] S is K := h

/-! ### States at a loop's head -/
def envJ : List (Nat × D) → Nat → D
  | [], _ => .junk
  | (k, d) :: l, t => if t = k then d else envJ l t
theorem envJ_cons (k : Nat) (d : D) (l : List (Nat × D)) (t : Nat) : envJ ((k, d) :: l) t = if t = k then d else envJ l t := rfl
theorem envJ_nil (t : Nat) : envJ [] t = .junk := rfl
theorem envJ_weak {E0 : Nat → D} {b : Nat} : ∀ {l : List (Nat × D)}, (∀ x ∈ l, E0 x.1 = x.2 ∧ x.2.nms b) → ∀ t, envJ l t = .junk ∨ (envJ l t = E0 t ∧ (E0 t).nms b)
  | [], _, _ => .inl rfl
  | (k, d) :: l, h, t => by
    simp only [envJ]
    split
    · rename_i e
      subst e
      obtain ⟨h1, h2⟩ := h (t, d) (by simp)
      simp only at h1 h2
      right
      rw [h1]
      exact ⟨rfl, h2⟩
    · exact envJ_weak (fun x hx => h x (List.mem_cons_of_mem _ hx)) t
theorem weakJ {E : Nat → D} {B : Heap} {n0 : Nat} {L : List (Option Ob)} {lv : Nat → Prop} (l : List (Nat × D)) (L' rest : List (Option Ob)) (hL : L = L' ++ rest) (hn : ∀ o, some o ∈ L' → o.nms (n0 + L'.length)) (h : ∀ x ∈ l, E x.1 = x.2 ∧ x.2.nms (n0 + L'.length)) :
    Weak ⟨E, B, n0, L, lv⟩ ⟨envJ l, B, n0, L', lv⟩ := by
  subst hL
  refine ⟨envJ_weak h, rfl, rfl, rfl, by simp, fun i o ho => ?_⟩
  simp only at ho ⊢
  have hi : i < L'.length := by
    rcases Nat.lt_or_ge i L'.length with h1 | h1
    · exact h1
    · rw [List.getD_eq_getElem?_getD, List.getElem?_eq_none h1] at ho; cases ho
  rw [List.getD_eq_getElem?_getD, List.getElem?_append_left hi, ← List.getD_eq_getElem?_getD]
  refine ⟨ho, hn o ?_⟩
  rw [List.getD_eq_getElem?_getD, List.getElem?_eq_getElem hi] at ho
  simp only [Option.getD_some] at ho
  rw [← ho]
  exact List.getElem_mem hi

/-! ### Branches -/
theorem Awp.condk {P : Program} {N : Nat} {Q : Exit → St → Prop} {S : St} {c : Operand} {x y : Code}
    (h : ∀ X Y : Prop, (Awp P N x Q S → X) → (Awp P N y Q S → Y) → match evE S.env c with | .c (.v (.bool b)) => (b = true → X) ∧ (b = false → Y) | _ => False) : Awp P N (.cond c x y) Q S := by
  have h' := h _ _ id id
  split at h'
  · rename_i b hb
    exact Awp.cond hb h'.1 h'.2
  · exact h'.elim
theorem Awp.loopk {P : Program} {N : Nat} {Q : Exit → St → Prop} {S : St} {c : Code} (J : Nat → St → Prop) (n : Nat) (S0 : St) (h0 : J n S0) (hw : Weak S S0)
    (round : ∀ n S, J n S → ∀ R : St → Prop, (∀ S' m S'', m < n → J m S'' → Weak S' S'' → R S') → Awp P N c (thenQ R Q) S) : Awp P N (.loop c) Q S :=
  Awp.loop J n S0 h0 hw fun n S hJ => round n S hJ _ fun _ m S'' h1 h2 h3 => ⟨m, S'', h1, h2, h3⟩

/-! ### A nil slice as a row of the call's own -/
theorem SatS.ghost {K : Ctx} {N : Nat} {ρ : Env} {Z : Nat → Prop} {env : Nat → D} {B : Heap} {n0 : Nat} {L : List (Option Ob)} {lv : Nat → Prop} {a : Act} {w : World} (h : SatS K N ρ Z ⟨env, B, n0, L, lv⟩ a w) (t E sz : Nat) (ht : env t = .v (.slice none 0 0)) :
    ∃ ρ', SatS K N ρ' Z ⟨upd env t (.own (n0 + L.length) 0), B, n0, L ++ [some (.row 0 E sz [])], lv⟩ a w ∧ ExtO n0 ρ Z w ρ' Z w := by
  let nm := n0 + L.length
  have hn : ¬ ρ.live nm := fun hl => by have := (h.sat.live nm hl).2; exact Nat.lt_irrefl _ this
  have hne : ∀ k, ρ.live k → k ≠ nm := fun k hl e => hn (e ▸ hl)
  let ρ1 : Env := { live := fun k => ρ.live k ∨ k = nm, blk := ρ.blk, val := upd ρ.val nm (.slice none 0 0), ver := upd ρ.ver nm 0 }
  have hle : ρ.le ρ1 := ⟨fun k hl => .inl hl, fun _ _ => rfl, fun k hl => by show ρ.ver k ≤ upd ρ.ver nm 0 k; rw [upd_ne _ _ _ _ (hne k hl)]; exact Nat.le_refl _, fun k hl _ => upd_ne _ _ _ _ (hne k hl)⟩
  have hx1 : Ext ρ Z w ρ1 Z w := ⟨hle, fun _ h => h, fun _ _ => rfl⟩
  have hm := h.sat.mem
  have hget : (St.get ⟨upd env t (.own (n0 + L.length) 0), B, n0, L ++ [some (.row 0 E sz [])], lv⟩) = upd (St.get ⟨env, B, n0, L, lv⟩) nm (some (Ob.row 0 E sz [])) := by
    have := St.get_new1 ⟨env, B, n0, L, lv⟩ (.row 0 E sz [])
    exact this
  have hkeep : ∀ (k : Nat) (ob : Ob), St.get ⟨env, B, n0, L, lv⟩ k = some ob → ob.blk ρ1 k = ob.blk ρ k := fun k ob hk => by
    have e2 : ρ1.val k = ρ.val k := upd_ne _ _ _ _ (hne k (hm.obj k ob hk).1)
    cases ob <;> simp only [Ob.blk] <;> first | rfl | rw [e2]
  have nob : ∀ (k : Nat) (ob : Ob) (b : Nat), k = nm → upd (St.get ⟨env, B, n0, L, lv⟩) nm (some (Ob.row 0 E sz [])) k = some ob → ob.blk ρ1 k = some b → False := fun k ob b e' hk hb' => by
    subst e'
    rw [upd_same] at hk
    cases hk
    have : ρ1.val nm = .slice none 0 0 := upd_same _ _ _
    simp [Ob.blk, this, Value.ownBlock] at hb'
  refine ⟨ρ1, ⟨⟨h.sat.tmps, h.sat.defers, fun k => ?_, ?_, fun k hk => ?_⟩, h.Bok⟩, .of hx1⟩
  · show Rel ρ1 w Z (upd env t (.own nm 0) k) _
    by_cases e : k = t
    · subst e
      rw [upd_same]
      have hr : Rel ρ w Z (.v (.slice none 0 0)) (a.tmps.getD k undef) := by have := h.sat.env k; rw [show (St.toG ⟨env, B, n0, L, lv⟩).env k = env k from rfl, ht] at this; exact this
      rw [hr.inv_v]
      exact .own none 0 0 (.inr rfl) (Nat.zero_le _) (fun _ => (upd_same ρ.val nm _).symm)
    · rw [upd_ne _ _ _ _ e]
      exact (h.sat.env k).mono (fun _ _ => rfl) (fun _ h => h) hle
  · show HSat K ρ1 Z (St.get ⟨upd env t (.own (n0 + L.length) 0), B, n0, L ++ [some (.row 0 E sz [])], lv⟩) w
    rw [hget]
    refine ⟨hm.os, hm.tape, hm.output, hm.size, hm.Zmono, hm.Zlt, hm.same, fun k ob hk => ?_, fun k ob b hk hb' => ?_, fun k k' ob ob' b h1 h2 b1 b2 => ?_, ?_⟩
    · by_cases e' : k = nm
      · subst e'
        rw [upd_same] at hk
        cases hk
        refine ⟨.inr rfl, upd_same _ _ _, by simp, [], ?_, .nil⟩
        have : ρ1.val nm = .slice none 0 0 := upd_same _ _ _
        rw [this]
        exact World.ownsRow_nil w 0 E sz
      · rw [upd_ne _ _ _ _ e'] at hk
        obtain ⟨o1, o2⟩ := hm.obj k ob hk
        exact ⟨.inl o1, Ob.at_mono o2 (fun _ _ => rfl) (fun _ _ => rfl) (fun _ h => h) hle rfl (upd_ne _ _ _ _ e') (upd_ne _ _ _ _ e')⟩
    · by_cases e' : k = nm
      · exact (nob k ob b e' hk hb').elim
      · rw [upd_ne _ _ _ _ e'] at hk
        rw [hkeep k ob hk] at hb'
        exact hm.own k ob b hk hb'
    · by_cases e1 : k = nm
      · exact (nob k ob b e1 h1 b1).elim
      · by_cases e2 : k' = nm
        · exact (nob k' ob' b e2 h2 b2).elim
        · rw [upd_ne _ _ _ _ e1] at h1
          rw [upd_ne _ _ _ _ e2] at h2
          rw [hkeep k ob h1] at b1
          rw [hkeep k' ob' h2] at b2
          exact hm.inj k k' ob ob' b h1 h2 b1 b2
    · obtain ⟨nx, hnx⟩ := hm.bd
      refine ⟨max nx (nm + 1), fun k hk => ?_⟩
      rcases hk with hk | hk
      · have := hnx k hk; omega
      · omega
  · show (k < n0 → lv k) ∧ k < n0 + (L ++ [some (Ob.row 0 E sz [])]).length
    simp only [List.length_append, List.length_cons, List.length_nil]
    rcases hk with hk | hk
    · have := h.sat.live k hk
      exact ⟨this.1, by have h2 : k < n0 + L.length := this.2; omega⟩
    · have : k = n0 + L.length := hk
      exact ⟨fun h' => by omega, by omega⟩
theorem Awp.ghost {P : Program} {N : Nat} {Q : Exit → St → Prop} {c : Code} {env : Nat → D} {B : Heap} {n0 : Nat} {L : List (Option Ob)} {lv : Nat → Prop} (t E sz : Nat) (ht : env t = .v (.slice none 0 0))
    (h : Awp P N c Q ⟨upd env t (.own (n0 + L.length) 0), B, n0, L ++ [some (.row 0 E sz [])], lv⟩) : Awp P N c Q ⟨env, B, n0, L, lv⟩ := by
  intro K ρ Z a w hS
  obtain ⟨ρ', hS', hx⟩ := hS.ghost t E sz ht
  refine wp_mono (h K ρ' Z a w hS') fun e a1 w1 hp => ?_
  obtain ⟨S1, ρ1, Z1, q, e0, e1, hs, hx1⟩ := hp
  exact ⟨S1, ρ1, Z1, q, e0, e1, hs, hx.trans hx1⟩

/-! ### Calls -/
def FnOk (P : Program) (f : FuncId) : Prop := ∃ fn, P.funcs[f]? = some fn ∧ fn.body.isSome = true ∧ (fn.name == "runtime.NumGoroutine") = false
theorem CallOk.pure {P : Program} {f : FuncId} {args : List D} {S : St} {k : D → List Nat → List (Nat × Ob) → List Ob → Prop} {rd : List (Nat × Ob)} {d : D} (hr : CRule P f args rd d {}) (hf : FnOk P f) (hrd : ∀ x ∈ rd, S.get x.1 = some x.2) (hk : k d (rd.map (·.1)) [] []) : CallOk P f args S k :=
  ⟨rd, d, [], [], hr, hf, hrd, nil_all, hk⟩
theorem CallOk.pure0 {P : Program} {f : FuncId} {args : List D} {S : St} {k : D → List Nat → List (Nat × Ob) → List Ob → Prop} {d : D} (hr : CRule P f args [] d {}) (hf : FnOk P f) (hk : k d [] [] []) : CallOk P f args S k :=
  CallOk.pure hr hf nil_all hk
theorem CallOk.sets {P : Program} {f : FuncId} {args : List D} {S : St} {k : D → List Nat → List (Nat × Ob) → List Ob → Prop} {rd sets : List (Nat × Ob)} {d : D} (hr : CRule P f args rd d { set := sets }) (hf : FnOk P f) (hrd : ∀ x ∈ rd, S.get x.1 = some x.2)
    (hs : ∀ x ∈ sets, (∃ y, (x.1, y) ∈ rd) ∧ (x.1 < S.n0 → x.2.nms S.n0)) (hk : k d (rd.map (·.1)) sets []) : CallOk P f args S k :=
  ⟨rd, d, sets, [], hr, hf, hrd, hs, hk⟩

/-! ### Sane data: lengths are lengths -/
inductive C.Sane : C → Prop
  | v (x : Value) : C.Sane (.v x)
  | ro {n : Nat} {f : Nat → List C} (hn : n ≤ 9223372036854775807) (h : ∀ i, i < n → ∀ j, j < (f i).length → C.Sane ((f i).getD j default)) : C.Sane (.ro n f)
theorem C.Sane.len {n : Nat} {f : Nat → List C} (h : C.Sane (.ro n f)) : n ≤ 9223372036854775807 := by cases h; assumption
theorem C.Sane.elem {n : Nat} {f : Nat → List C} (h : C.Sane (.ro n f)) (i : Nat) (hi : i < n) : ∀ c ∈ f i, C.Sane c := by
  cases h with
  | ro hn h =>
    intro c hc
    obtain ⟨j, hj, rfl⟩ := List.getElem_of_mem hc
    have := h i hi j hj
    simpa [List.getD_eq_getElem?_getD, hj] using this
theorem CRel.sane {w : World} {Z : Nat → Prop} {c : C} {v : Value} (h : CRel w Z c v) : c.Sane := by
  induction h with
  | v x => exact .v x
  | ro A c sz us hn hnc hsz hA hc hr ih => exact .ro (by simpa [maxLen] using hn) (fun i hi j hj => ih i hi j (by rw [← hsz i hi]; exact hj))
mutual
def D.sane : D → Prop
  | .c x => x.Sane
  | .fn _ l l' => D.saneL l ∧ D.saneL l'
  | .agg l | .tup l => D.saneL l
  | .rp cs _ => ∀ x ∈ cs, C.Sane x
  | .lit n f => C.Sane (.ro n f)
  | .junk | .ptr .. | .rptr .. | .own .. | .mp .. | .st .. => True
def D.saneL : List D → Prop
  | [] => True
  | d :: l => D.sane d ∧ D.saneL l
end
theorem saneL_iff (l : List D) : D.saneL l ↔ ∀ d ∈ l, D.sane d := by
  induction l with
  | nil => simp [D.saneL]
  | cons d l ih => simp [D.saneL, ih]
theorem Rel.sane {ρ : Env} {w : World} {Z : Nat → Prop} {d : D} {v : Value} (h : Rel ρ w Z d v) : d.sane := by
  induction h with
  | c h => exact h.sane
  | lit A h => exact h.sane
  | rp b o us hz hc hr =>
    simp only [D.sane]
    intro x hx
    obtain ⟨j, hj, rfl⟩ := List.getElem_of_mem hx
    have := (hr j hj).sane
    simpa [List.getD_eq_getElem?_getD, hj] using this
  | @fn f first caps fs vs h1 h2 h3 h4 i3 i4 =>
    simp only [D.sane, saneL_iff]
    refine ⟨fun d hd => ?_, fun d hd => ?_⟩
    · obtain ⟨i, hi, rfl⟩ := List.getElem_of_mem hd
      have := i3 i (by omega)
      simpa [List.getD_eq_getElem?_getD, hi] using this
    · obtain ⟨i, hi, rfl⟩ := List.getElem_of_mem hd
      have := i4 i (by omega)
      simpa [List.getD_eq_getElem?_getD, hi] using this
  | @agg l vs h1 h3 i3 =>
    simp only [D.sane, saneL_iff]
    intro d hd
    obtain ⟨i, hi, rfl⟩ := List.getElem_of_mem hd
    have := i3 i (by omega)
    simpa [List.getD_eq_getElem?_getD, hi] using this
  | @tup l vs h1 h3 i3 =>
    simp only [D.sane, saneL_iff]
    intro d hd
    obtain ⟨i, hi, rfl⟩ := List.getElem_of_mem hd
    have := i3 i (by omega)
    simpa [List.getD_eq_getElem?_getD, hi] using this
  | _ => simp [D.sane]
theorem RelL.sane {ρ : Env} {w : World} {Z : Nat → Prop} {l : List D} {vs : List Value} (h : RelL ρ w Z l vs) : D.saneL l := by
  rw [saneL_iff]
  intro d hd
  obtain ⟨i, hi, rfl⟩ := List.getElem_of_mem hd
  have := (h.at_ i (by rw [← h.len]; exact hi)).sane
  simpa [List.getD_eq_getElem?_getD, hi] using this

/-- A contract may lean on its arguments' being sane. -/
theorem CRule.sane {P : Program} {f : FuncId} {args : List D} {rd : List (Nat × Ob)} {d : D} {e : Eff} (h : D.saneL args → CRule P f args rd d e) : CRule P f args rd d e :=
  fun K ρ Z H w vs hm hrd hfr hargs => h hargs.sane K ρ Z H w vs hm hrd hfr hargs

/-! ### Reckoning: what a value is as an argument; what is handed back -/
theorem coe_int (k : IntKind) (x : Int) : D.coe (.c (.v (.int k x))) = .c (.v (.int k x)) := rfl
theorem coe_bool (x : Bool) : D.coe (.c (.v (.bool x))) = .c (.v (.bool x)) := rfl
theorem coe_str (x : ByteArray) : D.coe (.c (.v (.string x))) = .c (.v (.string x)) := rfl
theorem coe_nilp : D.coe (.c (.v (.pointer none))) = .c (.v (.pointer none)) := rfl
theorem coe_ro (n : Nat) (f : Nat → List C) : D.coe (.c (.ro n f)) = .c (.ro n f) := rfl
theorem coe_nil : D.coe (.c (.v (.slice none 0 0))) = .c (.ro 0 fun _ => []) := rfl
theorem coe_lit (n : Nat) (f : Nat → List C) : D.coe (.lit n f) = .c (.ro n f) := rfl
theorem coe_own (n v : Nat) : D.coe (.own n v) = .own n v := rfl
theorem coe_ptr (n v : Nat) : D.coe (.ptr n v) = .ptr n v := rfl
theorem coe_rp (n : List C) (v : Nat) : D.coe (.rp n v) = .rp n v := rfl
theorem coe_mp (n : Nat) : D.coe (.mp n) = .mp n := rfl
theorem coe_fn (f : Fn) (a b : List D) : D.coe (.fn f a b) = .fn f a b := rfl
theorem coe_agg (l : List D) : D.coe (.agg l) = .agg (D.coeL l) := rfl
theorem coe_tup (l : List D) : D.coe (.tup l) = .tup (D.coeL l) := rfl
theorem coe_junk : D.coe .junk = .junk := rfl
theorem coeL_nil : D.coeL [] = [] := rfl
theorem coeL_cons (d : D) (l : List D) : D.coeL (d :: l) = d.coe :: D.coeL l := rfl
/-- Cells that no argument changes. -/
def C.plain : C → Bool
  | .v (.slice _ _ _) => false
  | _ => true
theorem coe_c {x : C} (h : x.plain = true) : D.coe (.c x) = .c x := by
  cases x with
  | ro n f => rfl
  | v x => cases x <;> first | rfl | (simp [C.plain] at h; done)
theorem coeL_plain : ∀ {l : List C}, l.all C.plain = true → D.coeL (l.map D.c) = l.map D.c
  | [], _ => rfl
  | x :: l, h => by
    simp only [List.all_cons, Bool.and_eq_true] at h
    simp only [List.map_cons, coeL_cons, coe_c h.1, coeL_plain h.2]
theorem Frz_c (S : St) (x : C) (d' : D) : Frz S (.c x) d' = (d' = D.coe (.c x)) := by simp only [Frz]
theorem Frz_lit (S : St) (n : Nat) (f : Nat → List C) (d' : D) : Frz S (.lit n f) d' = (d' = .c (.ro n f)) := by simp only [Frz]; rfl
theorem Frz_ptr (S : St) (n o : Nat) (d' : D) : Frz S (.ptr n o) d' = (d' = .ptr n o) := by simp only [Frz]; rfl
theorem Frz_mp (S : St) (n : Nat) (d' : D) : Frz S (.mp n) d' = (d' = .mp n) := by simp only [Frz]; rfl
theorem Frz_rp (S : St) (n : List C) (o : Nat) (d' : D) : Frz S (.rp n o) d' = (d' = .rp n o) := by simp only [Frz]; rfl
theorem Frz_agg (S : St) (l : List D) (d' : D) : Frz S (.agg l) d' = ∃ l', d' = .agg l' ∧ FrzL S l l' := by simp only [Frz]
theorem Frz_tup (S : St) (l : List D) (d' : D) : Frz S (.tup l) d' = ∃ l', d' = .tup l' ∧ FrzL S l l' := by simp only [Frz]
theorem FrzL_nil (S : St) (l' : List D) : FrzL S [] l' = (l' = []) := by simp only [FrzL]
theorem FrzL_cons (S : St) (d : D) (l l' : List D) : FrzL S (d :: l) l' = ∃ d' l'', l' = d' :: l'' ∧ Frz S d d' ∧ FrzL S l l'' := by simp only [FrzL]
theorem Frz_own (env : Nat → D) (B : Heap) (n0 : Nat) (L : List (Option Ob)) (lv : Nat → Prop) (i ver : Nat) (d' : D) : Frz ⟨env, B, n0, L, lv⟩ (.own (n0 + i) ver) d' =
    (∃ m f, d' = .c (.ro m f) ∧ ∃ E sz r, L.getD i none = some (.row ver E sz r) ∧ r.length = m ∧ ∀ i, i < m → r.getD i [] = (f i).map D.c) := by
  simp only [Frz, eq_iff_iff]
  have hl : ¬ n0 + i < n0 := by omega
  constructor
  · rintro (⟨m, f, h1, _, E, sz, r, h2, h3⟩ | ⟨_, h⟩)
    · simp only [St.get, if_neg hl, Nat.add_sub_cancel_left] at h2
      exact ⟨m, f, h1, E, sz, r, h2, h3⟩
    · exact (hl h).elim
  · rintro ⟨m, f, h1, E, sz, r, h2, h3⟩
    refine .inl ⟨m, f, h1, by omega, E, sz, r, ?_, h3⟩
    simp only [St.get, if_neg hl, Nat.add_sub_cancel_left]
    exact h2

theorem lookD_fs (d z : D) : lookD false (some d) z = d := rfl
theorem lookD_fn (z : D) : lookD false none z = z := rfl
theorem lookD_ts (d z : D) : lookD true (some d) z = .tup [d, .bool true] := rfl
theorem lookD_tn (z : D) : lookD true none z = .tup [z, .bool false] := rfl

/-! ### Numbers -/
theorem wrap_i64 {x : Int} (h0 : -9223372036854775808 ≤ x) (h1 : x ≤ 9223372036854775807) : IntKind.i64.wrap x = x :=
  IntWalk.i64_in x ⟨h0, h1⟩

end Go.Sy

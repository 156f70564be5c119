/-
  Loops, calls, sane data: helpers of the walks. Plain theorems.
-/
import Derived.Test.YtkjjihicaefmcaaDoorSyJ
import Derived.IntWalk
set_option linter.unusedVariables false
set_option linter.unusedSimpArgs false
set_option linter.unusedSectionVars false
namespace Go.Sy
open Go Go.RowKit
abbrev WO := Option Tmp × Op × Option (Option Tmp × Bool)
def strip (ops : Array Oper) (o : Oper) : WO := (o.dst, o.op, o.guard.map fun g => ((ops[g.1]?).bind (·.dst), g.2))
@[reducible] def bare (op : Op) : Oper := { dst := none, op := op, type := 0, pos := "", after := #[], guard := none }
theorem SatS.ghost {K : Ctx} {N : Nat} {ρ : Env} {Z : Nat → Prop} {env : Nat → D} {B : Heap} {n0 : Nat} {L : List (Option Ob)} {lv : Nat → Prop} {a : Act} {w : World} (h : SatS K N ρ Z ⟨env, B, n0, L, lv⟩ a w) (t E sz : Nat) (ht : env t = .v (.slice none 0 0)) :
    ∃ ρ', SatS K N ρ' Z ⟨upd env t (.own (n0 + L.length) 0), B, n0, L ++ [some (.row 0 E sz [])], lv⟩ a w ∧ ExtO n0 ρ Z w ρ' Z w := by
  let nm := n0 + L.length
  have hn : ¬ ρ.live nm := fun hl => by have := (h.sat.live nm hl).2; exact Nat.lt_irrefl _ this
  have hne : ∀ k, ρ.live k → k ≠ nm := fun k hl e => hn (e ▸ hl)
  let ρ1 : Env := { live := fun k => ρ.live k ∨ k = nm, blk := ρ.blk, val := upd ρ.val nm (.slice none 0 0), ver := upd ρ.ver nm 0 }
  have hle : ρ.le ρ1 := ⟨fun k hl => .inl hl, fun _ _ => rfl, fun k hl => by show ρ.ver k ≤ upd ρ.ver nm 0 k; rw [upd_ne _ _ _ _ (hne k hl)]; exact Nat.le_refl _, fun k hl _ => upd_ne _ _ _ _ (hne k hl)⟩
  have hx1 : Ext ρ Z w ρ1 Z w := ⟨hle, fun _ h => h, fun _ _ => rfl⟩
  have hm := h.sat.mem
  have hget : (St.get ⟨upd env t (.own (n0 + L.length) 0), B, n0, L ++ [some (.row 0 E sz [])], lv⟩) = upd (St.get ⟨env, B, n0, L, lv⟩) nm (some (Ob.row 0 E sz [])) := by
    have := St.get_new1 ⟨env, B, n0, L, lv⟩ (.row 0 E sz [])
    exact this
  have hkeep : ∀ (k : Nat) (ob : Ob), St.get ⟨env, B, n0, L, lv⟩ k = some ob → ob.blk ρ1 k = ob.blk ρ k := fun k ob hk => by
    have e2 : ρ1.val k = ρ.val k := upd_ne _ _ _ _ (hne k (hm.obj k ob hk).1)
    cases ob <;> simp only [Ob.blk] <;> first | rfl | rw [e2]
  have nob : ∀ (k : Nat) (ob : Ob) (b : Nat), k = nm → upd (St.get ⟨env, B, n0, L, lv⟩) nm (some (Ob.row 0 E sz [])) k = some ob → ob.blk ρ1 k = some b → False := fun k ob b e' hk hb' => by
    subst e'
    rw [upd_same] at hk
    cases hk
    have : ρ1.val nm = .slice none 0 0 := upd_same _ _ _
    simp [Ob.blk, this, Value.ownBlock] at hb'
  refine ⟨ρ1, ⟨⟨h.sat.tmps, h.sat.defers, fun k => ?_, ?_, fun k hk => ?_⟩, h.Bok⟩, .of hx1⟩
  · show Rel ρ1 w Z (upd env t (.own nm 0) k) _
    by_cases e : k = t
    · subst e
      rw [upd_same]
      have hr : Rel ρ w Z (.v (.slice none 0 0)) (a.tmps.getD k undef) := by have := h.sat.env k; rw [show (St.toG ⟨env, B, n0, L, lv⟩).env k = env k from rfl, ht] at this; exact this
      rw [hr.inv_v]
      exact .own none 0 0 (.inr rfl) (Nat.zero_le _) (fun _ => (upd_same ρ.val nm _).symm)
    · rw [upd_ne _ _ _ _ e]
      exact (h.sat.env k).mono (fun _ _ => rfl) (fun _ h => h) hle
  · show HSat K ρ1 Z (St.get ⟨upd env t (.own (n0 + L.length) 0), B, n0, L ++ [some (.row 0 E sz [])], lv⟩) w
    rw [hget]
    refine ⟨hm.os, hm.tape, hm.output, hm.size, hm.Zmono, hm.Zlt, hm.same, fun k ob hk => ?_, fun k ob b hk hb' => ?_, fun k k' ob ob' b h1 h2 b1 b2 => ?_, ?_⟩
    · by_cases e' : k = nm
      · subst e'
        rw [upd_same] at hk
        cases hk
        refine ⟨.inr rfl, upd_same _ _ _, by simp, [], ?_, .nil⟩
        have : ρ1.val nm = .slice none 0 0 := upd_same _ _ _
        rw [this]
        exact World.ownsRow_nil w 0 E sz
      · rw [upd_ne _ _ _ _ e'] at hk
        obtain ⟨o1, o2⟩ := hm.obj k ob hk
        exact ⟨.inl o1, Ob.at_mono o2 (fun _ _ => rfl) (fun _ _ => rfl) (fun _ h => h) hle rfl (upd_ne _ _ _ _ e') (upd_ne _ _ _ _ e')⟩
    · by_cases e' : k = nm
      · exact (nob k ob b e' hk hb').elim
      · rw [upd_ne _ _ _ _ e'] at hk
        rw [hkeep k ob hk] at hb'
        exact hm.own k ob b hk hb'
    · by_cases e1 : k = nm
      · exact (nob k ob b e1 h1 b1).elim
      · by_cases e2 : k' = nm
        · exact (nob k' ob' b e2 h2 b2).elim
        · rw [upd_ne _ _ _ _ e1] at h1
          rw [upd_ne _ _ _ _ e2] at h2
          rw [hkeep k ob h1] at b1
          rw [hkeep k' ob' h2] at b2
          exact hm.inj k k' ob ob' b h1 h2 b1 b2
    · obtain ⟨nx, hnx⟩ := hm.bd
      refine ⟨max nx (nm + 1), fun k hk => ?_⟩
      rcases hk with hk | hk
      · have := hnx k hk; omega
      · omega
  · show (k < n0 → lv k) ∧ k < n0 + (L ++ [some (Ob.row 0 E sz [])]).length
    simp only [List.length_append, List.length_cons, List.length_nil]
    rcases hk with hk | hk
    · have := h.sat.live k hk
      exact ⟨this.1, by have h2 : k < n0 + L.length := this.2; omega⟩
    · have : k = n0 + L.length := hk
      exact ⟨fun h' => by omega, by omega⟩
theorem Awp.ghost {P : Program} {N : Nat} {Q : Exit → St → Prop} {c : Code} {env : Nat → D} {B : Heap} {n0 : Nat} {L : List (Option Ob)} {lv : Nat → Prop} (t E sz : Nat) (ht : env t = .v (.slice none 0 0))
    (h : Awp P N c Q ⟨upd env t (.own (n0 + L.length) 0), B, n0, L ++ [some (.row 0 E sz [])], lv⟩) : Awp P N c Q ⟨env, B, n0, L, lv⟩ := by
  intro K ρ Z a w hS
  obtain ⟨ρ', hS', hx⟩ := hS.ghost t E sz ht
  refine wp_mono (h K ρ' Z a w hS') fun e a1 w1 hp => ?_
  obtain ⟨S1, ρ1, Z1, q, e0, e1, hs, hx1⟩ := hp
  exact ⟨S1, ρ1, Z1, q, e0, e1, hs, hx.trans hx1⟩
def FnOk (P : Program) (f : FuncId) : Prop := ∃ fn, P.funcs[f]? = some fn ∧ fn.body.isSome = true ∧ (fn.name == "runtime.NumGoroutine") = false
theorem CallOk.pure {P : Program} {f : FuncId} {args : List D} {S : St} {k : D → List Nat → List (Nat × Ob) → List Ob → Prop} {rd : List (Nat × Ob)} {d : D} (hr : CRule P f args rd d {}) (hf : FnOk P f) (hrd : ∀ x ∈ rd, S.get x.1 = some x.2) (hk : k d (rd.map (·.1)) [] []) : CallOk P f args S k :=
  ⟨rd, d, [], [], hr, hf, hrd, nil_all, hk⟩
theorem CallOk.sets {P : Program} {f : FuncId} {args : List D} {S : St} {k : D → List Nat → List (Nat × Ob) → List Ob → Prop} {rd sets : List (Nat × Ob)} {d : D} (hr : CRule P f args rd d { set := sets }) (hf : FnOk P f) (hrd : ∀ x ∈ rd, S.get x.1 = some x.2)
    (hs : ∀ x ∈ sets, (∃ y, (x.1, y) ∈ rd) ∧ (x.1 < S.n0 → x.2.nms S.n0)) (hk : k d (rd.map (·.1)) sets []) : CallOk P f args S k :=
  ⟨rd, d, sets, [], hr, hf, hrd, hs, hk⟩
inductive C.Sane : C → Prop
  | v (x : Value) : C.Sane (.v x)
  | ro {n : Nat} {f : Nat → List C} (hn : n ≤ 9223372036854775807) (h : ∀ i, i < n → ∀ j, j < (f i).length → C.Sane ((f i).getD j default)) : C.Sane (.ro n f)
theorem C.Sane.len {n : Nat} {f : Nat → List C} (h : C.Sane (.ro n f)) : n ≤ 9223372036854775807 := by cases h; assumption
def C.plain : C → Bool
  | .v (.slice _ _ _) => false
  | _ => true
theorem wrap_i64 {x : Int} (h0 : -9223372036854775808 ≤ x) (h1 : x ≤ 9223372036854775807) : IntKind.i64.wrap x = x :=
  IntWalk.i64_in x ⟨h0, h1⟩
end Go.Sy

/-
  The operations: what each does to an abstract state. Plain theorems.
-/
import Derived.Test.YtkjjihicaefmcaaDoorSyA
set_option linter.unusedVariables false
set_option linter.unusedSimpArgs false
set_option linter.unusedSectionVars false
namespace Go.Sy
open Go Go.RowKit
def D.ofV : Value → D
  | .agg cs => .agg (cs.toList.map D.v)
  | v => .v v
theorem rel_ofV1 {ρ : Env} {w : World} {Z : Nat → Prop} (v : Value) : Rel ρ w Z (D.v v) v := .c (.v _)
theorem rel_ofV {ρ : Env} {w : World} {Z : Nat → Prop} (v : Value) : Rel ρ w Z (D.ofV v) v := by
  unfold D.ofV
  split
  · rename_i cs
    refine .agg (by simp) (fun i hi => ?_)
    have : (cs.toList.map D.v).getD i default = D.v (cs.getD i undef) := by
      simp [List.getD_eq_getElem?_getD, hi]
    rw [this]
    exact rel_ofV1 _
  · exact .c (.v _)
def evE (env : Nat → D) : Operand → D
  | .tmp t => env t
  | .const v => D.ofV v
  | .global g => match tabOf g with | some l => .rp (l.map C.v) 0 | none => .junk
  | .func f => .fn (.func f) [] []
theorem Sat.ev {K : Ctx} {N : Nat} {ρ : Env} {Z : Nat → Prop} {S : G} {a : Act} {w : World} (h : Sat K N ρ Z S a w) (x : Operand) : Rel ρ w Z (evE S.env x) (a.eval x) := by
  cases x with
  | tmp t => exact h.env t
  | const v => exact rel_ofV v
  | global g =>
    show Rel ρ w Z (match tabOf g with | some l => D.rp (l.map C.v) 0 | none => .junk) (.pointer (some ⟨g, 0, none⟩))
    cases e : tabOf g with
    | none => exact .junk _
    | some l =>
      obtain ⟨h1, h2⟩ := K.gl g l e
      refine .rp (off := 0) g 0 (fun j => l.getD j undef) (h.mem.Zmono g h1) (fun j hj => ?_) fun j hj => ?_
      · rw [List.length_map] at hj
        rw [Nat.zero_add, ← h2 j hj]
        simp only [World.cell?, h.mem.same g h1]
      · rw [List.length_map] at hj
        have : (l.map C.v).getD j default = C.v (l.getD j undef) := by simp [List.getD_eq_getElem?_getD, hj]
        rw [this]
        exact .v _
  | func f => exact .fn rfl rfl (fun i h => by simp at h) (fun i h => by simp at h)
def upd {α : Type} (f : Nat → α) (k : Nat) (v : α) : Nat → α := fun t => if t = k then v else f t
@[reducible] def updO {α : Type} (f : Nat → α) (k : Option Tmp) (v : α) : Nat → α := match k with | some k => upd f k v | none => f
theorem upd_same {α : Type} (f : Nat → α) (k : Nat) (v : α) : upd f k v k = v := by simp [upd]
theorem upd_ne {α : Type} (f : Nat → α) (k t : Nat) (v : α) (h : t ≠ k) : upd f k v t = f t := by simp [upd, h]
structure Eff where
  new : List (Nat × Ob) := []
  set : List (Nat × Ob) := []
def Eff.none : Eff := {}
def setH (H : Heap) : List (Nat × Ob) → Heap
  | [] => H
  | (n, o) :: l => setH (upd H n (some o)) l
def Eff.app (e : Eff) (H : Heap) : Heap := setH (setH H e.set) e.new
def Eff.live (e : Eff) (L : Nat → Prop) : Nat → Prop := fun n => L n ∨ ∃ o, (n, o) ∈ e.new
def G.fin (S : G) (dst : Option Tmp) (d : D) (e : Eff) : G := ⟨updO S.env dst d, e.app S.H, e.live S.live⟩
def Eff.fresh (e : Eff) (L : Nat → Prop) : Prop := ∀ n o, (n, o) ∈ e.new → ¬ L n
def ORule (P : Program) (o : Oper) (pre : List (Operand × D)) (rd : List (Nat × Ob)) (d : D) (e : Eff) : Prop :=
  ∀ (K : Ctx) (N : Nat) (ρ : Env) (Z : Nat → Prop) (S : G) (a : Act) (w : World) (Q : Exit → Act → World → Prop) (K' : Act → World → Prop), Sat K N ρ Z S a w →
    (∀ x ∈ pre, evE S.env x.1 = x.2) → (∀ x ∈ rd, S.H x.1 = some x.2) → e.fresh S.live → (∀ t, o.dst = some t → t < N) →
    (∀ ρ' Z' a' w', Sat K N ρ' Z' (S.fin o.dst d e) a' w' → Ext ρ Z w ρ' Z' w' → K' a' w') → o.wp P a w K' Q
theorem put_getD {a : Act} {N : Nat} (hN : a.tmps.size = N) {dst : Option Tmp} (hd : ∀ t, dst = some t → t < N) (v : Value) (t : Nat) :
    (a.put dst v).tmps.getD t undef = (match dst with | some k => if t = k then v else a.tmps.getD t undef | none => a.tmps.getD t undef) := by
  cases dst with
  | none => rfl
  | some k =>
    have hk := hd k rfl
    simp only [Act.put]
    by_cases h : t = k
    · subst h
      simp [Array.getD_eq_getD_getElem?, hN, hk]
    · simp [Array.getD_eq_getD_getElem?, h, Array.getElem?_setIfInBounds_ne (Ne.symm h)]
theorem put_size (a : Act) (dst : Option Tmp) (v : Value) : (a.put dst v).tmps.size = a.tmps.size := by cases dst <;> simp [Act.put]
theorem put_defers (a : Act) (dst : Option Tmp) (v : Value) : (a.put dst v).defers = a.defers := by cases dst <;> rfl
theorem Sat.put {K : Ctx} {N : Nat} {ρ ρ' : Env} {Z Z' : Nat → Prop} {S : G} {a : Act} {w w' : World} (h : Sat K N ρ Z S a w) {dst : Option Tmp} (hd : ∀ t, dst = some t → t < N) {d : D} {v : Value} {e : Eff}
    (hx : Ext ρ Z w ρ' Z' w') (hr : Rel ρ' w' Z' d v) (hm : HSat K ρ' Z' (e.app S.H) w') (hl : ∀ n, ρ'.live n → e.live S.live n) : Sat K N ρ' Z' (S.fin dst d e) (a.put dst v) w' := by
  refine ⟨by rw [put_size]; exact h.tmps, by rw [put_defers]; exact h.defers, fun t => ?_, hm, hl⟩
  rw [put_getD h.tmps hd]
  have old := (h.env t).mono hx.same hx.mono hx.le
  cases dst with
  | none => exact old
  | some k =>
    simp only [G.fin, updO, upd]
    by_cases e : t = k
    · simp only [e, if_true]; exact hr
    · simp only [e, if_false]; exact old
theorem Sat.congr {K : Ctx} {N : Nat} {ρ : Env} {Z : Nat → Prop} {S S' : G} {a : Act} {w : World} (h : Sat K N ρ Z S a w) (h1 : S'.env = S.env) (h2 : S'.H = S.H) (h3 : ∀ n, S.live n → S'.live n) : Sat K N ρ Z S' a w :=
  ⟨h.tmps, h.defers, fun t => by rw [h1]; exact h.env t, by rw [h2]; exact h.mem, fun n hn => h3 n (h.live n hn)⟩
theorem app_none (H : Heap) : Eff.none.app H = H := rfl
theorem live_none (L : Nat → Prop) (n : Nat) : Eff.none.live L n ↔ L n := by simp [Eff.none, Eff.live]
theorem ORule.stay {P : Program} {o : Oper} {pre : List (Operand × D)} {rd : List (Nat × Ob)} {d : D}
    (h : ∀ (ρ : Env) (w : World) (Z : Nat → Prop) (a : Act), (∀ x ∈ pre, Rel ρ w Z x.2 (a.eval x.1)) → (∀ x ∈ rd, ρ.live x.1 ∧ x.2.at_ ρ w Z x.1) →
      ∃ v, (execOp a.eval o).run P w = .ok (.value v) w ∧ Rel ρ w Z d v) : ORule P o pre rd d .none := by
  intro K N ρ Z S a w Q K' hS hpre hrd _ hd hK
  obtain ⟨v, h1, h2⟩ := h ρ w Z a (fun x hx => by rw [← hpre x hx]; exact hS.ev x.1) (fun x hx => hS.mem.obj _ _ (hrd x hx))
  unfold Oper.wp
  rw [h1]
  exact hK ρ Z _ w (hS.put hd (.refl _ _ _) h2 (by rw [app_none]; exact hS.mem) (fun n hn => (live_none _ _).2 (hS.live n hn))) (.refl _ _ _)
mutual
def D.coe : D → D
  | .c (.v (.slice none 0 0)) => .ro 0 fun _ => []
  | .lit n f => .ro n f
  | .agg l => .agg (D.coeL l)
  | .tup l => .tup (D.coeL l)
  | d => d
def D.coeL : List D → List D
  | [] => []
  | d :: l => D.coe d :: D.coeL l
end
theorem coeL_eq (l : List D) : D.coeL l = l.map D.coe := by
  induction l with
  | nil => rfl
  | cons d l ih => simp [D.coeL, ih]
theorem crel_nil {w : World} {Z : Nat → Prop} : CRel w Z (.ro 0 fun _ => []) (.slice none 0 0) :=
  .ro none 0 0 (fun _ _ => undef) (by simp [maxLen]) (Nat.le_refl _) (fun i h => by omega) (fun h => by omega) (fun ad e => by cases e) (fun i h => by omega)
theorem Rel.coe {ρ : Env} {w : World} {Z : Nat → Prop} {d : D} {v : Value} (h : Rel ρ w Z d v) : Rel ρ w Z d.coe v := by
  induction h with
  | @c x v h =>
    unfold D.coe
    split
    · rename_i e
      cases e
      cases h
      exact .c crel_nil
    · rename_i e; cases e
    · rename_i e; cases e
    · rename_i e; cases e
    · exact .c h
  | lit A h => exact .c h
  | @agg l vs h1 h3 i3 =>
    rw [D.coe, coeL_eq]
    refine .agg (by simpa using h1) (fun i hi => ?_)
    have := i3 i hi
    have hl : i < l.length := by omega
    simpa [List.getD_eq_getElem?_getD, hl] using this
  | @tup l vs h1 h3 i3 =>
    rw [D.coe, coeL_eq]
    refine .tup (by simpa using h1) (fun i hi => ?_)
    have := i3 i hi
    have hl : i < l.length := by omega
    simpa [List.getD_eq_getElem?_getD, hl] using this
  | junk v => exact .junk v
  | ptr h => exact .ptr h
  | rp b o us hz hc hr => exact .rp b o us hz hc hr
  | rptr p h hle hv => exact .rptr p h hle hv
  | own A l c h hle hv => exact .own A l c h hle hv
  | mp h => exact .mp h
  | st x h hle hv => exact .st x h hle hv
  | fn h1 h2 h3 h4 => exact .fn h1 h2 h3 h4
theorem RelL.coe {ρ : Env} {w : World} {Z : Nat → Prop} {l : List D} {vs : List Value} (h : RelL ρ w Z l vs) : RelL ρ w Z (D.coeL l) vs := by
  rw [coeL_eq]
  refine ⟨by simpa using h.len, fun i hi => ?_⟩
  have := (h.at_ i hi).coe
  have hl : i < l.length := by rw [h.len]; exact hi
  simpa [List.getD_eq_getElem?_getD, hl] using this
theorem Rel.inv_v {ρ : Env} {w : World} {Z : Nat → Prop} {x v : Value} (h : Rel ρ w Z (.c (.v x)) v) : v = x := by
  cases h with | c h => cases h; rfl
theorem Rel.inv_ptr {ρ : Env} {w : World} {Z : Nat → Prop} {n off : Nat} {v : Value} (h : Rel ρ w Z (.ptr n off) v) : v = .pointer (some ⟨ρ.blk n, off, none⟩) ∧ ρ.live n := by
  cases h with | ptr h => exact ⟨rfl, h⟩
theorem Rel.inv_mp {ρ : Env} {w : World} {Z : Nat → Prop} {n : Nat} {v : Value} (h : Rel ρ w Z (.mp n) v) : v = .map (some (ρ.blk n)) ∧ ρ.live n := by
  cases h with | mp h => exact ⟨rfl, h⟩
theorem Rel.inv_own {ρ : Env} {w : World} {Z : Nat → Prop} {n ver : Nat} {v : Value} (h : Rel ρ w Z (.own n ver) v) : ρ.live n ∧ (ver = ρ.ver n → v = ρ.val n) := by
  cases h with | own A l c h _ hv => exact ⟨h, hv⟩
theorem Rel.inv_agg {ρ : Env} {w : World} {Z : Nat → Prop} {l : List D} {v : Value} (h : Rel ρ w Z (.agg l) v) : ∃ vs : Array Value, v = .agg vs ∧ RelL ρ w Z l vs.toList := by
  cases h with
  | agg h1 h3 => exact ⟨_, rfl, by simpa using h1, fun i hi => by simpa [List.getD_eq_getElem?_getD, Array.getD_eq_getD_getElem?] using h3 i (by simpa using hi)⟩
theorem Rel.inv_tup {ρ : Env} {w : World} {Z : Nat → Prop} {l : List D} {v : Value} (h : Rel ρ w Z (.tup l) v) : ∃ vs : Array Value, v = .tuple vs ∧ RelL ρ w Z l vs.toList := by
  cases h with
  | tup h1 h3 => exact ⟨_, rfl, by simpa using h1, fun i hi => by simpa [List.getD_eq_getElem?_getD, Array.getD_eq_getD_getElem?] using h3 i (by simpa using hi)⟩
theorem Rel.mk_agg {ρ : Env} {w : World} {Z : Nat → Prop} {l : List D} {vs : Array Value} (h : RelL ρ w Z l vs.toList) : Rel ρ w Z (.agg l) (.agg vs) :=
  .agg (by simpa using h.len) fun i hi => by simpa [List.getD_eq_getElem?_getD, Array.getD_eq_getD_getElem?] using h.at_ i (by simpa using hi)
theorem Rel.mk_tup {ρ : Env} {w : World} {Z : Nat → Prop} {l : List D} {vs : Array Value} (h : RelL ρ w Z l vs.toList) : Rel ρ w Z (.tup l) (.tuple vs) :=
  .tup (by simpa using h.len) fun i hi => by simpa [List.getD_eq_getElem?_getD, Array.getD_eq_getD_getElem?] using h.at_ i (by simpa using hi)
theorem ORule.ext {P : Program} {o : Oper} {pre : List (Operand × D)} {rd : List (Nat × Ob)} {d d' : D} {e : Eff} (h : ORule P o pre rd d e)
    (hd : ∀ (ρ : Env) (w : World) (Z : Nat → Prop) (v : Value), Rel ρ w Z d v → Rel ρ w Z d' v) : ORule P o pre rd d' e := by
  intro K N ρ Z S a w Q K' hS hpre hrd hf hdst hK
  refine h K N ρ Z S a w Q K' hS hpre hrd hf hdst fun ρ' Z' a' w' hS' hx => hK ρ' Z' a' w' ⟨hS'.tmps, hS'.defers, fun t => ?_, hS'.mem, hS'.live⟩ hx
  have h1 := hS'.env t
  show Rel ρ' w' Z' (updO S.env o.dst d' t) _
  have h2 : Rel ρ' w' Z' (updO S.env o.dst d t) (a'.tmps.getD t undef) := h1
  cases hd' : o.dst with
  | none => rw [hd'] at h2; exact h2
  | some k =>
    rw [hd'] at h2
    simp only [updO, upd] at h2 ⊢
    split
    · rename_i e; simp only [e, if_true] at h2 ⊢; exact hd _ _ _ _ h2
    · rename_i e; simp only [e, if_false] at h2 ⊢; exact h2
theorem rel_ro_ext {ρ : Env} {w : World} {Z : Nat → Prop} {n : Nat} {f g : Nat → List C} {v : Value} (h : Rel ρ w Z (.ro n f) v) (hfg : ∀ i, i < n → f i = g i) : Rel ρ w Z (.ro n g) v := by
  cases h with
  | c h =>
    cases h with
    | ro A cp sz us hn hnc hsz hA hc hr =>
      exact .c (.ro A cp sz us hn hnc (fun i hi => by rw [← hfg i hi]; exact hsz i hi) hA hc (fun i hi j hj => by rw [← hfg i hi]; exact hr i hi j hj))
end Go.Sy

/-
  Regions that draw their order: every order comes to what the order of the text comes to, if operations that are not ordered don't touch the same. Plain theorems.
-/
import Derived.Test.YtkjjihicaefmcaaDoorSyG
set_option linter.unusedVariables false
set_option linter.unusedSimpArgs false
set_option linter.unusedSectionVars false
namespace Go.Sy
open Go Go.RowKit
section
variable {V : Type}
def app (L : Nat → Bool) : List (Nat → Option V) → Nat → (Nat → V) → (Nat → V)
  | [], _, s => s
  | wr :: es, i, s => app L es (i + 1) (if L i then fun r => (wr r).getD (s r) else s)
theorem app_congr {L L' : Nat → Bool} {r : Nat} : ∀ (es : List (Nat → Option V)) (i : Nat) (s s' : Nat → V), (∀ k wr, es[k]? = some wr → (wr r).isSome = true → L (i + k) = L' (i + k)) → s r = s' r → app L es i s r = app L' es i s' r
  | [], _, _, _, _, h => h
  | wr :: es, i, s, s', h, hs => by
    simp only [app]
    refine app_congr es (i + 1) _ _ (fun k wr' hk hw => ?_) ?_
    · have := h (k + 1) wr' (by simpa using hk) hw
      simpa [Nat.add_assoc, Nat.add_comm 1 k] using this
    · have h0 := h 0 wr (by simp)
      simp only [Nat.add_zero] at h0
      cases hw : wr r with
      | none => cases L i <;> cases L' i <;> simp [hw, hs]
      | some v =>
        have := h0 (by simp [hw])
        rw [this]
        cases L' i <;> simp [hw, hs]
theorem appL_none {L : Nat → Bool} {r : Nat} (es : List (Nat → Option V)) (i : Nat) (s : Nat → V) (h : ∀ k wr, es[k]? = some wr → (wr r).isSome = true → L (i + k) = false) : app L es i s r = s r := by
  have : ∀ (es : List (Nat → Option V)) (i : Nat) (s : Nat → V), app (fun _ => false) es i s r = s r := by
    intro es
    induction es with
    | nil => intro i s; rfl
    | cons wr es ih => intro i s; simp [app, ih]
  rw [app_congr (L' := fun _ => false) es i s s h rfl, this]
theorem app_at {L : Nat → Bool} {r : Nat} {v : V} : ∀ (es : List (Nat → Option V)) (i k : Nat) (s : Nat → V) (wr : Nat → Option V), es[k]? = some wr → wr r = some v → L (i + k) = true →
    (∀ m wr', k < m → es[m]? = some wr' → (wr' r).isSome = true → L (i + m) = false) → app L es i s r = v
  | [], _, k, _, _, h, _, _, _ => by simp at h
  | x :: es, i, 0, s, wr, h, hv, hL, hm => by
    simp at h
    subst h
    simp only [app]
    rw [appL_none es (i + 1) _ (fun k wr' hk hw => ?_)]
    · simp only [Nat.add_zero] at hL
      simp [hL, hv]
    · have := hm (k + 1) wr' (by omega) (by simpa using hk) hw
      simpa [Nat.add_assoc, Nat.add_comm 1 k] using this
  | x :: es, i, k + 1, s, wr, h, hv, hL, hm => by
    simp only [app]
    refine app_at es (i + 1) k _ wr (by simpa using h) hv (by simpa [Nat.add_assoc, Nat.add_comm 1 k] using hL) (fun m wr' hlt hk hw => ?_)
    have := hm (m + 1) wr' (by omega) (by simpa using hk) hw
    simpa [Nat.add_assoc, Nat.add_comm 1 m] using this
theorem app_more {L : Nat → Bool} (es : List (Nat → Option V)) (i : Nat) (s : Nat → V) (wr : Nat → Option V) (hi : es[i]? = some wr) (hL : L i = false)
    (hlater : ∀ r, (wr r).isSome = true → ∀ m wr', i < m → es[m]? = some wr' → (wr' r).isSome = true → L m = false) :
    app (fun k => L k || decide (k = i)) es 0 s = fun r => (wr r).getD (app L es 0 s r) := by
  funext r
  cases hw : wr r with
  | none =>
    simp only [Option.getD_none]
    refine app_congr es 0 s s (fun k wr' hk hw' => ?_) rfl
    have : k ≠ i := fun e => by subst e; rw [hi] at hk; cases hk; simp [hw] at hw'
    simp [this]
  | some v =>
    simp only [Option.getD_some]
    refine app_at es 0 i s wr hi hw (by simp) (fun m wr' hlt hk hw' => ?_)
    have := hlater r (by simp [hw]) m wr' hlt hk hw'
    simp [this]
    omega
end
theorem app_val {V : Type} {L : Nat → Bool} {r : Nat} : ∀ (es : List (Nat → Option V)) (i : Nat) (s : Nat → V), app L es i s r = s r ∨ ∃ (k : Nat) (wr : Nat → Option V) (v : V), es[k]? = some wr ∧ wr r = some v ∧ app L es i s r = v
  | [], i, s => .inl rfl
  | wr :: es, i, s => by
    simp only [app]
    rcases app_val es (i + 1) (if L i then fun r => (wr r).getD (s r) else s) with h | ⟨k, wr', v, h1, h2, h3⟩
    · rw [h]
      cases L i with
      | false => exact .inl rfl
      | true =>
        cases hw : wr r with
        | none => left; simp [hw]
        | some v => exact .inr ⟨0, wr, v, rfl, hw, by simp [hw]⟩
    · exact .inr ⟨k + 1, wr', v, by simpa using h1, h2, h3⟩
def shp : Ob → Ob
  | .row v E s l => .row v E s (l.map fun _ => [])
  | .var _ _ => .var [] 0
  | o => o
structure Ent where
  rd : List (Nat × Ob)
  d : D
  e : Eff
def slotW (dst : Option Tmp) (d : D) : Nat → Option D := fun t => if dst = some t then some d else none
def lookupL (n : Nat) : List (Nat × Ob) → Option (Option Ob) → Option (Option Ob)
  | [], acc => acc
  | (m, o) :: l, acc => lookupL n l (if m = n then some (some o) else acc)
def Eff.wr (e : Eff) : Nat → Option (Option Ob) := fun n => lookupL n (e.set ++ e.new) Option.none
theorem setH_wr (n : Nat) : ∀ (l : List (Nat × Ob)) (H H0 : Heap) (acc : Option (Option Ob)), H n = acc.getD (H0 n) → setH H l n = (lookupL n l acc).getD (H0 n)
  | [], H, H0, acc, h => h
  | (m, o) :: l, H, H0, acc, h => by
    rw [setH, lookupL]
    refine setH_wr n l _ H0 _ ?_
    by_cases e : n = m
    · subst e; simp [upd]
    · simp [upd, e, Ne.symm e, h]
theorem Eff.app_wr (e : Eff) (H : Heap) (n : Nat) : e.app H n = (e.wr n).getD (H n) := by
  unfold Eff.app Eff.wr
  have : setH (setH H e.set) e.new = setH H (e.set ++ e.new) := by
    generalize e.set = l
    induction l generalizing H with
    | nil => rfl
    | cons x l ih => obtain ⟨m, o⟩ := x; simp [setH, ih]
  rw [this]
  exact setH_wr n _ H H Option.none rfl
theorem lookupL_val {n : Nat} : ∀ {l : List (Nat × Ob)} {acc : Option (Option Ob)} {v : Option Ob}, lookupL n l acc = some v → acc = some v ∨ ∃ o, v = some o ∧ (n, o) ∈ l
  | [], acc, v, h => .inl h
  | (m, o) :: l, acc, v, h => by
    rw [lookupL] at h
    rcases lookupL_val h with h1 | ⟨o', h1, h2⟩
    · by_cases e : m = n
      · subst e
        simp only [if_true, Option.some.injEq] at h1
        exact .inr ⟨o, h1.symm, by simp⟩
      · simp only [e, if_false] at h1; exact .inl h1
    · exact .inr ⟨o', h1, List.mem_cons_of_mem _ h2⟩
theorem lookupL_some {n : Nat} : ∀ {l : List (Nat × Ob)} {acc : Option (Option Ob)}, (lookupL n l acc).isSome = true → acc.isSome = true ∨ ∃ o, (n, o) ∈ l
  | [], acc, h => .inl h
  | (m, o) :: l, acc, h => by
    rw [lookupL] at h
    rcases lookupL_some h with h1 | ⟨o', h1⟩
    · by_cases e : m = n
      · subst e; exact .inr ⟨o, by simp⟩
      · simp only [e, if_false] at h1; exact .inl h1
    · exact .inr ⟨o', List.mem_cons_of_mem _ h1⟩
def Eff.names (e : Eff) : List Nat := (e.set ++ e.new).map (·.1)
theorem Eff.wr_names {e : Eff} {n : Nat} (h : (e.wr n).isSome = true) : n ∈ e.names := by
  rcases lookupL_some h with h1 | ⟨o, h1⟩
  · cases h1
  · exact List.mem_map.2 ⟨_, h1, rfl⟩
def ancs (ops : Array Oper) : List (List Nat) :=
  ops.toList.foldl (fun acc o => acc ++ [(o.after.toList.filter (Region.binds .any)).flatMap fun e => e.on :: acc.getD e.on []]) []
def reads (ops : Array Oper) (o : Oper) : List Nat :=
  (o.op.operands.toList.filterMap fun | .tmp t => some t | _ => none) ++ (match o.guard with | some (j, _) => ((ops[j]?).bind (·.dst)).toList | none => [])
def loose (ops : Array Oper) : List (Nat × Nat) :=
  let a := ancs ops
  (List.range ops.size).flatMap fun j => ((List.range j).filter fun i => !(a.getD j []).contains i).map fun i => (i, j)
def slotsOk (ops : Array Oper) : Bool :=
  (loose ops).all (fun (i, j) =>
    match ops[i]?, ops[j]? with
    | some x, some y =>
      (match x.dst with | some t => !(reads ops y).contains t && y.dst != some t | none => true) && (match y.dst with | some t => !(reads ops x).contains t | none => true)
    | _, _ => true) &&
  (List.range ops.size).all fun j => match ops[j]? with | some o => o.after.all fun e => !Region.binds .any e || decide (e.on < j) | none => true
def isLen : Op → Bool
  | .call c => match c.callee with | .builtin .len => true | _ => false
  | _ => false
def isStore : Op → Bool
  | .store .. => true
  | _ => false
theorem isLen_touch {o : Op} (h : isLen o = true) : touch o = 1 := by
  unfold isLen at h
  split at h
  · split at h
    · rename_i hc; simp [touch, hc]
    · cases h
  · cases h
def allSto (ops : Array Oper) : Bool := ops.toList.all fun o => touch o.op != 2 || isStore o.op
def exempt (ops : Array Oper) (x y : Op) : Bool := ((isLen x && isStore y) || (isStore x && isLen y)) && allSto ops
def heapPairs (ops : Array Oper) : List (Nat × Nat) :=
  (loose ops).filter fun (i, j) =>
    match ops[i]?, ops[j]? with
    | some x, some y => touch x.op ≠ 0 && touch y.op ≠ 0 && (touch x.op == 2 || touch y.op == 2) && !exempt ops x.op y.op
    | _, _ => false
def Closed (ops : Array Oper) (L : Nat → Bool) : Prop := ∀ j o, ops[j]? = some o → L j = true → ∀ e ∈ o.after, Region.binds .any e = true → L e.on = true
theorem ancs_closed {ops : Array Oper} {L : Nat → Bool} (hL : Closed ops L) : ∀ (j : Nat) (o : Oper), ops[j]? = some o → (∀ e ∈ o.after, Region.binds .any e = true → L e.on = true) → ∀ i ∈ (ancs ops).getD j [], L i = true := by
  -- of every state of the fold
  have key : ∀ (l : List Oper) (acc : List (List Nat)), (∀ k, l[k]? = ops[acc.length + k]?) →
      (∀ j o, j < acc.length → ops[j]? = some o → (∀ e ∈ o.after, Region.binds .any e = true → L e.on = true) → ∀ i ∈ acc.getD j [], L i = true) →
      ∀ j o, j < acc.length + l.length → ops[j]? = some o → (∀ e ∈ o.after, Region.binds .any e = true → L e.on = true) → ∀ i ∈ (l.foldl (fun acc o => acc ++ [(o.after.toList.filter (Region.binds .any)).flatMap fun e => e.on :: acc.getD e.on []]) acc).getD j [], L i = true := by
    intro l
    induction l with
    | nil => intro acc _ h j o hj; exact h j o (by simpa using hj)
    | cons x l ih =>
      intro acc hl h j o hj ho hw
      simp only [List.foldl_cons]
      refine ih _ (fun k => ?_) ?_ j o (by simp at hj ⊢; omega) ho hw
      · have := hl (k + 1)
        simp only [List.getElem?_cons_succ] at this
        rw [this]
        simp [Nat.add_assoc, Nat.add_comm 1 k]
      · intro j' o' hj' ho' hw' i hi
        simp only [List.length_append, List.length_singleton] at hj'
        rcases Nat.lt_or_ge j' acc.length with h1 | h1
        · rw [List.getD_eq_getElem?_getD, List.getElem?_append_left h1, ← List.getD_eq_getElem?_getD] at hi
          exact h j' o' h1 ho' hw' i hi
        · have e : j' = acc.length := by omega
          subst e
          have hx : x = o' := by
            have := hl 0
            simp at this
            rw [← this] at ho'
            cases ho'; rfl
          subst hx
          rw [List.getD_eq_getElem?_getD, List.getElem?_append_right (Nat.le_refl _)] at hi
          simp only [Nat.sub_self, List.getElem?_cons_zero, Option.getD_some] at hi
          obtain ⟨e, he, hie⟩ := List.mem_flatMap.1 hi
          obtain ⟨he1, he2⟩ := List.mem_filter.1 he
          have hLe := hw' e (by simpa using he1) he2
          rcases List.mem_cons.1 hie with rfl | hie
          · exact hLe
          · rcases Nat.lt_or_ge e.on acc.length with h2 | h2
            · rcases Nat.lt_or_ge e.on ops.size with h3 | h3
              · exact h e.on _ h2 (Array.getElem?_eq_getElem h3) (fun e' he' hb' => hL e.on _ (Array.getElem?_eq_getElem h3) hLe e' he' hb') i hie
              · have : acc.length ≤ ops.size := by
                  have := (Array.getElem?_eq_some_iff.1 ho').1
                  omega
                omega
            · rw [List.getD_eq_getElem?_getD, List.getElem?_eq_none h2] at hie
              simp at hie
  intro j o ho hw i hi
  have hsz : j < ops.size := (Array.getElem?_eq_some_iff.1 ho).1
  exact key ops.toList [] (by simp) (fun j o hj => by simp at hj) j o (by simpa using hsz) ho hw i hi
theorem loose_mem {ops : Array Oper} {i j : Nat} (hj : j < ops.size) (hij : i < j) (h : i ∉ (ancs ops).getD j []) : (i, j) ∈ loose ops := by
  unfold loose
  simp only [List.mem_flatMap, List.mem_range, List.mem_map, List.mem_filter, Prod.mk.injEq]
  exact ⟨j, hj, i, ⟨hij, by simpa using h⟩, rfl, rfl⟩
end Go.Sy

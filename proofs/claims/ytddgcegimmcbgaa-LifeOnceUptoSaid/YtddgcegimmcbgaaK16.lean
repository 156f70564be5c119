/-
  The life of offers: a history offers each number once, and ends it at most once. Plain theorems.
-/
import Derived.Test.YtddgcegimmcbgaaK14
set_option linter.unusedSectionVars false
namespace Go.Proofs.Ytddgcegimmcbgaa.Sy
open Go Go.Sy Go.Proofs.Ytddgcegimmcbgaa
set_option maxRecDepth 100000
set_option linter.unusedVariables false
set_option linter.unusedSimpArgs false

/-- What one event does to the offers that are out. -/
theorem next_cases (s : There) (e : Ev) :
    (e.kind = 6 ∧ (nextS s e).n = e.id ∧ (nextS s e).of.ms = putp s.of.ms [e.id] e ∧ (nextB s e = true → s.n < e.id)) ∨
    (endsB e.kind = true ∧ (nextS s e).n = s.n ∧ (nextS s e).of.ms = delp s.of.ms [e.id] ∧ (nextB s e = true → (lkp s.of.ms [e.id]).isSome = true)) ∨
    (e.kind ≠ 6 ∧ endsB e.kind = false ∧ (nextS s e).n = s.n ∧ (nextS s e).of.ms = s.of.ms) := by
  have he : endsB e.kind = true ↔ 7 ≤ e.kind ∧ e.kind ≤ 12 := by simp [endsB]
  have he' : endsB e.kind = false ↔ ¬ (7 ≤ e.kind ∧ e.kind ≤ 12) := by rw [← he]; simp
  unfold nextS nextB
  by_cases h1 : e.kind = 1 ∨ e.kind = 2
  · rw [if_pos h1, if_pos h1]
    refine .inr (.inr ⟨by omega, by rw [he']; omega, ?_, ?_⟩) <;> (unfold agentS; split <;> rfl)
  rw [if_neg h1, if_neg h1]
  by_cases h2 : e.kind = 3 ∨ e.kind = 4 ∨ e.kind = 5
  · rw [if_pos h2, if_pos h2]
    refine .inr (.inr ⟨by omega, by rw [he']; omega, ?_, ?_⟩) <;> (unfold frameS; split <;> first | rfl | (split <;> rfl))
  rw [if_neg h2, if_neg h2]
  by_cases h3 : e.kind = 6 ∨ endsB e.kind = true
  · rw [if_pos h3, if_pos h3]
    by_cases h6 : e.kind = 6
    · refine .inl ⟨h6, ?_, ?_, ?_⟩
      · unfold offerS; rw [if_pos h6]
      · unfold offerS; rw [if_pos h6]; rfl
      · unfold offerB; rw [if_pos h6]
        intro h
        simp only [Bool.and_eq_true, decide_eq_true_eq] at h
        exact h.1.1
    · refine .inr (.inl ⟨h3.resolve_left h6, ?_, ?_, ?_⟩)
      · unfold offerS; rw [if_neg h6]
      · unfold offerS; rw [if_neg h6]; rfl
      · unfold offerB; rw [if_neg h6]
        intro h
        cases hq : lkp s.of.ms [e.id] with
        | none => rw [hq] at h; cases h
        | some a => rfl
  rw [if_neg h3, if_neg h3]
  refine .inr (.inr ⟨fun h => h3 (.inl h), ?_, ?_, ?_⟩)
  · cases hq : endsB e.kind with
    | false => rfl
    | true => exact (h3 (.inr hq)).elim
  · split
    · unfold taskS; split <;> rfl
    · rfl
  · split
    · unfold taskS; split <;> rfl
    · rfl

/-- How often something holds below a number. -/
def cn (p : Nat → Bool) : Nat → Nat
  | 0 => 0
  | k + 1 => cn p k + if p k = true then 1 else 0
theorem cn_le (p : Nat → Bool) : ∀ k, cn p k ≤ k
  | 0 => Nat.le_refl _
  | k + 1 => by
    have := cn_le p k
    simp only [cn]
    split <;> omega
theorem cn_congr {p q : Nat → Bool} : ∀ {k : Nat}, (∀ i, i < k → p i = q i) → cn p k = cn q k
  | 0, _ => rfl
  | k + 1, h => by
    simp only [cn, h k (by omega), cn_congr (k := k) fun i hi => h i (by omega)]
theorem cn_one {p q : Nat → Bool} {i0 : Nat} (hp : p i0 = false) : ∀ {k : Nat}, i0 < k → (∀ i, i < k → q i = (p i || decide (i = i0))) → cn q k = cn p k + 1
  | 0, h, _ => by omega
  | k + 1, h, hq => by
    simp only [cn]
    by_cases e : i0 = k
    · subst e
      have e1 : cn q i0 = cn p i0 := cn_congr fun i hi => by
        rw [hq i (by omega)]
        have : ¬ i = i0 := by omega
        simp [this]
      have e2 : q i0 = true := by rw [hq i0 (by omega)]; simp
      rw [e1, e2, hp]
      simp
    · have e1 := cn_one (k := k) hp (by omega) fun i hi => hq i (by omega)
      have e2 : q k = p k := by
        rw [hq k (by omega)]
        have : ¬ k = i0 := fun h => e h.symm
        simp [this]
      rw [e1, e2]
      omega
theorem cn_filter (p : Nat → Bool) : ∀ k, ((List.range k).filter p).length = cn p k
  | 0 => rfl
  | k + 1 => by
    rw [List.range_succ, List.filter_append, List.length_append, cn_filter p k]
    simp only [cn]
    by_cases h : p k = true <;> simp [h]
theorem cn_list {α : Type} [Inhabited α] (q : α → Bool) (w : List α) : cn (fun j => q (w.getD j default)) w.length = (w.filter q).length := by
  have h2 : w = (List.range w.length).map fun i => w.getD i default := by
    apply List.ext_getElem (by simp)
    intro i h1 h2
    simp [List.getD_eq_getElem?_getD, h1]
  rw [← cn_filter]
  conv => rhs; rw [h2]
  rw [List.filter_map, List.length_map]
  rfl

/-- Has the offer of one event ended before another one? -/
def en (l : List Ev) (i k : Nat) : Bool := (List.range' (i + 1) (k - (i + 1))).any fun j => endsB (l.getD j default).kind && decide ((l.getD j default).id = (l.getD i default).id)
theorem en_succ (l : List Ev) {i k : Nat} (h : i < k) : en l i (k + 1) = (en l i k || (endsB (l.getD k default).kind && decide ((l.getD k default).id = (l.getD i default).id))) := by
  unfold en
  have e : k + 1 - (i + 1) = (k - (i + 1)) + 1 := by omega
  have e2 : i + 1 + (k - (i + 1)) = k := by omega
  rw [e, List.range'_concat, List.any_append]
  simp only [Nat.one_mul, e2, List.any_cons, List.any_nil, Bool.or_false]
theorem en_self (l : List Ev) (k : Nat) : en l k (k + 1) = false := by
  unfold en
  rw [Nat.sub_self]
  rfl
structure Once (l : List Ev) (k : Nat) : Prop where
  mono : ∀ i, i < k → offB l i = true → (l.getD i default).id ≤ (stS l k).n
  inc : ∀ i j, i < j → j < k → offB l i = true → offB l j = true → (l.getD i default).id < (l.getD j default).id
  opn : ∀ x, (lkp (stS l k).of.ms [x]).isSome = true ↔ ∃ i, i < k ∧ offB l i = true ∧ (l.getD i default).id = x ∧ en l i k = false
  cnt : cn (fun i => endsB (l.getD i default).kind) k = cn (fun i => offB l i && en l i k) k
theorem once (l : List Ev) (hok : ∀ k, k < l.length → okAt l k = true) : ∀ k, k ≤ l.length → Once l k
  | 0, _ => by
    refine ⟨fun i h => by omega, fun i j h1 h2 => by omega, fun x => ?_, rfl⟩
    constructor
    · intro h; cases h
    · rintro ⟨i, h, _⟩; omega
  | k + 1, hk => by
    obtain ⟨h1, h2, h3, h4⟩ := once l hok k (by omega)
    have ok := hok k (by omega)
    unfold okAt at ok
    have hs : stS l (k + 1) = nextS (stS l k) (l.getD k default) := rfl
    rcases next_cases (stS l k) (l.getD k default) with ⟨c1, c2, c3, c4⟩ | ⟨c1, c2, c3, c4⟩ | ⟨c1, c0, c2, c3⟩
    · have hlt := c4 ok
      have hoff : offB l k = true := by unfold offB; exact decide_eq_true c1
      have hend : endsB (l.getD k default).kind = false := by rw [c1]; rfl
      have hen : ∀ i, i < k → en l i (k + 1) = en l i k := fun i hi => by rw [en_succ l hi, hend, Bool.false_and, Bool.or_false]
      refine ⟨fun i hi ho => ?_, fun i j hij hj hoi hoj => ?_, fun x => ?_, ?_⟩
      · rw [hs, c2]
        rcases Nat.lt_or_ge i k with h | h
        · have := h1 i h ho; omega
        · obtain rfl : i = k := by omega
          exact Int.le_refl _
      · rcases Nat.lt_or_ge j k with h | h
        · exact h2 i j hij h hoi hoj
        · obtain rfl : j = k := by omega
          have := h1 i hij hoi; omega
      · rw [hs, c3, lkp_put]
        by_cases e : (l.getD k default).id = x
        · rw [if_pos (by rw [e])]
          exact ⟨fun _ => ⟨k, by omega, hoff, e, en_self l k⟩, fun _ => rfl⟩
        · rw [if_neg (by simpa using e), h3]
          constructor
          · rintro ⟨i, g1, g2, g3, g4⟩
            exact ⟨i, by omega, g2, g3, by rw [hen i g1]; exact g4⟩
          · rintro ⟨i, g1, g2, g3, g4⟩
            rcases Nat.lt_or_ge i k with h | h
            · exact ⟨i, h, g2, g3, by rw [← hen i h]; exact g4⟩
            · obtain rfl : i = k := by omega
              exact (e g3).elim
      · simp only [cn, hend, en_self, Bool.and_false]
        rw [h4]
        simp only [Bool.false_eq_true, if_false, Nat.add_zero]
        exact cn_congr fun i hi => by rw [hen i hi]
    · have hsome := c4 ok
      have hoff : offB l k = false := by
        unfold offB
        refine decide_eq_false fun e => ?_
        rw [e] at c1
        cases c1
      obtain ⟨i0, g1, g2, g3, g4⟩ := (h3 _).1 hsome
      have huniq : ∀ i, i < k → offB l i = true → ((l.getD k default).id = (l.getD i default).id ↔ i = i0) := fun i hi ho => by
        constructor
        · intro e
          rcases Nat.lt_trichotomy i i0 with h | h | h
          · have := h2 i i0 h g1 ho g2; omega
          · exact h
          · have := h2 i0 i h hi g2 ho; omega
        · rintro rfl; exact g3.symm
      have hen : ∀ i, i < k → en l i (k + 1) = (en l i k || decide ((l.getD k default).id = (l.getD i default).id)) := fun i hi => by rw [en_succ l hi, c1, Bool.true_and]
      refine ⟨fun i hi ho => ?_, fun i j hij hj hoi hoj => ?_, fun x => ?_, ?_⟩
      · rw [hs, c2]
        rcases Nat.lt_or_ge i k with h | h
        · exact h1 i h ho
        · obtain rfl : i = k := by omega
          rw [hoff] at ho; cases ho
      · rcases Nat.lt_or_ge j k with h | h
        · exact h2 i j hij h hoi hoj
        · obtain rfl : j = k := by omega
          rw [hoff] at hoj; cases hoj
      · rw [hs, c3, lkp_del (stS l k).of.hn]
        by_cases e : (l.getD k default).id = x
        · rw [if_pos (by rw [e])]
          constructor
          · intro h; cases h
          · rintro ⟨i, k1, k2, k3, k4⟩
            rcases Nat.lt_or_ge i k with h | h
            · rw [hen i h, k3, e] at k4
              simp at k4
            · obtain rfl : i = k := by omega
              rw [hoff] at k2; cases k2
        · rw [if_neg (by simpa using e), h3]
          constructor
          · rintro ⟨i, k1, k2, k3, k4⟩
            refine ⟨i, by omega, k2, k3, ?_⟩
            rw [hen i k1, k4, k3]
            simpa using e
          · rintro ⟨i, k1, k2, k3, k4⟩
            rcases Nat.lt_or_ge i k with h | h
            · refine ⟨i, h, k2, k3, ?_⟩
              rw [hen i h] at k4
              simp only [Bool.or_eq_false_iff] at k4
              exact k4.1
            · obtain rfl : i = k := by omega
              rw [hoff] at k2; cases k2
      · simp only [cn, c1, hoff, Bool.false_and, if_true, Bool.false_eq_true, if_false, Nat.add_zero]
        rw [h4]
        symm
        refine cn_one (i0 := i0) (by rw [g2, g4]; rfl) g1 fun i hi => ?_
        rw [hen i hi]
        cases ho : offB l i with
        | false =>
          have : ¬ i = i0 := fun e => by rw [e, g2] at ho; cases ho
          simp [this]
        | true =>
          simp only [Bool.true_and]
          congr 1
          exact decide_eq_decide.2 (huniq i hi ho)
    · have hoff : offB l k = false := by unfold offB; exact decide_eq_false c1
      have hen : ∀ i, i < k → en l i (k + 1) = en l i k := fun i hi => by rw [en_succ l hi, c0, Bool.false_and, Bool.or_false]
      refine ⟨fun i hi ho => ?_, fun i j hij hj hoi hoj => ?_, fun x => ?_, ?_⟩
      · rw [hs, c2]
        rcases Nat.lt_or_ge i k with h | h
        · exact h1 i h ho
        · obtain rfl : i = k := by omega
          rw [hoff] at ho; cases ho
      · rcases Nat.lt_or_ge j k with h | h
        · exact h2 i j hij h hoi hoj
        · obtain rfl : j = k := by omega
          rw [hoff] at hoj; cases hoj
      · rw [hs, c3, h3]
        constructor
        · rintro ⟨i, k1, k2, k3, k4⟩
          exact ⟨i, by omega, k2, k3, by rw [hen i k1]; exact k4⟩
        · rintro ⟨i, k1, k2, k3, k4⟩
          rcases Nat.lt_or_ge i k with h | h
          · exact ⟨i, h, k2, k3, by rw [← hen i h]; exact k4⟩
          · obtain rfl : i = k := by omega
            rw [hoff] at k2; cases k2
      · simp only [cn, c0, hoff, Bool.false_and, Bool.false_eq_true, if_false, Nat.add_zero]
        rw [h4]
        exact cn_congr fun i hi => by rw [hen i hi]

/-- What the law says, of the lists. -/
def endedW (w : List Off) (k : Nat) : Nat := cn (fun j => decide (0 ≤ (w.getD j default).end_)) k
theorem endR_en (l : List Ev) (i : Nat) : decide (0 ≤ (endR l i).1) = en l i l.length := by
  unfold endR nextEnd nextAt en
  cases h : (List.range' (i + 1) (l.length - (i + 1))).find? (fun j => endsB (l.getD j default).kind && decide ((l.getD j default).id = (l.getD i default).id)) with
  | none =>
    dsimp only
    rw [List.find?_eq_none] at h
    symm
    rw [show decide (0 ≤ (-1 : Int)) = false from rfl, List.any_eq_false]
    exact h
  | some j =>
    dsimp only
    have h1 := List.find?_some h
    have h2 := List.mem_of_find?_eq_some h
    rw [decide_eq_true (Int.natCast_nonneg j)]
    symm
    rw [List.any_eq_true]
    exact ⟨j, h2, h1⟩
theorem offs_filter (l : List Ev) (q : Off → Bool) : ((offs l).filter q).length = cn (fun i => offB l i && q (offAt l i)) l.length := by
  unfold offs offsFrom
  rw [List.filter_map, List.length_map, List.filter_filter, Nat.sub_zero, ← List.range_eq_range', ← cn_filter]
  congr 1
  apply List.filter_congr
  intro i _
  simp [Bool.and_comm]
theorem law_ended (l : List Ev) (hok : ∀ k, k < l.length → okAt l k = true) : endedW (offs l) (offs l).length = cn (fun i => endsB (l.getD i default).kind) l.length := by
  rw [(once l hok l.length (Nat.le_refl _)).cnt]
  unfold endedW
  rw [cn_list (fun p : Off => decide (0 ≤ p.end_)), offs_filter]
  exact cn_congr fun i _ => by rw [← endR_en]; rfl
theorem law_open (l : List Ev) : (openR l).length + endedW (offs l) (offs l).length = (offs l).length := by
  unfold openR endedW
  rw [List.length_map, cn_list (fun p : Off => decide (0 ≤ p.end_)), ← List.countP_eq_length_filter, ← List.countP_eq_length_filter, List.length_eq_countP_add_countP (p := fun p : Off => decide (0 ≤ p.end_)) (l := offs l), Nat.add_comm]
  congr 1
  apply List.countP_congr
  intro p _
  simp [openB]
theorem offs_at {l : List Ev} {a : Nat} (h : a < (offs l).length) : ∃ i, i < l.length ∧ offB l i = true ∧ (offs l).getD a default = offAt l i := by
  have h1 : (offs l).getD a default ∈ offs l := by
    rw [List.getD_eq_getElem?_getD, List.getElem?_eq_getElem h]
    exact List.getElem_mem h
  unfold offs offsFrom at h1 ⊢
  obtain ⟨i, h2, h3⟩ := List.mem_map.1 h1
  rw [List.mem_filter] at h2
  have h4 := h2.1
  simp at h4
  exact ⟨i, h4, h2.2, h3.symm⟩
theorem law_to {l : List Ev} {a : Nat} (h : a < (offs l).length) : 0 ≤ ((offs l).getD a default).end_ → ((offs l).getD a default).at_ < ((offs l).getD a default).end_ := by
  obtain ⟨i, h1, h2, h3⟩ := offs_at h
  rw [h3]
  simp only [offAt]
  unfold endR
  cases hq : nextEnd l (l.getD i default).id (i + 1) with
  | none => intro h; simp at h
  | some j =>
    intro _
    have := (nextAt_lt hq).1
    dsimp only
    omega
theorem law_inc (l : List Ev) (hok : ∀ k, k < l.length → okAt l k = true) {a : Nat} (h0 : 0 < a) (h : a < (offs l).length) : ((offs l).getD (a - 1) default).id < ((offs l).getD a default).id := by
  have hp : (offs l).Pairwise fun p q => p.id < q.id := by
    unfold offs offsFrom
    rw [List.pairwise_map]
    have hr : (List.range' 0 (l.length - 0)).Pairwise (· < ·) := List.pairwise_lt_range'
    have hall : ∀ i ∈ (List.range' 0 (l.length - 0)).filter (offB l), i < l.length ∧ offB l i = true := fun i hi => by
      rw [List.mem_filter] at hi
      have := hi.1
      simp at this
      exact ⟨this, hi.2⟩
    refine List.Pairwise.imp_of_mem ?_ (hr.filter _)
    intro i j hi hj hij
    exact (once l hok l.length (Nat.le_refl _)).inc i j hij (hall j hj).1 (hall i hi).2 (hall j hj).2
  rw [List.pairwise_iff_getElem] at hp
  have := hp (a - 1) a (by omega) h (by omega)
  simp only [List.getD_eq_getElem?_getD, List.getElem?_eq_getElem h, List.getElem?_eq_getElem (show a - 1 < (offs l).length by omega), Option.getD_some]
  exact this
end Go.Proofs.Ytddgcegimmcbgaa.Sy

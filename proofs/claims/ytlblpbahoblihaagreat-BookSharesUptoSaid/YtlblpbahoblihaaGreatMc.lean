/-
  Vectors: what one takes from another, said plainly. Plain theorems.
-/
import Derived.Test.YtlblpbahoblihaaGreatMa
import Derived.Test.YtlblpbahoblihaaGreatMb
set_option linter.unusedSectionVars false
set_option maxRecDepth 100000
set_option maxHeartbeats 8000000
set_option linter.unusedVariables false
set_option linter.unusedSimpArgs false
namespace Go.Proofs.YtlblpbahoblihaaGreat.Sy
open Go Go.Sy Go.Proofs.YtlblpbahoblihaaGreat
theorem nextAt_eq_some {p : Nat → Bool} {a n k : Nat} : nextAt p a n = some k ↔ p k = true ∧ (a ≤ k ∧ k < n) ∧ ∀ j, a ≤ j → j < k → p j = false := by
  rw [nextAt, List.find?_range'_eq_some]
  simp only [List.mem_range'_1, Bool.not_eq_eq_eq_not, Bool.not_true]
  constructor
  · rintro ⟨h1, h2, h3⟩; exact ⟨h1, ⟨h2.1, by omega⟩, h3⟩
  · rintro ⟨h1, h2, h3⟩; exact ⟨h1, ⟨h2.1, by omega⟩, h3⟩
theorem nextAt_eq_none {p : Nat → Bool} {a n : Nat} : nextAt p a n = none ↔ ∀ j, a ≤ j → j < n → p j = false := by
  simp only [nextAt, List.find?_eq_none, List.mem_range'_1]
  constructor
  · intro h j h1 h2; simpa using h j ⟨h1, by omega⟩
  · intro h j hj; simpa using h j hj.1 (by omega)
theorem nextAt_isNone {p : Nat → Bool} {n : Nat} : (nextAt p 0 n).isNone = true ↔ ∀ j, j < n → p j = false := by
  rw [Option.isNone_iff_eq_none, nextAt_eq_none]
  exact ⟨fun h j hj => h j (Nat.zero_le _) hj, fun h j _ hj => h j hj⟩
theorem getD_el {α : Type} [Inhabited α] {l : List α} {i : Nat} (h : i < l.length) : l.getD i default = l[i] := by simp [List.getD_eq_getElem?_getD, h]
def sl (p q : Part) : Prop := p.kind < q.kind ∨ (p.kind = q.kind ∧ p.role < q.role)
structure POk (p : Part) : Prop where
  k0 : 0 ≤ p.kind
  k1 : p.kind < 4
  r0 : 0 ≤ p.role
  r1 : p.role ≤ 32
  a0 : 1 ≤ p.amount
  a1 : p.amount ≤ 9007199254740992
structure VOk (v : List Part) : Prop where
  ok : ∀ p ∈ v, POk p
  up : v.Pairwise sl
theorem sl_trans {p q r : Part} (h : sl p q) (h' : sl q r) : sl p r := by
  unfold sl at *
  omega
theorem badAt_iff (v : List Part) (i : Nat) : badAt v i = false ↔ POk (v.getD i default) ∧ (0 < i → sl (v.getD (i - 1) default) (v.getD i default)) := by
  unfold badAt slotRight amountRight slotCmp sl
  generalize v.getD i default = p
  generalize v.getD (i - 1) default = q
  obtain ⟨k, r, a⟩ := p
  obtain ⟨k', r', a'⟩ := q
  simp only [Bool.or_eq_false_iff, Bool.not_eq_eq_eq_not, Bool.not_false, Bool.and_eq_true, decide_eq_true_eq, decide_eq_false_iff_not, Bool.and_eq_false_iff]
  constructor
  · rintro ⟨h1, h2, h3, h4⟩
    refine ⟨⟨by dsimp only; omega, by dsimp only; omega, by dsimp only; omega, by dsimp only; omega, by show 1 ≤ a; omega, by show a ≤ _; omega⟩, fun h => ?_⟩
    rcases h4 with h4 | h4
    · exact absurd h h4
    · split at h4
      · omega
      · split at h4 <;> omega
  · rintro ⟨⟨h1, h2, h3, h4, h5, h6⟩, h7⟩
    dsimp only at *
    refine ⟨by omega, by omega, by omega, ?_⟩
    by_cases h : 0 < i
    · right
      have := h7 h
      rw [if_neg (by omega), if_pos (by omega)]
      decide
    · exact .inl h
theorem vecRight_iff (v : List Part) : vecRight v = true ↔ VOk v := by
  unfold vecRight
  rw [nextAt_isNone]
  constructor
  · intro h
    have h1 := fun j hj => (badAt_iff v j).1 (h j hj)
    refine ⟨fun p hp => ?_, ?_⟩
    · obtain ⟨i, hi, rfl⟩ := List.mem_iff_getElem.1 hp
      have := (h1 i hi).1
      rwa [getD_el hi] at this
    · rw [List.pairwise_iff_getElem]
      intro i j hi hj hij
      induction j with
      | zero => omega
      | succ j ih =>
        have h2 := (h1 (j + 1) hj).2 (by omega)
        rw [getD_el hj, Nat.add_sub_cancel, getD_el (by omega)] at h2
        by_cases e : i = j
        · subst e; exact h2
        · exact sl_trans (ih (by omega) (by omega)) h2
  · rintro ⟨h1, h2⟩ j hj
    rw [badAt_iff, getD_el hj]
    refine ⟨h1 _ (List.getElem_mem hj), fun h => ?_⟩
    rw [getD_el (by omega)]
    exact List.pairwise_iff_getElem.1 h2 _ _ _ _ (by omega)
def lk : List Part → Int → Int → Int
  | [], _, _ => 0
  | p :: l, k, r => if p.kind = k ∧ p.role = r then p.amount else lk l k r
theorem lk_no {k r : Int} : ∀ (v : List Part), (∀ p ∈ v, ¬ (p.kind = k ∧ p.role = r)) → lk v k r = 0
  | [], _ => rfl
  | p :: v, h => by
    simp only [lk]
    rw [if_neg (h p (by simp))]
    exact lk_no v fun q hq => h q (by simp [hq])
theorem lk_bd {v : List Part} (h : ∀ p ∈ v, POk p) (k r : Int) : 0 ≤ lk v k r ∧ lk v k r ≤ 9007199254740992 := by
  induction v with
  | nil => simp [lk]
  | cons q v ih =>
    simp only [lk]
    split
    · have := h q (by simp)
      exact ⟨by have := this.a0; omega, this.a1⟩
    · exact ih fun p hp => h p (by simp [hp])
def left1 (bs : List Part) (x : Part) : List Part := if x.amount - lk bs x.kind x.role = 0 then [] else [⟨x.kind, x.role, x.amount - lk bs x.kind x.role⟩]
def res : List Part → List Part → List Part
  | [], _ => []
  | x :: xs, bs => left1 bs x ++ res xs bs
theorem lk_cons_ne {y : Part} {ys : List Part} {k r : Int} (h : ¬ (y.kind = k ∧ y.role = r)) : lk (y :: ys) k r = lk ys k r := if_neg h
end Go.Proofs.YtlblpbahoblihaaGreat.Sy
namespace Go.Proofs.YtlblpbahoblihaaGreat.Sy
open Go Go.Sy Go.Proofs.YtlblpbahoblihaaGreat
theorem VOk.tail {x : Part} {xs : List Part} (h : VOk (x :: xs)) : VOk xs := ⟨fun p hp => h.ok p (by simp [hp]), (List.pairwise_cons.1 h.up).2⟩
def sk : List Part → Int → Int
  | [], _ => 0
  | p :: l, k => (if p.kind = k then p.amount else 0) + sk l k
theorem sk_app (a b : List Part) (k : Int) : sk (a ++ b) k = sk a k + sk b k := by
  induction a with
  | nil => simp [sk]
  | cons p a ih => simp only [List.cons_append, sk, ih]; omega
theorem sk_nn {v : List Part} (h : ∀ p ∈ v, POk p) (k : Int) : 0 ≤ sk v k := by
  induction v with
  | nil => simp [sk]
  | cons p v ih =>
    have h1 := (h p (by simp)).a0
    have h2 := ih fun q hq => h q (by simp [hq])
    simp only [sk]
    split <;> omega
theorem sk_bd {R k : Int} : ∀ (v : List Part) (r0 : Int), VOk v → (∀ p ∈ v, p.role ≤ R) → (∀ p ∈ v, p.kind = k → r0 ≤ p.role) → r0 ≤ R + 1 → sk v k ≤ (R + 1 - r0) * 9007199254740992
  | [], r0, _, _, _, h => by
    simp only [sk]
    omega
  | p :: v, r0, hv, hR, h0, hr => by
    obtain ⟨h1, h2⟩ := List.pairwise_cons.1 hv.up
    have hp := hv.ok p (by simp)
    have hpR := hR p (by simp)
    simp only [sk]
    split
    · rename_i e
      have h3 := h0 p (by simp) e
      have := sk_bd (R := R) (k := k) v (p.role + 1) hv.tail (fun q hq => hR q (by simp [hq])) (fun q hq hk => by
        have := h1 q hq
        unfold sl at this
        omega) (by omega)
      have := hp.a1
      omega
    · have := sk_bd (R := R) (k := k) v r0 hv.tail (fun q hq => hR q (by simp [hq])) (fun q hq hk => h0 q (by simp [hq]) hk) hr
      omega
theorem sk_bd33 {v : List Part} (hv : VOk v) (k : Int) : sk v k ≤ 33 * 9007199254740992 := by
  have := sk_bd (R := 32) (k := k) v 0 hv (fun p hp => (hv.ok p hp).r1) (fun p hp _ => (hv.ok p hp).r0) (by omega)
  omega
theorem sk_bd1 {v : List Part} (hv : VOk v) (h : ∀ p ∈ v, p.role = 0) (k : Int) : sk v k ≤ 9007199254740992 := by
  have := sk_bd (R := 0) (k := k) v 0 hv (fun p hp => by rw [h p hp]; omega) (fun p hp _ => by rw [h p hp]; omega) (by omega)
  omega
def S4.of (f : Int → Int) : S4 := ⟨f 0, f 1, f 2, f 3⟩
theorem ofTo_sk {v : List Part} (hv : VOk v) : ∀ i, i ≤ v.length → ofTo v i = S4.of (sk (v.take i))
  | 0, _ => rfl
  | i + 1, h => by
    have h1 := fun k => sk_bd33 hv k
    have h2 : ∀ k, sk v k = sk (v.take (i + 1)) k + sk (v.drop (i + 1)) k := fun k => by rw [← sk_app, List.take_append_drop]
    have h3 := fun k => sk_nn (v := v.drop (i + 1)) (fun p hp => hv.ok p (List.mem_of_mem_drop hp)) k
    have h4 := fun k => sk_nn (v := v.take (i + 1)) (fun p hp => hv.ok p (List.mem_of_mem_take hp)) k
    have hp := hv.ok _ (List.getElem_mem (show i < v.length by omega))
    have e : ∀ k, sk (v.take (i + 1)) k = sk (v.take i) k + if (v[i]).kind = k then (v[i]).amount else 0 := fun k => by
      rw [List.take_succ_eq_append_getElem (by omega), sk_app]
      simp [sk]
    simp only [ofTo]
    rw [ofTo_sk hv i (by omega), getD_el (by omega)]
    unfold S4.addAt S4.of
    generalize v[i] = p at *
    obtain ⟨kk, r, a⟩ := p
    have k0 := hp.k0
    have k1 := hp.k1
    dsimp only at *
    have hw : ∀ k, 0 ≤ k → k < 4 → sk (v.take (i + 1)) k ≤ 33 * 9007199254740992 ∧ 0 ≤ sk (v.take (i + 1)) k := fun k _ _ => by
      have a1 := h1 k
      have a2 := h2 k
      have a3 := h3 k
      have a4 := h4 k
      omega
    rcases (show kk = 0 ∨ kk = 1 ∨ kk = 2 ∨ kk = 3 by omega) with rfl | rfl | rfl | rfl
    all_goals
      simp only [e, S4.at_] at *
      simp at *
    · exact wrap_i64 (by have := hw 0; simp at this; omega) (by have := hw 0; simp at this; omega)
    · exact wrap_i64 (by have := hw 1; simp at this; omega) (by have := hw 1; simp at this; omega)
    · exact wrap_i64 (by have := hw 2; simp at this; omega) (by have := hw 2; simp at this; omega)
    · exact wrap_i64 (by have := hw 3; simp at this; omega) (by have := hw 3; simp at this; omega)
theorem sumsOf_sk {v : List Part} (hv : VOk v) : sumsOf v = S4.of (sk v) := by
  unfold sumsOf
  rw [if_pos ((vecRight_iff v).2 hv), ofTo_sk hv _ (Nat.le_refl _), List.take_length]
end Go.Proofs.YtlblpbahoblihaaGreat.Sy
namespace Go.Proofs.YtlblpbahoblihaaGreat.Sy
open Go Go.Sy Go.Proofs.YtlblpbahoblihaaGreat
structure Bare (v : List Part) : Prop where
  ok : VOk v
  role : ∀ p ∈ v, p.role = 0
  pos : 0 < v.length
theorem Bare.sums {v : List Part} (h : Bare v) (k : Int) : 0 ≤ sk v k ∧ sk v k ≤ 9007199254740992 := ⟨sk_nn h.ok.ok k, sk_bd1 h.ok h.role k⟩
theorem Bare.right {v : List Part} (h : Bare v) : sumsRight (sumsOf v) = true := by
  rw [sumsOf_sk h.ok, sumsRight_iff]
  have h0 := h.sums 0
  have h1 := h.sums 1
  have h2 := h.sums 2
  have h3 := h.sums 3
  simp only [S4.of]
  omega
theorem Bare.some {v : List Part} (h : Bare v) : sumsOf v ≠ ⟨0, 0, 0, 0⟩ := by
  rw [sumsOf_sk h.ok]
  intro e
  simp only [S4.of, S4.mk.injEq] at e
  match v, h with
  | [], h => exact absurd h.pos (by simp)
  | p :: v, h =>
    have hp := h.ok.ok p (by simp)
    have k0 := hp.k0
    have k1 := hp.k1
    have a0 := hp.a0
    have hn := fun k => sk_nn (v := v) (fun q hq => h.ok.ok q (by simp [hq])) k
    have h0 := hn 0
    have h1 := hn 1
    have h2 := hn 2
    have h3 := hn 3
    simp only [sk] at e
    obtain ⟨e0, e1, e2, e3⟩ := e
    rcases (show p.kind = 0 ∨ p.kind = 1 ∨ p.kind = 2 ∨ p.kind = 3 by omega) with e | e | e | e
    all_goals
      rw [e] at e0 e1 e2 e3
      simp at e0 e1 e2 e3
      omega
end Go.Proofs.YtlblpbahoblihaaGreat.Sy

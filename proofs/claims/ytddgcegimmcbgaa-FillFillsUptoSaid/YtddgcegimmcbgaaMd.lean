/-
  Numbers by digits: what products and comparisons of the document answer. Plain theorems.
-/
import Derived.Test.YtddgcegimmcbgaaMb
import Derived.Test.YtddgcegimmcbgaaMc
set_option linter.unusedSectionVars false
namespace Go.Proofs.Ytddgcegimmcbgaa.Sy
open Go Go.Sy Go.Proofs.Ytddgcegimmcbgaa
set_option maxRecDepth 100000
set_option maxHeartbeats 8000000
set_option linter.unusedVariables false
set_option linter.unusedSimpArgs false

def val : List Int → Int
  | [] => 0
  | d :: l => d + 65536 * val l
def DgOk (l : List Int) : Prop := ∀ j, 0 ≤ l.getD j 0 ∧ l.getD j 0 < 65536
theorem DgOk.tail {d : Int} {l : List Int} (h : DgOk (d :: l)) : DgOk l := fun j => by
  have := h (j + 1)
  simpa using this
theorem DgOk.head {d : Int} {l : List Int} (h : DgOk (d :: l)) : 0 ≤ d ∧ d < 65536 := by
  have := h 0
  simpa using this
theorem getD_set (l : List Int) (j k : Nat) (x : Int) (hj : j < l.length) : (l.set j x).getD k 0 = if j = k then x else l.getD k 0 := by
  rw [List.getD_eq_getElem?_getD, List.getElem?_set, List.getD_eq_getElem?_getD]
  split
  · first | rfl | (rw [if_pos (by omega)]; rfl)
  · rfl
theorem DgOk.set {l : List Int} (h : DgOk l) {j : Nat} {x : Int} (hx : 0 ≤ x ∧ x < 65536) : DgOk (l.set j x) := fun k => by
  by_cases hj : j < l.length
  · rw [getD_set l j k x hj]
    split
    · exact hx
    · exact h k
  · rw [List.set_eq_of_length_le (by omega)]
    exact h k
theorem val_set (l : List Int) : ∀ (j : Nat) (x : Int), j < l.length → val (l.set j x) = val l + (x - l.getD j 0) * 65536 ^ j := by
  induction l with
  | nil => intro j x h; simp at h
  | cons d l ih =>
    intro j x h
    cases j with
    | zero => simp only [List.set_cons_zero, val, List.getD_cons_zero, Int.pow_zero]; omega
    | succ j =>
      have := ih j x (by simpa using h)
      simp only [List.set_cons_succ, val, List.getD_cons_succ, this, Int.pow_succ]
      grind
theorem val_take (l : List Int) : ∀ n, val (l.take (n + 1)) = val (l.take n) + l.getD n 0 * 65536 ^ n := by
  induction l with
  | nil => intro n; simp [val]
  | cons d l ih =>
    intro n
    cases n with
    | zero => simp [val]
    | succ n =>
      simp only [List.take_succ_cons, val, ih n, List.getD_cons_succ, Int.pow_succ]
      grind
theorem val_rep (n : Nat) : val (List.replicate n 0) = 0 := by
  induction n with
  | zero => rfl
  | succ n ih => simp [List.replicate_succ, val, ih]
theorem pow_pos' (n : Nat) : (0 : Int) < 65536 ^ n := Int.pow_pos (by decide)
theorem val_bd {l : List Int} (h : DgOk l) : ∀ n, 0 ≤ val (l.take n) ∧ val (l.take n) < 65536 ^ n
  | 0 => by simp [val]
  | n + 1 => by
    obtain ⟨h1, h2⟩ := val_bd h n
    rw [val_take, Int.pow_succ]
    have h3 := h n
    have h4 := pow_pos' n
    have h5 : 0 ≤ l.getD n 0 * 65536 ^ n := Int.mul_nonneg h3.1 (by omega)
    have h6 : l.getD n 0 * 65536 ^ n ≤ 65535 * 65536 ^ n := Int.mul_le_mul_of_nonneg_right (by omega) (by omega)
    omega
theorem lessTo_val {a b : List Int} (ha : DgOk a) (hb : DgOk b) : ∀ n, lessTo a b n = decide (val (a.take n) < val (b.take n))
  | 0 => by simp [lessTo, val]
  | n + 1 => by
    have ih := lessTo_val ha hb n
    simp only [lessTo, ih, val_take]
    have h1 := val_bd ha n
    have h2 := val_bd hb n
    have h3 := ha n
    have h4 := hb n
    generalize a.getD n 0 = x at *
    generalize b.getD n 0 = y at *
    have hp := pow_pos' n
    generalize (65536 : Int) ^ n = p at *
    split
    · rename_i e
      subst e
      exact decide_eq_decide.2 (by omega)
    · rename_i e
      refine decide_eq_decide.2 ⟨fun h => ?_, fun h => ?_⟩
      · have h5 : (x + 1) * p ≤ y * p := Int.mul_le_mul_of_nonneg_right (by omega) (by omega)
        rw [Int.add_mul] at h5
        omega
      · by_cases hxy : x < y
        · exact hxy
        · have h5 : (y + 1) * p ≤ x * p := Int.mul_le_mul_of_nonneg_right (by omega) (by omega)
          rw [Int.add_mul] at h5
          omega
theorem w64_eq {x : Int} (h : 0 ≤ x) (h' : x < 9223372036854775808) : w64 x = x := wrap_i64 (by omega) (by omega)
theorem dg_eq {x : Int} (h : 0 ≤ x ∧ x < 18446744073709551616) : dg x = x % 65536 := by
  unfold dg
  rw [Int.tmod_eq_emod_of_nonneg h.1, wrap_i64 (by omega) (by omega)]
theorem nq_eq {x : Int} (h : 0 ≤ x ∧ x < 18446744073709551616) : nq x = x / 65536 := by
  unfold nq
  rw [Int.tdiv_eq_ediv_of_nonneg h.1, wrap_u64 (by omega) (by omega)]
theorem digs_val {x : Int} (h : 0 ≤ x ∧ x < 18446744073709551616) : val (digsR 0 x) = x ∧ DgOk (digsR 0 x) := by
  have e0 : dg 0 = 0 := by rw [dg_eq (by omega)]; rfl
  have e1 : nq 0 = 0 := by rw [nq_eq (by omega)]; rfl
  unfold digsR
  rw [e1, e1, e1, e0, nq_eq h, nq_eq (x := x / 65536) (by omega), nq_eq (x := x / 65536 / 65536) (by omega), dg_eq h, dg_eq (x := x / 65536) (by omega), dg_eq (x := x / 65536 / 65536) (by omega), dg_eq (x := x / 65536 / 65536 / 65536) (by omega)]
  refine ⟨by simp only [val]; omega, fun j => ?_⟩
  match j with
  | 0 | 1 | 2 | 3 | 4 | 5 | 6 | 7 => simp only [List.getD_cons_zero, List.getD_cons_succ]; omega
  | n + 8 => simp [List.getD_cons_succ]
/-! ### Products -/
theorem pIn_val {out a b : List Int} {i : Nat} (ho : DgOk out) (ha : DgOk a) (hb : DgOk b) : ∀ k, k ≤ b.length → i + k ≤ out.length →
    DgOk (pIn out a b i k).out ∧ (0 ≤ (pIn out a b i k).over ∧ (pIn out a b i k).over < 65536) ∧
    val (pIn out a b i k).out + (pIn out a b i k).over * 65536 ^ (i + k) = val out + a.getD i 0 * val (b.take k) * 65536 ^ i ∧
    ∀ j, i + k ≤ j → (pIn out a b i k).out.getD j 0 = out.getD j 0
  | 0, _, _ => by simp [pIn, val]; exact ho
  | k + 1, h1, h2 => by
    obtain ⟨i1, i2, i3, i4⟩ := pIn_val (i := i) ho ha hb k (by omega) (by omega)
    have hlen := pIn_len out a b i k
    simp only [pIn]
    generalize pIn out a b i k = st at *
    obtain ⟨k0, o1, ov⟩ := st
    dsimp only at *
    have hx := i1 (i + k)
    have hA := ha i
    have hB := hb k
    have hm : 0 ≤ a.getD i 0 * b.getD k 0 ∧ a.getD i 0 * b.getD k 0 ≤ 65535 * 65535 := ⟨Int.mul_nonneg hA.1 hB.1, Int.mul_le_mul (by omega) (by omega) hB.1 (by decide)⟩
    have hn : pN o1 a b i k ov = o1.getD (i + k) 0 + a.getD i 0 * b.getD k 0 + ov := by
      unfold pN
      rw [w64_eq hm.1 (by omega), w64_eq (x := o1.getD (i + k) 0 + a.getD i 0 * b.getD k 0) (by omega) (by omega), w64_eq (by omega) (by omega)]
    rw [hn]
    obtain ⟨n, hn0⟩ : ∃ n, n = o1.getD (i + k) 0 + a.getD i 0 * b.getD k 0 + ov := ⟨_, rfl⟩
    rw [← hn0]
    have hnb : 0 ≤ n ∧ n < 4294967296 := by omega
    rw [Int.tmod_eq_emod_of_nonneg hnb.1, Int.tdiv_eq_ediv_of_nonneg hnb.1, w64_eq (by omega) (by omega)]
    refine ⟨i1.set (by omega), by omega, ?_, fun j hj => ?_⟩
    · rw [val_set _ _ _ (by omega), val_take]
      have e : n % 65536 + 65536 * (n / 65536) = n := by omega
      generalize n % 65536 = r at *
      generalize n / 65536 = q at *
      have p1 : (65536 : Int) ^ (i + (k + 1)) = 65536 ^ (i + k) * 65536 := by rw [← Nat.add_assoc, Int.pow_succ]
      have p2 : (65536 : Int) ^ (i + k) = 65536 ^ i * 65536 ^ k := Int.pow_add ..
      rw [p1]
      rw [p2] at i3 ⊢
      clear p1 p2 hm hn hx hA hB i1 i2 i4 ho ha hb h1 h2 hlen hnb
      generalize (65536 : Int) ^ i = P at *
      generalize (65536 : Int) ^ k = Q at *
      generalize a.getD i 0 = A at *
      generalize b.getD k 0 = B at *
      generalize o1.getD (i + k) 0 = X at *
      generalize val (List.take k b) = V at *
      generalize val o1 = U at *
      generalize val out = W at *
      subst e
      grind
    · rw [getD_set _ _ _ _ (by omega), if_neg (by omega)]
      exact i4 j (by omega)
theorem pOut_val {a b : List Int} (ha : DgOk a) (hb : DgOk b) : ∀ i, i ≤ a.length →
    DgOk (pOut a b i) ∧ val (pOut a b i) = val (a.take i) * val b ∧ ∀ j, i + b.length ≤ j → (pOut a b i).getD j 0 = 0
  | 0, _ => by
    refine ⟨fun j => ?_, ?_, fun j _ => ?_⟩
    · simp only [pOut, List.getD_eq_getElem?_getD, List.getElem?_replicate]
      split <;> simp
    · simp [pOut, val_rep, val]
    · simp only [pOut, List.getD_eq_getElem?_getD, List.getElem?_replicate]
      split <;> simp
  | i + 1, h => by
    obtain ⟨h1, h2, h3⟩ := pOut_val ha hb i (by omega)
    have hl := pOut_len a b i
    obtain ⟨i1, i2, i3, i4⟩ := pIn_val (i := i) h1 ha hb b.length (Nat.le_refl _) (by omega)
    have hl2 := pIn_len (pOut a b i) a b i b.length
    simp only [pOut]
    generalize pIn (pOut a b i) a b i b.length = st at *
    obtain ⟨k0, o1, ov⟩ := st
    dsimp only at *
    refine ⟨i1.set i2, ?_, fun j hj => ?_⟩
    · rw [val_set _ _ _ (by omega), i4 _ (Nat.le_refl _), h3 _ (Nat.le_refl _), val_take, Int.sub_zero, i3, h2, List.take_length, Int.add_mul]
      congr 1
      grind
    · rw [getD_set _ _ _ _ (by omega), if_neg (by omega), i4 j (by omega), h3 j (by omega)]
theorem prod_val {a b : List Int} (ha : DgOk a) (hb : DgOk b) : val (pOut a b a.length) = val a * val b ∧ DgOk (pOut a b a.length) := by
  obtain ⟨h1, h2, _⟩ := pOut_val ha hb a.length (Nat.le_refl _)
  rw [List.take_length] at h2
  exact ⟨h2, h1⟩
theorem less_val {a b : List Int} (ha : DgOk a) (hb : DgOk b) (hl : a.length = b.length) : lessTo a b a.length = decide (val a < val b) := by
  rw [lessTo_val ha hb, List.take_length, hl, List.take_length]
theorem prodD_val {x y : Int} (hx : 0 ≤ x ∧ x < 18446744073709551616) (hy : 0 ≤ y ∧ y < 18446744073709551616) : val (prodD x y) = x * y ∧ DgOk (prodD x y) := by
  obtain ⟨h1, h2⟩ := digs_val hx
  obtain ⟨h3, h4⟩ := digs_val hy
  have := prod_val h2 h4
  rw [h1, h3] at this
  exact this
theorem sideR_val {x y z : Int} (hx : 0 ≤ x ∧ x < 18446744073709551616) (hy : 0 ≤ y ∧ y < 18446744073709551616) (hz : 0 ≤ z ∧ z < 18446744073709551616) : val (sideR x y z) = x * y * z ∧ DgOk (sideR x y z) := by
  obtain ⟨h1, h2⟩ := prodD_val hx hy
  obtain ⟨h3, h4⟩ := digs_val hz
  have := prod_val h2 h4
  rw [h1, h3] at this
  exact this
theorem rFracCmp_eq {a b u v : Int} (ha : i64B a) (hb : i64B b) (hu : i64B u) (hv : i64B v) : rFracCmp a b u v = fracCmp a b u v := by
  unfold rFracCmp fracCmp
  by_cases h : fracRight a b = true ∧ fracRight u v = true
  · rw [if_pos h, if_pos h]
    simp only [fracRight, Bool.and_eq_true, decide_eq_true_eq] at h
    obtain ⟨h1, h2⟩ := prodD_val (x := a) (y := v) (by unfold i64B at *; omega) (by unfold i64B at *; omega)
    obtain ⟨h3, h4⟩ := prodD_val (x := u) (y := b) (by unfold i64B at *; omega) (by unfold i64B at *; omega)
    rw [less_val h2 h4 (by rw [prodD_len, prodD_len]), less_val h4 h2 (by rw [prodD_len, prodD_len]), h1, h3]
    generalize a * v = p
    generalize u * b = q
    simp only [decide_eq_true_eq]
    repeat' split
    all_goals omega
  · rw [if_neg h, if_neg h]
theorem rShrCmp_eq (s t : Shr) : rShrCmp s t = shrCmp s t := by
  unfold rShrCmp shrCmp crossR
  by_cases h : shrRight s = true ∧ shrRight t = true
  · rw [if_pos h, if_pos h]
    have e1 := (shrRight_iff s).1 h.1
    have e2 := (shrRight_iff t).1 h.2
    obtain ⟨h1, h2⟩ := sideR_val (x := s.num) (y := t.den) (z := t.weight) (by omega) (by omega) (by omega)
    obtain ⟨h3, h4⟩ := sideR_val (x := t.num) (y := s.den) (z := s.weight) (by omega) (by omega) (by omega)
    rw [less_val h2 h4 (by rw [sideR_len, sideR_len]), less_val h4 h2 (by rw [sideR_len, sideR_len]), h1, h3, ← Int.mul_assoc, ← Int.mul_assoc]
    generalize s.num * t.den * t.weight = p
    generalize t.num * s.den * s.weight = q
    simp only [decide_eq_true_eq]
    repeat' split
    all_goals omega
  · rw [if_neg h, if_neg h]
theorem rDom_eq (s t : S4) : rDom s t = sumsDom s t := by
  unfold rDom sumsDom
  by_cases h : sumsRight s = true ∧ sumsRight t = true
  · rw [if_pos h, if_pos h]
    have key : ∀ k, rDomTo s t k = domTo s t k := by
      intro k
      induction k with
      | zero => rfl
      | succ k ih =>
        have hb := domTo_bd h.1 h.2 k
        have h1 := S4.at_bd h.1 k
        have h2 := S4.at_bd h.2 k
        simp only [rDomTo, domTo, ih]
        unfold rDomStep domStep
        rw [rFracCmp_eq (by unfold i64B; omega) (by unfold i64B; omega) (by unfold i64B; omega) (by unfold i64B; omega)]
        have e : ((domTo s t k).at_ < 0) ↔ ((domTo s t k).at_ = -1) := by omega
        simp only [e]
    exact key 4
  · rw [if_neg h, if_neg h]
end Go.Proofs.Ytddgcegimmcbgaa.Sy

set_option linter.unusedSectionVars false
namespace Go.Proofs.Ytddgcegimmcbgaa.Sy
open Go Go.Sy Go.Proofs.Ytddgcegimmcbgaa
set_option maxRecDepth 100000
set_option maxHeartbeats 8000000
set_option linter.unusedVariables false
set_option linter.unusedSimpArgs false

theorem nextAt_eq_some {p : Nat → Bool} {a n k : Nat} : nextAt p a n = some k ↔ p k = true ∧ (a ≤ k ∧ k < n) ∧ ∀ j, a ≤ j → j < k → p j = false := by
  rw [nextAt, List.find?_range'_eq_some]
  simp only [List.mem_range'_1, Bool.not_eq_eq_eq_not, Bool.not_true]
  constructor
  · rintro ⟨h1, h2, h3⟩; exact ⟨h1, ⟨h2.1, by omega⟩, h3⟩
  · rintro ⟨h1, h2, h3⟩; exact ⟨h1, ⟨h2.1, by omega⟩, h3⟩
theorem nextAt_eq_none {p : Nat → Bool} {a n : Nat} : nextAt p a n = none ↔ ∀ j, a ≤ j → j < n → p j = false := by
  simp only [nextAt, List.find?_eq_none, List.mem_range'_1]
  constructor
  · intro h j h1 h2; simpa using h j ⟨h1, by omega⟩
  · intro h j hj; simpa using h j hj.1 (by omega)
theorem nextAt_isNone {p : Nat → Bool} {n : Nat} : (nextAt p 0 n).isNone = true ↔ ∀ j, j < n → p j = false := by
  rw [Option.isNone_iff_eq_none, nextAt_eq_none]
  exact ⟨fun h j hj => h j (Nat.zero_le _) hj, fun h j _ hj => h j hj⟩
theorem getD_el {α : Type} [Inhabited α] {l : List α} {i : Nat} (h : i < l.length) : l.getD i default = l[i] := by simp [List.getD_eq_getElem?_getD, h]

/-- The order of slots. -/
def sl (p q : Part) : Prop := p.kind < q.kind ∨ (p.kind = q.kind ∧ p.role < q.role)
structure POk (p : Part) : Prop where
  k0 : 0 ≤ p.kind
  k1 : p.kind < 4
  r0 : 0 ≤ p.role
  r1 : p.role ≤ 32
  a0 : 1 ≤ p.amount
  a1 : p.amount ≤ 9007199254740992
structure VOk (v : List Part) : Prop where
  ok : ∀ p ∈ v, POk p
  up : v.Pairwise sl
theorem sl_trans {p q r : Part} (h : sl p q) (h' : sl q r) : sl p r := by
  unfold sl at *
  omega
theorem badAt_iff (v : List Part) (i : Nat) : badAt v i = false ↔ POk (v.getD i default) ∧ (0 < i → sl (v.getD (i - 1) default) (v.getD i default)) := by
  unfold badAt slotRight amountRight slotCmp sl
  generalize v.getD i default = p
  generalize v.getD (i - 1) default = q
  obtain ⟨k, r, a⟩ := p
  obtain ⟨k', r', a'⟩ := q
  simp only [Bool.or_eq_false_iff, Bool.not_eq_eq_eq_not, Bool.not_false, Bool.and_eq_true, decide_eq_true_eq, decide_eq_false_iff_not, Bool.and_eq_false_iff]
  constructor
  · rintro ⟨h1, h2, h3, h4⟩
    refine ⟨⟨by dsimp only; omega, by dsimp only; omega, by dsimp only; omega, by dsimp only; omega, by show 1 ≤ a; omega, by show a ≤ _; omega⟩, fun h => ?_⟩
    rcases h4 with h4 | h4
    · exact absurd h h4
    · split at h4
      · omega
      · split at h4 <;> omega
  · rintro ⟨⟨h1, h2, h3, h4, h5, h6⟩, h7⟩
    dsimp only at *
    refine ⟨by omega, by omega, by omega, ?_⟩
    by_cases h : 0 < i
    · right
      have := h7 h
      rw [if_neg (by omega), if_pos (by omega)]
      decide
    · exact .inl h
theorem vecRight_iff (v : List Part) : vecRight v = true ↔ VOk v := by
  unfold vecRight
  rw [nextAt_isNone]
  constructor
  · intro h
    have h1 := fun j hj => (badAt_iff v j).1 (h j hj)
    refine ⟨fun p hp => ?_, ?_⟩
    · obtain ⟨i, hi, rfl⟩ := List.mem_iff_getElem.1 hp
      have := (h1 i hi).1
      rwa [getD_el hi] at this
    · rw [List.pairwise_iff_getElem]
      intro i j hi hj hij
      induction j with
      | zero => omega
      | succ j ih =>
        have h2 := (h1 (j + 1) hj).2 (by omega)
        rw [getD_el hj, Nat.add_sub_cancel, getD_el (by omega)] at h2
        by_cases e : i = j
        · subst e; exact h2
        · exact sl_trans (ih (by omega) (by omega)) h2
  · rintro ⟨h1, h2⟩ j hj
    rw [badAt_iff, getD_el hj]
    refine ⟨h1 _ (List.getElem_mem hj), fun h => ?_⟩
    rw [getD_el (by omega)]
    exact List.pairwise_iff_getElem.1 h2 _ _ _ _ (by omega)
/-- The amount at a slot. -/
def lk : List Part → Int → Int → Int
  | [], _, _ => 0
  | p :: l, k, r => if p.kind = k ∧ p.role = r then p.amount else lk l k r
theorem lk_at {k r : Int} : ∀ (v : List Part) (i : Nat), i < v.length → getAt v k r i = true → (∀ j, j < i → getAt v k r j = false) → lk v k r = (v.getD i default).amount
  | [], i, h, _, _ => by simp at h
  | p :: v, 0, _, h, _ => by
    simp only [getAt, List.getD_cons_zero, Bool.and_eq_true, decide_eq_true_eq] at h
    simp only [lk, List.getD_cons_zero]
    rw [if_pos h]
  | p :: v, i + 1, hi, h, hlt => by
    have h0 := hlt 0 (by omega)
    simp only [getAt, List.getD_cons_zero, Bool.and_eq_false_iff, decide_eq_false_iff_not] at h0
    simp only [lk, List.getD_cons_succ]
    rw [if_neg (by omega)]
    refine lk_at v i (by simpa using hi) (by simpa [getAt] using h) (fun j hj => ?_)
    have := hlt (j + 1) (by omega)
    simpa [getAt] using this
theorem lk_no {k r : Int} : ∀ (v : List Part), (∀ p ∈ v, ¬ (p.kind = k ∧ p.role = r)) → lk v k r = 0
  | [], _ => rfl
  | p :: v, h => by
    simp only [lk]
    rw [if_neg (h p (by simp))]
    exact lk_no v fun q hq => h q (by simp [hq])
theorem getR_lk (v : List Part) (k r : Int) : getR v k r = lk v k r := by
  unfold getR
  cases h : nextAt (getAt v k r) 0 v.length with
  | some i =>
    obtain ⟨h1, h2, h3⟩ := nextAt_eq_some.1 h
    exact (lk_at v i h2.2 h1 fun j hj => h3 j (Nat.zero_le _) hj).symm
  | none =>
    have h1 := nextAt_eq_none.1 h
    refine (lk_no v fun p hp hs => ?_).symm
    obtain ⟨i, hi, rfl⟩ := List.mem_iff_getElem.1 hp
    have := h1 i (Nat.zero_le _) hi
    rw [getAt, getD_el hi, decide_eq_true hs.1, decide_eq_true hs.2] at this
    cases this
theorem lk_mem {v : List Part} (h : v.Pairwise sl) {p : Part} (hp : p ∈ v) : lk v p.kind p.role = p.amount := by
  induction v with
  | nil => cases hp
  | cons q v ih =>
    obtain ⟨h1, h2⟩ := List.pairwise_cons.1 h
    simp only [lk]
    rcases List.mem_cons.1 hp with rfl | hp
    · rw [if_pos ⟨rfl, rfl⟩]
    · have h3 := h1 p hp
      unfold sl at h3
      rw [if_neg (by omega)]
      exact ih h2 hp
theorem lk_bd {v : List Part} (h : ∀ p ∈ v, POk p) (k r : Int) : 0 ≤ lk v k r ∧ lk v k r ≤ 9007199254740992 := by
  induction v with
  | nil => simp [lk]
  | cons q v ih =>
    simp only [lk]
    split
    · have := h q (by simp)
      exact ⟨by have := this.a0; omega, this.a1⟩
    · exact ih fun p hp => h p (by simp [hp])
theorem lk_pos {v : List Part} (h : ∀ p ∈ v, POk p) {k r : Int} (hl : 1 ≤ lk v k r) : ∃ p ∈ v, p.kind = k ∧ p.role = r := by
  apply Classical.byContradiction
  intro hn
  have := lk_no (k := k) (r := r) v fun p hp hs => hn ⟨p, hp, hs⟩
  omega
/-! ### Taking one from another -/
def sf : List Part × List Part → List Part → Option (List Part × List Part)
  | st, [] => some st
  | st, p :: l => (subStep st p).bind fun s => sf s l
theorem sf_snoc (l : List Part) (p : Part) : ∀ st, sf st (l ++ [p]) = (sf st l).bind fun s => subStep s p := by
  induction l with
  | nil => intro st; simp [sf]
  | cons q l ih =>
    intro st
    simp only [List.cons_append, sf]
    cases subStep st q with
    | none => rfl
    | some s => exact ih s
theorem subTo_sf (a b : List Part) : ∀ k, k ≤ a.length → subTo a b k = sf ([], b) (a.take k)
  | 0, _ => rfl
  | k + 1, h => by
    rw [List.take_succ_eq_append_getElem (by omega), sf_snoc, ← subTo_sf a b k (by omega), ← getD_el (by omega)]
    rfl
def left1 (bs : List Part) (x : Part) : List Part := if x.amount - lk bs x.kind x.role = 0 then [] else [⟨x.kind, x.role, x.amount - lk bs x.kind x.role⟩]
def res : List Part → List Part → List Part
  | [], _ => []
  | x :: xs, bs => left1 bs x ++ res xs bs
theorem res_nil : ∀ {a : List Part}, (∀ p ∈ a, POk p) → res a [] = a
  | [], _ => rfl
  | x :: xs, h => by
    have h1 := (h x (by simp)).a0
    have h2 := res_nil (a := xs) fun p hp => h p (by simp [hp])
    simp only [res, left1, lk, Int.sub_zero]
    rw [if_neg (by omega), h2]
    rfl
theorem lk_cons_ne {y : Part} {ys : List Part} {k r : Int} (h : ¬ (y.kind = k ∧ y.role = r)) : lk (y :: ys) k r = lk ys k r := if_neg h
theorem res_cons {y : Part} {ys : List Part} : ∀ {a : List Part}, (∀ x ∈ a, ¬ (y.kind = x.kind ∧ y.role = x.role)) → res a (y :: ys) = res a ys
  | [], _ => rfl
  | x :: xs, h => by
    simp only [res, left1, lk_cons_ne (h x (by simp)), res_cons (a := xs) fun p hp => h p (by simp [hp])]
def HB (a bs : List Part) : Prop := ∀ p ∈ bs, p.amount ≤ lk a p.kind p.role
theorem pushP_left (out : List Part) {x : Part} {n : Int} (h : 0 ≤ n) : pushP out ⟨x.kind, x.role, n⟩ = out ++ (if n = 0 then [] else [⟨x.kind, x.role, n⟩]) := by
  unfold pushP
  dsimp only
  split
  · rw [if_neg (by omega)]
  · rw [if_pos (by omega), List.append_nil]
theorem sf_main : ∀ (a bs out : List Part), VOk a → VOk bs →
    (HB a bs → sf (out, bs) a = some (out ++ res a bs, [])) ∧ (¬ HB a bs → ∀ o, sf (out, bs) a ≠ some (o, []))
  | [], bs, out, ha, hb => by
    cases bs with
    | nil => exact ⟨fun _ => by simp [sf, res], fun h => absurd (fun p hp => by cases hp) h⟩
    | cons y ys =>
      refine ⟨fun h => ?_, fun _ o h => ?_⟩
      · have h1 := h y (by simp)
        have h2 := (hb.ok y (by simp)).a0
        simp only [lk] at h1
        omega
      · simp [sf] at h
  | x :: xs, bs, out, ha, hb => by
    obtain ⟨ha1, ha2⟩ := List.pairwise_cons.1 ha.up
    have hx := ha.ok x (by simp)
    have has : VOk xs := ⟨fun p hp => ha.ok p (by simp [hp]), ha2⟩
    have hxne : ∀ p ∈ xs, ¬ (x.kind = p.kind ∧ x.role = p.role) := fun p hp h => by
      have := ha1 p hp
      unfold sl at this
      omega
    cases bs with
    | nil =>
      refine ⟨fun _ => ?_, fun h => absurd (fun p hp => by cases hp) h⟩
      have h1 := (sf_main xs [] (out ++ [x]) has hb).1 (fun p hp => by cases hp)
      have h2 : subStep (out, []) x = some (out ++ [x], []) := by
        unfold subStep hitP pushP
        simp only [List.length_nil, Nat.lt_irrefl, decide_false, Bool.false_and, Bool.false_eq_true, if_false]
        rw [if_pos (by have := hx.a0; omega)]
      simp only [sf, h2, Option.bind_some, h1, res_nil has.ok, res_nil ha.ok, List.append_assoc, List.singleton_append]
    | cons y ys =>
      obtain ⟨hb1, hb2⟩ := List.pairwise_cons.1 hb.up
      have hy := hb.ok y (by simp)
      have hys : VOk ys := ⟨fun p hp => hb.ok p (by simp [hp]), hb2⟩
      have hyne : ∀ p ∈ ys, ¬ (y.kind = p.kind ∧ y.role = p.role) := fun p hp h => by
        have := hb1 p hp
        unfold sl at this
        omega
      by_cases e : y.kind = x.kind ∧ y.role = x.role
      · have hit : hitP (y :: ys) x = true := by
          unfold hitP
          simp only [List.length_cons, List.getD_cons_zero, decide_eq_true e.1, decide_eq_true e.2, Bool.and_true]
          exact decide_eq_true (by omega)
        have hHB : HB (x :: xs) (y :: ys) ↔ y.amount ≤ x.amount ∧ HB xs ys := by
          unfold HB
          constructor
          · intro h
            have h0 := h y (by simp)
            simp only [lk] at h0
            rw [if_pos ⟨e.1.symm, e.2.symm⟩] at h0
            refine ⟨h0, fun p hp => ?_⟩
            have h1 := h p (by simp [hp])
            rwa [lk_cons_ne (by have := hyne p hp; omega)] at h1
          · rintro ⟨h0, h1⟩ p hp
            rcases List.mem_cons.1 hp with rfl | hp
            · simp only [lk]
              rw [if_pos ⟨e.1.symm, e.2.symm⟩]
              exact h0
            · rw [lk_cons_ne (by have := hyne p hp; omega)]
              exact h1 p hp
        have hlk : lk (y :: ys) x.kind x.role = y.amount := if_pos e
        have hres : res (x :: xs) (y :: ys) = (if x.amount - y.amount = 0 then [] else [⟨x.kind, x.role, x.amount - y.amount⟩]) ++ res xs ys := by
          simp only [res, left1, hlk]
          rw [res_cons fun p hp => by have := hxne p hp; omega]
        by_cases hle : y.amount ≤ x.amount
        · have hq : quantSub x.amount y.amount = (x.amount - y.amount, true) := by
            unfold quantSub
            rw [if_neg (by have := hy.a0; omega), wrap_i64 (by have := hy.a0; have := hx.a1; omega) (by have := hy.a0; have := hx.a1; omega)]
          have hst : subStep (out, y :: ys) x = some (out ++ (if x.amount - y.amount = 0 then [] else [⟨x.kind, x.role, x.amount - y.amount⟩]), ys) := by
            unfold subStep
            simp only [hit, if_true, List.getD_cons_zero, hq, List.tail_cons]
            rw [pushP_left out (by omega)]
          obtain ⟨i1, i2⟩ := sf_main xs ys (out ++ (if x.amount - y.amount = 0 then [] else [⟨x.kind, x.role, x.amount - y.amount⟩])) has hys
          refine ⟨fun h => ?_, fun h o => ?_⟩
          · simp only [sf, hst, Option.bind_some]
            rw [i1 (hHB.1 h).2, hres, List.append_assoc]
          · simp only [sf, hst, Option.bind_some]
            exact i2 (fun h' => h (hHB.2 ⟨hle, h'⟩)) o
        · have hq : (quantSub x.amount y.amount).2 = false := by
            unfold quantSub
            rw [if_pos (by omega)]
          have hst : subStep (out, y :: ys) x = none := by
            unfold subStep
            simp only [hit, if_true, List.getD_cons_zero, hq, Bool.false_eq_true, if_false]
          refine ⟨fun h => absurd (hHB.1 h).1 hle, fun _ o h => ?_⟩
          simp [sf, hst] at h
      · have hit : hitP (y :: ys) x = false := by
          unfold hitP
          simp only [List.getD_cons_zero]
          by_cases e1 : y.kind = x.kind
          · rw [decide_eq_false (p := y.role = x.role) (by omega)]; simp
          · rw [decide_eq_false (p := y.kind = x.kind) e1]; simp
        have hst : subStep (out, y :: ys) x = some (out ++ [x], y :: ys) := by
          unfold subStep
          simp only [hit, Bool.false_eq_true, if_false]
          unfold pushP
          rw [if_pos (by have := hx.a0; omega)]
        obtain ⟨i1, i2⟩ := sf_main xs (y :: ys) (out ++ [x]) has hb
        refine ⟨fun h => ?_, fun h o => ?_⟩
        · have h0 := h y (by simp)
          have hy0 := hy.a0
          rw [lk_cons_ne (by omega)] at h0
          obtain ⟨p, hp, hp1, hp2⟩ := lk_pos has.ok (k := y.kind) (r := y.role) (by omega)
          have hxy : sl x y := by
            have := ha1 p hp
            unfold sl at *
            omega
          have hall : ∀ q ∈ y :: ys, ¬ (q.kind = x.kind ∧ q.role = x.role) := fun q hq => by
            rcases List.mem_cons.1 hq with rfl | hq
            · exact e
            · have := hb1 q hq
              unfold sl at *
              omega
          have hHB : HB xs (y :: ys) := fun q hq => by
            have := h q hq
            rwa [lk_cons_ne (by have := hall q hq; omega)] at this
          simp only [sf, hst, Option.bind_some]
          rw [i1 hHB]
          have : left1 (y :: ys) x = [x] := by
            unfold left1
            rw [lk_no _ hall, Int.sub_zero, if_neg (by have := hx.a0; omega)]
          simp only [res, this, List.append_assoc]
        · simp only [sf, hst, Option.bind_some]
          refine i2 (fun h' => h fun q hq => ?_) o
          have h1 := h' q hq
          simp only [lk]
          split
          · rename_i e2
            have h2 := h' y (by simp)
            have hy0 := hy.a0
            obtain ⟨p, hp, hp1, hp2⟩ := lk_pos has.ok (k := y.kind) (r := y.role) (by omega)
            have h3 := ha1 p hp
            rcases List.mem_cons.1 hq with rfl | hq
            · exact absurd ⟨e2.1.symm, e2.2.symm⟩ e
            · have h4 := hb1 q hq
              unfold sl at h3 h4
              omega
          · exact h1
theorem rHolds_iff (a b : List Part) : rHolds a b = true ↔ VOk a ∧ VOk b ∧ HB a b := by
  unfold rHolds
  rw [Bool.and_eq_true, Bool.and_eq_true, vecRight_iff, vecRight_iff, nextAt_isNone]
  constructor
  · rintro ⟨h1, h2, h3⟩
    refine ⟨h2, h3, fun p hp => ?_⟩
    obtain ⟨i, hi, rfl⟩ := List.mem_iff_getElem.1 hp
    have := h1 i hi
    rw [lessAt, getD_el hi, getR_lk, decide_eq_false_iff_not] at this
    omega
  · rintro ⟨h2, h3, h1⟩
    refine ⟨fun i hi => ?_, h2, h3⟩
    have := h1 _ (List.getElem_mem hi)
    rw [lessAt, getD_el hi, getR_lk, decide_eq_false_iff_not]
    omega
theorem subV_ok {a b : List Part} (ha : VOk a) (hb : VOk b) (h : HB a b) : subV a b = (res a b, true) := by
  have h1 := (sf_main a b [] ha hb).1 h
  unfold subV
  rw [if_pos ⟨(vecRight_iff a).2 ha, (vecRight_iff b).2 hb⟩, subTo_sf a b _ (Nat.le_refl _), List.take_length, h1]
  rfl
theorem subV_no {a b : List Part} (h : ¬ (VOk a ∧ VOk b ∧ HB a b)) : subV a b = ([], false) := by
  unfold subV
  split
  · rename_i h0
    rw [vecRight_iff, vecRight_iff] at h0
    have h1 := (sf_main a b [] h0.1 h0.2).2 fun h' => h ⟨h0.1, h0.2, h'⟩
    rw [subTo_sf a b _ (Nat.le_refl _), List.take_length]
    split
    · rename_i o e
      exact absurd e (h1 _)
    · rfl
  · rfl
theorem rSubTo_res (a b : List Part) (ha : VOk a) (hb : VOk b) : ∀ k, k ≤ a.length → rSubTo a b k = res (a.take k) b
  | 0, _ => rfl
  | k + 1, h => by
    have hp := ha.ok _ (List.getElem_mem (show k < a.length by omega))
    have hl := lk_bd hb.ok (a[k]).kind (a[k]).role
    have hsn : ∀ (l : List Part) (x : Part), res (l ++ [x]) b = res l b ++ left1 b x := by
      intro l x
      induction l with
      | nil => simp [res]
      | cons q l ih => simp [res, ih]
    rw [List.take_succ_eq_append_getElem (by omega), hsn]
    simp only [rSubTo]
    rw [rSubTo_res a b ha hb k (by omega), getD_el (by omega), getR_lk, wrap_i64 (by have := hp.a0; omega) (by have := hp.a1; omega)]
    unfold rWith left1
    split <;> simp
theorem rSub_eq (a b : List Part) : rSub a b = subV a b := by
  unfold rSub
  by_cases h : VOk a ∧ VOk b ∧ HB a b
  · rw [if_pos ((rHolds_iff a b).2 h), subV_ok h.1 h.2.1 h.2.2, rSubTo_res a b h.1 h.2.1 _ (Nat.le_refl _), List.take_length]
  · rw [if_neg (fun h' => h ((rHolds_iff a b).1 h')), subV_no h]
theorem rHolds_eq (a b : List Part) : rHolds a b = (subV a b).2 := by
  by_cases h : VOk a ∧ VOk b ∧ HB a b
  · rw [(rHolds_iff a b).2 h, subV_ok h.1 h.2.1 h.2.2]
  · rw [subV_no h]
    exact Bool.eq_false_iff.2 fun h' => h ((rHolds_iff a b).1 h')
theorem res_mem {a b : List Part} {z : Part} (h : z ∈ res a b) : ∃ x ∈ a, x.kind = z.kind ∧ x.role = z.role ∧ z.amount = x.amount - lk b x.kind x.role ∧ z.amount ≠ 0 := by
  induction a with
  | nil => cases h
  | cons x xs ih =>
    simp only [res] at h
    rcases List.mem_append.1 h with h | h
    · unfold left1 at h
      split at h
      · cases h
      · rw [List.mem_singleton.1 h]
        exact ⟨x, by simp, rfl, rfl, rfl, by assumption⟩
    · obtain ⟨y, hy, h1⟩ := ih h
      exact ⟨y, by simp [hy], h1⟩
theorem res_ok {a b : List Part} (ha : VOk a) (hb : VOk b) (h : HB a b) : VOk (res a b) := by
  refine ⟨fun z hz => ?_, ?_⟩
  · obtain ⟨x, hx, h1, h2, h3, h4⟩ := res_mem hz
    have hp := ha.ok x hx
    have h5 := lk_bd hb.ok x.kind x.role
    have h6 : lk b x.kind x.role ≤ x.amount := by
      by_cases h7 : 1 ≤ lk b x.kind x.role
      · obtain ⟨p, hp, e1, e2⟩ := lk_pos hb.ok h7
        have h8 := h p hp
        rw [e1, e2, lk_mem ha.up hx] at h8
        have h9 := lk_mem hb.up hp
        rw [e1, e2] at h9
        omega
      · have := hp.a0
        omega
    exact ⟨by rw [← h1]; exact hp.k0, by rw [← h1]; exact hp.k1, by rw [← h2]; exact hp.r0, by rw [← h2]; exact hp.r1, by omega, by have := hp.a1; omega⟩
  · have hu := ha.up
    clear ha h
    induction a with
    | nil => exact List.Pairwise.nil
    | cons x xs ih =>
      obtain ⟨h1, h2⟩ := List.pairwise_cons.1 hu
      simp only [res]
      refine List.pairwise_append.2 ⟨?_, ih h2, fun p hp q hq => ?_⟩
      · unfold left1
        split <;> simp
      · obtain ⟨y, hy, e1, e2, _⟩ := res_mem hq
        have h3 := h1 y hy
        unfold left1 at hp
        split at hp
        · cases hp
        · rw [List.mem_singleton.1 hp]
          unfold sl at *
          dsimp only
          omega
end Go.Proofs.Ytddgcegimmcbgaa.Sy

set_option linter.unusedSectionVars false
namespace Go.Proofs.Ytddgcegimmcbgaa.Sy
open Go Go.Sy Go.Proofs.Ytddgcegimmcbgaa
set_option maxRecDepth 100000
set_option maxHeartbeats 8000000
set_option linter.unusedVariables false
set_option linter.unusedSimpArgs false

theorem HB_hit {x y : Part} {xs ys : List Part} (hb : VOk (y :: ys)) (e : y.kind = x.kind ∧ y.role = x.role) : HB (x :: xs) (y :: ys) ↔ y.amount ≤ x.amount ∧ HB xs ys := by
  obtain ⟨hb1, hb2⟩ := List.pairwise_cons.1 hb.up
  have hyne : ∀ p ∈ ys, ¬ (y.kind = p.kind ∧ y.role = p.role) := fun p hp h => by
    have := hb1 p hp
    unfold sl at this
    omega
  unfold HB
  constructor
  · intro h
    have h0 := h y (by simp)
    simp only [lk] at h0
    rw [if_pos ⟨e.1.symm, e.2.symm⟩] at h0
    refine ⟨h0, fun p hp => ?_⟩
    have h1 := h p (by simp [hp])
    rwa [lk_cons_ne (by have := hyne p hp; omega)] at h1
  · rintro ⟨h0, h1⟩ p hp
    rcases List.mem_cons.1 hp with rfl | hp
    · simp only [lk]
      rw [if_pos ⟨e.1.symm, e.2.symm⟩]
      exact h0
    · rw [lk_cons_ne (by have := hyne p hp; omega)]
      exact h1 p hp
theorem res_hit {x y : Part} {xs ys : List Part} (ha : VOk (x :: xs)) (e : y.kind = x.kind ∧ y.role = x.role) : res (x :: xs) (y :: ys) = (if x.amount - y.amount = 0 then [] else [⟨x.kind, x.role, x.amount - y.amount⟩]) ++ res xs ys := by
  obtain ⟨ha1, ha2⟩ := List.pairwise_cons.1 ha.up
  have hxne : ∀ p ∈ xs, ¬ (x.kind = p.kind ∧ x.role = p.role) := fun p hp h => by
    have := ha1 p hp
    unfold sl at this
    omega
  have hlk : lk (y :: ys) x.kind x.role = y.amount := if_pos e
  simp only [res, left1, hlk]
  rw [res_cons fun p hp => by have := hxne p hp; omega]
theorem HB_miss {x y : Part} {xs ys : List Part} (ha : VOk (x :: xs)) (hb : VOk (y :: ys)) (e : ¬ (y.kind = x.kind ∧ y.role = x.role)) (h : HB (x :: xs) (y :: ys)) : HB xs (y :: ys) ∧ res (x :: xs) (y :: ys) = x :: res xs (y :: ys) := by
  obtain ⟨ha1, ha2⟩ := List.pairwise_cons.1 ha.up
  obtain ⟨hb1, hb2⟩ := List.pairwise_cons.1 hb.up
  have hx := ha.ok x (by simp)
  have hy := hb.ok y (by simp)
  have has : VOk xs := ⟨fun p hp => ha.ok p (by simp [hp]), ha2⟩
  have h0 := h y (by simp)
  have hy0 := hy.a0
  rw [lk_cons_ne (by omega)] at h0
  obtain ⟨p, hp, hp1, hp2⟩ := lk_pos has.ok (k := y.kind) (r := y.role) (by omega)
  have hxy : sl x y := by
    have := ha1 p hp
    unfold sl at *
    omega
  have hall : ∀ q ∈ y :: ys, ¬ (q.kind = x.kind ∧ q.role = x.role) := fun q hq => by
    rcases List.mem_cons.1 hq with rfl | hq
    · exact e
    · have := hb1 q hq
      unfold sl at *
      omega
  have : left1 (y :: ys) x = [x] := by
    unfold left1
    rw [lk_no _ hall, Int.sub_zero, if_neg (by have := hx.a0; omega)]
  refine ⟨fun q hq => ?_, ?_⟩
  · have := h q hq
    rwa [lk_cons_ne (by have := hall q hq; omega)] at this
  · simp only [res, this, List.singleton_append]
theorem VOk.tail {x : Part} {xs : List Part} (h : VOk (x :: xs)) : VOk xs := ⟨fun p hp => h.ok p (by simp [hp]), (List.pairwise_cons.1 h.up).2⟩
/-- How much of a kind. -/
def sk : List Part → Int → Int
  | [], _ => 0
  | p :: l, k => (if p.kind = k then p.amount else 0) + sk l k
theorem sk_app (a b : List Part) (k : Int) : sk (a ++ b) k = sk a k + sk b k := by
  induction a with
  | nil => simp [sk]
  | cons p a ih => simp only [List.cons_append, sk, ih]; omega
theorem sk_nn {v : List Part} (h : ∀ p ∈ v, POk p) (k : Int) : 0 ≤ sk v k := by
  induction v with
  | nil => simp [sk]
  | cons p v ih =>
    have h1 := (h p (by simp)).a0
    have h2 := ih fun q hq => h q (by simp [hq])
    simp only [sk]
    split <;> omega
theorem sk_bd {R k : Int} : ∀ (v : List Part) (r0 : Int), VOk v → (∀ p ∈ v, p.role ≤ R) → (∀ p ∈ v, p.kind = k → r0 ≤ p.role) → r0 ≤ R + 1 → sk v k ≤ (R + 1 - r0) * 9007199254740992
  | [], r0, _, _, _, h => by
    simp only [sk]
    omega
  | p :: v, r0, hv, hR, h0, hr => by
    obtain ⟨h1, h2⟩ := List.pairwise_cons.1 hv.up
    have hp := hv.ok p (by simp)
    have hpR := hR p (by simp)
    simp only [sk]
    split
    · rename_i e
      have h3 := h0 p (by simp) e
      have := sk_bd (R := R) (k := k) v (p.role + 1) hv.tail (fun q hq => hR q (by simp [hq])) (fun q hq hk => by
        have := h1 q hq
        unfold sl at this
        omega) (by omega)
      have := hp.a1
      omega
    · have := sk_bd (R := R) (k := k) v r0 hv.tail (fun q hq => hR q (by simp [hq])) (fun q hq hk => h0 q (by simp [hq]) hk) hr
      omega
theorem sk_bd33 {v : List Part} (hv : VOk v) (k : Int) : sk v k ≤ 33 * 9007199254740992 := by
  have := sk_bd (R := 32) (k := k) v 0 hv (fun p hp => (hv.ok p hp).r1) (fun p hp _ => (hv.ok p hp).r0) (by omega)
  omega
theorem sk_bd1 {v : List Part} (hv : VOk v) (h : ∀ p ∈ v, p.role = 0) (k : Int) : sk v k ≤ 9007199254740992 := by
  have := sk_bd (R := 0) (k := k) v 0 hv (fun p hp => by rw [h p hp]; omega) (fun p hp _ => by rw [h p hp]; omega) (by omega)
  omega
def S4.of (f : Int → Int) : S4 := ⟨f 0, f 1, f 2, f 3⟩
theorem ofTo_sk {v : List Part} (hv : VOk v) : ∀ i, i ≤ v.length → ofTo v i = S4.of (sk (v.take i))
  | 0, _ => rfl
  | i + 1, h => by
    have h1 := fun k => sk_bd33 hv k
    have h2 : ∀ k, sk v k = sk (v.take (i + 1)) k + sk (v.drop (i + 1)) k := fun k => by rw [← sk_app, List.take_append_drop]
    have h3 := fun k => sk_nn (v := v.drop (i + 1)) (fun p hp => hv.ok p (List.mem_of_mem_drop hp)) k
    have h4 := fun k => sk_nn (v := v.take (i + 1)) (fun p hp => hv.ok p (List.mem_of_mem_take hp)) k
    have hp := hv.ok _ (List.getElem_mem (show i < v.length by omega))
    have e : ∀ k, sk (v.take (i + 1)) k = sk (v.take i) k + if (v[i]).kind = k then (v[i]).amount else 0 := fun k => by
      rw [List.take_succ_eq_append_getElem (by omega), sk_app]
      simp [sk]
    simp only [ofTo]
    rw [ofTo_sk hv i (by omega), getD_el (by omega)]
    unfold S4.addAt S4.of
    generalize v[i] = p at *
    obtain ⟨kk, r, a⟩ := p
    have k0 := hp.k0
    have k1 := hp.k1
    dsimp only at *
    have hw : ∀ k, 0 ≤ k → k < 4 → sk (v.take (i + 1)) k ≤ 33 * 9007199254740992 ∧ 0 ≤ sk (v.take (i + 1)) k := fun k _ _ => by
      have a1 := h1 k
      have a2 := h2 k
      have a3 := h3 k
      have a4 := h4 k
      omega
    rcases (show kk = 0 ∨ kk = 1 ∨ kk = 2 ∨ kk = 3 by omega) with rfl | rfl | rfl | rfl
    all_goals
      simp only [e, S4.at_] at *
      simp at *
    · exact wrap_i64 (by have := hw 0; simp at this; omega) (by have := hw 0; simp at this; omega)
    · exact wrap_i64 (by have := hw 1; simp at this; omega) (by have := hw 1; simp at this; omega)
    · exact wrap_i64 (by have := hw 2; simp at this; omega) (by have := hw 2; simp at this; omega)
    · exact wrap_i64 (by have := hw 3; simp at this; omega) (by have := hw 3; simp at this; omega)
theorem sumsOf_sk {v : List Part} (hv : VOk v) : sumsOf v = S4.of (sk v) := by
  unfold sumsOf
  rw [if_pos ((vecRight_iff v).2 hv), ofTo_sk hv _ (Nat.le_refl _), List.take_length]
theorem res_sk : ∀ (a b : List Part), VOk a → VOk b → HB a b → ∀ k, sk (res a b) k + sk b k = sk a k
  | [], [], _, _, _, k => by simp [res, sk]
  | [], y :: ys, _, hb, h, k => by
    have h1 := h y (by simp)
    have h2 := (hb.ok y (by simp)).a0
    simp only [lk] at h1
    omega
  | x :: xs, [], ha, _, _, k => by
    rw [res_nil ha.ok]
    simp [sk]
  | x :: xs, y :: ys, ha, hb, h, k => by
    by_cases e : y.kind = x.kind ∧ y.role = x.role
    · obtain ⟨h1, h2⟩ := (HB_hit hb e).1 h
      have ih := res_sk xs ys ha.tail hb.tail h2 k
      rw [res_hit ha e, sk_app]
      have : sk (if x.amount - y.amount = 0 then [] else [⟨x.kind, x.role, x.amount - y.amount⟩]) k = if x.kind = k then x.amount - y.amount else 0 := by
        split
        · simp only [sk]; split <;> omega
        · simp [sk]
      rw [this]
      simp only [sk, e.1]
      split <;> omega
    · obtain ⟨h1, h2⟩ := HB_miss ha hb e h
      have ih := res_sk xs (y :: ys) ha.tail hb h1 k
      rw [h2]
      simp only [sk] at *
      omega
end Go.Proofs.Ytddgcegimmcbgaa.Sy

set_option linter.unusedSectionVars false
namespace Go.Proofs.Ytddgcegimmcbgaa.Sy
open Go Go.Sy Go.Proofs.Ytddgcegimmcbgaa
set_option maxRecDepth 100000
set_option maxHeartbeats 8000000
set_option linter.unusedVariables false
set_option linter.unusedSimpArgs false

/-- A vector that has something, all of it of no role. -/
structure Bare (v : List Part) : Prop where
  ok : VOk v
  role : ∀ p ∈ v, p.role = 0
  pos : 0 < v.length
theorem rBare_iff (v : List Part) : rBare v = true ↔ Bare v := by
  unfold rBare
  rw [Bool.and_eq_true, Bool.and_eq_true, nextAt_isNone, vecRight_iff, decide_eq_true_eq]
  constructor
  · rintro ⟨h1, h2, h3⟩
    refine ⟨h3, fun p hp => ?_, h2⟩
    obtain ⟨i, hi, rfl⟩ := List.mem_iff_getElem.1 hp
    have := h1 i hi
    simp only [roleAt, getD_el hi, Bool.not_eq_eq_eq_not, Bool.not_false, decide_eq_true_eq] at this
    exact this
  · rintro ⟨h1, h2, h3⟩
    refine ⟨fun i hi => ?_, h3, h1⟩
    simp only [roleAt, getD_el hi, Bool.not_eq_eq_eq_not, Bool.not_false, decide_eq_true_eq]
    exact h2 _ (List.getElem_mem hi)
theorem bareR_iff (v : List Part) : bareR v = true ↔ Bare v := by
  unfold bareR onlyR
  rw [Bool.and_eq_true, decide_eq_true_eq, decide_eq_true_eq]
  by_cases h : vecRight v = true
  · rw [if_pos h, List.length_filter_eq_length_iff]
    constructor
    · rintro ⟨h1, h2⟩
      refine ⟨(vecRight_iff v).1 h, fun p hp => ?_, h1⟩
      have := h2 p hp
      simpa [inR] using this
    · rintro ⟨h1, h2, h3⟩
      refine ⟨h3, fun p hp => ?_⟩
      simp [inR, h2 p hp]
  · rw [if_neg h]
    constructor
    · rintro ⟨h1, h2⟩
      simp only [List.length_nil] at h2
      omega
    · rintro ⟨h1, h2, h3⟩
      exact absurd ((vecRight_iff v).2 h1) h
theorem rBare_eq (v : List Part) : rBare v = bareR v := Bool.eq_iff_iff.2 ((rBare_iff v).trans (bareR_iff v).symm)
theorem Bare.sums {v : List Part} (h : Bare v) (k : Int) : 0 ≤ sk v k ∧ sk v k ≤ 9007199254740992 := ⟨sk_nn h.ok.ok k, sk_bd1 h.ok h.role k⟩
theorem Bare.right {v : List Part} (h : Bare v) : sumsRight (sumsOf v) = true := by
  rw [sumsOf_sk h.ok, sumsRight_iff]
  have h0 := h.sums 0
  have h1 := h.sums 1
  have h2 := h.sums 2
  have h3 := h.sums 3
  simp only [S4.of]
  omega
theorem Bare.some {v : List Part} (h : Bare v) : sumsOf v ≠ ⟨0, 0, 0, 0⟩ := by
  rw [sumsOf_sk h.ok]
  intro e
  simp only [S4.of, S4.mk.injEq] at e
  match v, h with
  | [], h => exact absurd h.pos (by simp)
  | p :: v, h =>
    have hp := h.ok.ok p (by simp)
    have k0 := hp.k0
    have k1 := hp.k1
    have a0 := hp.a0
    have hn := fun k => sk_nn (v := v) (fun q hq => h.ok.ok q (by simp [hq])) k
    have h0 := hn 0
    have h1 := hn 1
    have h2 := hn 2
    have h3 := hn 3
    simp only [sk] at e
    obtain ⟨e0, e1, e2, e3⟩ := e
    rcases (show p.kind = 0 ∨ p.kind = 1 ∨ p.kind = 2 ∨ p.kind = 3 by omega) with e | e | e | e
    all_goals
      rw [e] at e0 e1 e2 e3
      simp at e0 e1 e2 e3
      omega
/-- How much of a kind the first agents have. -/
def sg (l : List (List Part)) (k : Int) : Nat → Int
  | 0 => 0
  | i + 1 => sg l k i + sk (l.getD i default) k
theorem sg_bd {l : List (List Part)} (h : ∀ i, i < l.length → Bare (l.getD i default)) (k : Int) : ∀ i, i ≤ l.length → 0 ≤ sg l k i ∧ sg l k i ≤ i * 9007199254740992
  | 0, _ => by simp [sg]
  | i + 1, hi => by
    have h1 := sg_bd h k i (by omega)
    have h2 := (h i (by omega)).sums k
    simp only [sg]
    omega
theorem totTo_sg {l : List (List Part)} (hl : l.length ≤ 16) (h : ∀ i, i < l.length → Bare (l.getD i default)) : ∀ i, i ≤ l.length → totTo l i = S4.of fun k => sg l k i
  | 0, _ => rfl
  | i + 1, hi => by
    have hb := h i (by omega)
    have hs := fun k => sg_bd h k i (by omega)
    have hk := fun k => hb.sums k
    simp only [totTo]
    rw [totTo_sg hl h i (by omega), sumsOf_sk hb.ok]
    unfold sumsAdd
    rw [if_pos]
    · rfl
    · simp only [sumsRight_iff, S4.of]
      have a0 := hs 0
      have a1 := hs 1
      have a2 := hs 2
      have a3 := hs 3
      have b0 := hk 0
      have b1 := hk 1
      have b2 := hk 2
      have b3 := hk 3
      omega
theorem rAgTo_sg {l : List (List Part)} (hl : l.length ≤ 16) (h : ∀ i, i < l.length → Bare (l.getD i default)) : ∀ i, i ≤ l.length → rAgTo l i = S4.of fun k => 9007199254740992 - sg l k i
  | 0, _ => rfl
  | i + 1, hi => by
    have hb := h i (by omega)
    have hs := fun k => sg_bd h k (i + 1) (by omega)
    simp only [rAgTo]
    rw [rAgTo_sg hl h i (by omega), sumsOf_sk hb.ok]
    have a0 := hs 0
    have a1 := hs 1
    have a2 := hs 2
    have a3 := hs 3
    simp only [sg] at a0 a1 a2 a3
    simp only [S4.of, sg]
    rw [wrap_i64 (by omega) (by omega), wrap_i64 (by omega) (by omega), wrap_i64 (by omega) (by omega), wrap_i64 (by omega) (by omega)]
    simp only [S4.mk.injEq]
    omega
theorem sg_mono {l : List (List Part)} (h : ∀ i, i < l.length → Bare (l.getD i default)) (k : Int) {i : Nat} : ∀ {j}, i ≤ j → j ≤ l.length → sg l k i ≤ sg l k j
  | 0, hij, _ => by
    obtain rfl : i = 0 := by omega
    exact Int.le_refl _
  | j + 1, hij, hj => by
    rcases Nat.lt_or_ge j i with h1 | h1
    · obtain rfl : i = j + 1 := by omega
      exact Int.le_refl _
    · have h2 := sg_mono h k (i := i) h1 (by omega)
      have h3 := ((h j (by omega)).sums k).1
      simp only [sg]
      omega
theorem nnS_iff (s : S4) : nnS s = true ↔ 0 ≤ s.a ∧ 0 ≤ s.b ∧ 0 ≤ s.c ∧ 0 ≤ s.d := decide_eq_true_iff
theorem topS_iff (s : S4) : topS s = true ↔ s.a ≤ 9007199254740992 ∧ s.b ≤ 9007199254740992 ∧ s.c ≤ 9007199254740992 ∧ s.d ≤ 9007199254740992 := decide_eq_true_iff
theorem agents_eq {l : List (List Part)} (hl : 1 ≤ l.length ∧ l.length ≤ 16) : (nextAt (fun i => !rAgOk l i) 0 l.length).isNone = (totR l).2 := by
  rw [Bool.eq_iff_iff, nextAt_isNone]
  unfold totR
  cases hn : nextAt (fun k => !bareR (l.getD k default)) 0 l.length with
  | some j =>
    obtain ⟨h1, h2, h3⟩ := nextAt_eq_some.1 hn
    refine ⟨fun h => ?_, fun h => by cases h⟩
    have := h j h2.2
    simp only [rAgOk, rBare_eq, Bool.not_eq_eq_eq_not, Bool.not_false, Bool.not_true, Bool.and_eq_true] at this h1
    rw [h1] at this
    exact absurd this.2 (by decide)
  | none =>
    have h1 := nextAt_eq_none.1 hn
    have hb : ∀ i, i < l.length → Bare (l.getD i default) := fun i hi => (bareR_iff _).1 (by
      have := h1 i (Nat.zero_le _) hi
      simpa using this)
    show _ ↔ topS (totTo l l.length) = true
    rw [totTo_sg hl.2 hb _ (Nat.le_refl _)]
    rw [topS_iff]
    simp only [S4.of]
    constructor
    · intro h
      have := h (l.length - 1) (by omega)
      rw [rAgOk, show l.length - 1 + 1 = l.length by omega, rAgTo_sg hl.2 hb _ (Nat.le_refl _)] at this
      rw [Bool.not_eq_eq_eq_not, Bool.not_false, Bool.and_eq_true, nnS_iff] at this
      simp only [S4.of] at this
      omega
    · intro h i hi
      rw [rAgOk, rAgTo_sg hl.2 hb _ (by omega), (rBare_iff _).2 (hb i hi)]
      have a0 := sg_mono hb 0 (i := i + 1) (j := l.length) (by omega) (Nat.le_refl _)
      have a1 := sg_mono hb 1 (i := i + 1) (j := l.length) (by omega) (Nat.le_refl _)
      have a2 := sg_mono hb 2 (i := i + 1) (j := l.length) (by omega) (Nat.le_refl _)
      have a3 := sg_mono hb 3 (i := i + 1) (j := l.length) (by omega) (Nat.le_refl _)
      rw [Bool.and_true, Bool.not_eq_eq_eq_not, Bool.not_false, nnS_iff]
      simp only [S4.of]
      omega
theorem rFine_eq (p : Prof) : rFine p = fineR p := by
  unfold rFine fineR
  by_cases hl : 1 ≤ p.ags.length ∧ p.ags.length ≤ 16 ∧ 1 ≤ p.wants.length ∧ p.wants.length ≤ 32
  · rw [decide_eq_true hl, agents_eq ⟨hl.1, hl.2.1⟩, Bool.true_and, Bool.true_and]
    congr 2
    rw [Bool.eq_iff_iff, nextAt_isNone, all_getD]
    constructor
    · intro h k hk
      have := h k hk
      rw [Bool.not_eq_eq_eq_not, Bool.not_false] at this
      unfold rWok at this
      rw [rBare_eq] at this
      exact this
    · intro h k hk
      rw [Bool.not_eq_eq_eq_not, Bool.not_false]
      unfold rWok
      rw [rBare_eq]
      exact h k hk
  · rw [decide_eq_false hl, Bool.false_and, Bool.false_and, Bool.and_false]
theorem div_bd {x y : Int} (hx : 0 ≤ x ∧ x ≤ 1152921504606846976) (hy : 0 < y) : IntKind.i64.wrap (x.tdiv y) = x / y ∧ 0 ≤ x / y ∧ x / y ≤ 1152921504606846976 := by
  have h1 : 0 ≤ x / y := Int.ediv_nonneg hx.1 (by omega)
  have h2 : x / y ≤ x := Int.ediv_le_self _ hx.1
  rw [Int.tdiv_eq_ediv_of_nonneg hx.1]
  exact ⟨wrap_i64 (by omega) (by omega), h1, by omega⟩
theorem many_rel {s t : S4} (hs : sumsRight s = true) : ∀ k, (rManyTo s t k = -1 ∧ manyTo s t k = 1152921504606846976 ∧ ∀ j, j < k → t.at_ j ≤ 0) ∨ (0 ≤ rManyTo s t k ∧ rManyTo s t k = manyTo s t k)
  | 0 => .inl ⟨rfl, rfl, fun j hj => by omega⟩
  | k + 1 => by
    have hx := S4.at_bd hs k
    simp only [rManyTo, manyTo]
    generalize hy : t.at_ k = y at *
    generalize s.at_ k = x at *
    rcases many_rel hs k (t := t) with ⟨h1, h2, h3⟩ | ⟨h1, h2⟩
    · rw [h1, h2]
      unfold rManyStep minQ
      by_cases h0 : 0 < y
      · obtain ⟨d1, d2, d3⟩ := div_bd hx h0
        right
        rw [d1, if_pos ⟨h0, .inl (by decide)⟩, if_pos h0]
        omega
      · left
        rw [if_neg (fun h => h0 h.1), if_neg h0]
        refine ⟨rfl, rfl, fun j hj => ?_⟩
        rcases Nat.lt_or_ge j k with h4 | h4
        · exact h3 j h4
        · obtain rfl : j = k := by omega
          omega
    · right
      rw [← h2]
      generalize rManyTo s t k = n at *
      unfold rManyStep minQ
      by_cases h0 : 0 < y
      · obtain ⟨d1, d2, d3⟩ := div_bd hx h0
        rw [d1, if_pos h0]
        split <;> omega
      · rw [if_neg (fun h => h0 h.1), if_neg h0]
        omega
theorem many_eq {s t : S4} (hs : sumsRight s = true) (ht : sumsRight t = true) (h0 : t ≠ ⟨0, 0, 0, 0⟩) : rMany s t = sumsMany s t := by
  unfold rMany sumsMany
  rw [if_pos ⟨hs, ht, h0⟩, ← manyTo_4]
  rcases many_rel hs 4 (t := t) with ⟨h1, h2, h3⟩ | ⟨h1, h2⟩
  · exfalso
    apply h0
    have hr := (sumsRight_iff t).1 ht
    have a0 := h3 0 (by omega)
    have a1 := h3 1 (by omega)
    have a2 := h3 2 (by omega)
    have a3 := h3 3 (by omega)
    obtain ⟨a, b, c, d⟩ := t
    simp only [S4.at_, List.getD_cons_zero, List.getD_cons_succ] at a0 a1 a2 a3
    simp only [S4.mk.injEq]
    dsimp only at hr
    omega
  · omega
theorem fine_bare {p : Prof} (h : fineR p = true) : (1 ≤ p.ags.length ∧ p.ags.length ≤ 16 ∧ 1 ≤ p.wants.length ∧ p.wants.length ≤ 32) ∧ (∀ i, i < p.ags.length → Bare (p.ags.getD i default)) ∧ (∀ i, i < p.wants.length → Bare (p.wants.getD i default).need ∧ 1 ≤ (p.wants.getD i default).weight ∧ (p.wants.getD i default).weight ≤ 1000) ∧ topS (totTo p.ags p.ags.length) = true := by
  unfold fineR at h
  simp only [Bool.and_eq_true, decide_eq_true_eq] at h
  obtain ⟨h1, h2, h3, h4⟩ := h
  have ht : nextAt (fun k => !bareR (p.ags.getD k default)) 0 p.ags.length = none ∧ topS (totTo p.ags p.ags.length) = true := by
    unfold totR at h1
    cases hn : nextAt (fun k => !bareR (p.ags.getD k default)) 0 p.ags.length with
    | some j => rw [hn] at h1; cases h1
    | none => rw [hn] at h1; exact ⟨rfl, h1⟩
  refine ⟨h2, fun i hi => ?_, fun i hi => ?_, ht.2⟩
  · have := nextAt_eq_none.1 ht.1 i (Nat.zero_le _) hi
    exact (bareR_iff _).1 (by simpa using this)
  · have := all_getD.1 h4 i hi
    unfold okW at this
    simp only [Bool.and_eq_true, decide_eq_true_eq] at this
    exact ⟨(bareR_iff _).1 this.1, this.2.1⟩
theorem bound_eq {p : Prof} (h : fineR p = true) : rBndA p.ags p.wants p.ags.length = bndA p.ags p.wants p.ags.length := by
  obtain ⟨hl, ha, hw, _⟩ := fine_bare h
  have hW : ∀ i, i < p.ags.length → ∀ n, 0 ≤ n ∧ n ≤ 9007199254740992 → ∀ k, k ≤ p.wants.length → rBndW (p.ags.getD i default) p.wants n k = bndW (p.ags.getD i default) p.wants n k := by
    intro i hi n hn k
    induction k with
    | zero => intro _; rfl
    | succ k ih =>
      intro hk
      have hb := bndW_bd (a := p.ags.getD i default) (ws := p.wants) hn k
      have hm := sumsMany_bd (sumsOf (p.ags.getD i default)) (sumsOf (p.wants.getD k default).need)
      simp only [rBndW, bndW]
      rw [ih (by omega), many_eq (ha i hi).right (hw k (by omega)).1.right (hw k (by omega)).1.some, wrap_i64 (by omega) (by omega)]
  have hA : ∀ i, i ≤ p.ags.length → rBndA p.ags p.wants i = bndA p.ags p.wants i := by
    intro i
    induction i with
    | zero =>
      intro _
      have := bndA_bd (l := p.ags) (ws := p.wants) ⟨hl.2.1, hl.2.2.2⟩ 0
      simp only [bndA] at this
      simp only [rBndA, bndA]
      exact wrap_i64 (by omega) (by omega)
    | succ i ih =>
      intro hi
      simp only [rBndA, bndA]
      rw [ih (by omega), hW i (by omega) _ (bndA_bd ⟨hl.2.1, hl.2.2.2⟩ i) _ (Nat.le_refl _)]
  exact hA _ (Nat.le_refl _)
theorem rCheck_eq (p : Prof) : rCheck p = checkR p := by
  unfold rCheck checkR boundR
  rw [rFine_eq]
  by_cases h : fineR p = true
  · rw [if_pos h, if_pos h, if_pos h, bound_eq h]
  · rw [if_neg h, if_neg h]
end Go.Proofs.Ytddgcegimmcbgaa.Sy

set_option linter.unusedSectionVars false
namespace Go.Proofs.Ytddgcegimmcbgaa.Sy
open Go Go.Sy Go.Proofs.Ytddgcegimmcbgaa
set_option maxRecDepth 100000
set_option maxHeartbeats 8000000
set_option linter.unusedVariables false
set_option linter.unusedSimpArgs false

/-! ### The least shares -/
def lessB (s t : Shr) : Bool := decide (crossR s t < crossR t s)
theorem cross_trans {s t u : Shr} (hs : shrRight s = true) (ht : shrRight t = true) (hu : shrRight u = true) (h1 : crossR s t ≤ crossR t s) (h2 : crossR t u ≤ crossR u t) : crossR s u ≤ crossR u s := by
  have es := (shrRight_iff s).1 hs
  have et := (shrRight_iff t).1 ht
  have eu := (shrRight_iff u).1 hu
  unfold crossR at *
  have ps : 0 < s.den * s.weight := Int.mul_pos (by omega) (by omega)
  have pt : 0 < t.den * t.weight := Int.mul_pos (by omega) (by omega)
  have pu : 0 < u.den * u.weight := Int.mul_pos (by omega) (by omega)
  generalize s.den * s.weight = a at *
  generalize t.den * t.weight = b at *
  generalize u.den * u.weight = c at *
  generalize s.num = x at *
  generalize t.num = y at *
  generalize u.num = z at *
  have h3 : x * b * c ≤ y * a * c := Int.mul_le_mul_of_nonneg_right h1 (by omega)
  have h4 : y * c * a ≤ z * b * a := Int.mul_le_mul_of_nonneg_right h2 (by omega)
  have e1 : x * b * c = x * c * b := by rw [Int.mul_assoc, Int.mul_comm b, ← Int.mul_assoc]
  have e2 : y * a * c = y * c * a := by rw [Int.mul_assoc, Int.mul_comm a, ← Int.mul_assoc]
  have e3 : z * b * a = z * a * b := by rw [Int.mul_assoc, Int.mul_comm b, ← Int.mul_assoc]
  exact Int.le_of_mul_le_mul_right (a := b) (by omega) pt
theorem shrCmp_neg {s t : Shr} (hs : shrRight s = true) (ht : shrRight t = true) : shrCmp s t = -1 ↔ crossR s t < crossR t s := by
  unfold shrCmp
  rw [if_pos ⟨hs, ht⟩]
  repeat' split
  all_goals omega
theorem shrCmp_pos {s t : Shr} (hs : shrRight s = true) (ht : shrRight t = true) : shrCmp s t = 1 ↔ crossR t s < crossR s t := by
  unfold shrCmp
  rw [if_pos ⟨hs, ht⟩]
  repeat' split
  all_goals omega
def mnB (l : List Shr) (i k : Nat) : Bool := (List.range i).all fun j => !lessB (l.getD j default) (l.getD k default)
theorem mnB_iff {l : List Shr} {i k : Nat} : mnB l i k = true ↔ ∀ j, j < i → crossR (l.getD k default) (l.getD j default) ≤ crossR (l.getD j default) (l.getD k default) := by
  unfold mnB lessB
  simp only [List.all_eq_true, List.mem_range, Bool.not_eq_eq_eq_not, Bool.not_true, decide_eq_false_iff_not, Int.not_lt]
theorem leastTo_char {l : List Shr} (hr : ∀ i, i < l.length → shrRight (l.getD i default) = true) : ∀ i, i ≤ l.length → leastTo l i = ((List.range i).filter (mnB l i)).map (fun (k : Nat) => (k : Int)) ∧ (0 < i → 0 < (leastTo l i).length)
  | 0, _ => ⟨rfl, fun h => absurd h (Nat.lt_irrefl _)⟩
  | i + 1, hi => by
    obtain ⟨ih, ihn⟩ := leastTo_char hr i (by omega)
    have hri := hr i (by omega)
    rw [List.range_succ, List.filter_append]
    simp only [leastTo]
    rw [if_pos hri]
    by_cases h0 : 0 < (leastTo l i).length
    · rw [if_pos h0]
      obtain ⟨m, hm⟩ : ∃ m : Nat, (leastTo l i).getD 0 0 = (m : Int) ∧ m < i ∧ mnB l i m = true := by
        rw [ih]
        rw [ih, List.length_map] at h0
        generalize hg : (List.range i).filter (mnB l i) = g at *
        match g, h0 with
        | a :: g, _ =>
          have ha : a ∈ (List.range i).filter (mnB l i) := by rw [hg]; simp
          rw [List.mem_filter, List.mem_range] at ha
          exact ⟨a, by simp, ha.1, ha.2⟩
      obtain ⟨hm1, hm2, hm3⟩ := hm
      rw [hm1, Int.toNat_natCast]
      have hrm := hr m (by omega)
      have hmin := mnB_iff.1 hm3
      have hk : ∀ k, k < i → mnB l (i + 1) k = (mnB l i k && !lessB (l.getD i default) (l.getD k default)) := fun k _ => by
        unfold mnB
        rw [List.range_succ, List.all_append]
        simp
      have hself : lessB (l.getD i default) (l.getD i default) = false := decide_eq_false (by omega)
      have hki : mnB l (i + 1) i = mnB l i i := by
        unfold mnB
        rw [List.range_succ, List.all_append]
        simp only [List.all_cons, List.all_nil, Bool.and_true, hself, Bool.not_false]
      have n1 := shrCmp_neg hri hrm
      have n2 := shrCmp_pos hri hrm
      by_cases c1 : crossR (l.getD i default) (l.getD m default) < crossR (l.getD m default) (l.getD i default)
      · rw [if_pos (n1.2 c1)]
        have e1 : (List.range i).filter (mnB l (i + 1)) = [] := by
          rw [List.filter_eq_nil_iff]
          intro k hk0
          rw [List.mem_range] at hk0
          rw [hk k hk0, Bool.and_eq_true]
          rintro ⟨h1, h2⟩
          simp only [lessB, Bool.not_eq_eq_eq_not, Bool.not_true, decide_eq_false_iff_not, Int.not_lt] at h2
          have h3 := cross_trans (hr k (by omega)) hri hrm h2 (by omega)
          have h4 := hmin k hk0
          have h5 := cross_trans hrm (hr k (by omega)) hri h4 h2
          omega
        have e2 : mnB l (i + 1) i = true := by
          rw [hki, mnB_iff]
          intro j hj
          exact cross_trans hri hrm (hr j (by omega)) (by omega) (hmin j hj)
        rw [e1]
        refine ⟨?_, fun _ => by simp⟩
        simp [e2]
      · rw [if_neg (fun h => c1 (n1.1 h))]
        by_cases c2 : crossR (l.getD m default) (l.getD i default) < crossR (l.getD i default) (l.getD m default)
        · rw [if_pos (n2.2 c2)]
          have e2 : mnB l (i + 1) i = false := by
            rw [hki]
            refine Bool.eq_false_iff.2 fun h => ?_
            have := mnB_iff.1 h m hm2
            omega
          have e1 : (List.range i).filter (mnB l (i + 1)) = (List.range i).filter (mnB l i) := List.filter_congr fun k hk0 => by
            rw [List.mem_range] at hk0
            rw [hk k hk0]
            cases hmk : mnB l i k with
            | false => rfl
            | true =>
              have h1 := mnB_iff.1 hmk m hm2
              have h2 := cross_trans (hr k (by omega)) hrm hri h1 (by omega)
              rw [Bool.true_and, lessB, decide_eq_false (by omega)]
              rfl
          rw [e1, ih]
          refine ⟨?_, fun _ => by rw [← ih]; exact h0⟩
          simp [e2]
        · rw [if_neg (fun h => c2 (n2.1 h))]
          have e2 : mnB l (i + 1) i = true := by
            rw [hki, mnB_iff]
            intro j hj
            exact cross_trans hri hrm (hr j (by omega)) (by omega) (hmin j hj)
          have e1 : (List.range i).filter (mnB l (i + 1)) = (List.range i).filter (mnB l i) := List.filter_congr fun k hk0 => by
            rw [List.mem_range] at hk0
            rw [hk k hk0]
            cases hmk : mnB l i k with
            | false => rfl
            | true =>
              have h1 := mnB_iff.1 hmk m hm2
              have h2 := cross_trans (hr k (by omega)) hrm hri h1 (by omega)
              rw [Bool.true_and, lessB, decide_eq_false (by omega)]
              rfl
          rw [e1, ih]
          refine ⟨?_, fun _ => by simp⟩
          simp [e2]
    · rw [if_neg h0]
      obtain rfl : i = 0 := by
        rcases Nat.eq_zero_or_pos i with h | h
        · exact h
        · exact absurd (ihn h) h0
      refine ⟨?_, fun _ => by simp⟩
      have e2 : mnB l (0 + 1) 0 = true := by
        rw [mnB_iff]
        intro j hj
        obtain rfl : j = 0 := by omega
        exact Int.le_refl _
      simp [leastTo, e2]
/-! ### Filters -/
theorem filter_idx {α : Type} (d : α) (P : α → Bool) : ∀ (A : List α), ((List.range A.length).filter fun k => P (A.getD k d)).map (fun k => A.getD k d) = A.filter P := by
  intro A
  induction A with
  | nil => rfl
  | cons a A ih =>
    rw [List.length_cons, List.range_succ_eq_map, List.filter_cons, List.filter_cons, List.filter_map]
    have e : ((fun k => P ((a :: A).getD k d)) ∘ Nat.succ) = fun k => P (A.getD k d) := by
      funext k
      simp
    rw [e]
    simp only [List.getD_cons_zero]
    have e2 : (((List.range A.length).filter fun k => P (A.getD k d)).map Nat.succ).map (fun k => (a :: A).getD k d) = A.filter P := by
      rw [List.map_map, ← ih]
      rfl
    split
    · rw [List.map_cons, e2]
      rfl
    · exact e2
theorem someTo_eq (f : Fil) : ∀ n, someTo f n = ((List.range n).filter fun (k : Nat) => fitsB f k).map fun (k : Nat) => (k : Int)
  | 0 => rfl
  | n + 1 => by
    simp only [someTo]
    rw [someTo_eq f n, List.range_succ, List.filter_append, List.map_append]
    split
    · rename_i h; simp [h]
    · rename_i h; simp [h]
theorem sharesTo_eq (f : Fil) : ∀ n, sharesTo f n = (someTo f n).map (shareF f)
  | 0 => rfl
  | n + 1 => by
    simp only [someTo, sharesTo]
    rw [sharesTo_eq f n]
    split <;> simp
theorem nextR_char {f : Fil} (hr : ∀ k : Nat, k < f.wants.length → shrRight (shareF f k) = true) : nextR f = ((List.range f.wants.length).filter fun (i : Nat) => fitsB f i && (List.range f.wants.length).all fun (k : Nat) => !(fitsB f k && lessB (shareF f k) (shareF f i))).map fun (k : Nat) => (k : Int) := by
  have hA : ∀ x ∈ someTo f f.wants.length, ∃ k : Nat, k < f.wants.length ∧ fitsB f k = true ∧ x = (k : Int) := fun x hx => by
    rw [someTo_eq, List.mem_map] at hx
    obtain ⟨k, hk, rfl⟩ := hx
    rw [List.mem_filter, List.mem_range] at hk
    exact ⟨k, hk.1, hk.2, rfl⟩
  have hlen : (sharesTo f f.wants.length).length = (someTo f f.wants.length).length := by rw [sharesTo_eq, List.length_map]
  have hget : ∀ i, i < (someTo f f.wants.length).length → (sharesTo f f.wants.length).getD i default = shareF f ((someTo f f.wants.length).getD i 0) := fun i hi => by
    rw [sharesTo_eq]
    simp [List.getD_eq_getElem?_getD, hi]
  unfold nextR leastR
  rw [(leastTo_char (fun i hi => by
    rw [hlen] at hi
    rw [hget i hi]
    obtain ⟨k, h1, h2, h3⟩ := hA ((someTo f f.wants.length).getD i 0) (by rw [show (someTo f f.wants.length).getD i 0 = (someTo f f.wants.length)[i] by simp [List.getD_eq_getElem?_getD, hi]]; exact List.getElem_mem hi)
    rw [h3]
    exact hr k h1) _ (Nat.le_refl _)).1, List.map_map, hlen]
  have e1 : ((List.range (someTo f f.wants.length).length).filter (mnB (sharesTo f f.wants.length) (someTo f f.wants.length).length)) = (List.range (someTo f f.wants.length).length).filter fun k => (fun x => (someTo f f.wants.length).all fun y => !lessB (shareF f y) (shareF f x)) ((someTo f f.wants.length).getD k 0) := List.filter_congr fun k hk => by
    rw [List.mem_range] at hk
    rw [Bool.eq_iff_iff]
    simp only [mnB, List.all_eq_true, List.mem_range, Bool.not_eq_eq_eq_not, Bool.not_true]
    constructor
    · intro h y hy
      obtain ⟨j, hj, rfl⟩ := List.mem_iff_getElem.1 hy
      have := h j hj
      rw [hget j hj, hget k hk] at this
      simpa [List.getD_eq_getElem?_getD, hj] using this
    · intro h j hj
      rw [hget j hj, hget k hk]
      exact h _ (by rw [show (someTo f f.wants.length).getD j 0 = (someTo f f.wants.length)[j] by simp [List.getD_eq_getElem?_getD, hj]]; exact List.getElem_mem hj)
  rw [e1]
  have e2 := filter_idx (0 : Int) (fun x => (someTo f f.wants.length).all fun y => !lessB (shareF f y) (shareF f x)) (someTo f f.wants.length)
  have e3 : ((fun k : Int => (someTo f f.wants.length).getD k.toNat 0) ∘ fun k : Nat => (k : Int)) = fun k => (someTo f f.wants.length).getD k 0 := by
    funext k
    simp
  rw [e3, e2]
  have e4 : ∀ x : Int, ((someTo f f.wants.length).all fun y => !lessB (shareF f y) (shareF f x)) = (List.range f.wants.length).all fun (k : Nat) => !(fitsB f k && lessB (shareF f k) (shareF f x)) := fun x => by
    rw [someTo_eq, List.all_map, List.all_filter, Bool.eq_iff_iff]
    simp only [List.all_eq_true, List.mem_range, Function.comp]
    constructor
    · intro h k hk
      have := h k hk
      cases h1 : fitsB f k <;> simp_all
    · intro h k hk
      have := h k hk
      cases h1 : fitsB f k <;> simp_all
  simp only [e4]
  rw [someTo_eq, List.filter_map, List.filter_filter]
  congr 1
  refine List.filter_congr fun k _ => ?_
  simp only [Function.comp]
  rw [Bool.and_comm]
theorem rLst_eq (v : List Part) (ws : List Want) (seq : List Int) (rest : List Part) (i : Nat) : ∀ n, rLst v ws seq rest i n = (rFit ws rest i && (List.range n).all fun k => !rWorse v ws seq rest i k)
  | 0 => by simp [rLst]
  | n + 1 => by
    simp only [rLst]
    rw [rLst_eq v ws seq rest i n, List.range_succ, List.all_append]
    split
    · rename_i h; simp [h]
    · rename_i h; simp [h]
theorem rNextTo_eq (v : List Part) (ws : List Want) (seq : List Int) (rest : List Part) : ∀ n, rNextTo v ws seq rest n = ((List.range n).filter fun (i : Nat) => rLst v ws seq rest i ws.length).map fun (k : Nat) => (k : Int)
  | 0 => rfl
  | n + 1 => by
    simp only [rNextTo]
    rw [rNextTo_eq v ws seq rest n, List.range_succ, List.filter_append, List.map_append]
    split
    · rename_i h; simp [h]
    · rename_i h; simp [h]
end Go.Proofs.Ytddgcegimmcbgaa.Sy

set_option linter.unusedSectionVars false
namespace Go.Proofs.Ytddgcegimmcbgaa.Sy
open Go Go.Sy Go.Proofs.Ytddgcegimmcbgaa
set_option maxRecDepth 100000
set_option maxHeartbeats 8000000
set_option linter.unusedVariables false
set_option linter.unusedSimpArgs false

/-- An agent and wants that may be. -/
structure Chk (v : List Part) (ws : List Want) : Prop where
  bv : Bare v
  n : 1 ≤ ws.length ∧ ws.length ≤ 32
  w : ∀ k, k < ws.length → Bare (ws.getD k default).need ∧ 1 ≤ (ws.getD k default).weight ∧ (ws.getD k default).weight ≤ 1000
theorem chk_of {v : List Part} {ws : List Want} (h : checkR (prof1 v ws) = 0) : Chk v ws := by
  have hf : fineR (prof1 v ws) = true := by
    unfold checkR at h
    split at h
    · assumption
    · cases h
  obtain ⟨h1, h2, h3, _⟩ := fine_bare hf
  exact ⟨h2 0 (show 0 < 1 by decide), ⟨h1.2.2.1, h1.2.2.2⟩, h3⟩
/-- How often a number is among some. -/
def ct : List Int → Int → Int
  | [], _ => 0
  | y :: d, x => (if y = x then 1 else 0) + ct d x
theorem ct_app (a b : List Int) (x : Int) : ct (a ++ b) x = ct a x + ct b x := by
  induction a with
  | nil => simp [ct]
  | cons p a ih => simp only [List.cons_append, ct, ih]; omega
theorem ct_nn (d : List Int) (x : Int) : 0 ≤ ct d x := by
  induction d with
  | nil => simp [ct]
  | cons y d ih => simp only [ct]; split <;> omega
theorem cntTo_ct (seq : List Int) (x : Int) : ∀ i, i ≤ seq.length → cntTo seq x i = ct (seq.take i) x
  | 0, _ => rfl
  | i + 1, h => by
    have e : seq.getD i 0 = seq[i] := by simp [List.getD_eq_getElem?_getD, show i < seq.length by omega]
    simp only [cntTo]
    rw [cntTo_ct seq x i (by omega), List.take_succ_eq_append_getElem (by omega), ct_app, e]
    simp only [ct]
    split <;> omega
/-- What some launches take of a kind. -/
def su (ws : List Want) : List Int → Int → Int
  | [], _ => 0
  | x :: d, k => sk (ws.getD x.toNat default).need k + su ws d k
theorem su_app (ws : List Want) (a b : List Int) (k : Int) : su ws (a ++ b) k = su ws a k + su ws b k := by
  induction a with
  | nil => simp [su]
  | cons p a ih => simp only [List.cons_append, su, ih]; omega
theorem ct_su {ws : List Want} (hw : ∀ k, k < ws.length → VOk (ws.getD k default).need) {x : Int} (k : Int) : ∀ d : List Int, (∀ y ∈ d, 0 ≤ y ∧ y < ws.length) → ct d x * sk (ws.getD x.toNat default).need k ≤ su ws d k ∧ 0 ≤ su ws d k
  | [], _ => by simp [ct, su]
  | y :: d, h => by
    obtain ⟨i1, i2⟩ := ct_su hw (x := x) k d fun z hz => h z (by simp [hz])
    have hy := h y (by simp)
    have h0 := sk_nn (hw y.toNat (by omega)).ok k
    simp only [ct, su]
    split
    · rename_i e
      subst e
      rw [Int.add_mul]
      omega
    · rw [Int.zero_add]
      omega
structure FInv (v : List Part) (ws : List Want) (f : Fil) (d : List Int) : Prop where
  total : f.total = sumsOf v
  wants : f.wants = ws
  left : VOk f.left
  sum : ∀ k, sk f.left k + su ws d k = sk v k
  hl : f.have_.length = ws.length
  hv : ∀ x, x < ws.length → f.have_.getD x default = S4.of fun k => ct d x * sk (ws.getD x default).need k
  rng : ∀ x ∈ d, 0 ≤ x ∧ x < ws.length
theorem finv0 {v : List Part} {ws : List Want} (hc : Chk v ws) : FInv v ws (fil0 v ws) [] where
  total := rfl
  wants := rfl
  left := hc.bv.ok
  sum k := by simp [su, fil0]
  hl := List.length_replicate
  hv x hx := by
    simp only [fil0, ct, Int.zero_mul]
    rw [List.getD_eq_getElem?_getD, List.getElem?_replicate, if_pos hx]
    rfl
  rng x hx := by cases hx
theorem fits_iff (f : Fil) (x : Int) : fitsB f x = true ↔ (0 ≤ x ∧ x < f.wants.length) ∧ VOk f.left ∧ VOk (f.need x) ∧ HB f.left (f.need x) := by
  unfold fitsB
  rw [← rHolds_eq, Bool.and_eq_true, Bool.and_eq_true, decide_eq_true_eq, decide_eq_true_eq, rHolds_iff]
  constructor
  · rintro ⟨h1, h2, h3⟩; exact ⟨⟨h1, h2⟩, h3⟩
  · rintro ⟨⟨h1, h2⟩, h3⟩; exact ⟨h1, h2, h3⟩
theorem S4.of_right {f : Int → Int} (h : ∀ k, 0 ≤ f k ∧ f k ≤ 9007199254740992) : sumsRight (S4.of f) = true := by
  rw [sumsRight_iff]
  have h0 := h 0
  have h1 := h 1
  have h2 := h 2
  have h3 := h 3
  simp only [S4.of]
  omega
theorem FInv.share_bd {v : List Part} {ws : List Want} {f : Fil} {d : List Int} (hc : Chk v ws) (h : FInv v ws f d) {x : Nat} (hx : x < ws.length) (k : Int) : 0 ≤ ct d x * sk (ws.getD x default).need k ∧ ct d x * sk (ws.getD x default).need k ≤ sk v k ∧ sk v k ≤ 9007199254740992 := by
  have hw : ∀ k, k < ws.length → VOk (ws.getD k default).need := fun k hk => (hc.w k hk).1.ok
  have h1 := (ct_su hw (x := (x : Int)) k d h.rng).1
  rw [Int.toNat_natCast] at h1
  have h2 := h.sum k
  have h3 := sk_nn h.left.ok k
  have h4 := (hc.bv.sums k).2
  exact ⟨Int.mul_nonneg (ct_nn d x) (sk_nn (hw x hx).ok k), by omega, h4⟩
theorem FInv.launch {v : List Part} {ws : List Want} {f : Fil} {d : List Int} (hc : Chk v ws) (h : FInv v ws f d) {x : Int} (hx : fitsB f x = true) : FInv v ws (launchF f x) (d ++ [x]) := by
  obtain ⟨⟨x0, x1⟩, h1, h2, h3⟩ := (fits_iff f x).1 hx
  have hs := subV_ok h1 h2 h3
  have hrs := res_sk _ _ h1 h2 h3
  have hro := res_ok h1 h2 h3
  have hneed : f.need x = (ws.getD x.toNat default).need := by unfold Fil.need; rw [h.wants]
  rw [h.wants] at x1
  have hrng : ∀ y ∈ d ++ [x], 0 ≤ y ∧ y < ws.length := fun y hy => by
    rcases List.mem_append.1 hy with hy | hy
    · exact h.rng y hy
    · rw [List.mem_singleton.1 hy]; exact ⟨x0, x1⟩
  have hsum : ∀ k, sk (res f.left (f.need x)) k + su ws (d ++ [x]) k = sk v k := fun k => by
    have a1 := hrs k
    have a2 := h.sum k
    rw [hneed] at a1 ⊢
    rw [su_app]
    simp only [su]
    omega
  have hw : ∀ k, k < ws.length → VOk (ws.getD k default).need := fun k hk => (hc.w k hk).1.ok
  have hbd : ∀ k, 0 ≤ (ct d x + 1) * sk (ws.getD x.toNat default).need k ∧ (ct d x + 1) * sk (ws.getD x.toNat default).need k ≤ 9007199254740992 := fun k => by
    have a1 := (ct_su hw (x := x) k (d ++ [x]) hrng).1
    have a2 := hsum k
    have a3 := sk_nn hro.ok k
    have a4 := (hc.bv.sums k).2
    have a5 : ct (d ++ [x]) x = ct d x + 1 := by rw [ct_app]; simp [ct]
    rw [a5] at a1
    exact ⟨Int.mul_nonneg (by have := ct_nn d x; omega) (sk_nn (hw _ (by omega)).ok k), by omega⟩
  have e1 : launchF f x = ⟨f.total, f.wants, (subV f.left (f.need x)).1, setH f x, f.ver⟩ := if_pos hx
  rw [e1, hs]
  refine ⟨h.total, h.wants, hro, hsum, ?_, fun y hy => ?_, hrng⟩
  · show (setH f x).length = _
    unfold setH
    rw [List.length_set]
    exact h.hl
  · show (setH f x).getD y default = _
    unfold setH
    have hxn : x.toNat < f.have_.length := by rw [h.hl]; omega
    rw [List.getD_eq_getElem?_getD, List.getElem?_set]
    by_cases e : x.toNat = y
    · subst e
      have ex : ((x.toNat : Nat) : Int) = x := by omega
      rw [if_pos rfl, if_pos hxn, Option.getD_some, h.hv x.toNat hy, hneed, sumsOf_sk (hw _ hy), ex]
      have a5 : ct (d ++ [x]) x = ct d x + 1 := by rw [ct_app]; simp [ct]
      rw [a5]
      have hb0 := fun k => h.share_bd hc hy k
      rw [ex] at hb0
      have r1 : sumsRight (S4.of fun k => ct d x * sk (ws.getD x.toNat default).need k) = true := S4.of_right fun k => ⟨(hb0 k).1, Int.le_trans (hb0 k).2.1 (hb0 k).2.2⟩
      have r2 : sumsRight (S4.of (sk (ws.getD x.toNat default).need)) = true := S4.of_right fun k => (hc.w _ hy).1.sums k
      have r3 : sumsRight (S4.of fun k => (ct d x + 1) * sk (ws.getD x.toNat default).need k) = true := S4.of_right hbd
      have e3 : (⟨(S4.of fun k => ct d x * sk (ws.getD x.toNat default).need k).a + (S4.of (sk (ws.getD x.toNat default).need)).a, (S4.of fun k => ct d x * sk (ws.getD x.toNat default).need k).b + (S4.of (sk (ws.getD x.toNat default).need)).b, (S4.of fun k => ct d x * sk (ws.getD x.toNat default).need k).c + (S4.of (sk (ws.getD x.toNat default).need)).c, (S4.of fun k => ct d x * sk (ws.getD x.toNat default).need k).d + (S4.of (sk (ws.getD x.toNat default).need)).d⟩ : S4) = S4.of fun k => (ct d x + 1) * sk (ws.getD x.toNat default).need k := by
        simp only [S4.of, Int.add_mul, Int.one_mul]
      unfold sumsAdd
      rw [e3, if_pos ⟨r1, r2, r3⟩]
    · rw [if_neg e, ← List.getD_eq_getElem?_getD, h.hv y hy]
      have : ct (d ++ [x]) y = ct d y := by
        rw [ct_app]
        simp only [ct]
        rw [if_neg (by omega)]
        omega
      rw [this]
theorem filTo_inv {v : List Part} {ws : List Want} (hc : Chk v ws) (seq : List Int) : ∀ n, n ≤ seq.length → (∀ i, i < n → fitsB (filTo (fil0 v ws) seq i) (seq.getD i 0) = true) → FInv v ws (filTo (fil0 v ws) seq n) (seq.take n) ∧ rLeftTo v ws seq n = some (filTo (fil0 v ws) seq n).left
  | 0, _, _ => ⟨finv0 hc, rfl⟩
  | n + 1, hn, h => by
    obtain ⟨i1, i2⟩ := filTo_inv hc seq n (by omega) fun i hi => h i (by omega)
    have hf := h n (by omega)
    have e : seq.getD n 0 = seq[n] := by simp [List.getD_eq_getElem?_getD, show n < seq.length by omega]
    have i3 := i1.launch hc hf
    obtain ⟨⟨x0, x1⟩, h1, h2, h3⟩ := (fits_iff _ _).1 hf
    have hs := subV_ok h1 h2 h3
    refine ⟨?_, ?_⟩
    · rw [List.take_succ_eq_append_getElem (by omega), ← e]
      exact i3
    · simp only [rLeftTo, i2, Option.bind_some, filTo]
      have e1 : launchF (filTo (fil0 v ws) seq n) (seq.getD n 0) = ⟨_, _, (subV (filTo (fil0 v ws) seq n).left ((filTo (fil0 v ws) seq n).need (seq.getD n 0))).1, _, _⟩ := if_pos hf
      rw [e1]
      unfold rLeftStep
      unfold Fil.need at hs ⊢
      rw [i1.wants] at x1 hs
      rw [if_pos ⟨x0, x1⟩, rSub_eq, hs, if_pos rfl, i1.wants, hs]
theorem filTo_no {v : List Part} {ws : List Want} (hc : Chk v ws) (seq : List Int) {j : Nat} (hj : j < seq.length) (h : ∀ i, i < j → fitsB (filTo (fil0 v ws) seq i) (seq.getD i 0) = true) (hx : fitsB (filTo (fil0 v ws) seq j) (seq.getD j 0) = false) : rLeft v ws seq = ([], false) := by
  obtain ⟨i1, i2⟩ := filTo_inv hc seq j (by omega) h
  have : rLeftTo v ws seq (j + 1) = none := by
    simp only [rLeftTo, i2, Option.bind_some]
    unfold rLeftStep
    unfold fitsB Fil.need at hx
    rw [i1.wants] at hx
    rw [rSub_eq]
    split
    · rename_i h0
      rw [decide_eq_true h0.1, decide_eq_true h0.2, Bool.true_and, Bool.true_and] at hx
      rw [hx]
      rfl
    · rfl
  unfold rLeft
  rw [rLeftTo_none this (by omega)]
theorem dom_bd {s t : S4} (hs : ∀ k : Nat, 0 ≤ s.at_ k ∧ s.at_ k ≤ 9007199254740992) (ht : ∀ k : Nat, 0 ≤ t.at_ k ∧ t.at_ k ≤ 9007199254740992) : ∀ k, (0 ≤ (domTo s t k).num ∧ (domTo s t k).num ≤ 9007199254740992) ∧ 1 ≤ (domTo s t k).den ∧ (domTo s t k).den ≤ 9007199254740992
  | 0 => by simp [domTo]
  | k + 1 => by
    have ih := dom_bd hs ht k
    have h1 := hs k
    have h2 := ht k
    simp only [domTo]
    unfold domStep
    split
    · dsimp only; omega
    · exact ih
theorem S4.of_at {f : Int → Int} (h : ∀ k, 0 ≤ f k ∧ f k ≤ 9007199254740992) : ∀ k : Nat, 0 ≤ (S4.of f).at_ k ∧ (S4.of f).at_ k ≤ 9007199254740992
  | 0 => h 0
  | 1 => h 1
  | 2 => h 2
  | 3 => h 3
  | k + 4 => by show (0 : Int) ≤ 0 ∧ (0 : Int) ≤ 9007199254740992; decide
theorem FInv.right {v : List Part} {ws : List Want} {f : Fil} {d : List Int} (hc : Chk v ws) (h : FInv v ws f d) {x : Nat} (hx : x < ws.length) : shrRight (shareF f x) = true := by
  have hb := fun k => h.share_bd hc hx k
  have hw := hc.w x hx
  rw [shrRight_iff]
  unfold shareF shrOf
  rw [Int.toNat_natCast, h.hv x hx, h.wants, h.total, sumsOf_sk hc.bv.ok]
  dsimp only
  have hd : (0 ≤ (sumsDom (S4.of fun k => ct d x * sk (ws.getD x default).need k) (S4.of (sk v))).num ∧ (sumsDom (S4.of fun k => ct d x * sk (ws.getD x default).need k) (S4.of (sk v))).num ≤ 9007199254740992) ∧ 1 ≤ (sumsDom (S4.of fun k => ct d x * sk (ws.getD x default).need k) (S4.of (sk v))).den ∧ (sumsDom (S4.of fun k => ct d x * sk (ws.getD x default).need k) (S4.of (sk v))).den ≤ 9007199254740992 := by
    unfold sumsDom
    split
    · exact dom_bd (S4.of_at fun k => ⟨(hb k).1, Int.le_trans (hb k).2.1 (hb k).2.2⟩) (S4.of_at fun k => hc.bv.sums k) 4
    · decide
  omega
theorem FInv.part {v : List Part} {ws : List Want} {f : Fil} {d : List Int} (hc : Chk v ws) (h : FInv v ws f d) {x : Nat} (hx : x < ws.length) : rSh v ws d x = shareF f x := by
  have hb := fun k => h.share_bd hc hx k
  unfold rSh shareF shrOf rPart
  rw [Int.toNat_natCast, h.hv x hx, h.wants, h.total, rDom_eq, cntTo_ct d x _ (Nat.le_refl _), List.take_length, sumsOf_sk (hc.w x hx).1.ok]
  have e : (S4.of (sk (ws.getD x default).need)).times (ct d x) = S4.of fun k => ct d x * sk (ws.getD x default).need k := by
    have b0 := hb 0
    have b1 := hb 1
    have b2 := hb 2
    have b3 := hb 3
    unfold S4.times S4.of
    dsimp only
    rw [Int.mul_comm _ (ct d x), Int.mul_comm _ (ct d x), Int.mul_comm _ (ct d x), Int.mul_comm _ (ct d x), wrap_i64 (by omega) (by omega), wrap_i64 (by omega) (by omega), wrap_i64 (by omega) (by omega), wrap_i64 (by omega) (by omega)]
  rw [e]
theorem rLeftTo_take (v : List Part) (ws : List Want) (seq : List Int) {n : Nat} (hn : n ≤ seq.length) : ∀ i, i ≤ n → rLeftTo v ws (seq.take n) i = rLeftTo v ws seq i
  | 0, _ => rfl
  | i + 1, h => by
    simp only [rLeftTo]
    rw [rLeftTo_take v ws seq hn i (by omega)]
    have : (seq.take n).getD i 0 = seq.getD i 0 := by
      simp only [List.getD_eq_getElem?_getD, List.getElem?_take]
      rw [if_pos (by omega)]
    rw [this]
theorem next_eq {v : List Part} {ws : List Want} (h0 : checkR (prof1 v ws) = 0) (seq : List Int) {n : Nat} (hn : n ≤ seq.length) (h : ∀ i, i < n → fitsB (filTo (fil0 v ws) seq i) (seq.getD i 0) = true) : rNext v ws (seq.take n) = nextR (filTo (fil0 v ws) seq n) := by
  have hc := chk_of h0
  obtain ⟨i1, i2⟩ := filTo_inv hc seq n hn h
  have hl : (seq.take n).length = n := by simp; omega
  have hL : rLeft v ws (seq.take n) = ((filTo (fil0 v ws) seq n).left, true) := by
    unfold rLeft
    rw [hl, rLeftTo_take v ws seq hn n (Nat.le_refl _), i2]
  unfold rNext
  rw [rCheck_eq, if_pos h0, hL, if_pos rfl]
  dsimp only
  generalize filTo (fil0 v ws) seq n = f at *
  generalize seq.take n = d at *
  have hr : ∀ k : Nat, k < f.wants.length → shrRight (shareF f k) = true := fun k hk => i1.right hc (by rwa [i1.wants] at hk)
  have hfit : ∀ k, k < ws.length → rFit ws f.left k = fitsB f k := fun k hk => by
    unfold rFit fitsB Fil.need
    rw [i1.wants, rHolds_eq, decide_eq_true (by omega), decide_eq_true (by omega), Int.toNat_natCast, Bool.true_and, Bool.true_and]
  rw [nextR_char hr, rNextTo_eq, i1.wants]
  congr 1
  refine List.filter_congr fun i hi => ?_
  rw [List.mem_range] at hi
  rw [rLst_eq, hfit i hi]
  congr 1
  rw [Bool.eq_iff_iff]
  simp only [List.all_eq_true, List.mem_range]
  have key : ∀ k, k < ws.length → (rWorse v ws d f.left i k = (fitsB f k && lessB (shareF f k) (shareF f i))) := fun k hk => by
    unfold rWorse lessB
    rw [hfit k hk, rShrCmp_eq, i1.part hc hk, i1.part hc hi]
    congr 1
    have r1 := i1.right hc hk
    have r2 := i1.right hc hi
    have := shrCmp_neg r1 r2
    refine decide_eq_decide.2 ⟨fun h => this.1 ?_, fun h => ?_⟩
    · unfold shrCmp at h ⊢
      rw [if_pos ⟨r1, r2⟩] at h ⊢
      split at h
      · omega
      · split at h
        · rename_i a1 a2
          rw [if_neg a1, if_pos a2]
        · omega
    · rw [this.2 h]; decide
  constructor
  · intro h k hk
    rw [← key k hk]
    exact h k hk
  · intro h k hk
    rw [key k hk]
    exact h k hk
theorem nextR_fits {f : Fil} (hr : ∀ k : Nat, k < f.wants.length → shrRight (shareF f k) = true) {x : Int} (h : inR (nextR f) x = true) : fitsB f x = true := by
  unfold inR at h
  rw [decide_eq_true_eq, nextR_char hr, List.mem_map] at h
  obtain ⟨k, hk, rfl⟩ := h
  rw [List.mem_filter, Bool.and_eq_true] at hk
  exact hk.2.1
theorem in_fits {v : List Part} {ws : List Want} (hc : Chk v ws) (seq : List Int) : ∀ n, n ≤ seq.length → (∀ i, i < n → inR (nextR (filTo (fil0 v ws) seq i)) (seq.getD i 0) = true) → ∀ i, i < n → fitsB (filTo (fil0 v ws) seq i) (seq.getD i 0) = true
  | 0, _, _, i, hi => by omega
  | n + 1, hn, h, i, hi => by
    have ih := in_fits hc seq n (by omega) fun i hi => h i (by omega)
    rcases Nat.lt_or_ge i n with h1 | h1
    · exact ih i h1
    · obtain rfl : i = n := by omega
      obtain ⟨i1, _⟩ := filTo_inv hc seq i (by omega) ih
      exact nextR_fits (fun k hk => i1.right hc (by rwa [i1.wants] at hk)) (h i (by omega))
theorem rNext_eq (v : List Part) (ws : List Want) (seq : List Int) : rNext v ws seq = nextV v ws seq := by
  unfold nextV
  by_cases h0 : checkR (prof1 v ws) = 0
  · have hc := chk_of h0
    rw [if_pos h0]
    unfold ranB runI runF
    cases hj : runJ (fil0 v ws) seq with
    | some j =>
      obtain ⟨h1, h2, h3⟩ := nextAt_eq_some.1 hj
      dsimp only
      rw [if_pos (decide_eq_true (by omega))]
      unfold rNext
      rw [rCheck_eq, if_pos h0, filTo_no hc seq h2.2 (fun i hi => by simpa using h3 i (Nat.zero_le _) hi) (by simpa using h1)]
      rfl
    | none =>
      have h1 := nextAt_eq_none.1 hj
      dsimp only
      rw [if_neg (by decide), ← next_eq h0 seq (Nat.le_refl _) fun i hi => by simpa using h1 i (Nat.zero_le _) hi, List.take_length]
  · rw [if_neg h0]
    unfold rNext
    rw [rCheck_eq, if_neg h0]
theorem rValid_eq (v : List Part) (ws : List Want) (seq : List Int) : rValid v ws seq = validR v ws seq := by
  unfold rValid validR
  rw [rCheck_eq]
  by_cases h0 : checkR (prof1 v ws) = 0
  · have hc := chk_of h0
    rw [if_pos h0, if_pos h0]
    cases hj : nextAt (fun i => !inR (nextR (filTo (fil0 v ws) seq i)) (seq.getD i 0)) 0 seq.length with
    | some j =>
      obtain ⟨h1, h2, h3⟩ := nextAt_eq_some.1 hj
      have hin : ∀ i, i < j → inR (nextR (filTo (fil0 v ws) seq i)) (seq.getD i 0) = true := fun i hi => by simpa using h3 i (Nat.zero_le _) hi
      have hfit := in_fits hc seq j (by omega) hin
      have : nextAt (fun i => !inR (rNext v ws (seq.take i)) (seq.getD i 0)) 0 seq.length = some j := nextAt_eq_some.2 ⟨by
        rw [next_eq h0 seq (by omega) hfit]
        exact h1, h2, fun i _ hi => by
        rw [next_eq h0 seq (by omega) fun k hk => hfit k (by omega), hin i hi]
        rfl⟩
      rw [this]
    | none =>
      have h1 := nextAt_eq_none.1 hj
      have hin : ∀ i, i < seq.length → inR (nextR (filTo (fil0 v ws) seq i)) (seq.getD i 0) = true := fun i hi => by simpa using h1 i (Nat.zero_le _) hi
      have hfit := in_fits hc seq _ (Nat.le_refl _) hin
      have : nextAt (fun i => !inR (rNext v ws (seq.take i)) (seq.getD i 0)) 0 seq.length = none := nextAt_eq_none.2 fun i _ hi => by
        rw [next_eq h0 seq (by omega) fun k hk => hfit k (by omega), hin i hi]
        rfl
      rw [this]
      have e := next_eq h0 seq (Nat.le_refl _) hfit
      rw [List.take_length] at e
      rw [e]
  · rw [if_neg h0, if_neg h0]
end Go.Proofs.Ytddgcegimmcbgaa.Sy

set_option linter.unusedSectionVars false
namespace Go.Proofs.Ytddgcegimmcbgaa.Sy
open Go Go.Sy Go.Proofs.Ytddgcegimmcbgaa
set_option maxRecDepth 100000
set_option maxHeartbeats 8000000
set_option linter.unusedVariables false
set_option linter.unusedSimpArgs false

def fillStep (s : Fil × List Int) : Fil × List Int := match nextR s.1 with
  | [] => s
  | x :: _ => (launchF s.1 x, s.2 ++ [x])
def fillN (v : List Part) (ws : List Want) : Nat → Fil × List Int
  | 0 => (fil0 v ws, [])
  | n + 1 => fillStep (fillN v ws n)
def fillL (v : List Part) (ws : List Want) : List Int := if checkR (prof1 v ws) = 0 then (fillN v ws 4097).2 else []
theorem fillStep_nil {s : Fil × List Int} (h : nextR s.1 = []) : fillStep s = s := by
  unfold fillStep
  rw [h]
theorem fillStep_cons {s : Fil × List Int} {x : Int} {l : List Int} (h : nextR s.1 = x :: l) : fillStep s = (launchF s.1 x, s.2 ++ [x]) := by
  unfold fillStep
  rw [h]
theorem next_fits {v : List Part} {ws : List Want} {f : Fil} {d : List Int} (hc : Chk v ws) (h : FInv v ws f d) {x : Int} {l : List Int} (hn : nextR f = x :: l) : fitsB f x = true :=
  nextR_fits (fun k hk => h.right hc (by rwa [h.wants] at hk)) (by rw [hn]; exact decide_eq_true (by simp))
theorem fillN_inv {v : List Part} {ws : List Want} (hc : Chk v ws) : ∀ n, FInv v ws (fillN v ws n).1 (fillN v ws n).2
  | 0 => finv0 hc
  | n + 1 => by
    have ih := fillN_inv hc n
    simp only [fillN]
    cases hn : nextR (fillN v ws n).1 with
    | nil => rw [fillStep_nil hn]; exact ih
    | cons x l => rw [fillStep_cons hn]; exact ih.launch hc (next_fits hc ih hn)
theorem fillN_stop {v : List Part} {ws : List Want} {n : Nat} (h : nextR (fillN v ws n).1 = []) : ∀ m, n ≤ m → fillN v ws m = fillN v ws n
  | 0, hm => by
    obtain rfl : n = 0 := by omega
    rfl
  | m + 1, hm => by
    rcases Nat.lt_or_ge m n with h1 | h1
    · obtain rfl : n = m + 1 := by omega
      rfl
    · have ih := fillN_stop h m h1
      simp only [fillN]
      rw [ih, fillStep_nil h]
theorem fillN_len {v : List Part} {ws : List Want} : ∀ n, (∀ i, i < n → nextR (fillN v ws i).1 ≠ []) → (fillN v ws n).2.length = n
  | 0, _ => rfl
  | n + 1, h => by
    have ih := fillN_len n fun i hi => h i (by omega)
    simp only [fillN]
    cases hn : nextR (fillN v ws n).1 with
    | nil => exact absurd hn (h n (by omega))
    | cons x l => rw [fillStep_cons hn]; simp [ih]
/-! ### At most so many -/
theorem Bare.kind {v : List Part} (h : Bare v) : ∃ k, 1 ≤ sk v k := by
  match v, h with
  | [], h => exact absurd h.pos (by simp)
  | p :: v, h =>
    have a0 := (h.ok.ok p (by simp)).a0
    have hn := sk_nn (v := v) (fun q hq => h.ok.ok q (by simp [hq])) p.kind
    refine ⟨p.kind, ?_⟩
    simp only [sk]
    rw [if_pos trivial]
    omega
theorem minQ_ge {m x y n : Int} (hm : n ≤ m) (hx : 0 ≤ x ∧ x ≤ 1152921504606846976) (h : n * y ≤ x) : n ≤ minQ m x y := by
  unfold minQ
  split
  · rename_i h0
    rw [(div_bd hx h0).1]
    have := (Int.le_ediv_iff_mul_le h0).2 h
    omega
  · exact hm
theorem ct_many {v : List Part} {ws : List Want} {f : Fil} {d : List Int} (hc : Chk v ws) (h : FInv v ws f d) {x : Nat} (hx : x < ws.length) : ct d x ≤ sumsMany (sumsOf v) (sumsOf (ws.getD x default).need) := by
  have hb := (hc.w x hx).1
  have hs := fun k => h.share_bd hc hx k
  have hv := fun k => hc.bv.sums k
  obtain ⟨k0, hk0⟩ := hb.kind
  have h60 : ct d x ≤ 1152921504606846976 := by
    have h1 := hs k0
    have h2 : ct d x * 1 ≤ ct d x * sk (ws.getD x default).need k0 := Int.mul_le_mul_of_nonneg_left hk0 (ct_nn d x)
    omega
  unfold sumsMany
  rw [if_pos ⟨hc.bv.right, hb.right, hb.some⟩, sumsOf_sk hc.bv.ok, sumsOf_sk hb.ok]
  simp only [S4.of]
  have b0 := hv 0
  have b1 := hv 1
  have b2 := hv 2
  have b3 := hv 3
  exact minQ_ge (minQ_ge (minQ_ge (minQ_ge h60 (by omega) (hs 0).2.1) (by omega) (hs 1).2.1) (by omega) (hs 2).2.1) (by omega) (hs 3).2.1
/-- How many of some are below a number. -/
def cb (d : List Int) : Nat → Int
  | 0 => 0
  | k + 1 => cb d k + ct d k
theorem cb_len {n : Nat} : ∀ (d : List Int), (∀ x ∈ d, 0 ≤ x ∧ x < n) → cb d n = d.length := by
  have h0 : ∀ k, cb [] k = 0 := fun k => by
    induction k with
    | zero => rfl
    | succ k ih => simp [cb, ih, ct]
  have h1 : ∀ (y : Int) (d : List Int) k, 0 ≤ y → cb (y :: d) k = (if y < k then 1 else 0) + cb d k := fun y d k hy => by
    induction k with
    | zero => simp only [cb]; rw [if_neg (by omega)]; rfl
    | succ k ih =>
      simp only [cb, ct, ih]
      split <;> split <;> split <;> omega
  intro d
  induction d with
  | nil => intro _; rw [h0]; rfl
  | cons y d ih =>
    intro h
    have hy := h y (by simp)
    rw [h1 y d n hy.1, ih fun x hx => h x (by simp [hx]), if_pos hy.2]
    simp only [List.length_cons]
    omega
theorem len_bd {v : List Part} {ws : List Want} {f : Fil} {d : List Int} (h0 : checkR (prof1 v ws) = 0) (h : FInv v ws f d) : d.length ≤ 4096 := by
  have hc := chk_of h0
  have hb : boundR (prof1 v ws) ≤ 4096 ∧ fineR (prof1 v ws) = true := by
    unfold checkR at h0
    split at h0
    · split at h0
      · cases h0
      · exact ⟨by omega, by assumption⟩
    · cases h0
  obtain ⟨hb, hf⟩ := hb
  unfold boundR at hb
  rw [if_pos hf] at hb
  have hb2 : bndW v ws (((1 : Nat) : Int) * ws.length) ws.length ≤ 4096 := hb
  have key : ∀ k, k ≤ ws.length → bndW v ws (((1 : Nat) : Int) * ws.length) k ≤ 4096 → cb d k ≤ bndW v ws (((1 : Nat) : Int) * ws.length) k := by
    intro k
    induction k with
    | zero =>
      intro _ _
      simp only [cb, bndW]
      omega
    | succ k ih =>
      intro hk hle
      simp only [bndW] at hle
      have hm := sumsMany_bd (sumsOf v) (sumsOf (ws.getD k default).need)
      have h1 := ih (by omega) (by omega)
      have h2 := ct_many hc h (x := k) (by omega)
      simp only [cb, bndW]
      omega
  have h1 := key _ (Nat.le_refl _) hb2
  rw [cb_len d h.rng] at h1
  omega
theorem fillN_le {v : List Part} {ws : List Want} (h0 : checkR (prof1 v ws) = 0) {n : Nat} (h : ∀ i, i < n → nextR (fillN v ws i).1 ≠ []) : n ≤ 4096 := by
  have h1 := len_bd h0 (fillN_inv (chk_of h0) n)
  rwa [fillN_len n h] at h1
/-- Where it ends. -/
theorem fill_end {v : List Part} {ws : List Want} (h0 : checkR (prof1 v ws) = 0) : ∃ N, N ≤ 4096 ∧ (∀ i, i < N → nextR (fillN v ws i).1 ≠ []) ∧ nextR (fillN v ws N).1 = [] := by
  have key : ∀ n, (∀ i, i < n → nextR (fillN v ws i).1 ≠ []) ∨ ∃ N, N < n ∧ (∀ i, i < N → nextR (fillN v ws i).1 ≠ []) ∧ nextR (fillN v ws N).1 = [] := by
    intro n
    induction n with
    | zero => exact .inl fun i hi => by omega
    | succ n ih =>
      rcases ih with h | ⟨N, h1, h2⟩
      · by_cases hn : nextR (fillN v ws n).1 = []
        · exact .inr ⟨n, by omega, h, hn⟩
        · left
          intro i hi
          rcases Nat.lt_or_ge i n with h3 | h3
          · exact h i h3
          · obtain rfl : i = n := by omega
            exact hn
      · exact .inr ⟨N, by omega, h2⟩
  rcases key 4097 with h | ⟨N, h1, h2, h3⟩
  · have := fillN_le h0 h
    omega
  · exact ⟨N, by omega, h2, h3⟩
theorem fill_all {v : List Part} {ws : List Want} (h0 : checkR (prof1 v ws) = 0) : nextR (filTo (fil0 v ws) (fillL v ws) (fillL v ws).length) = [] ∧ ∀ i, i ≤ (fillL v ws).length → filTo (fil0 v ws) (fillL v ws) i = (fillN v ws i).1 ∧ (i < (fillL v ws).length → (fitsB (filTo (fil0 v ws) (fillL v ws) i) ((fillL v ws).getD i 0) = true) ∧ ∃ l, nextR (filTo (fil0 v ws) (fillL v ws) i) = (fillL v ws).getD i 0 :: l) := by
  have hc := chk_of h0
  obtain ⟨N, hN, h1, h2⟩ := fill_end h0
  have hL : fillL v ws = (fillN v ws N).2 := by
    unfold fillL
    rw [if_pos h0, fillN_stop h2 4097 (by omega)]
  have hlen : (fillL v ws).length = N := by rw [hL]; exact fillN_len N h1
  have hpre : ∀ m, m ≤ N → ∀ i, i ≤ m → (fillN v ws m).2.take i = (fillN v ws i).2 := by
    intro m
    induction m with
    | zero =>
      intro _ i hi
      obtain rfl : i = 0 := by omega
      rfl
    | succ m ih =>
      intro hm i hi
      have hml := fillN_len m fun i hi => h1 i (by omega)
      have hml2 := fillN_len (m + 1) fun i hi => h1 i (by omega)
      rcases Nat.lt_or_ge m i with h3 | h3
      · obtain rfl : i = m + 1 := by omega
        exact List.take_of_length_le (by omega)
      · rw [← ih (by omega) i h3]
        cases hn : nextR (fillN v ws m).1 with
        | nil => exact absurd hn (h1 m (by omega))
        | cons x l =>
          have : fillN v ws (m + 1) = (launchF (fillN v ws m).1 x, (fillN v ws m).2 ++ [x]) := fillStep_cons hn
          rw [this]
          exact List.take_append_of_le_length (by omega)
  have hstep : ∀ i, i < N → ∃ l, nextR (fillN v ws i).1 = (fillL v ws).getD i 0 :: l ∧ fillN v ws (i + 1) = (launchF (fillN v ws i).1 ((fillL v ws).getD i 0), (fillN v ws i).2 ++ [(fillL v ws).getD i 0]) := fun i hi => by
    cases hn : nextR (fillN v ws i).1 with
    | nil => exact absurd hn (h1 i hi)
    | cons x l =>
      have e1 : fillN v ws (i + 1) = (launchF (fillN v ws i).1 x, (fillN v ws i).2 ++ [x]) := fillStep_cons hn
      have hil := fillN_len i fun j hj => h1 j (by omega)
      have e2 : (fillL v ws).getD i 0 = x := by
        have e3 := hpre N (Nat.le_refl _) (i + 1) (by omega)
        rw [← hL, e1] at e3
        have e4 : ((fillL v ws).take (i + 1)).getD i 0 = (fillL v ws).getD i 0 := by
          simp only [List.getD_eq_getElem?_getD, List.getElem?_take]
          rw [if_pos (by omega)]
        rw [← e4, e3, List.getD_eq_getElem?_getD, List.getElem?_append_right (by omega), hil, Nat.sub_self]
        rfl
      rw [e2]
      exact ⟨l, rfl, e1⟩
  have hfil : ∀ i, i ≤ N → filTo (fil0 v ws) (fillL v ws) i = (fillN v ws i).1 := by
    intro i
    induction i with
    | zero => intro _; rfl
    | succ i ih =>
      intro hi
      obtain ⟨l, _, e⟩ := hstep i (by omega)
      simp only [filTo]
      rw [ih (by omega), e]
  rw [hlen]
  refine ⟨by rw [hfil N (Nat.le_refl _)]; exact h2, fun i hi => ⟨hfil i hi, fun hi2 => ?_⟩⟩
  obtain ⟨l, e, _⟩ := hstep i hi2
  rw [hfil i hi]
  exact ⟨next_fits hc (fillN_inv hc i) e, l, e⟩
theorem fill_next {v : List Part} {ws : List Want} (h0 : checkR (prof1 v ws) = 0) {i : Nat} (hi : i ≤ (fillL v ws).length) : (i = (fillL v ws).length → rNext v ws ((fillL v ws).take i) = []) ∧ (i < (fillL v ws).length → ∃ l, rNext v ws ((fillL v ws).take i) = (fillL v ws).getD i 0 :: l) := by
  obtain ⟨h1, h2⟩ := fill_all h0
  have e := next_eq h0 (fillL v ws) hi fun j hj => ((h2 j (by omega)).2 (by omega)).1
  rw [e]
  refine ⟨fun he => ?_, fun hl => ((h2 i hi).2 hl).2⟩
  rw [he]
  exact h1
theorem fillL_len {v : List Part} {ws : List Want} : (fillL v ws).length ≤ 4096 := by
  by_cases h0 : checkR (prof1 v ws) = 0
  · unfold fillL
    rw [if_pos h0]
    exact len_bd h0 (fillN_inv (chk_of h0) _)
  · unfold fillL
    rw [if_neg h0]
    exact Nat.zero_le _
end Go.Proofs.Ytddgcegimmcbgaa.Sy

set_option linter.unusedSectionVars false
namespace Go.Proofs.Ytddgcegimmcbgaa.Sy
open Go Go.Sy Go.Proofs.Ytddgcegimmcbgaa
set_option maxRecDepth 100000
set_option maxHeartbeats 8000000
set_option linter.unusedVariables false
set_option linter.unusedSimpArgs false

structure StF where
  n : Nat
  f : Fil
  rv : Nat
  out : List Int
  nx : List Int
structure InFl (v : List Part) (ws : List Want) (s : StF) : Prop where
  go : ∀ i, i < s.n → nextR (fillN v ws i).1 ≠ []
  f : s.f = (fillN v ws s.n).1
  out : s.out = (fillN v ws s.n).2
  nx : s.nx = nextR s.f
theorem x_fillFill (v : List Part) (ws : List Want) (hp : ProfOk (prof1 v ws)) (hv : v.length ≤ 1048576) : XC Try.prog 27 [.ro (SL Ar.real Part.X v), .ro (SL Ar.real Want.X ws)] [] (.tup [.ro (SL Ar.real encI (fillL v ws)), xi (checkR (prof1 v ws))]) [] := by
  have hws := hp.nw
  have hF0 := fil0_ok hp hv
  have hr0 : checkR (prof1 v ws) ≠ 0 → fillL v ws = [] := fun h => if_neg h
  have hr1 : checkR (prof1 v ws) = 0 → ∀ n, n ≤ 4097 → nextR (fillN v ws n).1 = [] → fillL v ws = (fillN v ws n).2 := fun h n hn he => by
    unfold fillL
    rw [if_pos h, fillN_stop he 4097 hn]
  have hle : checkR (prof1 v ws) = 0 → ∀ {n}, (∀ i, i < n → nextR (fillN v ws i).1 ≠ []) → n ≤ 4096 := fun h => fillN_le h
  have hlen := fun n => fillN_len (v := v) (ws := ws) n
  have hok : ∀ n, FilOk (fillN v ws n).1 := fun n => by
    induction n with
    | zero => exact hF0
    | succ n ih =>
      simp only [fillN]
      unfold fillStep
      split
      · exact ih
      · exact launchF_ok ih _
  have hst : ∀ n, fillN v ws (n + 1) = fillStep (fillN v ws n) := fun _ => rfl
  have hN0 : fillN v ws 0 = (fil0 v ws, []) := rfl
  obtain ⟨z, hz⟩ : ∃ z, z = List.replicate ws.length (⟨0, 0, 0, 0⟩ : S4) := ⟨_, rfl⟩
  have hf0 : fil0 v ws = ⟨sumsOf v, ws, v, z, 0⟩ := by rw [hz]; rfl
  generalize fillL v ws = res at *
  generalize hcr : checkR (prof1 v ws) = cr at *
  (refine XC.of_body ([]) Try.func27 rfl Try.ntmps27 mixed (T := [(3, ti3), (43, ti43), (53, ti53)]) (.cons tok3 (.cons tok43 (.cons tok53 .nil))) (by kernel_rfl) (by simp) rfl rfl rfl rfl rfl ?_; rintro o ho P hP c K hK; have hm : P.follows .mixedOrders = true := hP ▸ mixed; have hT : TOk P [(3, ti3), (43, ti43), (53, ti53)] := hP ▸ (.cons tok3 (.cons tok43 (.cons tok53 .nil))); (try rw [← ho]); cbv; (repeat (refine StopN.mk ?_; cbv)))
  have hN00 := x_next o ho (fil0 v ws) hF0
  rw [hf0] at hN00 hN0
  refine call_begin hP ho v ws hp hv hws (fun h => ?_) (fun h rr hrr => ?_)
  all_goals rw [hcr] at h
  · rw [hcr]
    cbv
    repeat' (first | (refine Br.mk (fun hb => ?_) (fun hb => ?_) <;> ((try rw [ho] at hb); (try dsimp only [Ar.real, IX.vo] at hb); (try simp only [QB7] at hb); (try simp only [QBo, beq_iff_eq, beq_eq_false_iff_ne, ne_eq] at hb))) | (refine StopN.mk ?_; cbv) | (refine hK _ _ ?_) | (refine NeedT.mk ?_ ?_))
    · rw [hr0 hb]
      exact .pure fun _ => by
        simp only [X.toD, X.toDL, rows_nil_SL Ar.real rfl encI]
    · exact absurd hb h
  · rw [← hz] at hrr
    have hr1 := hr1 h
    have hle := @hle h
    generalize hnx0 : nextR _ = nx0 at hN00
    generalize sumsOf v = S0 at *
    cbv
    repeat' (first | (refine Br.mk (fun hb => ?_) (fun hb => ?_) <;> ((try rw [ho] at hb); (try dsimp only [Ar.real, IX.vo] at hb); (try simp only [QB7] at hb); (try simp only [QBo, beq_iff_eq, beq_eq_false_iff_ne, ne_eq] at hb))) | (refine StopN.mk ?_; cbv) | ((first | refine CallI.objs [.loc 1, .loc 0] hP hN00 fn66 rfl rfl rfl rfl (by rfl) rfl rfl rfl rfl (by rfl) ⟨⟨_, rfl, rfl⟩, ⟨_, rfl, (EqO.row (c := c) rfl hrr).1⟩, trivial⟩ ?_); cbv) | (refine hK _ _ ?_) | (refine NeedT.mk ?_ ?_))
    refine LoopN.ghost 8 3 1 rfl ?_
    refine LoopN.over (o := o) (D := []) ho hm hT (by kernel_rfl) (fun s : StF => [(8, .own (.loc 2) s.rv), (9, .ro (SL o encI s.nx))]) (fun s => [(0, .row s.f.ver 61 4 (SL o S4.X s.f.have_)), (1, .var [xi s.f.total.a, xi s.f.total.b, xi s.f.total.c, xi s.f.total.d, .ro (SL o Want.X s.f.wants), .ro (SL o Part.X s.f.left), .own (.loc 0) s.f.ver] 198), (2, .row s.rv 3 1 (SL o encI s.out))]) (fun _ => []) (InFl v ws) (fun s => 4097 - s.n) ⟨0, ⟨S0, ws, v, z, 0⟩, 0, [], nx0⟩ ⟨fun i hi => absurd hi (Nat.not_lt_zero i), by rw [hN0], by rw [hN0], hnx0.symm⟩ ?_ ?_
    · refine ⟨(by cbv), by cbv; repeat' (first | trivial | exact EqX.rfl' | exact EqO.rfl' | apply And.intro | ((try clear hR3); (try clear hR2); (try clear hR); (try clear hK); (try simp only [ncCast] at *); (try simp only [castI_eq] at *); refine EqX.i ?_; (try rw [ho]); (try dsimp only [Ar.real, IX.vo, IX.val, BX.val, IX.toN]); (try simp only [QB7]); (repeat rw [wrap_i64 (by omega) (by omega)]); omega) | exact EqO.row rfl (rows_nil_SL o ho encI)), by cbv; repeat' (first | trivial | exact EqO.rfl' | apply And.intro | exact EqO.row rfl (rows_nil_SL o ho encI)), by cbv; repeat' (first | trivial | exact EqO.rfl' | apply And.intro | exact EqO.row rfl (rows_nil_SL o ho encI))⟩
    · rintro ⟨n, F, rv, out, nx⟩ ⟨hgo, hF, hout, hnx⟩ R hR
      dsimp only at hgo hF hout hnx
      have hokn := hok n
      have hn := hle hgo
      have hln := hlen n hgo
      have e1 := hr1 n (by omega)
      have e2 := hst n
      rw [← hF] at hokn e1
      rw [← hout] at hln e1
      rw [← hnx] at e1
      have hnl := nextR_len hokn
      rw [← hnx] at hnl
      have hL := x_launch o ho F hokn (nx.getD 0 0)
      obtain ⟨F', hF'⟩ : ∃ q, q = launchF F (nx.getD 0 0) := ⟨_, rfl⟩
      have hok' : FilOk F' := by rw [hF']; exact launchF_ok hokn _
      have hN2 := x_next o ho F' hok'
      obtain ⟨nx', hnx'⟩ : ∃ q, q = nextR F' := ⟨_, rfl⟩
      obtain ⟨out', hout'⟩ : ∃ q, q = out ++ [nx.getD 0 0] := ⟨_, rfl⟩
      have hgo' : 0 < nx.length → nextR (fillN v ws n).1 ≠ [] := fun hp he => by
        rw [← hF, ← hnx] at he
        rw [he] at hp
        exact absurd hp (by decide)
      have hstep : 0 < nx.length → fillN v ws (n + 1) = (F', out') := fun hp => by
        rw [e2, hF', hout']
        match hm : nx, hp with
        | x :: l, _ =>
          rw [fillStep_cons (s := fillN v ws n) (x := x) (l := l) (by rw [← hF]; exact hnx.symm), ← hF, ← hout]
          rfl
      rw [← hF'] at hL
      rw [← hnx'] at hN2
      clear hF'
      generalize fitsB F (nx.getD 0 0) = fb at *
      have en : o.nth nx 0 = nx.getD 0 0 := by rw [ho, real_nth]; rfl
      rw [← en] at hL
      cbv
      repeat' (first | (refine Br.mk (fun hb => ?_) (fun hb => ?_) <;> ((try rw [ho] at hb); (try dsimp only [Ar.real, IX.vo] at hb); (try simp only [QB7] at hb); (try simp only [QBo, beq_iff_eq, beq_eq_false_iff_ne, ne_eq] at hb))) | (refine StopN.mk ?_; cbv) | ((first | refine CallI.objs [.loc 1, .loc 0] hP hL fn67 rfl rfl rfl rfl (by rfl) rfl rfl rfl rfl (by rfl) ⟨⟨_, rfl, rfl⟩, ⟨_, rfl, rfl⟩, trivial⟩ ?_ | refine CallI.objs [.loc 1, .loc 0] hP hN2 fn66 rfl rfl rfl rfl (by rfl) rfl rfl rfl rfl (by rfl) ⟨⟨_, rfl, rfl⟩, ⟨_, rfl, rfl⟩, trivial⟩ ?_); cbv) | (refine hK _ _ ?_) | (refine NeedT.mk ?_ ?_))
      any_goals (((try clear hR3); (try clear hR2); (try clear hR); (try clear hK); (try simp only [ncCast] at *); (try simp only [castI_eq] at *); (try rw [ho]); (try dsimp only [Ar.real, IX.vo, IX.val, BX.val, IX.toN]); (try simp only [QB7]); (try simp only [decide_eq_true_eq]); (all_goals (repeat rw [wrap_i64 (by omega) (by omega)])); (all_goals (first | omega | (simp only [Int.ofNat_eq_natCast]; omega)))); done)
      · have hp0 : 0 < nx.length := by ((try clear hR3); (try clear hR2); (try clear hR); (try clear hK); (try simp only [ncCast] at *); (try simp only [castI_eq] at *)); omega
        have hs := hstep hp0
        refine hR _ ⟨n + 1, F', rv + 1, out', nx'⟩ (by show 4097 - (n + 1) < 4097 - n; ((try clear hR3); (try clear hR2); (try clear hR); (try clear hK); (try simp only [ncCast] at *); (try simp only [castI_eq] at *)); omega) ⟨fun i hi => ?_, by rw [hs], by rw [hs], hnx'⟩ ?_
        · rcases Nat.lt_or_ge i n with h5 | h5
          · exact hgo i h5
          · obtain rfl : i = n := by
              have hi' : i < n + 1 := hi
              clear hi
              ((try clear hR3); (try clear hR2); (try clear hR); (try clear hK); (try simp only [ncCast] at *); (try simp only [castI_eq] at *))
              omega
            exact hgo' hp0
        · refine ⟨(by cbv), by cbv; repeat' (first | trivial | exact EqX.rfl' | exact EqO.rfl' | apply And.intro | ((try clear hR3); (try clear hR2); (try clear hR); (try clear hK); (try simp only [ncCast] at *); (try simp only [castI_eq] at *); refine EqX.i ?_; (try rw [ho]); (try dsimp only [Ar.real, IX.vo, IX.val, BX.val, IX.toN]); (try simp only [QB7]); (repeat rw [wrap_i64 (by omega) (by omega)]); omega) | (refine EqO.snoc ho encI _ _ _ _ rfl hout' ?_; rw [ho]; rfl)), by cbv; repeat' (first | trivial | exact EqO.rfl' | apply And.intro | (refine EqO.snoc ho encI _ _ _ _ rfl hout' ?_; rw [ho]; rfl)), by cbv; repeat' (first | trivial | exact EqO.rfl' | apply And.intro | (refine EqO.snoc ho encI _ _ _ _ rfl hout' ?_; rw [ho]; rfl))⟩
      · have hp0 : nx = [] := List.length_eq_zero_iff.1 (by ((try clear hR3); (try clear hR2); (try clear hR); (try clear hK); (try simp only [ncCast] at *); (try simp only [castI_eq] at *)); omega)
        have e3 := e1 hp0
        subst e3
        rw [h]
        exact .pure fun _ => by
          rw [ho]
          rfl
end Go.Proofs.Ytddgcegimmcbgaa.Sy

set_option linter.unusedSectionVars false
namespace Go.Proofs.Ytddgcegimmcbgaa.Sy
open Go Go.Sy Go.Proofs.Ytddgcegimmcbgaa
set_option maxRecDepth 100000
set_option maxHeartbeats 8000000
set_option linter.unusedVariables false
set_option linter.unusedSimpArgs false

theorem XC_res' {P : Program} {f : FuncId} {args : List X} {O O' : List OX} {r r' : X} (h : XC P f args O r O') (hr : ∀ c, r.toD c = r'.toD c) : XC P f args O r' O' := by
  intro c h1 h2
  rw [← hr c]
  exact h c h1 h2
def wkT : List Part := [⟨0, 0, 9⟩, ⟨1, 0, 18⟩]
def wkW : List Want := [⟨1, [⟨0, 0, 1⟩, ⟨1, 0, 4⟩]⟩, ⟨1, [⟨0, 0, 3⟩, ⟨1, 0, 1⟩]⟩]
theorem getD_le {α : Type} [Inhabited α] {l : List α} {f : α → Nat} {n : Nat} (h : ∀ x ∈ l, f x ≤ n) (hd : f default ≤ n) (k : Nat) : f (l.getD k default) ≤ n := by
  by_cases hk : k < l.length
  · rw [getD_el hk]
    exact h _ (List.getElem_mem hk)
  · rw [List.getD_eq_getElem?_getD, List.getElem?_eq_none (by omega)]
    exact hd
theorem wk_ok : ProfOk (prof1 wkT wkW) := ⟨by decide, by decide, getD_le (f := List.length) (l := [wkT]) (by decide) (by decide), getD_le (f := fun w : Want => w.need.length) (l := wkW) (by decide) (by decide)⟩
theorem wk_check : checkR (prof1 wkT wkW) = 0 := by decide +kernel
theorem wk_fill : fillL wkT wkW = [0, 1, 0, 1, 0] := by
  unfold fillL
  rw [if_pos wk_check, fillN_stop (n := 5) (by decide +kernel) 4097 (by decide)]
  decide +kernel
theorem wk_v1 : validR wkT wkW [1, 0, 0, 1, 0] = (5, true) := by decide +kernel
theorem wk_v2 : validR wkT wkW [1, 1] = (1, false) := by decide +kernel
theorem wk_n : nextV wkT wkW [] = [0, 1] := by decide +kernel
theorem x_works37 : XC Try.prog 26 [] [] (xb true) [] := by
  have hv : wkT.length ≤ 1048576 := by decide
  have h1 : XC Try.prog 27 [.ro (SL Ar.real Part.X wkT), .ro (SL Ar.real Want.X wkW)] [] (.tup [.ro (.lits [[.i .i64 (.lit 0)], [.i .i64 (.lit 1)], [.i .i64 (.lit 0)], [.i .i64 (.lit 1)], [.i .i64 (.lit 0)]]), .i .i64 (.lit 0)]) [] := XC_res' (x_fillFill wkT wkW wk_ok hv) fun c => by rw [wk_fill, wk_check]; rfl
  have h2 : XC Try.prog 20 [.ro (SL Ar.real Part.X wkT), .ro (SL Ar.real Want.X wkW), .ro (SL Ar.real encI [1, 0, 0, 1, 0])] [] (.tup [.i .i64 (.lit 5), .b .t]) [] := XC_res' (x_fillValid wkT wkW _ wk_ok hv (by decide)) fun c => by rw [wk_v1]; rfl
  have h3 : XC Try.prog 20 [.ro (SL Ar.real Part.X wkT), .ro (SL Ar.real Want.X wkW), .ro (SL Ar.real encI [1, 1])] [] (.tup [.i .i64 (.lit 1), .b .f]) [] := XC_res' (x_fillValid wkT wkW _ wk_ok hv (by decide)) fun c => by rw [wk_v2]; rfl
  have h4 : XC Try.prog 23 [.ro (SL Ar.real encI [0, 1, 0, 1, 0]), .ro (SL Ar.real encI [0, 1, 0, 1, 0])] [] (.b .t) [] := XC_res' (x_same37 _ _ (by decide) (by decide)) fun c => by rfl
  have h5 : XC Try.prog 24 [.ro (SL Ar.real Part.X wkT), .ro (SL Ar.real Want.X wkW), .ro (SL Ar.real encI [])] [] (.ro (.lits [[.i .i64 (.lit 0)], [.i .i64 (.lit 1)]])) [] := XC_res' (x_fillNext wkT wkW _ wk_ok hv (by decide)) fun c => by rw [wk_n]; rfl
  have h6 : XC Try.prog 23 [.ro (SL Ar.real encI [0, 1]), .ro (SL Ar.real encI [0, 1])] [] (.b .t) [] := XC_res' (x_same37 _ _ (by decide) (by decide)) fun c => by rfl
  (refine XC.of_body ([]) Try.func26 rfl Try.ntmps26 mixed (T := [(2, ti2), (3, ti3), (4, ti4), (31, ti31), (42, ti42), (43, ti43), (53, ti53), (123, ti123), (132, ti132)]) (.cons tok2 (.cons tok3 (.cons tok4 (.cons tok31 (.cons tok42 (.cons tok43 (.cons tok53 (.cons tok123 (.cons tok132 .nil))))))))) (by kernel_rfl) (by simp) rfl rfl rfl rfl rfl ?_; rintro o ho P hP c K hK; have hm : P.follows .mixedOrders = true := hP ▸ mixed; have hT : TOk P [(2, ti2), (3, ti3), (4, ti4), (31, ti31), (42, ti42), (43, ti43), (53, ti53), (123, ti123), (132, ti132)] := hP ▸ (.cons tok2 (.cons tok3 (.cons tok4 (.cons tok31 (.cons tok42 (.cons tok43 (.cons tok53 (.cons tok123 (.cons tok132 .nil))))))))); (try rw [← ho]); cbv; (repeat (refine StopN.mk ?_; cbv)))
  repeat' (first | (refine NeedT.mk (by rw [ho]; rfl) ?_) | (refine StopN.mk ?_; cbv) | (first | refine CallI.pure hP h1 fn27 rfl rfl (by rfl) ?_ | refine CallI.pure hP h2 fn20 rfl rfl (by rfl) ?_ | refine CallI.pure hP h3 fn20 rfl rfl (by rfl) ?_ | refine CallI.pure hP h4 fn23 rfl rfl (by rfl) ?_ | refine CallI.pure hP h5 fn24 rfl rfl (by rfl) ?_ | refine CallI.pure hP h6 fn23 rfl rfl (by rfl) ?_); cbv)
  exact hK _ _ (.b rfl)
end Go.Proofs.Ytddgcegimmcbgaa.Sy

set_option linter.unusedSectionVars false
namespace Go.Proofs.Ytddgcegimmcbgaa.Sy
open Go Go.Sy Go.Proofs.Ytddgcegimmcbgaa
set_option maxRecDepth 100000
set_option maxHeartbeats 8000000
set_option linter.unusedVariables false
set_option linter.unusedSimpArgs false

theorem sameL_self (l : List Int) : sameL l l = true := decide_eq_true rfl
theorem nextV_len {v : List Part} {ws : List Want} (hp : ProfOk (prof1 v ws)) (seq : List Int) : (nextV v ws seq).length ≤ 1048576 := by
  rw [← rNext_eq]
  exact Nat.le_trans (rNext_len v ws seq) hp.nw
theorem x_FillValid (v : List Part) (ws : List Want) (seq : List Int) (hp : ProfOk (prof1 v ws)) (hv : v.length ≤ 1048576) (hseq : seq.length ≤ 1048576) : XC Try.prog 5 [.ro (SL Ar.real Part.X v), .ro (SL Ar.real Want.X ws), .ro (SL Ar.real encI seq)] [] (xb true) [] := by
  have hws : ws.length ≤ 1048576 := hp.nw
  have hSm := x_small37 v ws seq hp hv hseq
  have hV := x_fillValid v ws seq hp hv hseq
  have hR := x_r37Valid v ws seq hp hv hseq
  rw [rValid_eq] at hR
  have hN := x_fillNext v ws seq hp hv hseq
  have hM := x_r37Next v ws seq hp hv hseq
  rw [rNext_eq] at hM
  have hO := x_Own ws hws
  have hE := x_same37 _ _ (nextV_len hp seq) (nextV_len hp seq)
  rw [sameL_self] at hE
  generalize small37 v ws seq = sm at *
  generalize validR v ws seq = vr at *
  generalize nextV v ws seq = nx at *
  obtain ⟨n, b⟩ := vr
  dsimp only at hV hR
  (refine XC.of_body ([]) Try.func5 rfl Try.ntmps5 mixed (T := [(3, ti3), (4, ti4)]) (.cons tok3 (.cons tok4 .nil)) (by kernel_rfl) (by simp) rfl rfl rfl rfl rfl ?_; rintro o ho P hP c K hK; have hm : P.follows .mixedOrders = true := hP ▸ mixed; have hT : TOk P [(3, ti3), (4, ti4)] := hP ▸ (.cons tok3 (.cons tok4 .nil)); (try rw [← ho]); cbv; (repeat (refine StopN.mk ?_; cbv)))
  rw [← ho] at hSm hV hR hN hM hO hE
  repeat' (first | (refine Br.mk (fun hb => ?_) (fun hb => ?_) <;> ((try rw [ho] at hb); (try dsimp only [Ar.real, IX.vo] at hb); (try simp only [QB7] at hb); (try simp only [QBo, beq_iff_eq, beq_eq_false_iff_ne, ne_eq] at hb))) | (refine StopN.mk ?_; cbv) | (first | refine CallI.pure hP hSm fn19 rfl rfl rfl ?_ | refine CallI.pure hP hV fn20 rfl rfl rfl ?_ | refine CallI.pure hP hR fn21 rfl rfl rfl ?_ | refine CallI.pure hP hN fn24 rfl rfl rfl ?_ | refine CallI.pure hP hM fn25 rfl rfl rfl ?_ | refine CallI.pure hP hO fn22 rfl rfl rfl ?_ | refine CallI.pure hP hE fn23 rfl rfl rfl ?_); cbv | ((first | refine CallI.pure hP (x_small37 _ _ _ ‹_› ‹_› ‹_›) fn19 (by first | rfl | (rw [ho]; done) | (rw [ho]; rfl)) (by rfl) (by first | rfl | (rw [ho]; done) | (rw [ho]; rfl)) ?_ | refine CallN.pure hP (x_small37 _ _ _ ‹_› ‹_› ‹_›) fn19 (by first | rfl | (rw [ho]; done) | (rw [ho]; rfl)) (by rfl) (by first | rfl | (rw [ho]; done) | (rw [ho]; rfl)) ?_); (try rw [← ho]); generalize hr : small37 _ _ _ = r; (try rw [ho] at hr); (try dsimp only [Ar.real, IX.vo] at hr); (try simp only [QB7] at hr); cbv) | ((first | refine CallI.pure hP (x_r37Valid _ _ _ ‹_› ‹_› ‹_›) fn21 (by first | rfl | (rw [ho]; done) | (rw [ho]; rfl)) (by rfl) (by first | rfl | (rw [ho]; done) | (rw [ho]; rfl)) ?_ | refine CallN.pure hP (x_r37Valid _ _ _ ‹_› ‹_› ‹_›) fn21 (by first | rfl | (rw [ho]; done) | (rw [ho]; rfl)) (by rfl) (by first | rfl | (rw [ho]; done) | (rw [ho]; rfl)) ?_); (try rw [← ho]); generalize hr : rValid _ _ _ = r; (try rw [ho] at hr); (try dsimp only [Ar.real, IX.vo] at hr); (try simp only [QB7] at hr); cbv) | ((first | refine CallI.pure hP (x_Own _ ‹_›) fn22 (by first | rfl | (rw [ho]; done) | (rw [ho]; rfl)) (by rfl) (by first | rfl | (rw [ho]; done) | (rw [ho]; rfl)) ?_ | refine CallN.pure hP (x_Own _ ‹_›) fn22 (by first | rfl | (rw [ho]; done) | (rw [ho]; rfl)) (by rfl) (by first | rfl | (rw [ho]; done) | (rw [ho]; rfl)) ?_); (try rw [← ho]); cbv) | ((first | refine CallI.pure hP (x_same37 _ _ ‹_› ‹_›) fn23 (by first | rfl | (rw [ho]; done) | (rw [ho]; rfl)) (by rfl) (by first | rfl | (rw [ho]; done) | (rw [ho]; rfl)) ?_ | refine CallN.pure hP (x_same37 _ _ ‹_› ‹_›) fn23 (by first | rfl | (rw [ho]; done) | (rw [ho]; rfl)) (by rfl) (by first | rfl | (rw [ho]; done) | (rw [ho]; rfl)) ?_); (try rw [← ho]); generalize hr : sameL _ _ = r; (try rw [ho] at hr); (try dsimp only [Ar.real, IX.vo] at hr); (try simp only [QB7] at hr); cbv) | ((first | refine CallI.pure hP (x_r37Next _ _ _ ‹_› ‹_› ‹_›) fn25 (by first | rfl | (rw [ho]; done) | (rw [ho]; rfl)) (by rfl) (by first | rfl | (rw [ho]; done) | (rw [ho]; rfl)) ?_ | refine CallN.pure hP (x_r37Next _ _ _ ‹_› ‹_› ‹_›) fn25 (by first | rfl | (rw [ho]; done) | (rw [ho]; rfl)) (by rfl) (by first | rfl | (rw [ho]; done) | (rw [ho]; rfl)) ?_); (try rw [← ho]); generalize hr : rNext _ _ _ = r; (try rw [ho] at hr); (try dsimp only [Ar.real, IX.vo] at hr); (try simp only [QB7] at hr); cbv) | ((first | refine CallI.pure hP (x_works37) fn26 (by first | rfl | (rw [ho]; done) | (rw [ho]; rfl)) (by rfl) (by first | rfl | (rw [ho]; done) | (rw [ho]; rfl)) ?_ | refine CallN.pure hP (x_works37) fn26 (by first | rfl | (rw [ho]; done) | (rw [ho]; rfl)) (by rfl) (by first | rfl | (rw [ho]; done) | (rw [ho]; rfl)) ?_); (try rw [← ho]); cbv) | (refine hK _ _ ?_) | (refine NeedT.mk ?_ ?_))
  all_goals first
    | exact .b rfl
    | (exfalso; first | exact absurd ‹true = false› (by decide) | (exact absurd rfl ‹¬ n = n›) | (simp_all; done))
end Go.Proofs.Ytddgcegimmcbgaa.Sy

set_option linter.unusedSectionVars false
namespace Go.Proofs.Ytddgcegimmcbgaa.Sy
open Go Go.Sy Go.Proofs.Ytddgcegimmcbgaa
set_option maxRecDepth 100000
set_option maxHeartbeats 8000000
set_option linter.unusedVariables false
set_option linter.unusedSimpArgs false

def cnSet (l : List Int) (x : Int) : List Int := if 0 ≤ x ∧ x < l.length then l.set x.toNat (IntKind.i64.wrap (l.getD x.toNat 0 + 1)) else l
def cnTo (many : Int) (seq : List Int) : Nat → List Int
  | 0 => List.replicate many.toNat 0
  | k + 1 => cnSet (cnTo many seq k) (seq.getD k 0)
def cntR (many : Int) (seq : List Int) : List Int := if 1 ≤ many ∧ many ≤ 4096 then cnTo many seq seq.length else []
theorem cnTo_len (many : Int) (seq : List Int) : ∀ k, (cnTo many seq k).length = many.toNat
  | 0 => List.length_replicate
  | k + 1 => by
    simp only [cnTo, cnSet]
    split
    · rw [List.length_set]; exact cnTo_len many seq k
    · exact cnTo_len many seq k
theorem cnTo_at {many : Int} (hm : 0 ≤ many) (seq : List Int) (hs : seq.length ≤ 1048576) {i : Nat} (hi : (i : Int) < many) : ∀ k, k ≤ seq.length → (cnTo many seq k).getD i 0 = cntTo seq i k
  | 0, _ => by
    simp only [cnTo, cntTo, List.getD_eq_getElem?_getD, List.getElem?_replicate]
    split <;> rfl
  | k + 1, hk => by
    have ih := cnTo_at hm seq hs hi k (by omega)
    have hl := cnTo_len many seq k
    have hb := cntTo_bd seq i k
    simp only [cnTo, cntTo, cnSet]
    split
    · rename_i h
      rw [getD_set _ _ _ _ (by omega)]
      by_cases e : seq.getD k 0 = (i : Int)
      · rw [if_pos (by omega), if_pos e, e, Int.toNat_natCast, ih, wrap_i64 (by omega) (by omega)]
      · rw [if_neg (by omega), if_neg e]
        exact ih
    · rename_i h
      rw [if_neg (by omega)]
      exact ih
theorem rows_zero64 {o : Ar} (ho : o = Ar.real) {l : List Int} {n m : Nat} (hl : l = List.replicate m 0) (hn : n = m) : (RR.fn n fun _ => [X.i .i64 (.lit 0)]).rows = (SL o encI l).rows := by
  subst hn
  refine rows_fn_SL o ho encI _ _ _ (by rw [hl, List.length_replicate]) ?_
  intro j hj
  have e : l.getD j default = 0 := by
    rw [hl, List.getD_eq_getElem?_getD, List.getElem?_replicate]
    split <;> rfl
  rw [e]
  rfl
theorem x_Counts (many : Int) (seq : List Int) (hs : seq.length ≤ 1048576) : XC Try.prog 29 [xi many, .ro (SL Ar.real encI seq)] [] (.ro (SL Ar.real encI (cntR many seq))) [] := by
  have q0 : (many < 1 ∨ 4096 < many) → cntR many seq = [] := fun h => if_neg (by omega)
  have q1 : 1 ≤ many → many ≤ 4096 → cntR many seq = cnTo many seq seq.length := fun h h' => if_pos ⟨h, h'⟩
  have hM0 : cnTo many seq 0 = List.replicate many.toNat 0 := rfl
  have hM1 : ∀ k, cnTo many seq (k + 1) = cnSet (cnTo many seq k) (seq.getD k 0) := fun _ => rfl
  have hMl := cnTo_len many seq
  generalize cntR many seq = res at *
  generalize cnTo many seq = M at *
  (refine XC.of_body ([]) Try.func29 rfl Try.ntmps29 mixed (T := [(2, ti2), (3, ti3), (34, ti34), (43, ti43)]) (.cons tok2 (.cons tok3 (.cons tok34 (.cons tok43 .nil)))) (by kernel_rfl) (by simp) rfl rfl rfl rfl rfl ?_; rintro o ho P hP c K hK; have hm : P.follows .mixedOrders = true := hP ▸ mixed; have hT : TOk P [(2, ti2), (3, ti3), (34, ti34), (43, ti43)] := hP ▸ (.cons tok2 (.cons tok3 (.cons tok34 (.cons tok43 .nil)))); (try rw [← ho]); cbv; (repeat (refine StopN.mk ?_; cbv)))
  repeat' (first | (refine Br.mk (fun hb => ?_) (fun hb => ?_) <;> ((try rw [ho] at hb); (try dsimp only [Ar.real, IX.vo] at hb); (try simp only [QB7] at hb); (try simp only [QBo, beq_iff_eq, beq_eq_false_iff_ne, ne_eq] at hb))) | (refine StopN.mk ?_; cbv) | (refine hK _ _ ?_) | (refine NeedT.mk ?_ ?_))
  any_goals (((try clear hR3); (try clear hR2); (try clear hR); (try clear hK); (try simp only [ncCast] at *); (try simp only [castI_eq] at *); (try rw [ho]); (try dsimp only [Ar.real, IX.vo, IX.val, BX.val, IX.toN]); (try simp only [QB7]); (try simp only [decide_eq_true_eq]); (all_goals (repeat rw [wrap_i64 (by omega) (by omega)])); (all_goals (first | omega | (simp only [Int.ofNat_eq_natCast]; omega)))); done)
  iterate 2
    · rw [q0 (by ((try clear hR3); (try clear hR2); (try clear hR); (try clear hK); (try simp only [ncCast] at *); (try simp only [castI_eq] at *)); omega)]
      exact .ro (rows_nil_SL Ar.real rfl encI)
  have q2 := q1 (by ((try clear hR3); (try clear hR2); (try clear hR); (try clear hK); (try simp only [ncCast] at *); (try simp only [castI_eq] at *)); omega) (by ((try clear hR3); (try clear hR2); (try clear hR); (try clear hK); (try simp only [ncCast] at *); (try simp only [castI_eq] at *)); omega)
  clear q0 q1
  obtain ⟨z, hz⟩ : ∃ q, q = List.replicate many.toNat (0 : Int) := ⟨_, rfl⟩
  rw [← hz] at hM0
  refine LoopN.over (o := o) (D := []) ho hm hT (by kernel_rfl) (fun i : Nat => [(18, xn i)]) (fun i => [(0, .row 0 2 1 (SL o encI (M i)))]) (fun _ => []) (fun i => i ≤ seq.length) (fun i => seq.length - i) 0 (Nat.zero_le _) ?_ ?_
  · have hM0' := hM0.trans hz
    refine ⟨(by cbv), by cbv; repeat' (first | trivial | exact EqX.rfl' | exact EqO.rfl' | apply And.intro | ((try clear hR3); (try clear hR2); (try clear hR); (try clear hK); (try simp only [ncCast] at *); (try simp only [castI_eq] at *); refine EqX.i ?_; (try rw [ho]); (try dsimp only [Ar.real, IX.vo, IX.val, BX.val, IX.toN]); (try simp only [QB7]); (repeat rw [wrap_i64 (by omega) (by omega)]); omega) | (refine EqO.row rfl (rows_zero64 ho hM0' ?_); rw [ho]; rfl)), by cbv; repeat' (first | trivial | exact EqO.rfl' | apply And.intro | (refine EqO.row rfl (rows_zero64 ho hM0' ?_); rw [ho]; rfl)), by cbv; repeat' (first | trivial | exact EqO.rfl' | apply And.intro | (refine EqO.row rfl (rows_zero64 ho hM0' ?_); rw [ho]; rfl))⟩
  · rintro i hi R hR
    have e1 := hM1 i
    have hl := hMl i
    obtain ⟨l', hl'⟩ : ∃ q, q = M (i + 1) := ⟨_, rfl⟩
    rw [← hl'] at e1
    generalize hml : M i = l at *
    have e2 : 0 ≤ seq.getD i default → seq.getD i default < many → l' = l.set (seq.getD i default).toNat (IntKind.i64.wrap (l.getD (seq.getD i default).toNat default + 1)) := fun (h : 0 ≤ seq.getD i 0) (h' : seq.getD i 0 < many) => e1.trans (if_pos ⟨h, by omega⟩)
    have e3 : (seq.getD i default < 0 ∨ many ≤ seq.getD i default) → l' = l := fun (h : seq.getD i 0 < 0 ∨ many ≤ seq.getD i 0) => e1.trans (if_neg (by omega))
    clear e1
    cbv
    repeat' (first | (refine Br.mk (fun hb => ?_) (fun hb => ?_) <;> ((try rw [ho] at hb); (try dsimp only [Ar.real, IX.vo] at hb); (try simp only [QB7] at hb); (try simp only [QBo, beq_iff_eq, beq_eq_false_iff_ne, ne_eq] at hb))) | (refine StopN.mk ?_; cbv) | (refine hK _ _ ?_) | (refine NeedT.mk ?_ ?_))
    any_goals (((try clear hR3); (try clear hR2); (try clear hR); (try clear hK); (try simp only [ncCast] at *); (try simp only [castI_eq] at *); (try rw [ho]); (try dsimp only [Ar.real, IX.vo, IX.val, BX.val, IX.toN]); (try simp only [QB7]); (try simp only [decide_eq_true_eq]); (all_goals (repeat rw [wrap_i64 (by omega) (by omega)])); (all_goals (first | omega | (simp only [Int.ofNat_eq_natCast]; omega)))); done)
    · have e4 := e2 (by assumption) (by assumption)
      have e5 : seq.getD i (Int.ofNat 0) = ((seq.getD i (Int.ofNat 0)).toNat : Int) := by ((try clear hR3); (try clear hR2); (try clear hR); (try clear hK); (try simp only [ncCast] at *); (try simp only [castI_eq] at *)); omega
      refine hR _ (i + 1) (by show seq.length - (i + 1) < seq.length - i; ((try clear hR3); (try clear hR2); (try clear hR); (try clear hK); (try simp only [ncCast] at *); (try simp only [castI_eq] at *)); omega) (by show i + 1 ≤ seq.length; ((try clear hR3); (try clear hR2); (try clear hR); (try clear hK); (try simp only [ncCast] at *); (try simp only [castI_eq] at *)); omega) ?_
      refine ⟨(by cbv), by cbv; repeat' (first | trivial | exact EqX.rfl' | exact EqO.rfl' | apply And.intro | ((try clear hR3); (try clear hR2); (try clear hR); (try clear hK); (try simp only [ncCast] at *); (try simp only [castI_eq] at *); refine EqX.i ?_; (try rw [ho]); (try dsimp only [Ar.real, IX.vo, IX.val, BX.val, IX.toN]); (try simp only [QB7]); (repeat rw [wrap_i64 (by omega) (by omega)]); omega) | (refine EqO.set ho encI l _ _ (seq.getD i (Int.ofNat 0)).toNat _ _ rfl (hl'.symm.trans e4) (by rw [ho]; exact e5) (by rw [ho]; rfl))), by cbv; repeat' (first | trivial | exact EqO.rfl' | apply And.intro | (refine EqO.set ho encI l _ _ (seq.getD i (Int.ofNat 0)).toNat _ _ rfl (hl'.symm.trans e4) (by rw [ho]; exact e5) (by rw [ho]; rfl))), by cbv; repeat' (first | trivial | exact EqO.rfl' | apply And.intro | (refine EqO.set ho encI l _ _ (seq.getD i (Int.ofNat 0)).toNat _ _ rfl (hl'.symm.trans e4) (by rw [ho]; exact e5) (by rw [ho]; rfl)))⟩
    · have e4 := e3 (by first | exact .inl (by assumption) | exact .inr (by assumption))
      refine hR _ (i + 1) (by show seq.length - (i + 1) < seq.length - i; ((try clear hR3); (try clear hR2); (try clear hR); (try clear hK); (try simp only [ncCast] at *); (try simp only [castI_eq] at *)); omega) (by show i + 1 ≤ seq.length; ((try clear hR3); (try clear hR2); (try clear hR); (try clear hK); (try simp only [ncCast] at *); (try simp only [castI_eq] at *)); omega) ?_
      rw [e4] at hl'
      refine ⟨(by cbv), by cbv; repeat' (first | trivial | exact EqX.rfl' | exact EqO.rfl' | apply And.intro | ((try clear hR3); (try clear hR2); (try clear hR); (try clear hK); (try simp only [ncCast] at *); (try simp only [castI_eq] at *); refine EqX.i ?_; (try rw [ho]); (try dsimp only [Ar.real, IX.vo, IX.val, BX.val, IX.toN]); (try simp only [QB7]); (repeat rw [wrap_i64 (by omega) (by omega)]); omega) | exact ⟨by rw [← hl']⟩), by cbv; repeat' (first | trivial | exact EqO.rfl' | apply And.intro | exact ⟨by rw [← hl']⟩), by cbv; repeat' (first | trivial | exact EqO.rfl' | apply And.intro | exact ⟨by rw [← hl']⟩)⟩
    · have e4 := e3 (by first | exact .inl (by assumption) | exact .inr (by assumption))
      refine hR _ (i + 1) (by show seq.length - (i + 1) < seq.length - i; ((try clear hR3); (try clear hR2); (try clear hR); (try clear hK); (try simp only [ncCast] at *); (try simp only [castI_eq] at *)); omega) (by show i + 1 ≤ seq.length; ((try clear hR3); (try clear hR2); (try clear hR); (try clear hK); (try simp only [ncCast] at *); (try simp only [castI_eq] at *)); omega) ?_
      rw [e4] at hl'
      refine ⟨(by cbv), by cbv; repeat' (first | trivial | exact EqX.rfl' | exact EqO.rfl' | apply And.intro | ((try clear hR3); (try clear hR2); (try clear hR); (try clear hK); (try simp only [ncCast] at *); (try simp only [castI_eq] at *); refine EqX.i ?_; (try rw [ho]); (try dsimp only [Ar.real, IX.vo, IX.val, BX.val, IX.toN]); (try simp only [QB7]); (repeat rw [wrap_i64 (by omega) (by omega)]); omega) | exact ⟨by rw [← hl']⟩), by cbv; repeat' (first | trivial | exact EqO.rfl' | apply And.intro | exact ⟨by rw [← hl']⟩), by cbv; repeat' (first | trivial | exact EqO.rfl' | apply And.intro | exact ⟨by rw [← hl']⟩)⟩
    · obtain rfl : i = seq.length := by ((try clear hR3); (try clear hR2); (try clear hR); (try clear hK); (try simp only [ncCast] at *); (try simp only [castI_eq] at *)); omega
      rw [q2, hml]
      exact .ro (by rw [ho])
end Go.Proofs.Ytddgcegimmcbgaa.Sy

set_option linter.unusedSectionVars false
namespace Go.Proofs.Ytddgcegimmcbgaa.Sy
open Go Go.Sy Go.Proofs.Ytddgcegimmcbgaa
set_option maxRecDepth 100000
set_option maxHeartbeats 8000000
set_option linter.unusedVariables false
set_option linter.unusedSimpArgs false

theorem x_FillFills (v : List Part) (ws : List Want) (many : Int) (hp : ProfOk (prof1 v ws)) (hv : v.length ≤ 1048576) : XC Try.prog 6 [.ro (SL Ar.real Part.X v), .ro (SL Ar.real Want.X ws), xi many] [] (xb true) [] := by
  have hws : ws.length ≤ 1048576 := hp.nw
  have hSm := x_small37 v ws [] hp hv (by decide)
  have hF := x_fillFill v ws hp hv
  have hO := x_Own ws hws
  have hW := x_works37
  have hll := fillL_len (v := v) (ws := ws)
  have hlb : (fillL v ws).length ≤ 1048576 := by omega
  have hNx := fun i => x_r37Next v ws ((fillL v ws).take i) hp hv (by rw [List.length_take]; omega)
  have hCt := x_Counts many (fillL v ws) hlb
  have hq1 : checkR (prof1 v ws) = 0 → rNext v ws ((fillL v ws).take (fillL v ws).length) = [] := fun h => (fill_next h (Nat.le_refl _)).1 rfl
  have hq2 : checkR (prof1 v ws) = 0 → ∀ i, i < (fillL v ws).length → ∃ l, rNext v ws ((fillL v ws).take i) = (fillL v ws).getD i 0 :: l := fun h i hi => (fill_next h (by omega)).2 hi
  have hq3 : checkR (prof1 v ws) ≠ 0 → fillL v ws = [] := fun h => if_neg h
  have hck : rCheck (prof1 v ws) = checkR (prof1 v ws) := rCheck_eq _
  have hNl := fun i => rNext_len v ws ((fillL v ws).take i)
  have hc0 : (many < 1 ∨ 4096 < many) → cntR many (fillL v ws) = [] := fun h => if_neg (by omega)
  have hc1 : 1 ≤ many → many ≤ 4096 → (cntR many (fillL v ws)).length = many.toNat ∧ ∀ i : Nat, (i : Int) < many → (cntR many (fillL v ws)).getD i 0 = cntTo (fillL v ws) i (fillL v ws).length := fun h h' => by
    have e : cntR many (fillL v ws) = cnTo many (fillL v ws) (fillL v ws).length := if_pos ⟨h, h'⟩
    rw [e]
    exact ⟨cnTo_len _ _ _, fun i hi => cnTo_at (by omega) _ hlb hi _ (Nat.le_refl _)⟩
  have hk0 : ∀ i : Int, cntTo (fillL v ws) i 0 = 0 := fun _ => rfl
  have hk1 : ∀ (i : Int) k, cntTo (fillL v ws) i (k + 1) = if (fillL v ws).getD k 0 = i then cntTo (fillL v ws) i k + 1 else cntTo (fillL v ws) i k := fun _ _ => rfl
  have hkb := fun (i : Int) => cntTo_bd (fillL v ws) i
  generalize small37 v ws [] = sm at *
  generalize hnx : (fun i => rNext v ws ((fillL v ws).take i)) = nx at *
  have enx : ∀ i, rNext v ws ((fillL v ws).take i) = nx i := fun i => by rw [← hnx]
  simp only [enx] at hNx hq1 hq2 hNl
  clear hnx enx
  generalize cntTo (fillL v ws) = ct at *
  generalize cntR many (fillL v ws) = cl at *
  generalize hl : fillL v ws = l at *
  generalize checkR (prof1 v ws) = cr at *
  clear hl
  (refine XC.of_body ([(5, [(2, 4), (2, 5), (4, 5)]), (12, [(2, 5)]), (13, [])]) Try.func6 rfl Try.ntmps6 mixed (T := [(2, ti2), (3, ti3), (4, ti4), (31, ti31), (34, ti34), (43, ti43), (52, ti52), (53, ti53), (57, ti57)]) (.cons tok2 (.cons tok3 (.cons tok4 (.cons tok31 (.cons tok34 (.cons tok43 (.cons tok52 (.cons tok53 (.cons tok57 .nil))))))))) (by kernel_rfl) (by simp) rfl rfl rfl rfl rfl ?_; rintro o ho P hP c K hK; have hm : P.follows .mixedOrders = true := hP ▸ mixed; have hT : TOk P [(2, ti2), (3, ti3), (4, ti4), (31, ti31), (34, ti34), (43, ti43), (52, ti52), (53, ti53), (57, ti57)] := hP ▸ (.cons tok2 (.cons tok3 (.cons tok4 (.cons tok31 (.cons tok34 (.cons tok43 (.cons tok52 (.cons tok53 (.cons tok57 .nil))))))))); (try rw [← ho]); cbv; (repeat (refine StopN.mk ?_; cbv)))
  rw [← ho] at hSm hF hO hCt
  repeat' (first | (refine Br.mk (fun hb => ?_) (fun hb => ?_) <;> ((try rw [ho] at hb); (try dsimp only [Ar.real, IX.vo] at hb); (try simp only [QB7] at hb); (try simp only [QBo, beq_iff_eq, beq_eq_false_iff_ne, ne_eq] at hb))) | (refine StopN.mk ?_; cbv) | (first | refine CallI.pure hP hSm fn19 rfl rfl (by first | rfl | (rw [ho]; rfl)) ?_ | refine CallI.pure hP hF fn27 rfl rfl rfl ?_ | refine CallI.pure hP hO fn22 rfl rfl rfl ?_ | refine CallN.pure hP hO fn22 rfl rfl rfl ?_ | refine CallI.pure hP hW fn26 rfl rfl rfl ?_ | refine CallN.pure hP hW fn26 rfl rfl rfl ?_); cbv | ((first | refine CallI.pure hP (x_small37 _ _ _ ‹_› ‹_› ‹_›) fn19 (by first | rfl | (rw [ho]; done) | (rw [ho]; rfl)) (by rfl) (by first | rfl | (rw [ho]; done) | (rw [ho]; rfl)) ?_ | refine CallN.pure hP (x_small37 _ _ _ ‹_› ‹_› ‹_›) fn19 (by first | rfl | (rw [ho]; done) | (rw [ho]; rfl)) (by rfl) (by first | rfl | (rw [ho]; done) | (rw [ho]; rfl)) ?_); (try rw [← ho]); generalize hr : small37 _ _ _ = r; (try rw [ho] at hr); (try dsimp only [Ar.real, IX.vo] at hr); (try simp only [QB7] at hr); cbv) | ((first | refine CallI.pure hP (x_Own _ ‹_›) fn22 (by first | rfl | (rw [ho]; done) | (rw [ho]; rfl)) (by rfl) (by first | rfl | (rw [ho]; done) | (rw [ho]; rfl)) ?_ | refine CallN.pure hP (x_Own _ ‹_›) fn22 (by first | rfl | (rw [ho]; done) | (rw [ho]; rfl)) (by rfl) (by first | rfl | (rw [ho]; done) | (rw [ho]; rfl)) ?_); (try rw [← ho]); cbv) | ((first | refine CallI.pure hP (x_r37Next _ _ _ ‹_› ‹_› ‹_›) fn25 (by first | rfl | (rw [ho]; done) | (rw [ho]; rfl)) (by rfl) (by first | rfl | (rw [ho]; done) | (rw [ho]; rfl)) ?_ | refine CallN.pure hP (x_r37Next _ _ _ ‹_› ‹_› ‹_›) fn25 (by first | rfl | (rw [ho]; done) | (rw [ho]; rfl)) (by rfl) (by first | rfl | (rw [ho]; done) | (rw [ho]; rfl)) ?_); (try rw [← ho]); generalize hr : rNext _ _ _ = r; (try rw [ho] at hr); (try dsimp only [Ar.real, IX.vo] at hr); (try simp only [QB7] at hr); cbv) | ((first | refine CallI.pure hP (x_works37) fn26 (by first | rfl | (rw [ho]; done) | (rw [ho]; rfl)) (by rfl) (by first | rfl | (rw [ho]; done) | (rw [ho]; rfl)) ?_ | refine CallN.pure hP (x_works37) fn26 (by first | rfl | (rw [ho]; done) | (rw [ho]; rfl)) (by rfl) (by first | rfl | (rw [ho]; done) | (rw [ho]; rfl)) ?_); (try rw [← ho]); cbv) | ((first | refine CallI.pure hP (x_fillFill _ _ ‹_› ‹_›) fn27 (by first | rfl | (rw [ho]; done) | (rw [ho]; rfl)) (by rfl) (by first | rfl | (rw [ho]; done) | (rw [ho]; rfl)) ?_ | refine CallN.pure hP (x_fillFill _ _ ‹_› ‹_›) fn27 (by first | rfl | (rw [ho]; done) | (rw [ho]; rfl)) (by rfl) (by first | rfl | (rw [ho]; done) | (rw [ho]; rfl)) ?_); (try rw [← ho]); generalize hr : fillL _ _ = r; (try rw [ho] at hr); (try dsimp only [Ar.real, IX.vo] at hr); (try simp only [QB7] at hr); generalize hr : checkR _ = r; (try rw [ho] at hr); (try dsimp only [Ar.real, IX.vo] at hr); (try simp only [QB7] at hr); cbv) | ((first | refine CallI.pure hP (x_r35Check _ ‹_›) fn28 (by first | rfl | (rw [ho]; done) | (rw [ho]; rfl)) (by rfl) (by first | rfl | (rw [ho]; done) | (rw [ho]; rfl)) ?_ | refine CallN.pure hP (x_r35Check _ ‹_›) fn28 (by first | rfl | (rw [ho]; done) | (rw [ho]; rfl)) (by rfl) (by first | rfl | (rw [ho]; done) | (rw [ho]; rfl)) ?_); (try rw [← ho]); generalize hr : rCheck _ = r; (try rw [ho] at hr); (try dsimp only [Ar.real, IX.vo] at hr); (try simp only [QB7] at hr); cbv) | ((first | refine CallI.pure hP (x_Counts _ _ ‹_›) fn29 (by first | rfl | (rw [ho]; done) | (rw [ho]; rfl)) (by rfl) (by first | rfl | (rw [ho]; done) | (rw [ho]; rfl)) ?_ | refine CallN.pure hP (x_Counts _ _ ‹_›) fn29 (by first | rfl | (rw [ho]; done) | (rw [ho]; rfl)) (by rfl) (by first | rfl | (rw [ho]; done) | (rw [ho]; rfl)) ?_); (try rw [← ho]); generalize hr : cntR _ _ = r; (try rw [ho] at hr); (try dsimp only [Ar.real, IX.vo] at hr); (try simp only [QB7] at hr); cbv) | (refine hK _ _ ?_) | (refine NeedT.mk ?_ ?_))
  · exact .b rfl
  · exfalso
    apply hb
    exact (hr.symm.trans hck).symm
  · exact .b rfl
  · exfalso
    have := hq3 (by assumption)
    rw [this] at hb
    exact hb rfl
  have hcr0 : cr = 0 := by assumption
  replace hq1 := hq1 hcr0
  replace hq2 := hq2 hcr0
  clear hq3
  refine LoopN.over (o := o) (D := [(5, [(2, 4), (2, 5), (4, 5)]), (12, [(2, 5)]), (13, [])]) ho hm hT (by kernel_rfl) (fun i : Nat => [(10, xn i)]) (fun _ => []) (fun _ => []) (fun i => i ≤ l.length + 1) (fun i => l.length + 1 - i) 0 (Nat.zero_le _) ?_ ?_
  · refine ⟨(by cbv), by cbv; repeat' (first | trivial | exact EqX.rfl' | exact EqO.rfl' | apply And.intro | ((try clear hR3); (try clear hR2); (try clear hR); (try clear hK); (try simp only [ncCast] at *); (try simp only [castI_eq] at *); refine EqX.i ?_; (try rw [ho]); (try dsimp only [Ar.real, IX.vo, IX.val, BX.val, IX.toN]); (try simp only [QB7]); (repeat rw [wrap_i64 (by omega) (by omega)]); omega)), by cbv; repeat' (first | trivial | exact EqO.rfl' | apply And.intro), by cbv; repeat' (first | trivial | exact EqO.rfl' | apply And.intro)⟩
  · rintro i hi R hR
    have hNi := hNx i
    obtain ⟨tk, htk⟩ : ∃ q, q = l.take i := ⟨_, rfl⟩
    have hrw := fun (h : i ≤ l.length) => rows_take ho h htk
    rw [← htk, ← ho] at hNi
    have hnl := hNl i
    have g1 : i = l.length → nx i = [] := fun h => by rw [h]; exact hq1
    have g2 : i < l.length → 0 < (nx i).length ∧ (nx i).getD 0 default = l.getD i default := fun h => by
      obtain ⟨t, ht⟩ := hq2 i h
      rw [ht]
      exact ⟨Nat.zero_lt_succ _, rfl⟩
    generalize nx i = n at *
    cbv
    repeat' (first | (refine Br.mk (fun hb => ?_) (fun hb => ?_) <;> ((try rw [ho] at hb); (try dsimp only [Ar.real, IX.vo] at hb); (try simp only [QB7] at hb); (try simp only [QBo, beq_iff_eq, beq_eq_false_iff_ne, ne_eq] at hb))) | (refine StopN.mk ?_; cbv) | (first | refine NeedP.mk (fits_Int o ho l) ?_ | refine CallN.pure hP hO fn22 rfl rfl rfl ?_ | refine CallN.pure hP hNi fn25 rfl rfl (toDL3 (hrw ‹_›)) ?_ | refine CallI.pure hP hCt fn29 rfl rfl rfl ?_ | refine CallI.pure hP hW fn26 rfl rfl rfl ?_ | refine CallN.pure hP hW fn26 rfl rfl rfl ?_); cbv | ((first | refine CallI.pure hP (x_small37 _ _ _ ‹_› ‹_› ‹_›) fn19 (by first | rfl | (rw [ho]; done) | (rw [ho]; rfl)) (by rfl) (by first | rfl | (rw [ho]; done) | (rw [ho]; rfl)) ?_ | refine CallN.pure hP (x_small37 _ _ _ ‹_› ‹_› ‹_›) fn19 (by first | rfl | (rw [ho]; done) | (rw [ho]; rfl)) (by rfl) (by first | rfl | (rw [ho]; done) | (rw [ho]; rfl)) ?_); (try rw [← ho]); generalize hr : small37 _ _ _ = r; (try rw [ho] at hr); (try dsimp only [Ar.real, IX.vo] at hr); (try simp only [QB7] at hr); cbv) | ((first | refine CallI.pure hP (x_Own _ ‹_›) fn22 (by first | rfl | (rw [ho]; done) | (rw [ho]; rfl)) (by rfl) (by first | rfl | (rw [ho]; done) | (rw [ho]; rfl)) ?_ | refine CallN.pure hP (x_Own _ ‹_›) fn22 (by first | rfl | (rw [ho]; done) | (rw [ho]; rfl)) (by rfl) (by first | rfl | (rw [ho]; done) | (rw [ho]; rfl)) ?_); (try rw [← ho]); cbv) | ((first | refine CallI.pure hP (x_r37Next _ _ _ ‹_› ‹_› ‹_›) fn25 (by first | rfl | (rw [ho]; done) | (rw [ho]; rfl)) (by rfl) (by first | rfl | (rw [ho]; done) | (rw [ho]; rfl)) ?_ | refine CallN.pure hP (x_r37Next _ _ _ ‹_› ‹_› ‹_›) fn25 (by first | rfl | (rw [ho]; done) | (rw [ho]; rfl)) (by rfl) (by first | rfl | (rw [ho]; done) | (rw [ho]; rfl)) ?_); (try rw [← ho]); generalize hr : rNext _ _ _ = r; (try rw [ho] at hr); (try dsimp only [Ar.real, IX.vo] at hr); (try simp only [QB7] at hr); cbv) | ((first | refine CallI.pure hP (x_works37) fn26 (by first | rfl | (rw [ho]; done) | (rw [ho]; rfl)) (by rfl) (by first | rfl | (rw [ho]; done) | (rw [ho]; rfl)) ?_ | refine CallN.pure hP (x_works37) fn26 (by first | rfl | (rw [ho]; done) | (rw [ho]; rfl)) (by rfl) (by first | rfl | (rw [ho]; done) | (rw [ho]; rfl)) ?_); (try rw [← ho]); cbv) | ((first | refine CallI.pure hP (x_fillFill _ _ ‹_› ‹_›) fn27 (by first | rfl | (rw [ho]; done) | (rw [ho]; rfl)) (by rfl) (by first | rfl | (rw [ho]; done) | (rw [ho]; rfl)) ?_ | refine CallN.pure hP (x_fillFill _ _ ‹_› ‹_›) fn27 (by first | rfl | (rw [ho]; done) | (rw [ho]; rfl)) (by rfl) (by first | rfl | (rw [ho]; done) | (rw [ho]; rfl)) ?_); (try rw [← ho]); generalize hr : fillL _ _ = r; (try rw [ho] at hr); (try dsimp only [Ar.real, IX.vo] at hr); (try simp only [QB7] at hr); generalize hr : checkR _ = r; (try rw [ho] at hr); (try dsimp only [Ar.real, IX.vo] at hr); (try simp only [QB7] at hr); cbv) | ((first | refine CallI.pure hP (x_r35Check _ ‹_›) fn28 (by first | rfl | (rw [ho]; done) | (rw [ho]; rfl)) (by rfl) (by first | rfl | (rw [ho]; done) | (rw [ho]; rfl)) ?_ | refine CallN.pure hP (x_r35Check _ ‹_›) fn28 (by first | rfl | (rw [ho]; done) | (rw [ho]; rfl)) (by rfl) (by first | rfl | (rw [ho]; done) | (rw [ho]; rfl)) ?_); (try rw [← ho]); generalize hr : rCheck _ = r; (try rw [ho] at hr); (try dsimp only [Ar.real, IX.vo] at hr); (try simp only [QB7] at hr); cbv) | ((first | refine CallI.pure hP (x_Counts _ _ ‹_›) fn29 (by first | rfl | (rw [ho]; done) | (rw [ho]; rfl)) (by rfl) (by first | rfl | (rw [ho]; done) | (rw [ho]; rfl)) ?_ | refine CallN.pure hP (x_Counts _ _ ‹_›) fn29 (by first | rfl | (rw [ho]; done) | (rw [ho]; rfl)) (by rfl) (by first | rfl | (rw [ho]; done) | (rw [ho]; rfl)) ?_); (try rw [← ho]); generalize hr : cntR _ _ = r; (try rw [ho] at hr); (try dsimp only [Ar.real, IX.vo] at hr); (try simp only [QB7] at hr); cbv) | (refine hK _ _ ?_) | (refine NeedT.mk ?_ ?_))
    · ((try clear hR3); (try clear hR2); (try clear hR); (try clear hK); (try simp only [ncCast] at *); (try simp only [castI_eq] at *); (try rw [ho]); (try dsimp only [Ar.real, IX.vo, IX.val, BX.val, IX.toN]); (try simp only [QB7]))
      simp
      omega
    all_goals first
      | (((try clear hR3); (try clear hR2); (try clear hR); (try clear hK); (try simp only [ncCast] at *); (try simp only [castI_eq] at *); (try rw [ho]); (try dsimp only [Ar.real, IX.vo, IX.val, BX.val, IX.toN]); (try simp only [QB7]); (try simp only [decide_eq_true_eq]); (all_goals (repeat rw [wrap_i64 (by omega) (by omega)])); (all_goals (first | omega | (simp only [Int.ofNat_eq_natCast]; omega)))); done)
      | (refine hR _ (i + 1) (by show l.length + 1 - (i + 1) < l.length + 1 - i; ((try clear hR3); (try clear hR2); (try clear hR); (try clear hK); (try simp only [ncCast] at *); (try simp only [castI_eq] at *)); omega) (by show i + 1 ≤ l.length + 1; ((try clear hR3); (try clear hR2); (try clear hR); (try clear hK); (try simp only [ncCast] at *); (try simp only [castI_eq] at *)); omega) ?_
         refine ⟨(by cbv), by cbv; repeat' (first | trivial | exact EqX.rfl' | exact EqO.rfl' | apply And.intro | ((try clear hR3); (try clear hR2); (try clear hR); (try clear hK); (try simp only [ncCast] at *); (try simp only [castI_eq] at *); refine EqX.i ?_; (try rw [ho]); (try dsimp only [Ar.real, IX.vo, IX.val, BX.val, IX.toN]); (try simp only [QB7]); (repeat rw [wrap_i64 (by omega) (by omega)]); omega)), by cbv; repeat' (first | trivial | exact EqO.rfl' | apply And.intro), by cbv; repeat' (first | trivial | exact EqO.rfl' | apply And.intro)⟩)
      | exact .b rfl
      | (exfalso
         ((try clear hR3); (try clear hR2); (try clear hR); (try clear hK); (try simp only [ncCast] at *); (try simp only [castI_eq] at *))
         first
           | (have := congrArg List.length (g1 ‹i = l.length›); simp only [List.length_nil] at this; omega)
           | (have := (g2 ‹i < l.length›).1; omega)
           | exact hb (g2 ‹i < l.length›).2
           | (rw [hc0 (by omega)] at hb; exact hb rfl)
           | (have := (hc1 (by omega) (by omega)).1; omega))
      | skip
    obtain rfl : i = l.length + 1 := by ((try clear hR3); (try clear hR2); (try clear hR); (try clear hK); (try simp only [ncCast] at *); (try simp only [castI_eq] at *)); omega
    have hm1 : 1 ≤ many := by assumption
    have hm2 : many ≤ 4096 := by assumption
    obtain ⟨hcl, hca⟩ := hc1 hm1 hm2
    clear hR R hc0 hc1 hi hrw hNi hnl g1 g2
    refine LoopN.over (o := o) (D := [(5, [(2, 4), (2, 5), (4, 5)]), (12, [(2, 5)]), (13, [])]) ho hm hT (by kernel_rfl) (fun i : Nat => [(13, xn i)]) (fun _ => []) (fun _ => []) (fun i => i ≤ many.toNat) (fun i => many.toNat - i) 0 (Nat.zero_le _) ?_ ?_
    · refine ⟨(by cbv), by cbv; repeat' (first | trivial | exact EqX.rfl' | exact EqO.rfl' | apply And.intro | ((try clear hR3); (try clear hR2); (try clear hR); (try clear hK); (try simp only [ncCast] at *); (try simp only [castI_eq] at *); refine EqX.i ?_; (try rw [ho]); (try dsimp only [Ar.real, IX.vo, IX.val, BX.val, IX.toN]); (try simp only [QB7]); (repeat rw [wrap_i64 (by omega) (by omega)]); omega)), by cbv; repeat' (first | trivial | exact EqO.rfl' | apply And.intro), by cbv; repeat' (first | trivial | exact EqO.rfl' | apply And.intro)⟩
    · rintro i hi R hR
      have k0 := hk0 (i : Int)
      have k1 := hk1 (i : Int)
      have kb := hkb (i : Int)
      have ha := hca i
      generalize ct (i : Int) = M at *
      cbv
      repeat' (first | (refine Br.mk (fun hb => ?_) (fun hb => ?_) <;> ((try rw [ho] at hb); (try dsimp only [Ar.real, IX.vo] at hb); (try simp only [QB7] at hb); (try simp only [QBo, beq_iff_eq, beq_eq_false_iff_ne, ne_eq] at hb))) | (refine StopN.mk ?_; cbv) | (first | refine CallI.pure hP hW fn26 rfl rfl rfl ?_); cbv | ((first | refine CallI.pure hP (x_small37 _ _ _ ‹_› ‹_› ‹_›) fn19 (by first | rfl | (rw [ho]; done) | (rw [ho]; rfl)) (by rfl) (by first | rfl | (rw [ho]; done) | (rw [ho]; rfl)) ?_ | refine CallN.pure hP (x_small37 _ _ _ ‹_› ‹_› ‹_›) fn19 (by first | rfl | (rw [ho]; done) | (rw [ho]; rfl)) (by rfl) (by first | rfl | (rw [ho]; done) | (rw [ho]; rfl)) ?_); (try rw [← ho]); generalize hr : small37 _ _ _ = r; (try rw [ho] at hr); (try dsimp only [Ar.real, IX.vo] at hr); (try simp only [QB7] at hr); cbv) | ((first | refine CallI.pure hP (x_Own _ ‹_›) fn22 (by first | rfl | (rw [ho]; done) | (rw [ho]; rfl)) (by rfl) (by first | rfl | (rw [ho]; done) | (rw [ho]; rfl)) ?_ | refine CallN.pure hP (x_Own _ ‹_›) fn22 (by first | rfl | (rw [ho]; done) | (rw [ho]; rfl)) (by rfl) (by first | rfl | (rw [ho]; done) | (rw [ho]; rfl)) ?_); (try rw [← ho]); cbv) | ((first | refine CallI.pure hP (x_r37Next _ _ _ ‹_› ‹_› ‹_›) fn25 (by first | rfl | (rw [ho]; done) | (rw [ho]; rfl)) (by rfl) (by first | rfl | (rw [ho]; done) | (rw [ho]; rfl)) ?_ | refine CallN.pure hP (x_r37Next _ _ _ ‹_› ‹_› ‹_›) fn25 (by first | rfl | (rw [ho]; done) | (rw [ho]; rfl)) (by rfl) (by first | rfl | (rw [ho]; done) | (rw [ho]; rfl)) ?_); (try rw [← ho]); generalize hr : rNext _ _ _ = r; (try rw [ho] at hr); (try dsimp only [Ar.real, IX.vo] at hr); (try simp only [QB7] at hr); cbv) | ((first | refine CallI.pure hP (x_works37) fn26 (by first | rfl | (rw [ho]; done) | (rw [ho]; rfl)) (by rfl) (by first | rfl | (rw [ho]; done) | (rw [ho]; rfl)) ?_ | refine CallN.pure hP (x_works37) fn26 (by first | rfl | (rw [ho]; done) | (rw [ho]; rfl)) (by rfl) (by first | rfl | (rw [ho]; done) | (rw [ho]; rfl)) ?_); (try rw [← ho]); cbv) | ((first | refine CallI.pure hP (x_fillFill _ _ ‹_› ‹_›) fn27 (by first | rfl | (rw [ho]; done) | (rw [ho]; rfl)) (by rfl) (by first | rfl | (rw [ho]; done) | (rw [ho]; rfl)) ?_ | refine CallN.pure hP (x_fillFill _ _ ‹_› ‹_›) fn27 (by first | rfl | (rw [ho]; done) | (rw [ho]; rfl)) (by rfl) (by first | rfl | (rw [ho]; done) | (rw [ho]; rfl)) ?_); (try rw [← ho]); generalize hr : fillL _ _ = r; (try rw [ho] at hr); (try dsimp only [Ar.real, IX.vo] at hr); (try simp only [QB7] at hr); generalize hr : checkR _ = r; (try rw [ho] at hr); (try dsimp only [Ar.real, IX.vo] at hr); (try simp only [QB7] at hr); cbv) | ((first | refine CallI.pure hP (x_r35Check _ ‹_›) fn28 (by first | rfl | (rw [ho]; done) | (rw [ho]; rfl)) (by rfl) (by first | rfl | (rw [ho]; done) | (rw [ho]; rfl)) ?_ | refine CallN.pure hP (x_r35Check _ ‹_›) fn28 (by first | rfl | (rw [ho]; done) | (rw [ho]; rfl)) (by rfl) (by first | rfl | (rw [ho]; done) | (rw [ho]; rfl)) ?_); (try rw [← ho]); generalize hr : rCheck _ = r; (try rw [ho] at hr); (try dsimp only [Ar.real, IX.vo] at hr); (try simp only [QB7] at hr); cbv) | ((first | refine CallI.pure hP (x_Counts _ _ ‹_›) fn29 (by first | rfl | (rw [ho]; done) | (rw [ho]; rfl)) (by rfl) (by first | rfl | (rw [ho]; done) | (rw [ho]; rfl)) ?_ | refine CallN.pure hP (x_Counts _ _ ‹_›) fn29 (by first | rfl | (rw [ho]; done) | (rw [ho]; rfl)) (by rfl) (by first | rfl | (rw [ho]; done) | (rw [ho]; rfl)) ?_); (try rw [← ho]); generalize hr : cntR _ _ = r; (try rw [ho] at hr); (try dsimp only [Ar.real, IX.vo] at hr); (try simp only [QB7] at hr); cbv) | (refine hK _ _ ?_) | (refine NeedT.mk ?_ ?_))
      · refine LoopN.over (o := o) (D := [(5, [(2, 4), (2, 5), (4, 5)]), (12, [(2, 5)]), (13, [])]) ho hm hT (by kernel_rfl) (fun k : Nat => [(15, xn k), (14, xi (M k))]) (fun _ => []) (fun _ => []) (fun k => k ≤ l.length) (fun k => l.length - k) 0 (Nat.zero_le _) ?_ ?_
        · refine ⟨(by cbv), by cbv; repeat' (first | trivial | exact EqX.rfl' | exact EqO.rfl' | apply And.intro | ((try clear hR3); (try clear hR2); (try clear hR); (try clear hK); (try simp only [ncCast] at *); (try simp only [castI_eq] at *); refine EqX.i ?_; (try rw [ho]); (try dsimp only [Ar.real, IX.vo, IX.val, BX.val, IX.toN]); (try simp only [QB7]); (repeat rw [wrap_i64 (by omega) (by omega)]); omega) | (refine EqX.i ?_; rw [k0]; rfl)), by cbv; repeat' (first | trivial | exact EqO.rfl' | apply And.intro | (refine EqX.i ?_; rw [k0]; rfl)), by cbv; repeat' (first | trivial | exact EqO.rfl' | apply And.intro | (refine EqX.i ?_; rw [k0]; rfl))⟩
        · rintro k hk R2 hR2
          have e1 := k1 k
          have e2 := kb k
          have e3 : l.getD k default = (i : Int) → M (k + 1) = M k + 1 := fun h => e1.trans (if_pos h)
          have e4 : ¬ l.getD k default = (i : Int) → M (k + 1) = M k := fun h => e1.trans (if_neg h)
          clear e1
          cbv
          repeat' (first | (refine Br.mk (fun hb => ?_) (fun hb => ?_) <;> ((try rw [ho] at hb); (try dsimp only [Ar.real, IX.vo] at hb); (try simp only [QB7] at hb); (try simp only [QBo, beq_iff_eq, beq_eq_false_iff_ne, ne_eq] at hb))) | (refine StopN.mk ?_; cbv) | ((first | refine CallI.pure hP (x_small37 _ _ _ ‹_› ‹_› ‹_›) fn19 (by first | rfl | (rw [ho]; done) | (rw [ho]; rfl)) (by rfl) (by first | rfl | (rw [ho]; done) | (rw [ho]; rfl)) ?_ | refine CallN.pure hP (x_small37 _ _ _ ‹_› ‹_› ‹_›) fn19 (by first | rfl | (rw [ho]; done) | (rw [ho]; rfl)) (by rfl) (by first | rfl | (rw [ho]; done) | (rw [ho]; rfl)) ?_); (try rw [← ho]); generalize hr : small37 _ _ _ = r; (try rw [ho] at hr); (try dsimp only [Ar.real, IX.vo] at hr); (try simp only [QB7] at hr); cbv) | ((first | refine CallI.pure hP (x_Own _ ‹_›) fn22 (by first | rfl | (rw [ho]; done) | (rw [ho]; rfl)) (by rfl) (by first | rfl | (rw [ho]; done) | (rw [ho]; rfl)) ?_ | refine CallN.pure hP (x_Own _ ‹_›) fn22 (by first | rfl | (rw [ho]; done) | (rw [ho]; rfl)) (by rfl) (by first | rfl | (rw [ho]; done) | (rw [ho]; rfl)) ?_); (try rw [← ho]); cbv) | ((first | refine CallI.pure hP (x_r37Next _ _ _ ‹_› ‹_› ‹_›) fn25 (by first | rfl | (rw [ho]; done) | (rw [ho]; rfl)) (by rfl) (by first | rfl | (rw [ho]; done) | (rw [ho]; rfl)) ?_ | refine CallN.pure hP (x_r37Next _ _ _ ‹_› ‹_› ‹_›) fn25 (by first | rfl | (rw [ho]; done) | (rw [ho]; rfl)) (by rfl) (by first | rfl | (rw [ho]; done) | (rw [ho]; rfl)) ?_); (try rw [← ho]); generalize hr : rNext _ _ _ = r; (try rw [ho] at hr); (try dsimp only [Ar.real, IX.vo] at hr); (try simp only [QB7] at hr); cbv) | ((first | refine CallI.pure hP (x_works37) fn26 (by first | rfl | (rw [ho]; done) | (rw [ho]; rfl)) (by rfl) (by first | rfl | (rw [ho]; done) | (rw [ho]; rfl)) ?_ | refine CallN.pure hP (x_works37) fn26 (by first | rfl | (rw [ho]; done) | (rw [ho]; rfl)) (by rfl) (by first | rfl | (rw [ho]; done) | (rw [ho]; rfl)) ?_); (try rw [← ho]); cbv) | ((first | refine CallI.pure hP (x_fillFill _ _ ‹_› ‹_›) fn27 (by first | rfl | (rw [ho]; done) | (rw [ho]; rfl)) (by rfl) (by first | rfl | (rw [ho]; done) | (rw [ho]; rfl)) ?_ | refine CallN.pure hP (x_fillFill _ _ ‹_› ‹_›) fn27 (by first | rfl | (rw [ho]; done) | (rw [ho]; rfl)) (by rfl) (by first | rfl | (rw [ho]; done) | (rw [ho]; rfl)) ?_); (try rw [← ho]); generalize hr : fillL _ _ = r; (try rw [ho] at hr); (try dsimp only [Ar.real, IX.vo] at hr); (try simp only [QB7] at hr); generalize hr : checkR _ = r; (try rw [ho] at hr); (try dsimp only [Ar.real, IX.vo] at hr); (try simp only [QB7] at hr); cbv) | ((first | refine CallI.pure hP (x_r35Check _ ‹_›) fn28 (by first | rfl | (rw [ho]; done) | (rw [ho]; rfl)) (by rfl) (by first | rfl | (rw [ho]; done) | (rw [ho]; rfl)) ?_ | refine CallN.pure hP (x_r35Check _ ‹_›) fn28 (by first | rfl | (rw [ho]; done) | (rw [ho]; rfl)) (by rfl) (by first | rfl | (rw [ho]; done) | (rw [ho]; rfl)) ?_); (try rw [← ho]); generalize hr : rCheck _ = r; (try rw [ho] at hr); (try dsimp only [Ar.real, IX.vo] at hr); (try simp only [QB7] at hr); cbv) | ((first | refine CallI.pure hP (x_Counts _ _ ‹_›) fn29 (by first | rfl | (rw [ho]; done) | (rw [ho]; rfl)) (by rfl) (by first | rfl | (rw [ho]; done) | (rw [ho]; rfl)) ?_ | refine CallN.pure hP (x_Counts _ _ ‹_›) fn29 (by first | rfl | (rw [ho]; done) | (rw [ho]; rfl)) (by rfl) (by first | rfl | (rw [ho]; done) | (rw [ho]; rfl)) ?_); (try rw [← ho]); generalize hr : cntR _ _ = r; (try rw [ho] at hr); (try dsimp only [Ar.real, IX.vo] at hr); (try simp only [QB7] at hr); cbv) | (refine hK _ _ ?_) | (refine NeedT.mk ?_ ?_))
          any_goals (((try clear hR3); (try clear hR2); (try clear hR); (try clear hK); (try simp only [ncCast] at *); (try simp only [castI_eq] at *); (try rw [ho]); (try dsimp only [Ar.real, IX.vo, IX.val, BX.val, IX.toN]); (try simp only [QB7]); (try simp only [decide_eq_true_eq]); (all_goals (repeat rw [wrap_i64 (by omega) (by omega)])); (all_goals (first | omega | (simp only [Int.ofNat_eq_natCast]; omega)))); done)
          · have e5 := e3 hb
            refine hR2 _ (k + 1) (by show l.length - (k + 1) < l.length - k; ((try clear hR3); (try clear hR2); (try clear hR); (try clear hK); (try simp only [ncCast] at *); (try simp only [castI_eq] at *)); omega) (by show k + 1 ≤ l.length; ((try clear hR3); (try clear hR2); (try clear hR); (try clear hK); (try simp only [ncCast] at *); (try simp only [castI_eq] at *)); omega) ?_
            refine ⟨(by cbv), by cbv; repeat' (first | trivial | exact EqX.rfl' | exact EqO.rfl' | apply And.intro | ((try clear hR3); (try clear hR2); (try clear hR); (try clear hK); (try simp only [ncCast] at *); (try simp only [castI_eq] at *); refine EqX.i ?_; (try rw [ho]); (try dsimp only [Ar.real, IX.vo, IX.val, BX.val, IX.toN]); (try simp only [QB7]); (repeat rw [wrap_i64 (by omega) (by omega)]); omega) | (refine EqX.i ?_; rw [e5, ho]; exact wrap_i64 (by omega) (by omega))), by cbv; repeat' (first | trivial | exact EqO.rfl' | apply And.intro | (refine EqX.i ?_; rw [e5, ho]; exact wrap_i64 (by omega) (by omega))), by cbv; repeat' (first | trivial | exact EqO.rfl' | apply And.intro | (refine EqX.i ?_; rw [e5, ho]; exact wrap_i64 (by omega) (by omega)))⟩
          · have e5 := e4 hb
            refine hR2 _ (k + 1) (by show l.length - (k + 1) < l.length - k; ((try clear hR3); (try clear hR2); (try clear hR); (try clear hK); (try simp only [ncCast] at *); (try simp only [castI_eq] at *)); omega) (by show k + 1 ≤ l.length; ((try clear hR3); (try clear hR2); (try clear hR); (try clear hK); (try simp only [ncCast] at *); (try simp only [castI_eq] at *)); omega) ?_
            refine ⟨(by cbv), by cbv; repeat' (first | trivial | exact EqX.rfl' | exact EqO.rfl' | apply And.intro | ((try clear hR3); (try clear hR2); (try clear hR); (try clear hK); (try simp only [ncCast] at *); (try simp only [castI_eq] at *); refine EqX.i ?_; (try rw [ho]); (try dsimp only [Ar.real, IX.vo, IX.val, BX.val, IX.toN]); (try simp only [QB7]); (repeat rw [wrap_i64 (by omega) (by omega)]); omega) | (refine EqX.i ?_; rw [e5])), by cbv; repeat' (first | trivial | exact EqO.rfl' | apply And.intro | (refine EqX.i ?_; rw [e5])), by cbv; repeat' (first | trivial | exact EqO.rfl' | apply And.intro | (refine EqX.i ?_; rw [e5]))⟩
          · exfalso
            obtain rfl : k = l.length := by ((try clear hR3); (try clear hR2); (try clear hR); (try clear hK); (try simp only [ncCast] at *); (try simp only [castI_eq] at *)); omega
            exact hb (ha (by assumption))
          · refine hR _ (i + 1) (by show many.toNat - (i + 1) < many.toNat - i; ((try clear hR3); (try clear hR2); (try clear hR); (try clear hK); (try simp only [ncCast] at *); (try simp only [castI_eq] at *)); omega) (by show i + 1 ≤ many.toNat; ((try clear hR3); (try clear hR2); (try clear hR); (try clear hK); (try simp only [ncCast] at *); (try simp only [castI_eq] at *)); omega) ?_
            refine ⟨(by cbv), by cbv; repeat' (first | trivial | exact EqX.rfl' | exact EqO.rfl' | apply And.intro | ((try clear hR3); (try clear hR2); (try clear hR); (try clear hK); (try simp only [ncCast] at *); (try simp only [castI_eq] at *); refine EqX.i ?_; (try rw [ho]); (try dsimp only [Ar.real, IX.vo, IX.val, BX.val, IX.toN]); (try simp only [QB7]); (repeat rw [wrap_i64 (by omega) (by omega)]); omega)), by cbv; repeat' (first | trivial | exact EqO.rfl' | apply And.intro), by cbv; repeat' (first | trivial | exact EqO.rfl' | apply And.intro)⟩
      · exact .b rfl
end Go.Proofs.Ytddgcegimmcbgaa.Sy

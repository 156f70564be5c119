/-
  Bounds, in Lean alone: numbers with a sign over a denominator, in lowest terms. Plain theorems.
-/
import Derived.Test.YtddgcegimmcbgaaMd
import Derived.Test.YtddgcegimmcbgaaSyZe
set_option linter.unusedSectionVars false
namespace Go.Proofs.Ytddgcegimmcbgaa.Sy
open Go Go.Sy Go.Proofs.Ytddgcegimmcbgaa
set_option maxRecDepth 100000
set_option maxHeartbeats 8000000
set_option linter.unusedVariables false
set_option linter.unusedSimpArgs false

def LZ (z : Int) (d : Nat) : Rt := Rt.low ⟨decide (z < 0), z.natAbs, d⟩
def valZ (r : Rt) : Int := if r.m = true then -(r.n : Int) else r.n
theorem low_z (m : Bool) (n d : Nat) {z : Int} (h : z = if m = true then -(n : Int) else n) : Rt.low ⟨m, n, d⟩ = LZ z d := by
  unfold LZ
  cases m with
  | false =>
    have h1 : z = n := h
    subst h1
    rw [decide_eq_false (by omega), Int.natAbs_natCast]
  | true =>
    have h1 : z = -(n : Int) := h
    subst h1
    rw [Int.natAbs_neg, Int.natAbs_natCast]
    by_cases hn : n = 0
    · subst hn
      unfold Rt.low
      simp
    · rw [decide_eq_true (by omega)]
theorem LZ_scale (z : Int) (d k : Nat) (hk : 0 < k) : LZ (z * k) (d * k) = LZ z d := by
  unfold LZ
  have e1 : (z * (k : Int)).natAbs = z.natAbs * k := by rw [Int.natAbs_mul, Int.natAbs_natCast]
  have e2 : decide (z * (k : Int) < 0) = decide (z < 0) := by
    have : (0 : Int) < k := by omega
    congr 1
    apply propext
    constructor
    · intro h
      by_cases h0 : z < 0
      · exact h0
      · have := Int.mul_nonneg (show 0 ≤ z by omega) (show (0 : Int) ≤ k by omega)
        omega
    · intro h
      exact Int.mul_neg_of_neg_of_pos h this
  rw [e1, e2, low_scale _ _ _ _ hk]
theorem LZ_val (z : Int) (d : Nat) (hd : 0 < d) : ∃ g : Nat, 0 < g ∧ 0 < (LZ z d).d ∧ z = valZ (LZ z d) * g ∧ d = (LZ z d).d * g := by
  obtain ⟨a, b, g, hg, hb, e1, e2, q1, q2⟩ := by_gcd z.natAbs d hd
  have e : LZ z d = ⟨decide (z < 0) && decide (0 < a), a, b⟩ := by unfold LZ Rt.low; dsimp only; rw [q1, q2]
  refine ⟨g, hg, ?_⟩
  rw [e]
  refine ⟨hb, ?_, e2⟩
  unfold valZ
  dsimp only
  by_cases hz : z < 0
  · rw [decide_eq_true hz, Bool.true_and]
    have h1 : z = -(z.natAbs : Int) := by omega
    have ha : 0 < a := by
      rcases Nat.eq_zero_or_pos a with h | h
      · rw [h] at e1
        omega
      · exact h
    rw [decide_eq_true ha, if_pos rfl, h1]
    have : (z.natAbs : Int) = (a : Int) * g := by rw [e1]; push_cast; rfl
    rw [this, Int.neg_mul]
  · rw [decide_eq_false hz, Bool.false_and, if_neg (by decide)]
    have h1 : z = (z.natAbs : Int) := by omega
    rw [h1, e1]
    push_cast
    rfl
theorem add_val (r s : Rt) : r.add s = LZ (valZ r * s.d + valZ s * r.d) (r.d * s.d) := by
  obtain ⟨m, n, d⟩ := r
  obtain ⟨m', n', d'⟩ := s
  unfold Rt.add
  dsimp only
  have c1 : ((n * d' : Nat) : Int) = (n : Int) * d' := by push_cast; rfl
  have c2 : ((n' * d : Nat) : Int) = (n' : Int) * d := by push_cast; rfl
  generalize n * d' = p at *
  generalize n' * d = q at *
  have v : valZ ⟨m, n, d⟩ * (d' : Int) = (if m = true then -(p : Int) else p) ∧ valZ ⟨m', n', d'⟩ * (d : Int) = (if m' = true then -(q : Int) else q) := by
    rw [c1, c2]
    constructor
    · cases m
      · rfl
      · show -(n : Int) * d' = -((n : Int) * d')
        rw [Int.neg_mul]
    · cases m'
      · rfl
      · show -(n' : Int) * d = -((n' : Int) * d)
        rw [Int.neg_mul]
  rw [v.1, v.2]
  cases m <;> cases m'
  · rw [if_pos rfl]
    exact low_z _ _ _ (by simp)
  · rw [if_neg (by decide)]
    split
    · exact low_z _ _ _ (by simp; omega)
    · exact low_z _ _ _ (by simp; omega)
  · rw [if_neg (by decide)]
    split
    · exact low_z _ _ _ (by simp; omega)
    · exact low_z _ _ _ (by simp; omega)
  · rw [if_pos rfl]
    exact low_z _ _ _ (by simp; omega)
theorem mul_val (r s : Rt) : r.mul s = LZ (valZ r * valZ s) (r.d * s.d) := by
  obtain ⟨m, n, d⟩ := r
  obtain ⟨m', n', d'⟩ := s
  unfold Rt.mul
  dsimp only
  refine low_z _ _ _ ?_
  cases m <;> cases m'
  · show (n : Int) * n' = ((n * n' : Nat) : Int)
    push_cast; rfl
  · show (n : Int) * -(n' : Int) = -((n * n' : Nat) : Int)
    push_cast; rw [Int.mul_neg]
  · show -(n : Int) * (n' : Int) = -((n * n' : Nat) : Int)
    push_cast; rw [Int.neg_mul]
  · show -(n : Int) * -(n' : Int) = ((n * n' : Nat) : Int)
    push_cast; rw [Int.neg_mul_neg]
theorem neg_val (r : Rt) : valZ r.neg = -valZ r ∧ r.neg.d = r.d := by
  obtain ⟨m, n, d⟩ := r
  refine ⟨?_, rfl⟩
  unfold Rt.neg valZ
  dsimp only
  rcases Nat.eq_zero_or_pos n with h | h
  · subst h
    cases m <;> rfl
  · rw [decide_eq_true h]
    cases m <;> simp
theorem LZ_mul (z w : Int) (d e : Nat) (hd : 0 < d) (he : 0 < e) : (LZ z d).mul (LZ w e) = LZ (z * w) (d * e) := by
  obtain ⟨g, hg, hp, e1, e2⟩ := LZ_val z d hd
  obtain ⟨h, hh, hq, e3, e4⟩ := LZ_val w e he
  rw [mul_val]
  generalize LZ z d = r at *
  generalize LZ w e = s at *
  rw [← LZ_scale _ _ (g * h) (Nat.mul_pos hg hh), e1, e2, e3, e4]
  congr 1
  · push_cast; ac_rfl
  · ac_rfl
theorem LZ_sub (z w : Int) (d e : Nat) (hd : 0 < d) (he : 0 < e) : (LZ z d).add (LZ w e).neg = LZ (z * e - w * d) (d * e) := by
  obtain ⟨g, hg, hp, e1, e2⟩ := LZ_val z d hd
  obtain ⟨h, hh, hq, e3, e4⟩ := LZ_val w e he
  rw [add_val, (neg_val _).1, (neg_val _).2]
  generalize LZ z d = r at *
  generalize LZ w e = s at *
  rw [← LZ_scale _ _ (g * h) (Nat.mul_pos hg hh), e1, e2, e3, e4]
  congr 1
  · push_cast
    rw [Int.add_mul, Int.neg_mul, Int.neg_mul, Int.sub_eq_add_neg]
    congr 1
    · ac_rfl
    · congr 1
      ac_rfl
  · ac_rfl
theorem LZ_pos (z : Int) (d : Nat) (hd : 0 < d) : (!(LZ z d).m && decide (0 < (LZ z d).n)) = decide (0 < z) := by
  obtain ⟨a, b, g, hg, hb, e1, e2, q1, q2⟩ := by_gcd z.natAbs d hd
  have e : LZ z d = ⟨decide (z < 0) && decide (0 < a), a, b⟩ := by unfold LZ Rt.low; dsimp only; rw [q1, q2]
  rw [e]
  dsimp only
  rcases Nat.eq_zero_or_pos a with h | h
  · have hz : z = 0 := by rw [h] at e1; omega
    subst hz
    rw [h]
    rfl
  · have hz : z ≠ 0 := by
      have := Nat.mul_pos h hg
      omega
    rw [decide_eq_true h, Bool.and_true, Bool.and_true]
    by_cases hz2 : z < 0
    · rw [decide_eq_true hz2, decide_eq_false (by omega)]
      rfl
    · rw [decide_eq_false hz2, decide_eq_true (by omega)]
      rfl
theorem LZ_above (z w : Int) (d e : Nat) (hd : 0 < d) (he : 0 < e) : (LZ z d).above (LZ w e) = decide (w * d < z * e) := by
  unfold Rt.above
  rw [LZ_sub z w d e hd he, LZ_pos _ _ (Nat.mul_pos hd he)]
  congr 1
  apply propext
  omega
theorem LZ_m (z : Int) (d : Nat) (hd : 0 < d) : (LZ z d).m = decide (z < 0) := by
  obtain ⟨a, b, g, hg, hb, e1, e2, q1, q2⟩ := by_gcd z.natAbs d hd
  have e : LZ z d = ⟨decide (z < 0) && decide (0 < a), a, b⟩ := by unfold LZ Rt.low; dsimp only; rw [q1, q2]
  rw [e]
  dsimp only
  by_cases hz : z < 0
  · rw [decide_eq_true hz, Bool.true_and]
    rcases Nat.eq_zero_or_pos a with h | h
    · rw [h] at e1
      omega
    · exact decide_eq_true h
  · rw [decide_eq_false hz]
    rfl
theorem whole_LZ (n : Nat) : Rt.whole n = LZ n 1 := by
  exact low_z false n 1 rfl
end Go.Proofs.Ytddgcegimmcbgaa.Sy

/-
  Bounds, in Lean alone: deltas as parts of one whole. Plain theorems.
-/
set_option linter.unusedSectionVars false
namespace Go.Proofs.Ytddgcegimmcbgaa.Sy
open Go Go.Sy Go.Proofs.Ytddgcegimmcbgaa
set_option maxRecDepth 100000
set_option maxHeartbeats 8000000
set_option linter.unusedVariables false
set_option linter.unusedSimpArgs false

/-- The product of all that there is of each kind. -/
def whT (t : S4) : Nat → Int
  | 0 => 1
  | k + 1 => if 0 < t.at_ k then whT t k * t.at_ k else whT t k
/-- A Need's delta, of the whole. -/
def dlT (s t : S4) : Nat → Int
  | 0 => 0
  | k + 1 => if 0 < t.at_ k then max (dlT s t k) (s.at_ k * (whT t 4 / t.at_ k)) else dlT s t k
def Lit4 (t : S4) : Prop := ∀ k, t.at_ k ≤ 1000
theorem whT_bd {t : S4} (h : Lit4 t) : ∀ k, 1 ≤ whT t k ∧ whT t k ≤ (1000 ^ k : Nat)
  | 0 => ⟨Int.le_refl 1, Int.le_refl 1⟩
  | k + 1 => by
    obtain ⟨h1, h2⟩ := whT_bd h k
    have h3 := h k
    have e : ((1000 ^ (k + 1) : Nat) : Int) = ((1000 ^ k : Nat) : Int) * 1000 := by rw [Nat.pow_succ]; push_cast; rfl
    rw [e]
    generalize ((1000 ^ k : Nat) : Int) = P at *
    unfold whT
    split
    · generalize t.at_ k = x at *
      generalize whT t k = w at *
      have m1 : 1 * 1 ≤ w * x := Int.mul_le_mul h1 (by omega) (by omega) (by omega)
      have m2 : w * x ≤ P * 1000 := Int.mul_le_mul h2 h3 (by omega) (by omega)
      omega
    · omega
theorem wh_bd {t : S4} (h : Lit4 t) : 1 ≤ whT t 4 ∧ whT t 4 ≤ 1000000000000 := by
  have := whT_bd h 4
  omega
theorem whT_dvd {t : S4} {j : Nat} (h0 : 0 < t.at_ j) : ∀ k, j < k → t.at_ j ∣ whT t k
  | 0, h => by omega
  | k + 1, h => by
    rcases Nat.lt_or_ge j k with h1 | h1
    · have ih := whT_dvd h0 k h1
      unfold whT
      split
      · exact Int.dvd_trans ih (Int.dvd_mul_right _ _)
      · exact ih
    · obtain rfl : j = k := by omega
      unfold whT
      rw [if_pos h0]
      exact Int.dvd_mul_left _ _
/-- What is there of each kind is enough. -/
structure Part4 (s t : S4) : Prop where
  rs : sumsRight s = true
  rt : sumsRight t = true
  le : ∀ k, s.at_ k ≤ t.at_ k
  lit : Lit4 t
theorem dom_dl {s t : S4} (h : Part4 s t) : ∀ k, k ≤ 4 → ((domTo s t k).at_ = -1 ∧ dlT s t k = 0 ∧ ∀ j, j < k → t.at_ j ≤ 0) ∨
    (0 ≤ (domTo s t k).at_ ∧ 1 ≤ (domTo s t k).den ∧ (domTo s t k).den ∣ whT t 4 ∧ dlT s t k = (domTo s t k).num * (whT t 4 / (domTo s t k).den) ∧ 0 ≤ (domTo s t k).num ∧ (domTo s t k).num ≤ (domTo s t k).den)
  | 0, _ => .inl ⟨rfl, rfl, fun j hj => absurd hj (Nat.not_lt_zero j)⟩
  | k + 1, hk => by
    have ih := dom_dl h k (by omega)
    have hs := S4.at_bd h.rs k
    have ht := S4.at_bd h.rt k
    have hle := h.le k
    have hdv := fun h0 : 0 < t.at_ k => whT_dvd h0 4 (by omega)
    have hw := wh_bd h.lit
    have e1 : domTo s t (k + 1) = domStep (domTo s t k) (s.at_ k) (t.at_ k) k := rfl
    have e2 : dlT s t (k + 1) = if 0 < t.at_ k then max (dlT s t k) (s.at_ k * (whT t 4 / t.at_ k)) else dlT s t k := rfl
    rw [e1, e2]
    by_cases h0 : 0 < t.at_ k
    · right
      rw [if_pos h0]
      obtain ⟨q, hq⟩ := hdv h0
      generalize dlT s t k = dl at *
      have hqd : whT t 4 / t.at_ k = q := by rw [hq]; exact Int.mul_ediv_cancel_left _ (by omega)
      rw [hqd]
      rcases ih with ⟨i1, i2, i3⟩ | ⟨i1, i2, i3, i4, i5, i6⟩
      · have hst : domStep (domTo s t k) (s.at_ k) (t.at_ k) k = ⟨s.at_ k, t.at_ k, k⟩ := if_pos ⟨h0, .inl i1⟩
        rw [hst]
        dsimp only
        rw [hqd]
        have hq0 : 0 ≤ q := by
          rw [← hqd]
          exact Int.ediv_nonneg (by omega) (by omega)
        have := Int.mul_nonneg hs.1 hq0
        exact ⟨by omega, by omega, ⟨q, hq⟩, by omega, hs.1, hle⟩
      · obtain ⟨u, hu⟩ := i3
        have hud : whT t 4 / (domTo s t k).den = u := by rw [hu]; exact Int.mul_ediv_cancel_left _ (by omega)
        rw [hud] at i4
        have r1 : fracRight (s.at_ k) (t.at_ k) = true := by unfold fracRight; simp only [Bool.and_eq_true, decide_eq_true_eq]; omega
        have r2 : fracRight (domTo s t k).num (domTo s t k).den = true := by unfold fracRight; simp only [Bool.and_eq_true, decide_eq_true_eq]; omega
        have hcmp : 0 < fracCmp (s.at_ k) (t.at_ k) (domTo s t k).num (domTo s t k).den ↔ (domTo s t k).num * t.at_ k < s.at_ k * (domTo s t k).den := by
          unfold fracCmp
          rw [if_pos ⟨r1, r2⟩]
          split
          · omega
          · split <;> omega
        unfold domStep
        generalize hd : domTo s t k = D at *
        obtain ⟨num, den, at_⟩ := D
        dsimp only at *
        generalize whT t 4 = w at *
        generalize s.at_ k = a at *
        generalize t.at_ k = b at *
        -- w = b q = den u
        have hkey : num * b < a * den ↔ num * u < a * q := by
          have p1 : (num * b) * w = (num * u) * (den * b) := by rw [hu]; ac_rfl
          have p2 : (a * den) * w = (a * q) * (den * b) := by rw [hq]; ac_rfl
          have hdb : 0 < den * b := Int.mul_pos (by omega) h0
          constructor
          · intro hlt
            have := Int.mul_lt_mul_of_pos_right hlt (show 0 < w by omega)
            rw [p1, p2] at this
            exact Int.lt_of_mul_lt_mul_right this (by omega)
          · intro hlt
            have := Int.mul_lt_mul_of_pos_right hlt hdb
            rw [← p1, ← p2] at this
            exact Int.lt_of_mul_lt_mul_right this (by omega)
        by_cases hlt : num * b < a * den
        · rw [if_pos ⟨h0, .inr (hcmp.2 hlt)⟩]
          dsimp only
          have hbq : w / b = q := by rw [hq]; exact Int.mul_ediv_cancel_left _ (by omega)
          rw [hbq]
          have := hkey.1 hlt
          exact ⟨by omega, by omega, ⟨q, hq⟩, by omega, by omega, hle⟩
        · rw [if_neg (fun hh => by
            rcases hh.2 with h5 | h5
            · omega
            · exact hlt (hcmp.1 h5))]
          dsimp only
          have hdu : w / den = u := by rw [hu]; exact Int.mul_ediv_cancel_left _ (by omega)
          rw [hdu]
          have : ¬ num * u < a * q := fun h5 => hlt (hkey.2 h5)
          exact ⟨i1, i2, ⟨u, hu⟩, by omega, i5, i6⟩
    · rw [if_neg h0]
      have hst : domStep (domTo s t k) (s.at_ k) (t.at_ k) k = domTo s t k := if_neg (fun h5 => h0 h5.1)
      rw [hst]
      rcases ih with ⟨i1, i2, i3⟩ | ih
      · refine .inl ⟨i1, i2, fun j hj => ?_⟩
        rcases Nat.lt_or_ge j k with h5 | h5
        · exact i3 j h5
        · obtain rfl : j = k := by omega
          omega
      · exact .inr ih
theorem dl_bd {s t : S4} (h : Part4 s t) : 0 ≤ dlT s t 4 ∧ dlT s t 4 ≤ whT t 4 := by
  have hw := wh_bd h.lit
  rcases dom_dl h 4 (Nat.le_refl 4) with ⟨i1, i2, i3⟩ | ⟨i1, i2, ⟨u, hu⟩, i4, i5, i6⟩
  · omega
  · have hud : whT t 4 / (domTo s t 4).den = u := by rw [hu]; exact Int.mul_ediv_cancel_left _ (by omega)
    rw [i4, hud]
    generalize (domTo s t 4).den = den at *
    generalize (domTo s t 4).num = num at *
    have hu0 : 0 ≤ u := by
      rw [← hud]
      exact Int.ediv_nonneg (by omega) (by omega)
    rw [hu]
    exact ⟨Int.mul_nonneg i5 hu0, Int.mul_le_mul_of_nonneg_right i6 hu0⟩
/-- A delta is a part of the whole. -/
theorem delta_LZ {s t : S4} (h : Part4 s t) (h0 : ∃ k, k < 4 ∧ 0 < t.at_ k) : (deltaR s t).2 = true ∧ Rt.of (deltaR s t).1.num.toNat (deltaR s t).1.den.toNat = LZ (dlT s t 4) (whT t 4).toNat := by
  have hw := wh_bd h.lit
  have hd : sumsDom s t = domTo s t 4 := if_pos ⟨h.rs, h.rt⟩
  have hH : sumsHolds t s = true := by
    unfold sumsHolds
    rw [h.rs, h.rt, Bool.and_true, Bool.and_true, decide_eq_true_eq]
    exact ⟨h.le 0, h.le 1, h.le 2, h.le 3⟩
  rcases dom_dl h 4 (Nat.le_refl 4) with ⟨i1, i2, i3⟩ | ⟨i1, i2, ⟨u, hu⟩, i4, i5, i6⟩
  · obtain ⟨k, hk, h5⟩ := h0
    have := i3 k hk
    omega
  · have hR : fracRight (domTo s t 4).num (domTo s t 4).den = true := by unfold fracRight; simp only [Bool.and_eq_true, decide_eq_true_eq]; omega
    have e : deltaR s t = (lowF (domTo s t 4).num.toNat (domTo s t 4).den.toNat, true) := by
      unfold deltaR
      rw [hd, if_neg (fun hh => by
        rcases hh with h5 | h5
        · omega
        · rw [hH] at h5
          exact absurd h5 (by decide))]
      unfold lowR
      rw [if_pos hR]
    have hud : whT t 4 / (domTo s t 4).den = u := by rw [hu]; exact Int.mul_ediv_cancel_left _ (by omega)
    rw [e, i4, hud]
    refine ⟨rfl, ?_⟩
    dsimp only
    have hu0 : 0 < u := by
      rcases Int.lt_or_le 0 u with h5 | h5
      · exact h5
      · have := Int.mul_nonneg (show 0 ≤ (domTo s t 4).den by omega) (show 0 ≤ -u by omega)
        rw [Int.mul_neg, ← hu] at this
        omega
    generalize (domTo s t 4).den = den at *
    generalize (domTo s t 4).num = num at *
    generalize whT t 4 = w at *
    subst hu
    obtain ⟨den, rfl⟩ := Int.eq_ofNat_of_zero_le (show 0 ≤ den by omega)
    obtain ⟨num, rfl⟩ := Int.eq_ofNat_of_zero_le i5
    obtain ⟨u, rfl⟩ := Int.eq_ofNat_of_zero_le (show 0 ≤ u by omega)
    have e3 : ((den : Int) * (u : Int)).toNat = den * u := by norm_cast
    rw [e3, LZ_scale _ _ _ (by omega), ← low_z false num den (z := (num : Int)) rfl]
    obtain ⟨a, b, g, hg, hb, ea, eb, qa, qb⟩ := by_gcd num den (by omega)
    unfold Rt.of lowF
    simp only [Int.toNat_natCast]
    rw [qa, qb, ← low_scale false a b g hg, ← ea, ← eb]
end Go.Proofs.Ytddgcegimmcbgaa.Sy

/-
  Bounds, in Lean alone: what the references say of one agent with little. Plain theorems.
-/
set_option linter.unusedSectionVars false
namespace Go.Proofs.Ytddgcegimmcbgaa.Sy
open Go Go.Sy Go.Proofs.Ytddgcegimmcbgaa
set_option maxRecDepth 100000
set_option maxHeartbeats 8000000
set_option linter.unusedVariables false
set_option linter.unusedSimpArgs false

def lit4 (s : S4) : Bool := decide (s.a ≤ 1000) && (decide (s.b ≤ 1000) && (decide (s.c ≤ 1000) && decide (s.d ≤ 1000)))
theorem lit4_iff (s : S4) : lit4 s = true ↔ Lit4 s := by
  unfold lit4 Lit4
  simp only [Bool.and_eq_true, decide_eq_true_eq]
  constructor
  · rintro ⟨h1, h2, h3, h4⟩ k
    match k with
    | 0 => exact h1
    | 1 => exact h2
    | 2 => exact h3
    | 3 => exact h4
    | k + 4 => exact (by show (0 : Int) ≤ 1000; decide)
  · intro h
    exact ⟨h 0, h 1, h 2, h 3⟩
def smallA (l : List (List Part)) : Bool := (nextAt (fun i => !lit4 (sumsOf (l.getD i default))) 0 l.length).isNone
/-- One agent's profile, by the document. -/
def rOne (p : Prof) : Bool := (decide (rCheck p = 0) && decide (p.ags.length = 1)) && (nextAt (fun i => !rHolds (ag0 p) (p.wants.getD i default).need) 0 p.wants.length).isNone
theorem checkR_fine {p : Prof} (h : checkR p = 0) : fineR p = true := by
  unfold checkR at h
  split at h
  · assumption
  · cases h
theorem part4_of {p : Prof} (hc : checkR p = 0) (hl : p.ags.length = 1) (hs : smallA p.ags = true) {i : Nat} (hi : i < p.wants.length) (hh : (subV (ag0 p) (p.wants.getD i default).need).2 = true) :
    Part4 (sumsOf (p.wants.getD i default).need) (sumsOf (ag0 p)) ∧ ∃ k, k < 4 ∧ 0 < (sumsOf (ag0 p)).at_ k := by
  obtain ⟨f1, f2, f3, _⟩ := fine_bare (checkR_fine hc)
  have ha : Bare (ag0 p) := f2 0 (by omega)
  have hb := (f3 i hi).1
  have hB : HB (ag0 p) (p.wants.getD i default).need := by
    rw [← rHolds_eq, rHolds_iff] at hh
    exact hh.2.2
  have hlit : Lit4 (sumsOf (ag0 p)) := by
    unfold smallA at hs
    rw [nextAt_isNone] at hs
    have := hs 0 (by omega)
    simp only [Bool.not_eq_false'] at this
    exact (lit4_iff _).1 this
  have hle : ∀ k : Int, sk (p.wants.getD i default).need k ≤ sk (ag0 p) k := fun k => by
    have h1 := res_sk _ _ ha.ok hb.ok hB k
    have h2 := sk_nn (res_ok ha.ok hb.ok hB).ok k
    omega
  have hle4 : ∀ k, (sumsOf (p.wants.getD i default).need).at_ k ≤ (sumsOf (ag0 p)).at_ k := fun k => by
    rw [sumsOf_sk ha.ok, sumsOf_sk hb.ok]
    match k with
    | 0 => exact hle 0
    | 1 => exact hle 1
    | 2 => exact hle 2
    | 3 => exact hle 3
    | k + 4 => exact Int.le_refl 0
  refine ⟨⟨hb.right, ha.right, hle4, hlit⟩, ?_⟩
  have hr := (sumsRight_iff _).1 ha.right
  have hne := ha.some
  generalize sumsOf (ag0 p) = t at *
  obtain ⟨a, b, c, d⟩ := t
  dsimp only at hr
  by_cases h0 : 0 < a
  · exact ⟨0, by decide, h0⟩
  by_cases h1 : 0 < b
  · exact ⟨1, by decide, h1⟩
  by_cases h2 : 0 < c
  · exact ⟨2, by decide, h2⟩
  by_cases h3 : 0 < d
  · exact ⟨3, by decide, h3⟩
  · exact absurd (by rw [show a = 0 by omega, show b = 0 by omega, show c = 0 by omega, show d = 0 by omega]) hne
theorem one_eq {p : Prof} (hs : smallA p.ags = true) : (oneR p).2 = rOne p := by
  unfold oneR rOne
  rw [rCheck_eq]
  by_cases h0 : checkR p = 0 ∧ p.ags.length = 1
  · rw [if_pos h0, decide_eq_true h0.1, decide_eq_true h0.2, Bool.true_and, Bool.true_and]
    have hb : ∀ i, i < p.wants.length → oneOk p i = rHolds (ag0 p) (p.wants.getD i default).need := fun i hi => by
      rw [rHolds_eq]
      unfold oneOk
      cases e : (subV (ag0 p) (p.wants.getD i default).need).2 with
      | false => exact Bool.and_false _
      | true =>
        obtain ⟨g1, g2⟩ := part4_of h0.1 h0.2 hs hi e
        rw [Bool.and_true]
        exact (delta_LZ g1 g2).1
    cases hn : nextAt (fun i => !oneOk p i) 0 p.wants.length with
    | some j =>
      obtain ⟨j1, j2, j3⟩ := nextAt_eq_some.1 hn
      rw [isNone_no (p := fun i => !rHolds (ag0 p) (p.wants.getD i default).need) j2.2 (by rw [← hb j j2.2]; exact j1)]
    | none =>
      have := nextAt_eq_none.1 hn
      rw [isNone_all (p := fun i => !rHolds (ag0 p) (p.wants.getD i default).need) fun i hi => by rw [← hb i hi]; exact this i (Nat.zero_le _) hi]
  · rw [if_neg h0]
    have : (decide (checkR p = 0) && decide (p.ags.length = 1)) = false := by
      by_cases h1 : checkR p = 0
      · rw [decide_eq_true h1, decide_eq_false fun h2 => h0 ⟨h1, h2⟩]
        rfl
      · rw [decide_eq_false h1]
        rfl
    rw [this]
    rfl
/-! ### One agent with little -/
def dlP (p : Prof) (i : Nat) : Int := dlT (sumsOf (p.wants.getD i default).need) (sumsOf (ag0 p)) 4
def whP (p : Prof) : Int := whT (sumsOf (ag0 p)) 4
def rsP (p : Prof) : Nat → Int
  | 0 => whP p
  | i + 1 => rsP p i - dlP p i
def wsP (p : Prof) : Nat → Int
  | 0 => 0
  | i + 1 => wsP p i + (p.wants.getD i default).weight
structure OneL (p : Prof) : Prop where
  one : (oneR p).2 = true
  small : smallA p.ags = true
  six : p.wants.length ≤ 6
theorem OneL.part {p : Prof} (h : OneL p) {i : Nat} (hi : i < p.wants.length) : Part4 (sumsOf (p.wants.getD i default).need) (sumsOf (ag0 p)) ∧ ∃ k, k < 4 ∧ 0 < (sumsOf (ag0 p)).at_ k := by
  obtain ⟨o1, o2, o3, o4⟩ := oneR_true h.one
  have := o3 i hi
  unfold oneOk at this
  rw [Bool.and_eq_true] at this
  exact part4_of o1 o2 h.small hi this.2
theorem OneL.lit {p : Prof} (h : OneL p) : Lit4 (sumsOf (ag0 p)) := by
  obtain ⟨o1, o2, o3, o4⟩ := oneR_true h.one
  have hs := h.small
  unfold smallA at hs
  rw [nextAt_isNone] at hs
  have := hs 0 (by omega)
  simp only [Bool.not_eq_false'] at this
  exact (lit4_iff _).1 this
theorem OneL.wh {p : Prof} (h : OneL p) : 1 ≤ whP p ∧ whP p ≤ 1000000000000 := wh_bd h.lit
theorem OneL.dl {p : Prof} (h : OneL p) {i : Nat} (hi : i < p.wants.length) : 0 ≤ dlP p i ∧ dlP p i ≤ whP p := dl_bd (h.part hi).1
theorem OneL.w {p : Prof} (h : OneL p) {i : Nat} (hi : i < p.wants.length) : 1 ≤ (p.wants.getD i default).weight ∧ (p.wants.getD i default).weight ≤ 1000 := (checkR_fin (oneR_true h.one).1).2 i hi
theorem OneL.n {p : Prof} (h : OneL p) : 1 ≤ p.wants.length := (checkR_fin (oneR_true h.one).1).1.1
theorem OneL.rs {p : Prof} (h : OneL p) : ∀ i, i ≤ p.wants.length → rsP p i ≤ whP p ∧ -(i * whP p) ≤ rsP p i
  | 0, _ => by
    have := h.wh
    simp only [rsP]
    omega
  | i + 1, hi => by
    have ih := h.rs i (by omega)
    have hd := h.dl (i := i) (by omega)
    simp only [rsP]
    have : ((i + 1 : Nat) : Int) * whP p = i * whP p + whP p := by push_cast; rw [Int.add_mul, Int.one_mul]
    rw [this]
    generalize (i : Int) * whP p = x at *
    omega
theorem OneL.ws {p : Prof} (h : OneL p) : ∀ i, i ≤ p.wants.length → (i ≤ wsP p i ∧ wsP p i ≤ i * 1000) ∧ wsP p i = (wsum p i : Nat)
  | 0, _ => by simp [wsP, wsum]
  | i + 1, hi => by
    have ih := h.ws i (by omega)
    have hd := h.w (i := i) (by omega)
    simp only [wsP, wsum]
    push_cast
    omega
theorem OneL.oneRt {p : Prof} (h : OneL p) {i : Nat} (hi : i < p.wants.length) : oneRt p i = LZ (dlP p i) (whP p).toNat := (delta_LZ (h.part hi).1 (h.part hi).2).2
theorem OneL.rest {p : Prof} (h : OneL p) : ∀ i, i ≤ p.wants.length → (oneTo p i).rest = LZ (rsP p i) (whP p).toNat
  | 0, _ => by
    have hw := h.wh
    show Rt.whole 1 = LZ (whP p) (whP p).toNat
    rw [whole_LZ, ← LZ_scale _ _ (whP p).toNat (by omega)]
    congr 1
    · omega
    · omega
  | i + 1, hi => by
    have hw := h.wh
    show (oneTo p i).rest.add (Sy.oneRt p i).neg = LZ (rsP p i - dlP p i) _
    rw [h.rest i (by omega), h.oneRt (by omega), LZ_sub _ _ _ _ (by omega) (by omega), ← Int.sub_mul, LZ_scale _ _ _ (by omega)]
theorem OneL.wsL {p : Prof} (h : OneL p) {i : Nat} (hi : i ≤ p.wants.length) : (oneTo p i).ws = LZ (wsP p i) 1 := by
  rw [ws_eq, (h.ws i hi).2, ← whole_LZ, whole_eq]
/-- Under, by the document. -/
def rUnd (p : Prof) (i : Nat) (t : Int) : Bool := decide (t * dlP p i * wsP p p.wants.length ≤ (p.wants.getD i default).weight * rsP p p.wants.length)
theorem OneL.under {p : Prof} (h : OneL p) {r : Res} (hf : fitsR p r = true) {i : Nat} (hi : i < p.wants.length) : underB p r i = rUnd p i (tk r i) := by
  have hw := h.wh
  have ht := ((fitsR_at hf).2 i hi).2
  have hwt := h.w hi
  unfold underB undA undC rUnd
  rw [h.oneRt hi, h.wsL (Nat.le_refl _), h.rest _ (Nat.le_refl _), whole_LZ, whole_LZ, LZ_mul _ _ _ _ (by omega) (by decide), LZ_mul _ _ _ _ (by omega) (by decide), LZ_mul _ _ _ _ (by omega) (by decide), LZ_above _ _ _ _ (by omega) (by omega)]
  obtain ⟨T, hT⟩ : ∃ T : Nat, whP p = T := ⟨(whP p).toNat, by omega⟩
  rw [hT] at hw ⊢
  have e1 : ((tk r i).toNat : Int) = tk r i := Int.toNat_of_nonneg ht.1
  have e2 : (((p.wants.getD i default).weight.toNat : Nat) : Int) = (p.wants.getD i default).weight := Int.toNat_of_nonneg (by omega)
  rw [e1, e2, Int.toNat_natCast, Nat.mul_one, Nat.mul_one]
  rw [← decide_not]
  congr 1
  apply propext
  rw [Int.not_lt, Int.mul_comm (dlP p i), Int.mul_comm (rsP p _)]
  exact ⟨fun h5 => Int.le_of_mul_le_mul_right h5 (by omega), fun h5 => Int.mul_le_mul_of_nonneg_right h5 (by omega)⟩
theorem OneL.floor {p : Prof} (h : OneL p) {i : Nat} (hi : i < p.wants.length) : floorT p i = (lowF ((p.wants.getD i default).weight * max 0 (rsP p p.wants.length)).toNat (wsP p p.wants.length * whP p).toNat, true) ∧
    (0 ≤ (p.wants.getD i default).weight * max 0 (rsP p p.wants.length) ∧ (p.wants.getD i default).weight * max 0 (rsP p p.wants.length) ≤ 1000000000000000) ∧ 1 ≤ wsP p p.wants.length * whP p ∧ wsP p p.wants.length * whP p ≤ 6000000000000000 := by
  have hw := h.wh
  have hwt := h.w hi
  obtain ⟨r1, r2⟩ := h.rs _ (Nat.le_refl _)
  obtain ⟨⟨w1, w2⟩, w3⟩ := h.ws _ (Nat.le_refl _)
  obtain ⟨o1, o2, o3, o4⟩ := oneR_true h.one
  have hn := h.n
  have h6 := h.six
  unfold floorT
  rw [if_pos ⟨h.one, by omega, by omega⟩, o4, h.rest _ (Nat.le_refl _), LZ_m _ _ (by omega), h.wsL (Nat.le_refl _)]
  generalize p.wants.length = n at *
  rw [Int.toNat_natCast]
  generalize (p.wants.getD i default).weight = w at *
  generalize rsP p n = R at *
  generalize wsP p n = W at *
  generalize whP p = T at *
  have m1 : 1 * 1 ≤ W * T := Int.mul_le_mul (by omega) hw.1 (by omega) (by omega)
  have m2 : W * T ≤ 6000 * 1000000000000 := Int.mul_le_mul (by omega) hw.2 (by omega) (by omega)
  have m3 : 0 ≤ w * max 0 R := Int.mul_nonneg (by omega) (by omega)
  have m4 : w * max 0 R ≤ 1000 * 1000000000000 := Int.mul_le_mul hwt.2 (by omega) (by omega) (by omega)
  refine ⟨?_, ⟨m3, by omega⟩, by omega, by omega⟩
  by_cases hR : R < 0
  · rw [decide_eq_true hR, if_pos rfl]
    have : max 0 R = 0 := by omega
    rw [this, Int.mul_zero]
    unfold lowF
    have h0 : (0 : Int).toNat = 0 := rfl
    rw [h0, Nat.gcd_zero_left, Nat.div_self (by omega), Nat.zero_div]
    rfl
  · rw [decide_eq_false hR, if_neg (by decide)]
    have e5 : max 0 R = R := by omega
    rw [e5] at m3 m4 ⊢
    obtain ⟨w, rfl⟩ := Int.eq_ofNat_of_zero_le (show 0 ≤ w by omega)
    obtain ⟨R, rfl⟩ := Int.eq_ofNat_of_zero_le (show 0 ≤ R by omega)
    obtain ⟨W, rfl⟩ := Int.eq_ofNat_of_zero_le (show 0 ≤ W by omega)
    obtain ⟨T, rfl⟩ := Int.eq_ofNat_of_zero_le (show 0 ≤ T by omega)
    simp only [Int.toNat_natCast]
    have e6 : LZ (W : Int) 1 = ⟨false, W, 1⟩ := by rw [← whole_LZ, whole_eq]
    rw [whole_LZ, LZ_mul _ _ _ _ (by decide) (by omega), e6]
    unfold Rt.over
    dsimp only
    have e7 : (⟨false, 1, W⟩ : Rt) = LZ 1 W := by
      unfold LZ Rt.low
      simp
    rw [e7, LZ_mul _ _ _ _ (by omega) (by omega)]
    have e8 : LZ ((w : Int) * R * 1) (1 * T * W) = Rt.low ⟨false, w * R, W * T⟩ := by
      rw [low_z false (w * R) (W * T) rfl]
      congr 1
      · push_cast; simp
      · rw [Nat.one_mul, Nat.mul_comm]
    have e9 : ((w : Int) * R).toNat = w * R := by norm_cast
    have e10 : ((W : Int) * T).toNat = W * T := by norm_cast
    rw [e8, e9, e10]
    have c1 : ((w * R : Nat) : Int) = (w : Int) * R := by push_cast; rfl
    have c2 : ((W * T : Nat) : Int) = (W : Int) * T := by push_cast; rfl
    exact low_frac _ _ (by omega) (by omega) (by omega)
end Go.Proofs.Ytddgcegimmcbgaa.Sy

/-
  Bounds, the references: what an agent has in all, a Need's delta. Plain theorems.
-/
set_option linter.unusedSectionVars false
namespace Go.Proofs.Ytddgcegimmcbgaa.Sy
open Go Go.Sy Go.Proofs.Ytddgcegimmcbgaa
set_option maxRecDepth 100000
set_option maxHeartbeats 8000000
set_option linter.unusedVariables false
set_option linter.unusedSimpArgs false

theorem whT_bd12 {t : S4} (h : Lit4 t) {k : Nat} (hk : k ≤ 4) : 1 ≤ whT t k ∧ whT t k ≤ 1000000000000 := by
  obtain ⟨h1, h2⟩ := whT_bd h k
  have p1 : 1000 ^ k ≤ 1000 ^ 4 := Nat.pow_le_pow_right (by decide) hk
  omega
theorem x_Whole (t : S4) (h : Lit4 t) : XC Try.prog 44 [.agg (S4.X Ar.real t)] [] (xi (whT t 4)) [] := by
  have hm0 : whT t 0 = 1 := rfl
  have hm1 : ∀ k, k < 4 → whT t (k + 1) = if 0 < t.at_ k then IntKind.i64.wrap (whT t k * t.at_ k) else whT t k := fun k hk => by
    have h1 := whT_bd12 h (k := k + 1) (by omega)
    have h2 : whT t (k + 1) = if 0 < t.at_ k then whT t k * t.at_ k else whT t k := rfl
    by_cases h0 : 0 < t.at_ k
    · rw [if_pos h0] at h2 ⊢
      rw [h2] at h1 ⊢
      rw [wrap_i64 (by omega) (by omega)]
    · rw [if_neg h0] at h2 ⊢
      exact h2
  have ha : ∀ k : Nat, t.at_ k = [t.a, t.b, t.c, t.d].getD k 0 := fun _ => rfl
  generalize hM : whT t = M at *
  generalize hT2 : t.at_ = ta at *
  clear hM hT2 h
  obtain ⟨a, b, p, d⟩ := t
  dsimp only at ha
  (refine XC.of_body ([]) Try.func44 rfl Try.ntmps44 mixed (T := [(2, ti2), (3, ti3), (52, ti52)]) (.cons tok2 (.cons tok3 (.cons tok52 .nil))) (by kernel_rfl) (by simp) rfl rfl rfl rfl rfl ?_; rintro o ho P hP c K hK; have hm : P.follows .mixedOrders = true := hP ▸ mixed; have hT : TOk P [(2, ti2), (3, ti3), (52, ti52)] := hP ▸ (.cons tok2 (.cons tok3 (.cons tok52 .nil))); (try rw [← ho]); cbv; (repeat (refine StopN.mk ?_; cbv)))
  repeat' (first | (refine Br.mk (fun hb => ?_) (fun hb => ?_) <;> ((try rw [ho] at hb); (try dsimp only [Ar.real, IX.vo] at hb); (try simp only [QN12] at hb); (try simp only [QBo, beq_iff_eq, beq_eq_false_iff_ne, ne_eq] at hb))) | (refine StopN.mk ?_; cbv) | (refine hK _ _ ?_) | (refine NeedT.mk ?_ ?_))
  refine LoopN.over (o := o) (D := []) ho hm hT (by kernel_rfl) (fun a : Nat => [(4, xn a), (3, xi (M a))]) (fun _ => []) (fun _ => []) (fun a => a ≤ 4) (fun a => 4 - a) 0 (by omega) ?_ ?_
  · refine ⟨(by cbv), by cbv; repeat' (first | trivial | exact EqX.rfl' | exact EqO.rfl' | apply And.intro | ((try clear hR3); (try clear hR2); (try clear hR); (try clear hK); (try simp only [ncCast] at *); (try simp only [castI_eq] at *); refine EqX.i ?_; (try rw [ho]); (try dsimp only [Ar.real, IX.vo, IX.val, BX.val, IX.toN]); (try simp only [QN12]); (repeat rw [wrap_i64 (by omega) (by omega)]); omega) | (refine EqX.i ?_; rw [hm0]; rfl)), by cbv; repeat' (first | trivial | exact EqO.rfl' | apply And.intro | (refine EqX.i ?_; rw [hm0]; rfl)), by cbv; repeat' (first | trivial | exact EqO.rfl' | apply And.intro | (refine EqX.i ?_; rw [hm0]; rfl))⟩
  · rintro i hi R hR
    have h3 : i < 4 → 0 < [a, b, p, d].getD ((i : Int).toNat) 0 → M (i + 1) = IntKind.i64.wrap (M i * [a, b, p, d].getD ((i : Int).toNat) 0) := fun h h' => by
      rw [Int.toNat_natCast] at h' ⊢
      rw [hm1 i h, ha i]
      exact if_pos h'
    have h4 : i < 4 → [a, b, p, d].getD ((i : Int).toNat) 0 ≤ 0 → M (i + 1) = M i := fun h h' => by
      rw [Int.toNat_natCast] at h'
      rw [hm1 i h, ha i]
      exact if_neg (by omega)
    cbv
    repeat' (first | (refine Br.mk (fun hb => ?_) (fun hb => ?_) <;> ((try rw [ho] at hb); (try dsimp only [Ar.real, IX.vo] at hb); (try simp only [QN12] at hb); (try simp only [QBo, beq_iff_eq, beq_eq_false_iff_ne, ne_eq] at hb))) | (refine StopN.mk ?_; cbv) | (refine hK _ _ ?_) | (refine NeedT.mk ?_ ?_))
    any_goals (((try clear hR3); (try clear hR2); (try clear hR); (try clear hK); (try simp only [ncCast] at *); (try simp only [castI_eq] at *); (try rw [ho]); (try dsimp only [Ar.real, IX.vo, IX.val, BX.val, IX.toN]); (try simp only [QN12]); (try simp only [decide_eq_true_eq]); (all_goals (repeat rw [wrap_i64 (by omega) (by omega)])); (all_goals (first | omega | (simp only [Int.ofNat_eq_natCast]; omega)))); done)
    · have h5 := h3 (by ((try clear hR3); (try clear hR2); (try clear hR); (try clear hK); (try simp only [ncCast] at *); (try simp only [castI_eq] at *)); omega) hb
      refine hR _ (i + 1) (by omega) (by omega) ?_
      refine ⟨(by cbv), by cbv; repeat' (first | trivial | exact EqX.rfl' | exact EqO.rfl' | apply And.intro | ((try clear hR3); (try clear hR2); (try clear hR); (try clear hK); (try simp only [ncCast] at *); (try simp only [castI_eq] at *); refine EqX.i ?_; (try rw [ho]); (try dsimp only [Ar.real, IX.vo, IX.val, BX.val, IX.toN]); (try simp only [QN12]); (repeat rw [wrap_i64 (by omega) (by omega)]); omega) | (refine EqX.i ?_; rw [h5, ho]; rfl)), by cbv; repeat' (first | trivial | exact EqO.rfl' | apply And.intro | (refine EqX.i ?_; rw [h5, ho]; rfl)), by cbv; repeat' (first | trivial | exact EqO.rfl' | apply And.intro | (refine EqX.i ?_; rw [h5, ho]; rfl))⟩
    · have h5 := h4 (by ((try clear hR3); (try clear hR2); (try clear hR); (try clear hK); (try simp only [ncCast] at *); (try simp only [castI_eq] at *)); omega) hb
      refine hR _ (i + 1) (by omega) (by omega) ?_
      refine ⟨(by cbv), by cbv; repeat' (first | trivial | exact EqX.rfl' | exact EqO.rfl' | apply And.intro | ((try clear hR3); (try clear hR2); (try clear hR); (try clear hK); (try simp only [ncCast] at *); (try simp only [castI_eq] at *); refine EqX.i ?_; (try rw [ho]); (try dsimp only [Ar.real, IX.vo, IX.val, BX.val, IX.toN]); (try simp only [QN12]); (repeat rw [wrap_i64 (by omega) (by omega)]); omega) | (refine EqX.i ?_; rw [h5])), by cbv; repeat' (first | trivial | exact EqO.rfl' | apply And.intro | (refine EqX.i ?_; rw [h5])), by cbv; repeat' (first | trivial | exact EqO.rfl' | apply And.intro | (refine EqX.i ?_; rw [h5]))⟩
    · obtain rfl : i = 4 := by omega
      exact .i rfl
theorem dl_step {s t : S4} (h : Part4 s t) {k : Nat} (h0 : 0 < t.at_ k) : IntKind.i64.wrap ((whT t 4).tdiv (t.at_ k)) = whT t 4 / t.at_ k ∧ IntKind.i64.wrap (s.at_ k * (whT t 4 / t.at_ k)) = s.at_ k * (whT t 4 / t.at_ k) := by
  have hw := wh_bd h.lit
  have hs := S4.at_bd h.rs k
  have hle := h.le k
  generalize whT t 4 = w at *
  generalize s.at_ k = x at *
  generalize t.at_ k = y at *
  have e : w.tdiv y = w / y := Int.tdiv_eq_ediv_of_nonneg (by omega)
  have q0 : 0 ≤ w / y := Int.ediv_nonneg (by omega) (by omega)
  have q1 : w / y * y ≤ w := Int.ediv_mul_le _ (by omega)
  rw [e]
  generalize w / y = q at *
  have q2 : q * 1 ≤ q * y := Int.mul_le_mul_of_nonneg_left (by omega) q0
  have q3 : x * q ≤ y * q := Int.mul_le_mul_of_nonneg_right hle q0
  have q4 : 0 ≤ x * q := Int.mul_nonneg hs.1 q0
  rw [Int.mul_comm y q] at q3
  exact ⟨wrap_i64 (by omega) (by omega), wrap_i64 (by omega) (by omega)⟩
theorem x_r36Delta (s t : S4) (h : Part4 s t) : XC Try.prog 95 [.agg (S4.X Ar.real s), .agg (S4.X Ar.real t)] [] (xi (dlT s t 4)) [] := by
  have hW := x_Whole t h.lit
  have hm0 : dlT s t 0 = 0 := rfl
  have hm1 : ∀ k, dlT s t (k + 1) = if 0 < t.at_ k then max (dlT s t k) (IntKind.i64.wrap (s.at_ k * IntKind.i64.wrap ((whT t 4).tdiv (t.at_ k)))) else dlT s t k := fun k => by
    have h2 : dlT s t (k + 1) = if 0 < t.at_ k then max (dlT s t k) (s.at_ k * (whT t 4 / t.at_ k)) else dlT s t k := rfl
    rw [h2]
    by_cases h0 : 0 < t.at_ k
    · rw [if_pos h0, if_pos h0, (dl_step h h0).1, (dl_step h h0).2]
    · rw [if_neg h0, if_neg h0]
  have ha : ∀ k : Nat, s.at_ k = [s.a, s.b, s.c, s.d].getD k 0 ∧ t.at_ k = [t.a, t.b, t.c, t.d].getD k 0 := fun _ => ⟨rfl, rfl⟩
  generalize whT t 4 = w at *
  generalize hM : dlT s t = M at *
  generalize hS : s.at_ = sa at *
  generalize hT2 : t.at_ = ta at *
  clear hM hS hT2 h
  obtain ⟨a, b, p, d⟩ := s
  obtain ⟨a', b', p', d'⟩ := t
  dsimp only at ha
  (refine XC.of_body ([(6, [(2, 5), (3, 5), (5, 7), (5, 8)])]) Try.func95 rfl Try.ntmps95 mixed (T := [(2, ti2), (3, ti3), (52, ti52)]) (.cons tok2 (.cons tok3 (.cons tok52 .nil))) (by kernel_rfl) (by simp) rfl rfl rfl rfl rfl ?_; rintro o ho P hP c K hK; have hm : P.follows .mixedOrders = true := hP ▸ mixed; have hT : TOk P [(2, ti2), (3, ti3), (52, ti52)] := hP ▸ (.cons tok2 (.cons tok3 (.cons tok52 .nil))); (try rw [← ho]); cbv; (repeat (refine StopN.mk ?_; cbv)))
  repeat' (first | (refine Br.mk (fun hb => ?_) (fun hb => ?_) <;> ((try rw [ho] at hb); (try dsimp only [Ar.real, IX.vo] at hb); (try simp only [QN12] at hb); (try simp only [QBo, beq_iff_eq, beq_eq_false_iff_ne, ne_eq] at hb))) | (refine StopN.mk ?_; cbv) | (refine hK _ _ ?_) | (refine NeedT.mk ?_ ?_))
  refine LoopN.over (o := o) (D := [(6, [(2, 5), (3, 5), (5, 7), (5, 8)])]) ho hm hT (by kernel_rfl) (fun a : Nat => [(6, xn a), (5, xi (M a))]) (fun _ => []) (fun _ => []) (fun a => a ≤ 4) (fun a => 4 - a) 0 (by omega) ?_ ?_
  · refine ⟨(by cbv), by cbv; repeat' (first | trivial | exact EqX.rfl' | exact EqO.rfl' | apply And.intro | ((try clear hR3); (try clear hR2); (try clear hR); (try clear hK); (try simp only [ncCast] at *); (try simp only [castI_eq] at *); refine EqX.i ?_; (try rw [ho]); (try dsimp only [Ar.real, IX.vo, IX.val, BX.val, IX.toN]); (try simp only [QN12]); (repeat rw [wrap_i64 (by omega) (by omega)]); omega) | (refine EqX.i ?_; rw [hm0]; rfl)), by cbv; repeat' (first | trivial | exact EqO.rfl' | apply And.intro | (refine EqX.i ?_; rw [hm0]; rfl)), by cbv; repeat' (first | trivial | exact EqO.rfl' | apply And.intro | (refine EqX.i ?_; rw [hm0]; rfl))⟩
  · rintro i hi R hR
    have h3 : i < 4 → 0 < [a', b', p', d'].getD ((i : Int).toNat) 0 → M (i + 1) = max (M i) (IntKind.i64.wrap (([a, b, p, d].getD ((i : Int).toNat) 0) * IntKind.i64.wrap (w.tdiv ([a', b', p', d'].getD ((i : Int).toNat) 0)))) := fun h h' => by
      rw [Int.toNat_natCast] at h' ⊢
      rw [hm1 i, (ha i).1, (ha i).2]
      exact if_pos h'
    have h4 : i < 4 → [a', b', p', d'].getD ((i : Int).toNat) 0 ≤ 0 → M (i + 1) = M i := fun h h' => by
      rw [Int.toNat_natCast] at h'
      rw [hm1 i, (ha i).1, (ha i).2]
      exact if_neg (by omega)
    cbv
    repeat' (first | (refine Br.mk (fun hb => ?_) (fun hb => ?_) <;> ((try rw [ho] at hb); (try dsimp only [Ar.real, IX.vo] at hb); (try simp only [QN12] at hb); (try simp only [QBo, beq_iff_eq, beq_eq_false_iff_ne, ne_eq] at hb))) | (refine StopN.mk ?_; cbv) | (first | refine CallI.pure hP hW fn44 rfl rfl rfl ?_ | refine CallN.pure hP hW fn44 rfl rfl rfl ?_); cbv | (refine hK _ _ ?_) | (refine NeedT.mk ?_ ?_))
    any_goals (((try clear hR3); (try clear hR2); (try clear hR); (try clear hK); (try simp only [ncCast] at *); (try simp only [castI_eq] at *); (try rw [ho]); (try dsimp only [Ar.real, IX.vo, IX.val, BX.val, IX.toN]); (try simp only [QN12]); (try simp only [decide_eq_true_eq]); (all_goals (repeat rw [wrap_i64 (by omega) (by omega)])); (all_goals (first | omega | (simp only [Int.ofNat_eq_natCast]; omega)))); done)
    · ((try clear hR3); (try clear hR2); (try clear hR); (try clear hK); (try simp only [ncCast] at *); (try simp only [castI_eq] at *); (try rw [ho]); (try dsimp only [Ar.real, IX.vo, IX.val, BX.val, IX.toN]); (try simp only [QN12]))
      simp only [Bool.not_eq_true', decide_eq_false_iff_not]
      omega
    · have h5 := h3 (by ((try clear hR3); (try clear hR2); (try clear hR); (try clear hK); (try simp only [ncCast] at *); (try simp only [castI_eq] at *)); omega) hb
      refine hR _ (i + 1) (by show 4 - (i + 1) < 4 - i; ((try clear hR3); (try clear hR2); (try clear hR); (try clear hK); (try simp only [ncCast] at *); (try simp only [castI_eq] at *)); omega) (by show i + 1 ≤ 4; ((try clear hR3); (try clear hR2); (try clear hR); (try clear hK); (try simp only [ncCast] at *); (try simp only [castI_eq] at *)); omega) ?_
      refine ⟨(by cbv), by cbv; repeat' (first | trivial | exact EqX.rfl' | exact EqO.rfl' | apply And.intro | ((try clear hR3); (try clear hR2); (try clear hR); (try clear hK); (try simp only [ncCast] at *); (try simp only [castI_eq] at *); refine EqX.i ?_; (try rw [ho]); (try dsimp only [Ar.real, IX.vo, IX.val, BX.val, IX.toN]); (try simp only [QN12]); (repeat rw [wrap_i64 (by omega) (by omega)]); omega) | (refine EqX.i ?_; rw [h5, ho]; rfl)), by cbv; repeat' (first | trivial | exact EqO.rfl' | apply And.intro | (refine EqX.i ?_; rw [h5, ho]; rfl)), by cbv; repeat' (first | trivial | exact EqO.rfl' | apply And.intro | (refine EqX.i ?_; rw [h5, ho]; rfl))⟩
    · have h5 := h4 (by ((try clear hR3); (try clear hR2); (try clear hR); (try clear hK); (try simp only [ncCast] at *); (try simp only [castI_eq] at *)); omega) hb
      refine hR _ (i + 1) (by show 4 - (i + 1) < 4 - i; ((try clear hR3); (try clear hR2); (try clear hR); (try clear hK); (try simp only [ncCast] at *); (try simp only [castI_eq] at *)); omega) (by show i + 1 ≤ 4; ((try clear hR3); (try clear hR2); (try clear hR); (try clear hK); (try simp only [ncCast] at *); (try simp only [castI_eq] at *)); omega) ?_
      refine ⟨(by cbv), by cbv; repeat' (first | trivial | exact EqX.rfl' | exact EqO.rfl' | apply And.intro | ((try clear hR3); (try clear hR2); (try clear hR); (try clear hK); (try simp only [ncCast] at *); (try simp only [castI_eq] at *); refine EqX.i ?_; (try rw [ho]); (try dsimp only [Ar.real, IX.vo, IX.val, BX.val, IX.toN]); (try simp only [QN12]); (repeat rw [wrap_i64 (by omega) (by omega)]); omega) | (refine EqX.i ?_; rw [h5])), by cbv; repeat' (first | trivial | exact EqO.rfl' | apply And.intro | (refine EqX.i ?_; rw [h5])), by cbv; repeat' (first | trivial | exact EqO.rfl' | apply And.intro | (refine EqX.i ?_; rw [h5]))⟩
    · obtain rfl : i = 4 := by omega
      exact .i rfl
end Go.Proofs.Ytddgcegimmcbgaa.Sy

/-
  Bounds, the references: who is small, one agent's profile. Plain theorems.
-/
set_option linter.unusedSectionVars false
namespace Go.Proofs.Ytddgcegimmcbgaa.Sy
open Go Go.Sy Go.Proofs.Ytddgcegimmcbgaa
set_option maxRecDepth 100000
set_option maxHeartbeats 8000000
set_option linter.unusedVariables false
set_option linter.unusedSimpArgs false

theorem lit4_at {s : S4} : lit4 s = true ↔ ∀ k, k < 4 → [s.a, s.b, s.c, s.d].getD k 0 ≤ 1000 := by
  rw [lit4_iff]
  constructor
  · intro h k _
    exact h k
  · intro h k
    match k with
    | 0 => exact h 0 (by decide)
    | 1 => exact h 1 (by decide)
    | 2 => exact h 2 (by decide)
    | 3 => exact h 3 (by decide)
    | k + 4 => exact (by show (0 : Int) ≤ 1000; decide)
theorem x_r36Small (l : List (List Part)) (hl : l.length ≤ 1048576) (hla : ∀ k, (l.getD k default).length ≤ 1048576) : XC Try.prog 38 [.ro (SL Ar.real PV.X l)] [] (xb (smallA l)) [] := by
  have hO := fun k => x_r06Of (l.getD k default) (hla k)
  have q0 : ∀ i, i < l.length → lit4 (sumsOf (l.getD i default)) = false → smallA l = false := fun i hi h => by
    unfold smallA
    rw [isNone_no (p := fun i => !lit4 (sumsOf (l.getD i default))) hi (by simp only [h, Bool.not_false])]
  have q1 : (∀ j, j < l.length → lit4 (sumsOf (l.getD j default)) = true) → smallA l = true := fun h => by
    unfold smallA
    rw [isNone_all (p := fun i => !lit4 (sumsOf (l.getD i default))) fun i hi => by simp only [h i hi, Bool.not_true]]
  generalize smallA l = res at *
  (refine XC.of_body ([]) Try.func38 rfl Try.ntmps38 mixed (T := [(2, ti2), (3, ti3), (31, ti31), (52, ti52), (57, ti57), (123, ti123)]) (.cons tok2 (.cons tok3 (.cons tok31 (.cons tok52 (.cons tok57 (.cons tok123 .nil)))))) (by kernel_rfl) (by simp) rfl rfl rfl rfl rfl ?_; rintro o ho P hP c K hK; have hm : P.follows .mixedOrders = true := hP ▸ mixed; have hT : TOk P [(2, ti2), (3, ti3), (31, ti31), (52, ti52), (57, ti57), (123, ti123)] := hP ▸ (.cons tok2 (.cons tok3 (.cons tok31 (.cons tok52 (.cons tok57 (.cons tok123 .nil)))))); (try rw [← ho]); cbv; (repeat (refine StopN.mk ?_; cbv)))
  repeat' (first | (refine Br.mk (fun hb => ?_) (fun hb => ?_) <;> ((try rw [ho] at hb); (try dsimp only [Ar.real, IX.vo] at hb); (try simp only [QN12] at hb); (try simp only [QBo, beq_iff_eq, beq_eq_false_iff_ne, ne_eq] at hb))) | (refine StopN.mk ?_; cbv) | ((first | refine CallI.pure hP (x_r06Of _ ‹_›) fn45 (by first | rfl | (rw [ho]; done) | (rw [ho]; rfl)) (by rfl) (by first | rfl | (rw [ho]; done) | (rw [ho]; rfl)) ?_ | refine CallN.pure hP (x_r06Of _ ‹_›) fn45 (by first | rfl | (rw [ho]; done) | (rw [ho]; rfl)) (by rfl) (by first | rfl | (rw [ho]; done) | (rw [ho]; rfl)) ?_); (try rw [← ho]); generalize hr : sumsOf _ = r; (try rw [ho] at hr); (try dsimp only [Ar.real, IX.vo] at hr); (try simp only [QN12] at hr); cbv) | (refine hK _ _ ?_) | (refine NeedT.mk ?_ ?_))
  refine LoopN.over (o := o) (D := []) ho hm hT (by kernel_rfl) (fun i : Nat => [(3, xn i)]) (fun _ => []) (fun _ => []) (fun i => i ≤ l.length ∧ ∀ j, j < i → lit4 (sumsOf (l.getD j default)) = true) (fun i => l.length - i) 0 ⟨Nat.zero_le _, fun j hj => absurd hj (Nat.not_lt_zero j)⟩ ?_ ?_
  · refine ⟨(by cbv), by cbv; repeat' (first | trivial | exact EqX.rfl' | exact EqO.rfl' | apply And.intro | ((try clear hR3); (try clear hR2); (try clear hR); (try clear hK); (try simp only [ncCast] at *); (try simp only [castI_eq] at *); refine EqX.i ?_; (try rw [ho]); (try dsimp only [Ar.real, IX.vo, IX.val, BX.val, IX.toN]); (try simp only [QN12]); (repeat rw [wrap_i64 (by omega) (by omega)]); omega)), by cbv; repeat' (first | trivial | exact EqO.rfl' | apply And.intro), by cbv; repeat' (first | trivial | exact EqO.rfl' | apply And.intro)⟩
  · rintro i ⟨hi, hok⟩ R hR
    have hOi := hO i
    have q2 := q0 i
    have hL : lit4 (sumsOf (l.getD i default)) = true → ∀ j, j < i + 1 → lit4 (sumsOf (l.getD j default)) = true := fun h j hj => by
      rcases Nat.lt_or_ge j i with h5 | h5
      · exact hok j h5
      · obtain rfl : j = i := by omega
        exact h
    have h4 := lit4_at (s := sumsOf (l.getD i default))
    have en : o.nth l i = l.getD i default := by rw [ho, real_nth]
    have hend : l.length ≤ i → res = true := fun h => q1 fun j hj => hok j (by omega)
    generalize sumsOf (l.getD i default) = s at hOi q2 h4 hL
    obtain ⟨a, b, p, d⟩ := s
    generalize lit4 ⟨a, b, p, d⟩ = lt at *
    dsimp only at h4
    rw [← en, ← ho] at hOi
    cbv
    repeat' (first | (refine Br.mk (fun hb => ?_) (fun hb => ?_) <;> ((try rw [ho] at hb); (try dsimp only [Ar.real, IX.vo] at hb); (try simp only [QN12] at hb); (try simp only [QBo, beq_iff_eq, beq_eq_false_iff_ne, ne_eq] at hb))) | (refine StopN.mk ?_; cbv) | (first | refine CallI.pure hP hOi fn45 rfl rfl rfl ?_); cbv | ((first | refine CallI.pure hP (x_r06Of _ ‹_›) fn45 (by first | rfl | (rw [ho]; done) | (rw [ho]; rfl)) (by rfl) (by first | rfl | (rw [ho]; done) | (rw [ho]; rfl)) ?_ | refine CallN.pure hP (x_r06Of _ ‹_›) fn45 (by first | rfl | (rw [ho]; done) | (rw [ho]; rfl)) (by rfl) (by first | rfl | (rw [ho]; done) | (rw [ho]; rfl)) ?_); (try rw [← ho]); generalize hr : sumsOf _ = r; (try rw [ho] at hr); (try dsimp only [Ar.real, IX.vo] at hr); (try simp only [QN12] at hr); cbv) | (refine hK _ _ ?_) | (refine NeedT.mk ?_ ?_))
    any_goals (((try clear hR3); (try clear hR2); (try clear hR); (try clear hK); (try simp only [ncCast] at *); (try simp only [castI_eq] at *); (try rw [ho]); (try dsimp only [Ar.real, IX.vo, IX.val, BX.val, IX.toN]); (try simp only [QN12]); (try simp only [decide_eq_true_eq]); (all_goals (repeat rw [wrap_i64 (by omega) (by omega)])); (all_goals (first | omega | (simp only [Int.ofNat_eq_natCast]; omega)))); done)
    · have hil : i < l.length := by ((try clear hR3); (try clear hR2); (try clear hR); (try clear hK); (try simp only [ncCast] at *); (try simp only [castI_eq] at *)); omega
      refine LoopN.over (o := o) (D := []) ho hm hT (by kernel_rfl) (fun k : Nat => [(5, xn k)]) (fun _ => []) (fun _ => []) (fun k => k ≤ 4 ∧ ∀ j, j < k → [a, b, p, d].getD j 0 ≤ 1000) (fun k => 4 - k) 0 ⟨Nat.zero_le _, fun j hj => absurd hj (Nat.not_lt_zero j)⟩ ?_ ?_
      · refine ⟨(by cbv), by cbv; repeat' (first | trivial | exact EqX.rfl' | exact EqO.rfl' | apply And.intro | ((try clear hR3); (try clear hR2); (try clear hR); (try clear hK); (try simp only [ncCast] at *); (try simp only [castI_eq] at *); refine EqX.i ?_; (try rw [ho]); (try dsimp only [Ar.real, IX.vo, IX.val, BX.val, IX.toN]); (try simp only [QN12]); (repeat rw [wrap_i64 (by omega) (by omega)]); omega)), by cbv; repeat' (first | trivial | exact EqO.rfl' | apply And.intro), by cbv; repeat' (first | trivial | exact EqO.rfl' | apply And.intro)⟩
      · rintro k ⟨hk, hkk⟩ R2 hR2
        have h5 : 1000 < [a, b, p, d].getD ((k : Int).toNat) 0 → k < 4 → lt = false := fun h h' => by
          rw [Int.toNat_natCast] at h
          cases hlt : lt with
          | false => rfl
          | true =>
            have := h4.1 hlt k h'
            omega
        have h6 : [a, b, p, d].getD ((k : Int).toNat) 0 ≤ 1000 → ∀ j, j < k + 1 → [a, b, p, d].getD j 0 ≤ 1000 := fun h j hj => by
          rw [Int.toNat_natCast] at h
          rcases Nat.lt_or_ge j k with h5 | h5
          · exact hkk j h5
          · obtain rfl : j = k := by omega
            exact h
        have h7 : 4 ≤ k → lt = true := fun h => h4.2 fun j hj => hkk j (by omega)
        cbv
        repeat' (first | (refine Br.mk (fun hb => ?_) (fun hb => ?_) <;> ((try rw [ho] at hb); (try dsimp only [Ar.real, IX.vo] at hb); (try simp only [QN12] at hb); (try simp only [QBo, beq_iff_eq, beq_eq_false_iff_ne, ne_eq] at hb))) | (refine StopN.mk ?_; cbv) | ((first | refine CallI.pure hP (x_r06Of _ ‹_›) fn45 (by first | rfl | (rw [ho]; done) | (rw [ho]; rfl)) (by rfl) (by first | rfl | (rw [ho]; done) | (rw [ho]; rfl)) ?_ | refine CallN.pure hP (x_r06Of _ ‹_›) fn45 (by first | rfl | (rw [ho]; done) | (rw [ho]; rfl)) (by rfl) (by first | rfl | (rw [ho]; done) | (rw [ho]; rfl)) ?_); (try rw [← ho]); generalize hr : sumsOf _ = r; (try rw [ho] at hr); (try dsimp only [Ar.real, IX.vo] at hr); (try simp only [QN12] at hr); cbv) | (refine hK _ _ ?_) | (refine NeedT.mk ?_ ?_))
        any_goals (((try clear hR3); (try clear hR2); (try clear hR); (try clear hK); (try simp only [ncCast] at *); (try simp only [castI_eq] at *); (try rw [ho]); (try dsimp only [Ar.real, IX.vo, IX.val, BX.val, IX.toN]); (try simp only [QN12]); (try simp only [decide_eq_true_eq]); (all_goals (repeat rw [wrap_i64 (by omega) (by omega)])); (all_goals (first | omega | (simp only [Int.ofNat_eq_natCast]; omega)))); done)
        · rw [q2 hil (h5 hb (by ((try clear hR3); (try clear hR2); (try clear hR); (try clear hK); (try simp only [ncCast] at *); (try simp only [castI_eq] at *)); omega))]
          exact .b rfl
        · refine hR2 _ (k + 1) (by show 4 - (k + 1) < 4 - k; ((try clear hR3); (try clear hR2); (try clear hR); (try clear hK); (try simp only [ncCast] at *); (try simp only [castI_eq] at *)); omega) ⟨by show k + 1 ≤ 4; ((try clear hR3); (try clear hR2); (try clear hR); (try clear hK); (try simp only [ncCast] at *); (try simp only [castI_eq] at *)); omega, h6 hb⟩ ?_
          refine ⟨(by cbv), by cbv; repeat' (first | trivial | exact EqX.rfl' | exact EqO.rfl' | apply And.intro | ((try clear hR3); (try clear hR2); (try clear hR); (try clear hK); (try simp only [ncCast] at *); (try simp only [castI_eq] at *); refine EqX.i ?_; (try rw [ho]); (try dsimp only [Ar.real, IX.vo, IX.val, BX.val, IX.toN]); (try simp only [QN12]); (repeat rw [wrap_i64 (by omega) (by omega)]); omega)), by cbv; repeat' (first | trivial | exact EqO.rfl' | apply And.intro), by cbv; repeat' (first | trivial | exact EqO.rfl' | apply And.intro)⟩
        · refine hR _ (i + 1) (by show l.length - (i + 1) < l.length - i; ((try clear hR3); (try clear hR2); (try clear hR); (try clear hK); (try simp only [ncCast] at *); (try simp only [castI_eq] at *)); omega) ⟨by show i + 1 ≤ l.length; ((try clear hR3); (try clear hR2); (try clear hR); (try clear hK); (try simp only [ncCast] at *); (try simp only [castI_eq] at *)); omega, hL (h7 (by ((try clear hR3); (try clear hR2); (try clear hR); (try clear hK); (try simp only [ncCast] at *); (try simp only [castI_eq] at *)); omega))⟩ ?_
          refine ⟨(by cbv), by cbv; repeat' (first | trivial | exact EqX.rfl' | exact EqO.rfl' | apply And.intro | ((try clear hR3); (try clear hR2); (try clear hR); (try clear hK); (try simp only [ncCast] at *); (try simp only [castI_eq] at *); refine EqX.i ?_; (try rw [ho]); (try dsimp only [Ar.real, IX.vo, IX.val, BX.val, IX.toN]); (try simp only [QN12]); (repeat rw [wrap_i64 (by omega) (by omega)]); omega)), by cbv; repeat' (first | trivial | exact EqO.rfl' | apply And.intro), by cbv; repeat' (first | trivial | exact EqO.rfl' | apply And.intro)⟩
    · rw [hend (by ((try clear hR3); (try clear hR2); (try clear hR); (try clear hK); (try simp only [ncCast] at *); (try simp only [castI_eq] at *)); omega)]
      exact .b rfl
theorem x_r36One (p : Prof) (hp : ProfOk p) : XC Try.prog 40 [.ro (SL Ar.real PV.X p.ags), .ro (SL Ar.real Want.X p.wants), .agg (S4.X Ar.real p.lo)] [] (xb (rOne p)) [] := by
  have hCk := x_r35Check p hp
  have hH := fun i => x_r05Holds (ag0 p) (p.wants.getD i default).need (hp.a 0) (hp.w i)
  have q0 : ¬ (rCheck p = 0 ∧ p.ags.length = 1) → rOne p = false := fun h => by
    unfold rOne
    by_cases h1 : rCheck p = 0
    · rw [decide_eq_false (p := p.ags.length = 1) fun h2 => h ⟨h1, h2⟩, Bool.and_false]
      rfl
    · rw [decide_eq_false h1]
      rfl
  have q1 : ∀ i, i < p.wants.length → rHolds (ag0 p) (p.wants.getD i default).need = false → rOne p = false := fun i hi h => by
    unfold rOne
    rw [isNone_no (p := fun i => !rHolds (ag0 p) (p.wants.getD i default).need) hi (by simp only [h, Bool.not_false]), Bool.and_false]
  have q2 : rCheck p = 0 → p.ags.length = 1 → (∀ i, i < p.wants.length → rHolds (ag0 p) (p.wants.getD i default).need = true) → rOne p = true := fun h h' hl => by
    unfold rOne
    rw [decide_eq_true h, decide_eq_true h', isNone_all (p := fun i => !rHolds (ag0 p) (p.wants.getD i default).need) fun i hi => by simp only [hl i hi, Bool.not_true]]
    rfl
  have hag : ∀ (o : Ar), o = Ar.real → o.nth p.ags 0 = ag0 p := fun o ho => by rw [ho, real_nth]; rfl
  generalize rOne p = res at *
  generalize rCheck p = rc at *
  generalize ag0 p = a0 at *
  obtain ⟨ags, wants, lo⟩ := p
  obtain ⟨loa, lob, loc, lod⟩ := lo
  obtain ⟨pa, pw, hla, hwa⟩ := hp
  dsimp only at *
  (refine XC.of_body ([(6, [])]) Try.func40 rfl Try.ntmps40 mixed (T := [(2, ti2), (3, ti3), (4, ti4), (31, ti31), (47, ti47), (52, ti52), (57, ti57), (88, ti88), (123, ti123)]) (.cons tok2 (.cons tok3 (.cons tok4 (.cons tok31 (.cons tok47 (.cons tok52 (.cons tok57 (.cons tok88 (.cons tok123 .nil))))))))) (by kernel_rfl) (by simp) rfl rfl rfl rfl rfl ?_; rintro o ho P hP c K hK; have hm : P.follows .mixedOrders = true := hP ▸ mixed; have hT : TOk P [(2, ti2), (3, ti3), (4, ti4), (31, ti31), (47, ti47), (52, ti52), (57, ti57), (88, ti88), (123, ti123)] := hP ▸ (.cons tok2 (.cons tok3 (.cons tok4 (.cons tok31 (.cons tok47 (.cons tok52 (.cons tok57 (.cons tok88 (.cons tok123 .nil))))))))); (try rw [← ho]); cbv; (repeat (refine StopN.mk ?_; cbv)))
  have en0 := hag o ho
  rw [← ho] at hCk
  repeat' (first | (refine Br.mk (fun hb => ?_) (fun hb => ?_) <;> ((try rw [ho] at hb); (try dsimp only [Ar.real, IX.vo] at hb); (try simp only [QN12] at hb); (try simp only [QBo, beq_iff_eq, beq_eq_false_iff_ne, ne_eq] at hb))) | (refine StopN.mk ?_; cbv) | (first | refine CallI.pure hP hCk fn28 rfl rfl rfl ?_); cbv | ((first | refine CallI.pure hP (x_r35Check _ ‹_›) fn28 (by first | rfl | (rw [ho]; done) | (rw [ho]; rfl)) (by rfl) (by first | rfl | (rw [ho]; done) | (rw [ho]; rfl)) ?_ | refine CallN.pure hP (x_r35Check _ ‹_›) fn28 (by first | rfl | (rw [ho]; done) | (rw [ho]; rfl)) (by rfl) (by first | rfl | (rw [ho]; done) | (rw [ho]; rfl)) ?_); (try rw [← ho]); generalize hr : rCheck _ = r; (try rw [ho] at hr); (try dsimp only [Ar.real, IX.vo] at hr); (try simp only [QN12] at hr); cbv) | ((first | refine CallI.pure hP (x_r05Holds _ _ ‹_› ‹_›) fn72 (by first | rfl | (rw [ho]; done) | (rw [ho]; rfl)) (by rfl) (by first | rfl | (rw [ho]; done) | (rw [ho]; rfl)) ?_ | refine CallN.pure hP (x_r05Holds _ _ ‹_› ‹_›) fn72 (by first | rfl | (rw [ho]; done) | (rw [ho]; rfl)) (by rfl) (by first | rfl | (rw [ho]; done) | (rw [ho]; rfl)) ?_); (try rw [← ho]); generalize hr : rHolds _ _ = r; (try rw [ho] at hr); (try dsimp only [Ar.real, IX.vo] at hr); (try simp only [QN12] at hr); cbv) | (refine hK _ _ ?_) | (refine NeedT.mk ?_ ?_))
  · rw [q0 fun h => hb h.1]
    exact .b rfl
  · rw [q0 fun h => by omega]
    exact .b rfl
  have hc0 : rc = 0 := by assumption
  have hl1 : ags.length = 1 := by omega
  refine LoopN.over (o := o) (D := [(6, [])]) ho hm hT (by kernel_rfl) (fun i : Nat => [(7, xn i)]) (fun _ => []) (fun _ => []) (fun i => i ≤ wants.length ∧ ∀ j, j < i → rHolds a0 (wants.getD j default).need = true) (fun i => wants.length - i) 0 ⟨Nat.zero_le _, fun j hj => absurd hj (Nat.not_lt_zero j)⟩ ?_ ?_
  · refine ⟨(by cbv), by cbv; repeat' (first | trivial | exact EqX.rfl' | exact EqO.rfl' | apply And.intro | ((try clear hR3); (try clear hR2); (try clear hR); (try clear hK); (try simp only [ncCast] at *); (try simp only [castI_eq] at *); refine EqX.i ?_; (try rw [ho]); (try dsimp only [Ar.real, IX.vo, IX.val, BX.val, IX.toN]); (try simp only [QN12]); (repeat rw [wrap_i64 (by omega) (by omega)]); omega)), by cbv; repeat' (first | trivial | exact EqO.rfl' | apply And.intro), by cbv; repeat' (first | trivial | exact EqO.rfl' | apply And.intro)⟩
  · rintro i ⟨hi, hok⟩ R hR
    have hHi := hH i
    have q3 := q1 i
    have en : o.nth wants i = wants.getD i default := by rw [ho, real_nth]
    have hoks : rHolds a0 (wants.getD i default).need = true → ∀ j, j < i + 1 → rHolds a0 (wants.getD j default).need = true := fun h j hj => by
      rcases Nat.lt_or_ge j i with h5 | h5
      · exact hok j h5
      · obtain rfl : j = i := by omega
        exact h
    have hend : wants.length ≤ i → res = true := fun h => q2 hc0 hl1 fun j hj => hok j (by omega)
    generalize rHolds a0 (wants.getD i default).need = b at *
    rw [← en, ← en0, ← ho] at hHi
    cbv
    repeat' (first | (refine Br.mk (fun hb => ?_) (fun hb => ?_) <;> ((try rw [ho] at hb); (try dsimp only [Ar.real, IX.vo] at hb); (try simp only [QN12] at hb); (try simp only [QBo, beq_iff_eq, beq_eq_false_iff_ne, ne_eq] at hb))) | (refine StopN.mk ?_; cbv) | (first | refine CallN.pure hP hHi fn72 rfl rfl rfl ?_); cbv | ((first | refine CallI.pure hP (x_r35Check _ ‹_›) fn28 (by first | rfl | (rw [ho]; done) | (rw [ho]; rfl)) (by rfl) (by first | rfl | (rw [ho]; done) | (rw [ho]; rfl)) ?_ | refine CallN.pure hP (x_r35Check _ ‹_›) fn28 (by first | rfl | (rw [ho]; done) | (rw [ho]; rfl)) (by rfl) (by first | rfl | (rw [ho]; done) | (rw [ho]; rfl)) ?_); (try rw [← ho]); generalize hr : rCheck _ = r; (try rw [ho] at hr); (try dsimp only [Ar.real, IX.vo] at hr); (try simp only [QN12] at hr); cbv) | ((first | refine CallI.pure hP (x_r05Holds _ _ ‹_› ‹_›) fn72 (by first | rfl | (rw [ho]; done) | (rw [ho]; rfl)) (by rfl) (by first | rfl | (rw [ho]; done) | (rw [ho]; rfl)) ?_ | refine CallN.pure hP (x_r05Holds _ _ ‹_› ‹_›) fn72 (by first | rfl | (rw [ho]; done) | (rw [ho]; rfl)) (by rfl) (by first | rfl | (rw [ho]; done) | (rw [ho]; rfl)) ?_); (try rw [← ho]); generalize hr : rHolds _ _ = r; (try rw [ho] at hr); (try dsimp only [Ar.real, IX.vo] at hr); (try simp only [QN12] at hr); cbv) | (refine hK _ _ ?_) | (refine NeedT.mk ?_ ?_))
    any_goals (((try clear hR3); (try clear hR2); (try clear hR); (try clear hK); (try simp only [ncCast] at *); (try simp only [castI_eq] at *); (try rw [ho]); (try dsimp only [Ar.real, IX.vo, IX.val, BX.val, IX.toN]); (try simp only [QN12]); (try simp only [decide_eq_true_eq]); (all_goals (repeat rw [wrap_i64 (by omega) (by omega)])); (all_goals (first | omega | (simp only [Int.ofNat_eq_natCast]; omega)))); done)
    · rw [q3 (by ((try clear hR3); (try clear hR2); (try clear hR); (try clear hK); (try simp only [ncCast] at *); (try simp only [castI_eq] at *)); omega) (by assumption)]
      exact .b rfl
    · refine hR _ (i + 1) (by show wants.length - (i + 1) < wants.length - i; ((try clear hR3); (try clear hR2); (try clear hR); (try clear hK); (try simp only [ncCast] at *); (try simp only [castI_eq] at *)); omega) ⟨by show i + 1 ≤ wants.length; ((try clear hR3); (try clear hR2); (try clear hR); (try clear hK); (try simp only [ncCast] at *); (try simp only [castI_eq] at *)); omega, hoks (by assumption)⟩ ?_
      refine ⟨(by cbv), by cbv; repeat' (first | trivial | exact EqX.rfl' | exact EqO.rfl' | apply And.intro | ((try clear hR3); (try clear hR2); (try clear hR); (try clear hK); (try simp only [ncCast] at *); (try simp only [castI_eq] at *); refine EqX.i ?_; (try rw [ho]); (try dsimp only [Ar.real, IX.vo, IX.val, BX.val, IX.toN]); (try simp only [QN12]); (repeat rw [wrap_i64 (by omega) (by omega)]); omega)), by cbv; repeat' (first | trivial | exact EqO.rfl' | apply And.intro), by cbv; repeat' (first | trivial | exact EqO.rfl' | apply And.intro)⟩
    · rw [hend (by ((try clear hR3); (try clear hR2); (try clear hR); (try clear hK); (try simp only [ncCast] at *); (try simp only [castI_eq] at *)); omega)]
      exact .b rfl
end Go.Proofs.Ytddgcegimmcbgaa.Sy

/-
  Bounds, the references: what is left of the whole, who is under. Plain theorems.
-/
set_option linter.unusedSectionVars false
namespace Go.Proofs.Ytddgcegimmcbgaa.Sy
open Go Go.Sy Go.Proofs.Ytddgcegimmcbgaa
set_option maxRecDepth 100000
set_option maxHeartbeats 8000000
set_option linter.unusedVariables false
set_option linter.unusedSimpArgs false

theorem OneL.rsB {p : Prof} (h : OneL p) {i : Nat} (hi : i ≤ p.wants.length) : -6000000000000 ≤ rsP p i ∧ rsP p i ≤ 1000000000000 := by
  obtain ⟨r1, r2⟩ := h.rs i hi
  have hw := h.wh
  have h6 := h.six
  generalize whP p = T at *
  have : (i : Int) * T ≤ 6 * 1000000000000 := Int.mul_le_mul (by omega) hw.2 (by omega) (by omega)
  omega
theorem OneL.wsB {p : Prof} (h : OneL p) {i : Nat} (hi : i ≤ p.wants.length) : 0 ≤ wsP p i ∧ wsP p i ≤ 6000 := by
  have := (h.ws i hi).1
  have h6 := h.six
  omega
theorem FinX_ii {x y : IX} {a b : Int} (h1 : x.val = a) (h2 : y.val = b) : FinX (.tup [xi a, xi b]) [] (.tup [.i .i64 x, .i .i64 y]) [] := .pure fun _ => by
  simp only [X.toD, X.toDL, h1, h2]
  rfl
theorem x_r36Rest (p : Prof) (hp : ProfOk p) (h : OneL p) : XC Try.prog 42 [.ro (SL Ar.real Part.X (ag0 p)), .ro (SL Ar.real Want.X p.wants)] [] (.tup [xi (rsP p p.wants.length), xi (wsP p p.wants.length)]) [] := by
  have hOa := x_r06Of (ag0 p) (hp.a 0)
  have hOw := fun i => x_r06Of (p.wants.getD i default).need (hp.w i)
  have hW := x_Whole _ h.lit
  have hD := fun i (hi : i < p.wants.length) => x_r36Delta _ _ (h.part hi).1
  have hs0 : rsP p 0 = whT (sumsOf (ag0 p)) 4 ∧ wsP p 0 = 0 := ⟨rfl, rfl⟩
  have hdd : ∀ i, dlT (sumsOf (p.wants.getD i default).need) (sumsOf (ag0 p)) 4 = dlP p i := fun _ => rfl
  have hs1 : ∀ i, i < p.wants.length → rsP p (i + 1) = IntKind.i64.wrap (rsP p i - dlP p i) ∧ wsP p (i + 1) = IntKind.i64.wrap (wsP p i + (p.wants.getD i default).weight) := fun i hi => by
    have h1 := h.rsB (i := i + 1) (by omega)
    have h2 := h.wsB (i := i + 1) (by omega)
    have e1 : rsP p (i + 1) = rsP p i - dlP p i := rfl
    have e2 : wsP p (i + 1) = wsP p i + (p.wants.getD i default).weight := rfl
    rw [e1] at h1 ⊢
    rw [e2] at h2 ⊢
    exact ⟨(wrap_i64 (by omega) (by omega)).symm, (wrap_i64 (by omega) (by omega)).symm⟩
  simp only [hdd] at hD
  rw [← hs0.1] at hW
  have hs2 := hs0.2
  have hn := hp.nw
  clear hs0 hdd h
  generalize dlP p = dl at *
  generalize rsP p = rs at *
  generalize wsP p = ws at *
  generalize ag0 p = a0 at *
  generalize p.wants = wants at *
  obtain ⟨r0, hr0⟩ : ∃ x, x = rs 0 := ⟨_, rfl⟩
  rw [← hr0] at hW
  generalize sumsOf a0 = t at *
  obtain ⟨ta, tb, tc, td⟩ := t
  (refine XC.of_body ([(6, [(6, 7)])]) Try.func42 rfl Try.ntmps42 mixed (T := [(2, ti2), (3, ti3), (31, ti31), (47, ti47), (52, ti52), (88, ti88), (123, ti123)]) (.cons tok2 (.cons tok3 (.cons tok31 (.cons tok47 (.cons tok52 (.cons tok88 (.cons tok123 .nil))))))) (by kernel_rfl) (by simp) rfl rfl rfl rfl rfl ?_; rintro o ho P hP c K hK; have hm : P.follows .mixedOrders = true := hP ▸ mixed; have hT : TOk P [(2, ti2), (3, ti3), (31, ti31), (47, ti47), (52, ti52), (88, ti88), (123, ti123)] := hP ▸ (.cons tok2 (.cons tok3 (.cons tok31 (.cons tok47 (.cons tok52 (.cons tok88 (.cons tok123 .nil))))))); (try rw [← ho]); cbv; (repeat (refine StopN.mk ?_; cbv)))
  rw [← ho] at hOa hW
  repeat' (first | (refine Br.mk (fun hb => ?_) (fun hb => ?_) <;> ((try rw [ho] at hb); (try dsimp only [Ar.real, IX.vo] at hb); (try simp only [QN12] at hb); (try simp only [QBo, beq_iff_eq, beq_eq_false_iff_ne, ne_eq] at hb))) | (refine StopN.mk ?_; cbv) | (first | refine CallI.pure hP hOa fn45 rfl rfl rfl ?_ | refine CallI.pure hP hW fn44 rfl rfl rfl ?_); cbv | ((first | refine CallI.pure hP (x_r06Of _ ‹_›) fn45 (by first | rfl | (rw [ho]; done) | (rw [ho]; rfl)) (by rfl) (by first | rfl | (rw [ho]; done) | (rw [ho]; rfl)) ?_ | refine CallN.pure hP (x_r06Of _ ‹_›) fn45 (by first | rfl | (rw [ho]; done) | (rw [ho]; rfl)) (by rfl) (by first | rfl | (rw [ho]; done) | (rw [ho]; rfl)) ?_); (try rw [← ho]); generalize hr : sumsOf _ = r; (try rw [ho] at hr); (try dsimp only [Ar.real, IX.vo] at hr); (try simp only [QN12] at hr); cbv) | (refine hK _ _ ?_) | (refine NeedT.mk ?_ ?_))
  refine LoopN.over (o := o) (D := [(6, [(6, 7)])]) ho hm hT (by kernel_rfl) (fun i : Nat => [(9, xn i), (8, xi (ws i)), (7, xi (rs i))]) (fun _ => []) (fun _ => []) (fun i => i ≤ wants.length) (fun i => wants.length - i) 0 (Nat.zero_le _) ?_ ?_
  · refine ⟨(by cbv), by cbv; repeat' (first | trivial | exact EqX.rfl' | exact EqO.rfl' | apply And.intro | ((try clear hR3); (try clear hR2); (try clear hR); (try clear hK); (try simp only [ncCast] at *); (try simp only [castI_eq] at *); refine EqX.i ?_; (try rw [ho]); (try dsimp only [Ar.real, IX.vo, IX.val, BX.val, IX.toN]); (try simp only [QN12]); (repeat rw [wrap_i64 (by omega) (by omega)]); omega) | (refine EqX.i ?_; rw [hs2]; rfl) | (refine EqX.i ?_; exact hr0)), by cbv; repeat' (first | trivial | exact EqO.rfl' | apply And.intro | (refine EqX.i ?_; rw [hs2]; rfl) | (refine EqX.i ?_; exact hr0)), by cbv; repeat' (first | trivial | exact EqO.rfl' | apply And.intro | (refine EqX.i ?_; rw [hs2]; rfl) | (refine EqX.i ?_; exact hr0))⟩
  · rintro i hi R hR
    have hOi := hOw i
    have hDi := hD i
    have s1 := hs1 i
    have en : o.nth wants i = wants.getD i default := by rw [ho, real_nth]
    generalize sumsOf (wants.getD i default).need = s at *
    obtain ⟨sa, sb, sc, sd⟩ := s
    generalize dl i = d at *
    obtain ⟨ri, hri⟩ : ∃ x, x = rs i := ⟨_, rfl⟩
    obtain ⟨wi, hwi⟩ : ∃ x, x = ws i := ⟨_, rfl⟩
    rw [← hri, ← hwi] at s1
    rw [← en, ← ho] at hOi
    simp only [← ho] at hDi
    rw [← hri, ← hwi]
    cbv
    repeat' (first | (refine Br.mk (fun hb => ?_) (fun hb => ?_) <;> ((try rw [ho] at hb); (try dsimp only [Ar.real, IX.vo] at hb); (try simp only [QN12] at hb); (try simp only [QBo, beq_iff_eq, beq_eq_false_iff_ne, ne_eq] at hb))) | (refine StopN.mk ?_; cbv) | (first | refine CallN.pure hP hOi fn45 rfl rfl rfl ?_ | refine CallN.pure hP (hDi ‹_›) fn95 rfl rfl rfl ?_); cbv | ((first | refine CallI.pure hP (x_r06Of _ ‹_›) fn45 (by first | rfl | (rw [ho]; done) | (rw [ho]; rfl)) (by rfl) (by first | rfl | (rw [ho]; done) | (rw [ho]; rfl)) ?_ | refine CallN.pure hP (x_r06Of _ ‹_›) fn45 (by first | rfl | (rw [ho]; done) | (rw [ho]; rfl)) (by rfl) (by first | rfl | (rw [ho]; done) | (rw [ho]; rfl)) ?_); (try rw [← ho]); generalize hr : sumsOf _ = r; (try rw [ho] at hr); (try dsimp only [Ar.real, IX.vo] at hr); (try simp only [QN12] at hr); cbv) | (refine hK _ _ ?_) | (refine NeedT.mk ?_ ?_))
    any_goals (((try clear hR3); (try clear hR2); (try clear hR); (try clear hK); (try simp only [ncCast] at *); (try simp only [castI_eq] at *); (try rw [ho]); (try dsimp only [Ar.real, IX.vo, IX.val, BX.val, IX.toN]); (try simp only [QN12]); (try simp only [decide_eq_true_eq]); (all_goals (repeat rw [wrap_i64 (by omega) (by omega)])); (all_goals (first | omega | (simp only [Int.ofNat_eq_natCast]; omega)))); done)
    · obtain ⟨e1, e2⟩ := s1 (by assumption)
      refine hR _ (i + 1) (by show wants.length - (i + 1) < wants.length - i; ((try clear hR3); (try clear hR2); (try clear hR); (try clear hK); (try simp only [ncCast] at *); (try simp only [castI_eq] at *)); omega) (by show i + 1 ≤ wants.length; ((try clear hR3); (try clear hR2); (try clear hR); (try clear hK); (try simp only [ncCast] at *); (try simp only [castI_eq] at *)); omega) ?_
      refine ⟨(by cbv), by cbv; repeat' (first | trivial | exact EqX.rfl' | exact EqO.rfl' | apply And.intro | ((try clear hR3); (try clear hR2); (try clear hR); (try clear hK); (try simp only [ncCast] at *); (try simp only [castI_eq] at *); refine EqX.i ?_; (try rw [ho]); (try dsimp only [Ar.real, IX.vo, IX.val, BX.val, IX.toN]); (try simp only [QN12]); (repeat rw [wrap_i64 (by omega) (by omega)]); omega) | (refine EqX.i ?_; rw [e1, ho]; rfl) | (refine EqX.i ?_; rw [e2, ho]; rfl)), by cbv; repeat' (first | trivial | exact EqO.rfl' | apply And.intro | (refine EqX.i ?_; rw [e1, ho]; rfl) | (refine EqX.i ?_; rw [e2, ho]; rfl)), by cbv; repeat' (first | trivial | exact EqO.rfl' | apply And.intro | (refine EqX.i ?_; rw [e1, ho]; rfl) | (refine EqX.i ?_; rw [e2, ho]; rfl))⟩
    · obtain rfl : i = wants.length := by ((try clear hR3); (try clear hR2); (try clear hR); (try clear hK); (try simp only [ncCast] at *); (try simp only [castI_eq] at *)); omega
      exact FinX_ii hri hwi
theorem OneL.undB {p : Prof} (h : OneL p) {i : Nat} (hi : i < p.wants.length) {t : Int} (ht : 0 ≤ t ∧ t ≤ 100) :
    IntKind.i64.wrap (t * dlP p i) = t * dlP p i ∧ IntKind.i64.wrap (t * dlP p i * wsP p p.wants.length) = t * dlP p i * wsP p p.wants.length ∧
    IntKind.i64.wrap ((p.wants.getD i default).weight * rsP p p.wants.length) = (p.wants.getD i default).weight * rsP p p.wants.length := by
  have hd := h.dl hi
  have hT := h.wh
  have hw := h.w hi
  have hr := h.rsB (Nat.le_refl _)
  have hs := h.wsB (Nat.le_refl _)
  generalize wsP p p.wants.length = W at *
  generalize rsP p p.wants.length = R at *
  generalize dlP p i = D at *
  generalize (p.wants.getD i default).weight = w at *
  have m1 : 0 ≤ t * D := Int.mul_nonneg ht.1 hd.1
  have m2 : t * D ≤ 100 * 1000000000000 := Int.mul_le_mul ht.2 (by omega) hd.1 (by omega)
  have m3 : 0 ≤ t * D * W := Int.mul_nonneg m1 hs.1
  have m4 : t * D * W ≤ (100 * 1000000000000) * 6000 := Int.mul_le_mul m2 hs.2 hs.1 (by omega)
  have m5 : w * R ≤ 1000 * 1000000000000 := by
    rcases Int.lt_or_le R 0 with h5 | h5
    · have := Int.mul_nonneg (show 0 ≤ w by omega) (show 0 ≤ -R by omega)
      rw [Int.mul_neg] at this
      omega
    · exact Int.mul_le_mul hw.2 (by omega) h5 (by omega)
  have m6 : w * (-R) ≤ 1000 * 6000000000000 := by
    rcases Int.lt_or_le R 0 with h5 | h5
    · exact Int.mul_le_mul hw.2 (by omega) (by omega) (by omega)
    · have := Int.mul_nonneg (show 0 ≤ w by omega) h5
      rw [Int.mul_neg]
      omega
  rw [Int.mul_neg] at m6
  exact ⟨wrap_i64 (by omega) (by omega), wrap_i64 (by omega) (by omega), wrap_i64 (by omega) (by omega)⟩
theorem x_r36Under (p : Prof) (hp : ProfOk p) (h : OneL p) (i : Nat) (hi : i < p.wants.length) (t : Int) (ht : 0 ≤ t ∧ t ≤ 100) : XC Try.prog 43 [.ro (SL Ar.real Part.X (ag0 p)), .ro (SL Ar.real Want.X p.wants), xn i, xi t] [] (xb (rUnd p i t)) [] := by
  have hRe := x_r36Rest p hp h
  have hOa := x_r06Of (ag0 p) (hp.a 0)
  have hOi := x_r06Of (p.wants.getD i default).need (hp.w i)
  have hDi := x_r36Delta _ _ (h.part hi).1
  have hdd : dlT (sumsOf (p.wants.getD i default).need) (sumsOf (ag0 p)) 4 = dlP p i := rfl
  rw [hdd] at hDi
  obtain ⟨u1, u2, u3⟩ := h.undB hi ht
  have hq : rUnd p i t = decide (IntKind.i64.wrap (IntKind.i64.wrap (t * dlP p i) * wsP p p.wants.length) ≤ IntKind.i64.wrap ((p.wants.getD i default).weight * rsP p p.wants.length)) := by
    rw [u1, u2, u3]
    rfl
  rw [hq]
  have hn := hp.nw
  clear hdd h u1 u2 u3 hq
  generalize dlP p i = dl at *
  generalize rsP p p.wants.length = rs at *
  generalize wsP p p.wants.length = ws at *
  generalize ag0 p = a0 at *
  generalize p.wants = wants at *
  obtain ⟨w, hw⟩ : ∃ x, x = wants.getD i default := ⟨_, rfl⟩
  rw [← hw] at hOi hDi ⊢
  generalize sumsOf a0 = s at *
  generalize sumsOf w.need = s' at *
  obtain ⟨ta, tb, tc, td⟩ := s
  obtain ⟨sa, sb, sc, sd⟩ := s'
  (refine XC.of_body ([]) Try.func43 rfl Try.ntmps43 mixed (T := [(2, ti2), (31, ti31), (47, ti47), (88, ti88), (123, ti123)]) (.cons tok2 (.cons tok31 (.cons tok47 (.cons tok88 (.cons tok123 .nil))))) (by kernel_rfl) (by simp) rfl rfl rfl rfl rfl ?_; rintro o ho P hP c K hK; have hm : P.follows .mixedOrders = true := hP ▸ mixed; have hT : TOk P [(2, ti2), (31, ti31), (47, ti47), (88, ti88), (123, ti123)] := hP ▸ (.cons tok2 (.cons tok31 (.cons tok47 (.cons tok88 (.cons tok123 .nil))))); (try rw [← ho]); cbv; (repeat (refine StopN.mk ?_; cbv)))
  have en : o.nth wants i = w := by rw [ho, real_nth, hw]
  rw [← en, ← ho] at hOi
  rw [← ho] at hOa hRe hDi
  repeat' (first | (refine Br.mk (fun hb => ?_) (fun hb => ?_) <;> ((try rw [ho] at hb); (try dsimp only [Ar.real, IX.vo] at hb); (try simp only [QN12] at hb); (try simp only [QBo, beq_iff_eq, beq_eq_false_iff_ne, ne_eq] at hb))) | (refine StopN.mk ?_; cbv) | (first | refine CallI.pure hP hRe fn42 rfl rfl rfl ?_ | refine CallI.pure hP hOi fn45 rfl rfl rfl ?_ | refine CallI.pure hP hOa fn45 rfl rfl rfl ?_ | refine CallI.pure hP hDi fn95 rfl rfl rfl ?_); cbv | ((first | refine CallI.pure hP (x_r06Of _ ‹_›) fn45 (by first | rfl | (rw [ho]; done) | (rw [ho]; rfl)) (by rfl) (by first | rfl | (rw [ho]; done) | (rw [ho]; rfl)) ?_ | refine CallN.pure hP (x_r06Of _ ‹_›) fn45 (by first | rfl | (rw [ho]; done) | (rw [ho]; rfl)) (by rfl) (by first | rfl | (rw [ho]; done) | (rw [ho]; rfl)) ?_); (try rw [← ho]); generalize hr : sumsOf _ = r; (try rw [ho] at hr); (try dsimp only [Ar.real, IX.vo] at hr); (try simp only [QN12] at hr); cbv) | (refine hK _ _ ?_) | (refine NeedT.mk ?_ ?_))
  any_goals (((try clear hR3); (try clear hR2); (try clear hR); (try clear hK); (try simp only [ncCast] at *); (try simp only [castI_eq] at *); (try rw [ho]); (try dsimp only [Ar.real, IX.vo, IX.val, BX.val, IX.toN]); (try simp only [QN12]); (try simp only [decide_eq_true_eq]); (all_goals (repeat rw [wrap_i64 (by omega) (by omega)])); (all_goals (first | omega | (simp only [Int.ofNat_eq_natCast]; omega)))); done)
  exact .b (by rw [ho, hw]; rfl)
end Go.Proofs.Ytddgcegimmcbgaa.Sy

/-
  The law BoundUnder. Plain theorems.
-/
set_option linter.unusedSectionVars false
namespace Go.Proofs.Ytddgcegimmcbgaa.Sy
open Go Go.Sy Go.Proofs.Ytddgcegimmcbgaa
set_option maxRecDepth 100000
set_option maxHeartbeats 8000000
set_option linter.unusedVariables false
set_option linter.unusedSimpArgs false

theorem XC_args {P : Program} {f : FuncId} {args args' : List X} {O O' : List OX} {r : X} (h : XC P f args O r O') (e : ∀ c, X.toDL c args = X.toDL c args') : XC P f args' O r O' := by
  intro c h1 h2
  rw [← e c]
  exact h c h1 h2
theorem toDL_ii {c : Cx} {k k' : IntKind} {x y a b : IX} (h : x.val = a.val) (h' : y.val = b.val) : X.toDL c [.i k x, .i k' y] = X.toDL c [.i k a, .i k' b] := by simp only [X.toDL, X.toD, h, h']
/-! ### The tasks that the law is told -/
def sing (t : Int) : List Int := [t]
def resOf (tasks : List Int) : Res := ⟨[], tasks.map sing, []⟩
theorem map_getD (l : List Int) {i : Nat} (h : i < l.length) : (l.map sing).getD i default = [l.getD i 0] := by
  simp [List.getD_eq_getElem?_getD, h, sing]
theorem resOf_row (l : List Int) (i : Nat) : ((l.map sing).getD i default).length ≤ 1 := by
  by_cases h : i < l.length
  · rw [map_getD l h]
    exact Nat.le_refl 1
  · rw [List.getD_eq_getElem?_getD, List.getElem?_eq_none (by simpa using h)]
    exact Nat.zero_le 1
theorem tk_of {l : List Int} {i : Nat} (h : i < l.length) : tk (resOf l) i = l.getD i 0 := by
  unfold tk resOf
  dsimp only
  rw [map_getD l h]
  rfl
def ftTo (p : Prof) (l : List Int) : Nat → Bool
  | 0 => decide (l.length = p.wants.length)
  | i + 1 => ftTo p l i && decide (0 ≤ l.getD i 0)
theorem ftTo_iff (p : Prof) (l : List Int) : ∀ i, ftTo p l i = true ↔ l.length = p.wants.length ∧ ∀ j, j < i → 0 ≤ l.getD j 0
  | 0 => by simp [ftTo]
  | i + 1 => by
    simp only [ftTo, Bool.and_eq_true, ftTo_iff p l i, decide_eq_true_eq]
    refine ⟨fun ⟨⟨h0, h1⟩, h2⟩ => ⟨h0, fun j hj => ?_⟩, fun ⟨h0, h⟩ => ⟨⟨h0, fun j hj => h j (by omega)⟩, h i (by omega)⟩⟩
    rcases Nat.lt_or_ge j i with h5 | h5
    · exact h1 j h5
    · obtain rfl : j = i := by omega
      exact h2
theorem fits_eq (p : Prof) {l : List Int} {B : Int} (hB : B ≤ 4096) (h : ∀ j, j < l.length → l.getD j 0 ≤ B) : fitsR p (resOf l) = ftTo p l l.length := by
  have e : (fitsR p (resOf l) = true) ↔ ftTo p l l.length = true := by
    rw [ftTo_iff]
    unfold fitsR
    have hl : (resOf l).tasks.length = l.length := by simp [resOf]
    rw [Bool.and_eq_true, decide_eq_true_eq, hl, nextAt_isNone]
    have ht : ∀ j, j < l.length → ((!tOk ((resOf l).tasks.getD j default)) = false ↔ 0 ≤ l.getD j 0) := fun j hj => by
      have e1 : (resOf l).tasks.getD j default = [l.getD j 0] := map_getD l hj
      have := h j hj
      rw [e1]
      unfold tOk
      simp only [Bool.not_eq_false', Bool.and_eq_true, decide_eq_true_eq]
      constructor
      · intro hh
        exact hh.2.1
      · intro hh
        exact ⟨rfl, hh, show l.getD j 0 ≤ 4096 by omega⟩
    constructor
    · rintro ⟨h1, h2⟩
      exact ⟨h2, fun j hj => (ht j hj).1 (h1 j hj)⟩
    · rintro ⟨h1, h2⟩
      exact ⟨fun j hj => (ht j hj).2 (h2 j hj), h1⟩
  exact Bool.eq_iff_iff.2 e
theorem undTo_pre (p : Prof) (r : Res) (i : Nat) : ∀ m, i ≤ m → ∃ l, undTo p r m = undTo p r i ++ l
  | 0, h => by
    obtain rfl : i = 0 := by omega
    exact ⟨[], by simp⟩
  | m + 1, h => by
    by_cases e : i = m + 1
    · subst e
      exact ⟨[], by simp⟩
    · obtain ⟨l, hl⟩ := undTo_pre p r i m (by omega)
      simp only [undTo, hl]
      split
      · exact ⟨l ++ [(m : Int)], by simp⟩
      · exact ⟨l, rfl⟩
theorem undTo_hit {p : Prof} {r : Res} {i m : Nat} (h : i < m) (hu : underB p r i = true) : (undTo p r i).length < (undTo p r m).length ∧ (undTo p r m).getD (undTo p r i).length 0 = (i : Int) := by
  obtain ⟨l, hl⟩ := undTo_pre p r (i + 1) m h
  have e : undTo p r (i + 1) = undTo p r i ++ [(i : Int)] := if_pos hu
  rw [hl, e]
  simp [List.getD_eq_getElem?_getD]
structure StBu where
  i : Nat
  rv : Nat
  f : Bool
  dl : List (List Int)
structure InBu (p : Prof) (l : List Int) (s : StBu) : Prop where
  i : s.i ≤ l.length
  f : s.f = ftTo p l s.i
  dl : s.dl = (l.take s.i).map sing
  le : ∀ j, j < s.i → l.getD j 0 ≤ 100
structure StBv where
  i : Nat
  n : Nat
theorem x_BoundUnder (p : Prof) (hp : ProfOk p) (hwb : ∀ i, i64B (p.wants.getD i default).weight) (tasks : List Int) (ht : tasks.length ≤ 1048576) : XC Try.prog 8 [.agg (Prof.X Ar.real p), .ro (SL Ar.real encI tasks)] [] (xb true) [] := by
  have hWk := x_works36
  have hOw := x_Own p.wants hp.nw
  have hSm := x_r36Small p.ags hp.na hp.a
  have hOn := x_r36One p hp
  have hOa := x_r06Of (ag0 p) (hp.a 0)
  have hUn : XC Try.prog 39 [.agg (Prof.X Ar.real p), .agg [.ro (.lits []), .ro (SL Ar.real IV.X (tasks.map sing)), .ro (.lits [])]] [] (.ro (SL Ar.real encI (undR p (resOf tasks)))) [] :=
    XC_args (x_Under p hp hwb (resOf tasks) (by simpa [resOf] using ht) fun i => Nat.le_trans (resOf_row tasks i) (by decide)) fun c => rfl
  have hF0 := x_Floor p hp hwb 0
  have hI0 : ∀ rv, InBu p tasks ⟨0, rv, decide (tasks.length = p.wants.length), []⟩ := fun rv => ⟨Nat.zero_le _, rfl, rfl, fun j hj => absurd hj (Nat.not_lt_zero j)⟩
  -- one agent with little
  have hone := one_eq (p := p)
  have hL : smallA p.ags = true → p.wants.length ≤ 6 → rOne p = true → OneL p := fun h1 h2 h3 => ⟨(hone h1).trans h3, h1, h2⟩
  have hff := fun h => fits_eq p (l := tasks) (B := 100) (by decide) h
  have a1 : smallA p.ags = true → (rOne p = false ∨ fitsR p (resOf tasks) = false) → undR p (resOf tasks) = [] := fun h h' => if_neg (by
    rw [hone h]
    rcases h' with h' | h'
    · rw [h']; simp
    · rw [h']; simp)
  have a2 : smallA p.ags = true → rOne p = true → fitsR p (resOf tasks) = true → undR p (resOf tasks) = undTo p (resOf tasks) p.wants.length := fun h h1 h2 => if_pos ⟨by rw [hone h]; exact h1, h2⟩
  have a3 : smallA p.ags = true → p.wants.length ≤ 6 → (floorT p 0).2 = rOne p := fun h h6 => by
    cases e : rOne p with
    | true =>
      have hL1 := hL h h6 e
      have := (hL1.floor (i := 0) (by have := hL1.n; omega)).1
      rw [show ((0 : Nat) : Int) = 0 from rfl] at this
      rw [this]
    | false =>
      unfold floorT
      rw [hone h, e, if_neg (by simp)]
  have b1 := fun (h : OneL p) => x_r36Rest p hp h
  have b2 := fun (h : OneL p) i (hi : i < p.wants.length) t ht => x_r36Under p hp h i hi t ht
  have b3 : ∀ (h : OneL p) i, i < p.wants.length → XC Try.prog 41 [.agg (Prof.X Ar.real p), xn i] [] (.tup [.agg [xi (lowF ((p.wants.getD i default).weight * max 0 (rsP p p.wants.length)).toNat (wsP p p.wants.length * whP p).toNat).num, xi (lowF ((p.wants.getD i default).weight * max 0 (rsP p p.wants.length)).toNat (wsP p p.wants.length * whP p).toNat).den], .b .t]) [] := fun h i hi =>
    x_res36' (x_Floor p hp hwb (i : Int)) fun c => by rw [(h.floor hi).1]; rfl
  have b4 := fun (h : OneL p) i (hi : i < p.wants.length) => x_r36Low ((p.wants.getD i default).weight * max 0 (rsP p p.wants.length)) (wsP p p.wants.length * whP p) (by have := (h.floor hi).2.1; omega) (by have := (h.floor hi).2.2; omega)
  have b5 := fun (h : OneL p) => x_Whole _ h.lit
  have b6 : ∀ (h : OneL p) i, i < p.wants.length → IntKind.i64.wrap ((p.wants.getD i default).weight * max 0 (rsP p p.wants.length)) = (p.wants.getD i default).weight * max 0 (rsP p p.wants.length) ∧ IntKind.i64.wrap (wsP p p.wants.length * whP p) = wsP p p.wants.length * whP p := fun h i hi => by
    have h1 := (h.floor hi).2.1
    have h2 := (h.floor hi).2.2
    exact ⟨wrap_i64 (by omega) (by omega), wrap_i64 (by omega) (by omega)⟩
  have b7 : ∀ (h : OneL p), fitsR p (resOf tasks) = true → ∀ i, i < p.wants.length → underB p (resOf tasks) i = rUnd p i (tasks.getD i 0) ∧ i < tasks.length ∧ 0 ≤ tasks.getD i 0 := fun h h1 i hi => by
    have hl : i < tasks.length := by
      have := (fitsR_at h1).1
      simp [resOf] at this
      omega
    have := h.under h1 hi
    have h0 := ((fitsR_at h1).2 i hi).2.1
    rw [tk_of hl] at this h0
    exact ⟨this, hl, h0⟩
  have b8 := fun (h : OneL p) => h.n
  have b9 := fun (h : OneL p) => (oneR_true h.one).2.1
  have c0 : undTo p (resOf tasks) 0 = [] := rfl
  have c1 : ∀ i, undTo p (resOf tasks) (i + 1) = if underB p (resOf tasks) i = true then undTo p (resOf tasks) i ++ [(i : Int)] else undTo p (resOf tasks) i := fun _ => rfl
  have c2 := fun i (h : i < p.wants.length) hu => undTo_hit (p := p) (r := resOf tasks) h hu
  have c3 := undTo_len p (resOf tasks)
  have hag : ∀ (o : Ar), o = Ar.real → o.nth p.ags 0 = ag0 p := fun o ho => by rw [ho, real_nth]; rfl
  have hft : ∀ i, ftTo p tasks (i + 1) = (ftTo p tasks i && decide (0 ≤ tasks.getD i 0)) := fun _ => rfl
  have hpw := hp.nw
  have hpa := hp.na
  clear hone hwb
  have hwe : whT (sumsOf (ag0 p)) 4 = whP p := rfl
  simp only [hwe] at b5
  clear hwe
  generalize smallA p.ags = sm at *
  generalize rOne p = on at *
  generalize undR p (resOf tasks) = ul at *
  generalize undTo p (resOf tasks) = M at *
  generalize fitsR p (resOf tasks) = fr at *
  generalize underB p (resOf tasks) = uB at *
  generalize rUnd p = rU at *
  generalize rsP p p.wants.length = rest at *
  generalize wsP p p.wants.length = wts at *
  generalize whP p = wh at *
  generalize floorT p 0 = f0 at *
  generalize sumsOf (ag0 p) = sa at *
  generalize ag0 p = a0 at *
  obtain ⟨⟨f0n, f0d⟩, f0b⟩ := f0
  obtain ⟨sa1, sa2, sa3, sa4⟩ := sa
  generalize hOL : OneL p = OLp at *
  clear hOL
  generalize hInv : InBu p tasks = Inv at *
  have hmkI : ∀ s : StBu, Inv s ↔ s.i ≤ tasks.length ∧ s.f = ftTo p tasks s.i ∧ s.dl = (tasks.take s.i).map sing ∧ ∀ j, j < s.i → tasks.getD j 0 ≤ 100 := fun s => by
    rw [← hInv]
    exact ⟨fun h => ⟨h.i, h.f, h.dl, h.le⟩, fun h => ⟨h.1, h.2.1, h.2.2.1, h.2.2.2⟩⟩
  clear hInv
  generalize ftTo p tasks = fT at *
  obtain ⟨ags, wants, lo⟩ := p
  obtain ⟨loa, lob, loc, lod⟩ := lo
  clear hp
  dsimp only at *
  unfold S4.X at *
  dsimp only at *
  (refine XC.of_body ([(12, [(0, 6), (1, 6), (0, 7), (1, 7)]), (23, []), (28, [(3, 17), (6, 17), (7, 17), (8, 17), (3, 18), (6, 18), (7, 18), (8, 18), (3, 20)])]) Try.func8 rfl Try.ntmps8 mixed (T := [(2, ti2), (3, ti3), (4, ti4), (31, ti31), (34, ti34), (42, ti42), (43, ti43), (47, ti47), (52, ti52), (57, ti57), (64, ti64), (75, ti75), (77, ti77), (78, ti78), (80, ti80), (88, ti88), (123, ti123), (132, ti132)]) (.cons tok2 (.cons tok3 (.cons tok4 (.cons tok31 (.cons tok34 (.cons tok42 (.cons tok43 (.cons tok47 (.cons tok52 (.cons tok57 (.cons tok64 (.cons tok75 (.cons tok77 (.cons tok78 (.cons tok80 (.cons tok88 (.cons tok123 (.cons tok132 .nil)))))))))))))))))) (by kernel_rfl) (by simp) rfl rfl rfl rfl rfl ?_; rintro o ho P hP c K hK; have hm : P.follows .mixedOrders = true := hP ▸ mixed; have hT : TOk P [(2, ti2), (3, ti3), (4, ti4), (31, ti31), (34, ti34), (42, ti42), (43, ti43), (47, ti47), (52, ti52), (57, ti57), (64, ti64), (75, ti75), (77, ti77), (78, ti78), (80, ti80), (88, ti88), (123, ti123), (132, ti132)] := hP ▸ (.cons tok2 (.cons tok3 (.cons tok4 (.cons tok31 (.cons tok34 (.cons tok42 (.cons tok43 (.cons tok47 (.cons tok52 (.cons tok57 (.cons tok64 (.cons tok75 (.cons tok77 (.cons tok78 (.cons tok80 (.cons tok88 (.cons tok123 (.cons tok132 .nil)))))))))))))))))); (try rw [← ho]); cbv; (repeat (refine StopN.mk ?_; cbv)))
  rw [← ho] at hOw hSm hOn hUn hF0 hOa
  repeat' (first | (refine Br.mk (fun hb => ?_) (fun hb => ?_) <;> ((try rw [ho] at hb); (try dsimp only [Ar.real, IX.vo] at hb); (try simp only [QN12] at hb); (try simp only [QBo, beq_iff_eq, beq_eq_false_iff_ne, ne_eq] at hb))) | (refine StopN.mk ?_; cbv) | (first | refine CallI.pure hP hOw fn22 rfl rfl rfl ?_ | refine CallI.pure hP hSm fn38 rfl rfl rfl ?_); cbv | ((first | refine CallI.pure hP (x_Own _ ‹_›) fn22 (by first | rfl | (rw [ho]; done) | (rw [ho]; rfl)) (by rfl) (by first | rfl | (rw [ho]; done) | (rw [ho]; rfl)) ?_ | refine CallN.pure hP (x_Own _ ‹_›) fn22 (by first | rfl | (rw [ho]; done) | (rw [ho]; rfl)) (by rfl) (by first | rfl | (rw [ho]; done) | (rw [ho]; rfl)) ?_); (try rw [← ho]); cbv) | ((first | refine CallI.pure hP (x_works36) fn37 (by first | rfl | (rw [ho]; done) | (rw [ho]; rfl)) (by rfl) (by first | rfl | (rw [ho]; done) | (rw [ho]; rfl)) ?_ | refine CallN.pure hP (x_works36) fn37 (by first | rfl | (rw [ho]; done) | (rw [ho]; rfl)) (by rfl) (by first | rfl | (rw [ho]; done) | (rw [ho]; rfl)) ?_); (try rw [← ho]); cbv) | ((first | refine CallI.pure hP (x_r36Small _ ‹_›) fn38 (by first | rfl | (rw [ho]; done) | (rw [ho]; rfl)) (by rfl) (by first | rfl | (rw [ho]; done) | (rw [ho]; rfl)) ?_ | refine CallN.pure hP (x_r36Small _ ‹_›) fn38 (by first | rfl | (rw [ho]; done) | (rw [ho]; rfl)) (by rfl) (by first | rfl | (rw [ho]; done) | (rw [ho]; rfl)) ?_); (try rw [← ho]); generalize hr : smallA _ = r; (try rw [ho] at hr); (try dsimp only [Ar.real, IX.vo] at hr); (try simp only [QN12] at hr); cbv) | ((first | refine CallI.pure hP (x_r06Of _ ‹_›) fn45 (by first | rfl | (rw [ho]; done) | (rw [ho]; rfl)) (by rfl) (by first | rfl | (rw [ho]; done) | (rw [ho]; rfl)) ?_ | refine CallN.pure hP (x_r06Of _ ‹_›) fn45 (by first | rfl | (rw [ho]; done) | (rw [ho]; rfl)) (by rfl) (by first | rfl | (rw [ho]; done) | (rw [ho]; rfl)) ?_); (try rw [← ho]); generalize hr : sumsOf _ = r; (try rw [ho] at hr); (try dsimp only [Ar.real, IX.vo] at hr); (try simp only [QN12] at hr); cbv) | (refine hK _ _ ?_) | (refine NeedT.mk ?_ ?_))
  iterate 4
    · exact .b rfl
  have hsm : sm = true := by assumption
  have hw6 : wants.length ≤ 6 := by ((try clear hR3); (try clear hR2); (try clear hR); (try clear hK); (try simp only [ncCast] at *); (try simp only [castI_eq] at *)); omega
  have ht6 : tasks.length ≤ 6 := by ((try clear hR3); (try clear hR2); (try clear hR); (try clear hK); (try simp only [ncCast] at *); (try simp only [castI_eq] at *)); omega
  replace hL := hL hsm hw6
  replace a1 := a1 hsm
  replace a2 := a2 hsm
  replace a3 := a3 hsm hw6
  clear hSm hOw
  obtain ⟨f00, hf00⟩ : ∃ x, x = decide (tasks.length = wants.length) := ⟨_, rfl⟩
  have hI1 : Inv ⟨0, 0, f00, []⟩ := by rw [hf00]; exact hI0 0
  refine LoopN.ghostv 1 1 34 1 80 _ rfl rfl ?_
  refine LoopN.over (o := o) (D := [(12, [(0, 6), (1, 6), (0, 7), (1, 7)]), (23, []), (28, [(3, 17), (6, 17), (7, 17), (8, 17), (3, 18), (6, 18), (7, 18), (8, 18), (3, 20)])]) ho hm hT (by kernel_rfl) (fun s : StBu => [(8, xn s.i), (7, xb s.f)]) (fun s => [(1, .var [.v (.slice none 0 0), .own (.loc 2) s.rv, .v (.slice none 0 0)] 80), (2, .row s.rv 34 1 (SL o IV.X s.dl))]) (fun _ => []) Inv (fun s => tasks.length - s.i) ⟨0, 0, f00, []⟩ hI1 ?_ ?_
  · refine ⟨(by cbv), by cbv; repeat' (first | trivial | exact EqX.rfl' | exact EqO.rfl' | apply And.intro | ((try clear hR3); (try clear hR2); (try clear hR); (try clear hK); (try simp only [ncCast] at *); (try simp only [castI_eq] at *); refine EqX.i ?_; (try rw [ho]); (try dsimp only [Ar.real, IX.vo, IX.val, BX.val, IX.toN]); (try simp only [QN12]); (repeat rw [wrap_i64 (by omega) (by omega)]); omega) | (exact EqO.row rfl (rows_nil_SL o ho IV.X)) | (refine EqX.b ?_; rw [ho, hf00]; rfl)), by cbv; repeat' (first | trivial | exact EqO.rfl' | apply And.intro | (exact EqO.row rfl (rows_nil_SL o ho IV.X)) | (refine EqX.b ?_; rw [ho, hf00]; rfl)), by cbv; repeat' (first | trivial | exact EqO.rfl' | apply And.intro | (exact EqO.row rfl (rows_nil_SL o ho IV.X)) | (refine EqX.b ?_; rw [ho, hf00]; rfl))⟩
  · rintro ⟨i, rv, f, dl⟩ hin R hR
    obtain ⟨hi, hf, hdl, hle⟩ := (hmkI _).1 hin
    dsimp only at hi hf hdl hle
    have hft1 := hft i
    rw [← hf] at hft1
    have en : o.nth tasks i = tasks.getD i 0 := by rw [ho]; rfl
    obtain ⟨f', hf'⟩ : ∃ x, x = fT (i + 1) := ⟨_, rfl⟩
    rw [← hf'] at hft1
    obtain ⟨dl', hdl'⟩ : ∃ x, x = (tasks.take (i + 1)).map sing := ⟨_, rfl⟩
    have hdn : i < tasks.length → dl' = dl ++ [sing (tasks.getD i 0)] := fun h => by
      rw [hdl', hdl, take_getD h, List.map_append]
      rfl
    have hnx : i < tasks.length → tasks.getD i 0 ≤ 100 → Inv ⟨i + 1, rv + 1, f', dl'⟩ := fun h h' => (hmkI _).2 ⟨h, hf', hdl', fun j hj => by
      rcases Nat.lt_or_ge j i with h5 | h5
      · exact hle j h5
      · obtain rfl : j = i := by have : j < i + 1 := hj; omega
        exact h'⟩
    have hdll : dl.length = i := by rw [hdl, List.length_map, List.length_take]; omega
    have hfT : f = true → decide (0 ≤ tasks.getD i 0) = f' := fun h => by rw [hft1, h, Bool.true_and]
    have hfF : f = false → false = f' := fun h => by rw [hft1, h, Bool.false_and]
    have hfx : tasks.length ≤ i → f = fr ∧ dl = tasks.map sing := fun h => by
      obtain rfl : i = tasks.length := by omega
      exact ⟨by rw [hff hle, hf], by rw [hdl, List.take_length]⟩
    cbv
    repeat' (first | (refine Br.mk (fun hb => ?_) (fun hb => ?_) <;> ((try rw [ho] at hb); (try dsimp only [Ar.real, IX.vo] at hb); (try simp only [QN12] at hb); (try simp only [QBo, beq_iff_eq, beq_eq_false_iff_ne, ne_eq] at hb))) | (refine StopN.mk ?_; cbv) | ((first | refine CallI.pure hP (x_Own _ ‹_›) fn22 (by first | rfl | (rw [ho]; done) | (rw [ho]; rfl)) (by rfl) (by first | rfl | (rw [ho]; done) | (rw [ho]; rfl)) ?_ | refine CallN.pure hP (x_Own _ ‹_›) fn22 (by first | rfl | (rw [ho]; done) | (rw [ho]; rfl)) (by rfl) (by first | rfl | (rw [ho]; done) | (rw [ho]; rfl)) ?_); (try rw [← ho]); cbv) | ((first | refine CallI.pure hP (x_works36) fn37 (by first | rfl | (rw [ho]; done) | (rw [ho]; rfl)) (by rfl) (by first | rfl | (rw [ho]; done) | (rw [ho]; rfl)) ?_ | refine CallN.pure hP (x_works36) fn37 (by first | rfl | (rw [ho]; done) | (rw [ho]; rfl)) (by rfl) (by first | rfl | (rw [ho]; done) | (rw [ho]; rfl)) ?_); (try rw [← ho]); cbv) | ((first | refine CallI.pure hP (x_r36Small _ ‹_›) fn38 (by first | rfl | (rw [ho]; done) | (rw [ho]; rfl)) (by rfl) (by first | rfl | (rw [ho]; done) | (rw [ho]; rfl)) ?_ | refine CallN.pure hP (x_r36Small _ ‹_›) fn38 (by first | rfl | (rw [ho]; done) | (rw [ho]; rfl)) (by rfl) (by first | rfl | (rw [ho]; done) | (rw [ho]; rfl)) ?_); (try rw [← ho]); generalize hr : smallA _ = r; (try rw [ho] at hr); (try dsimp only [Ar.real, IX.vo] at hr); (try simp only [QN12] at hr); cbv) | ((first | refine CallI.pure hP (x_r06Of _ ‹_›) fn45 (by first | rfl | (rw [ho]; done) | (rw [ho]; rfl)) (by rfl) (by first | rfl | (rw [ho]; done) | (rw [ho]; rfl)) ?_ | refine CallN.pure hP (x_r06Of _ ‹_›) fn45 (by first | rfl | (rw [ho]; done) | (rw [ho]; rfl)) (by rfl) (by first | rfl | (rw [ho]; done) | (rw [ho]; rfl)) ?_); (try rw [← ho]); generalize hr : sumsOf _ = r; (try rw [ho] at hr); (try dsimp only [Ar.real, IX.vo] at hr); (try simp only [QN12] at hr); cbv) | (refine hK _ _ ?_) | (refine NeedT.mk ?_ ?_))
    any_goals (((try clear hR3); (try clear hR2); (try clear hR); (try clear hK); (try simp only [ncCast] at *); (try simp only [castI_eq] at *); (try rw [ho]); (try dsimp only [Ar.real, IX.vo, IX.val, BX.val, IX.toN]); (try simp only [QN12]); (try simp only [decide_eq_true_eq]); (all_goals (repeat rw [wrap_i64 (by omega) (by omega)])); (all_goals (first | omega | (simp only [Int.ofNat_eq_natCast]; omega)))); done)
    · exact .b rfl
    · refine hR _ ⟨i + 1, rv + 1, f', dl'⟩ (by show tasks.length - (i + 1) < tasks.length - i; omega) (hnx (by assumption) (by assumption)) ?_
      refine ⟨(by cbv), by cbv; repeat' (first | trivial | exact EqX.rfl' | exact EqO.rfl' | apply And.intro | ((try clear hR3); (try clear hR2); (try clear hR); (try clear hK); (try simp only [ncCast] at *); (try simp only [castI_eq] at *); refine EqX.i ?_; (try rw [ho]); (try dsimp only [Ar.real, IX.vo, IX.val, BX.val, IX.toN]); (try simp only [QN12]); (repeat rw [wrap_i64 (by omega) (by omega)]); omega) | (refine EqX.b ?_; rw [ho]; exact hfT (by assumption)) | (refine EqO.snoc ho IV.X _ _ _ _ rfl (hdn (by assumption)) ?_; rw [ho]; rfl)), by cbv; repeat' (first | trivial | exact EqO.rfl' | apply And.intro | (refine EqX.b ?_; rw [ho]; exact hfT (by assumption)) | (refine EqO.snoc ho IV.X _ _ _ _ rfl (hdn (by assumption)) ?_; rw [ho]; rfl)), by cbv; repeat' (first | trivial | exact EqO.rfl' | apply And.intro | (refine EqX.b ?_; rw [ho]; exact hfT (by assumption)) | (refine EqO.snoc ho IV.X _ _ _ _ rfl (hdn (by assumption)) ?_; rw [ho]; rfl))⟩
    · refine hR _ ⟨i + 1, rv + 1, f', dl'⟩ (by show tasks.length - (i + 1) < tasks.length - i; omega) (hnx (by assumption) (by assumption)) ?_
      refine ⟨(by cbv), by cbv; repeat' (first | trivial | exact EqX.rfl' | exact EqO.rfl' | apply And.intro | ((try clear hR3); (try clear hR2); (try clear hR); (try clear hK); (try simp only [ncCast] at *); (try simp only [castI_eq] at *); refine EqX.i ?_; (try rw [ho]); (try dsimp only [Ar.real, IX.vo, IX.val, BX.val, IX.toN]); (try simp only [QN12]); (repeat rw [wrap_i64 (by omega) (by omega)]); omega) | (refine EqX.b ?_; exact hfF (by assumption)) | (refine EqO.snoc ho IV.X _ _ _ _ rfl (hdn (by assumption)) ?_; rw [ho]; rfl)), by cbv; repeat' (first | trivial | exact EqO.rfl' | apply And.intro | (refine EqX.b ?_; exact hfF (by assumption)) | (refine EqO.snoc ho IV.X _ _ _ _ rfl (hdn (by assumption)) ?_; rw [ho]; rfl)), by cbv; repeat' (first | trivial | exact EqO.rfl' | apply And.intro | (refine EqX.b ?_; exact hfF (by assumption)) | (refine EqO.snoc ho IV.X _ _ _ _ rfl (hdn (by assumption)) ?_; rw [ho]; rfl))⟩
    · obtain ⟨rfl, rfl⟩ := hfx (by ((try clear hR3); (try clear hR2); (try clear hR); (try clear hK); (try simp only [ncCast] at *); (try simp only [castI_eq] at *)); omega)
      refine CallI.frzv 2 1 1 1 1 rfl rfl rfl rfl rfl ?_
      refine CallI.pure hP hUn fn39 rfl rfl rfl ?_
      cbv
      repeat' (first | (refine Br.mk (fun hb => ?_) (fun hb => ?_) <;> ((try rw [ho] at hb); (try dsimp only [Ar.real, IX.vo] at hb); (try simp only [QN12] at hb); (try simp only [QBo, beq_iff_eq, beq_eq_false_iff_ne, ne_eq] at hb))) | (refine StopN.mk ?_; cbv) | (first | refine CallI.pure hP hOn fn40 rfl rfl rfl ?_ | refine CallI.pure hP hF0 fn41 rfl rfl rfl ?_ | refine CallN.pure hP hWk fn37 rfl rfl rfl ?_ | refine CallI.pure hP hWk fn37 rfl rfl rfl ?_); cbv | ((first | refine CallI.pure hP (x_Own _ ‹_›) fn22 (by first | rfl | (rw [ho]; done) | (rw [ho]; rfl)) (by rfl) (by first | rfl | (rw [ho]; done) | (rw [ho]; rfl)) ?_ | refine CallN.pure hP (x_Own _ ‹_›) fn22 (by first | rfl | (rw [ho]; done) | (rw [ho]; rfl)) (by rfl) (by first | rfl | (rw [ho]; done) | (rw [ho]; rfl)) ?_); (try rw [← ho]); cbv) | ((first | refine CallI.pure hP (x_works36) fn37 (by first | rfl | (rw [ho]; done) | (rw [ho]; rfl)) (by rfl) (by first | rfl | (rw [ho]; done) | (rw [ho]; rfl)) ?_ | refine CallN.pure hP (x_works36) fn37 (by first | rfl | (rw [ho]; done) | (rw [ho]; rfl)) (by rfl) (by first | rfl | (rw [ho]; done) | (rw [ho]; rfl)) ?_); (try rw [← ho]); cbv) | ((first | refine CallI.pure hP (x_r36Small _ ‹_›) fn38 (by first | rfl | (rw [ho]; done) | (rw [ho]; rfl)) (by rfl) (by first | rfl | (rw [ho]; done) | (rw [ho]; rfl)) ?_ | refine CallN.pure hP (x_r36Small _ ‹_›) fn38 (by first | rfl | (rw [ho]; done) | (rw [ho]; rfl)) (by rfl) (by first | rfl | (rw [ho]; done) | (rw [ho]; rfl)) ?_); (try rw [← ho]); generalize hr : smallA _ = r; (try rw [ho] at hr); (try dsimp only [Ar.real, IX.vo] at hr); (try simp only [QN12] at hr); cbv) | ((first | refine CallI.pure hP (x_r06Of _ ‹_›) fn45 (by first | rfl | (rw [ho]; done) | (rw [ho]; rfl)) (by rfl) (by first | rfl | (rw [ho]; done) | (rw [ho]; rfl)) ?_ | refine CallN.pure hP (x_r06Of _ ‹_›) fn45 (by first | rfl | (rw [ho]; done) | (rw [ho]; rfl)) (by rfl) (by first | rfl | (rw [ho]; done) | (rw [ho]; rfl)) ?_); (try rw [← ho]); generalize hr : sumsOf _ = r; (try rw [ho] at hr); (try dsimp only [Ar.real, IX.vo] at hr); (try simp only [QN12] at hr); cbv) | (refine hK _ _ ?_) | (refine NeedT.mk ?_ ?_))
      · exact .b rfl
      · exact absurd a3 hb
      · exact absurd (by rw [a1 (.inl (by assumption))]; rfl) hb
      · exact .b rfl
      · exact absurd a3 hb
      · exact absurd (by rw [a1 (.inr (by assumption))]; rfl) hb
      all_goals
        have hO1 : OLp := hL (by assumption)
        have hl1 := b9 hO1
      · ((try clear hR3); (try clear hR2); (try clear hR); (try clear hK); (try simp only [ncCast] at *); (try simp only [castI_eq] at *); (try rw [ho]); (try dsimp only [Ar.real, IX.vo, IX.val, BX.val, IX.toN]); (try simp only [QN12]); (try simp only [decide_eq_true_eq]); (all_goals (repeat rw [wrap_i64 (by omega) (by omega)])); (all_goals (first | omega | (simp only [Int.ofNat_eq_natCast]; omega))))
      have hft : f = true := by assumption
      have q2 := a2 (by assumption) hft
      have e0 := hag o ho
      replace b1 := b1 hO1
      replace b2 := b2 hO1
      replace b3 := b3 hO1
      replace b4 := b4 hO1
      replace b5 := b5 hO1
      replace b6 := b6 hO1
      replace b7 := b7 hO1 hft
      rw [← e0, ← ho] at b1
      rw [← e0] at hOa
      try rw [← ho] at b5
      have hile : ∀ j, j < tasks.length → tasks.getD j 0 ≤ 100 := fun j hj => hle j (by omega)
      clear hle hfx hnx hdn hft1 hfT hfF a1 a2 a3 hF0 hOn hUn hff b8 b9 hL hI0 hI1
      refine CallI.pure hP b1 fn42 rfl rfl rfl ?_
      cbv
      repeat' (first | (refine Br.mk (fun hb => ?_) (fun hb => ?_) <;> ((try rw [ho] at hb); (try dsimp only [Ar.real, IX.vo] at hb); (try simp only [QN12] at hb); (try simp only [QBo, beq_iff_eq, beq_eq_false_iff_ne, ne_eq] at hb))) | (refine StopN.mk ?_; cbv) | ((first | refine CallI.pure hP (x_Own _ ‹_›) fn22 (by first | rfl | (rw [ho]; done) | (rw [ho]; rfl)) (by rfl) (by first | rfl | (rw [ho]; done) | (rw [ho]; rfl)) ?_ | refine CallN.pure hP (x_Own _ ‹_›) fn22 (by first | rfl | (rw [ho]; done) | (rw [ho]; rfl)) (by rfl) (by first | rfl | (rw [ho]; done) | (rw [ho]; rfl)) ?_); (try rw [← ho]); cbv) | ((first | refine CallI.pure hP (x_works36) fn37 (by first | rfl | (rw [ho]; done) | (rw [ho]; rfl)) (by rfl) (by first | rfl | (rw [ho]; done) | (rw [ho]; rfl)) ?_ | refine CallN.pure hP (x_works36) fn37 (by first | rfl | (rw [ho]; done) | (rw [ho]; rfl)) (by rfl) (by first | rfl | (rw [ho]; done) | (rw [ho]; rfl)) ?_); (try rw [← ho]); cbv) | ((first | refine CallI.pure hP (x_r36Small _ ‹_›) fn38 (by first | rfl | (rw [ho]; done) | (rw [ho]; rfl)) (by rfl) (by first | rfl | (rw [ho]; done) | (rw [ho]; rfl)) ?_ | refine CallN.pure hP (x_r36Small _ ‹_›) fn38 (by first | rfl | (rw [ho]; done) | (rw [ho]; rfl)) (by rfl) (by first | rfl | (rw [ho]; done) | (rw [ho]; rfl)) ?_); (try rw [← ho]); generalize hr : smallA _ = r; (try rw [ho] at hr); (try dsimp only [Ar.real, IX.vo] at hr); (try simp only [QN12] at hr); cbv) | ((first | refine CallI.pure hP (x_r06Of _ ‹_›) fn45 (by first | rfl | (rw [ho]; done) | (rw [ho]; rfl)) (by rfl) (by first | rfl | (rw [ho]; done) | (rw [ho]; rfl)) ?_ | refine CallN.pure hP (x_r06Of _ ‹_›) fn45 (by first | rfl | (rw [ho]; done) | (rw [ho]; rfl)) (by rfl) (by first | rfl | (rw [ho]; done) | (rw [ho]; rfl)) ?_); (try rw [← ho]); generalize hr : sumsOf _ = r; (try rw [ho] at hr); (try dsimp only [Ar.real, IX.vo] at hr); (try simp only [QN12] at hr); cbv) | (refine hK _ _ ?_) | (refine NeedT.mk ?_ ?_))
      refine LoopN.over (o := o) (D := [(12, [(0, 6), (1, 6), (0, 7), (1, 7)]), (23, []), (28, [(3, 17), (6, 17), (7, 17), (8, 17), (3, 18), (6, 18), (7, 18), (8, 18), (3, 20)])]) ho hm hT (by kernel_rfl) (fun s : StBv => [(16, xn s.i), (13, xn s.n)]) (fun _ => []) (fun _ => []) (fun s => s.i ≤ wants.length ∧ s.n = (M s.i).length) (fun s => wants.length - s.i) ⟨0, 0⟩ ⟨Nat.zero_le _, by rw [c0]; rfl⟩ ?_ ?_
      · refine ⟨(by cbv), by cbv; repeat' (first | trivial | exact EqX.rfl' | exact EqO.rfl' | apply And.intro | ((try clear hR3); (try clear hR2); (try clear hR); (try clear hK); (try simp only [ncCast] at *); (try simp only [castI_eq] at *); refine EqX.i ?_; (try rw [ho]); (try dsimp only [Ar.real, IX.vo, IX.val, BX.val, IX.toN]); (try simp only [QN12]); (repeat rw [wrap_i64 (by omega) (by omega)]); omega)), by cbv; repeat' (first | trivial | exact EqO.rfl' | apply And.intro), by cbv; repeat' (first | trivial | exact EqO.rfl' | apply And.intro)⟩
      · rintro ⟨i2, n⟩ ⟨hi2, hn2⟩ R2 hR2
        dsimp only at hi2 hn2
        have hU := fun h => b2 i2 h (tasks.getD i2 0) ⟨(b7 i2 h).2.2, hile i2 (b7 i2 h).2.1⟩
        have hu := fun h => (b7 i2 h).1
        have hit := fun h => (b7 i2 h).2.1
        have hFl := b3 i2
        have hLo := b4 i2
        have hwr := b6 i2
        have hM1 := c1 i2
        have hM2 := c2 i2
        have hM3 := c3 i2
        rw [← hn2] at hM2 hM3
        generalize rU i2 (tasks.getD i2 0) = u at *
        generalize lowF ((wants.getD i2 default).weight * max 0 rest).toNat (wts * wh).toNat = lf at *
        obtain ⟨lfn, lfd⟩ := lf
        have en2 : o.nth wants i2 = wants.getD i2 default := by rw [ho, real_nth]
        have ent : o.nth tasks i2 = tasks.getD i2 0 := by rw [ho]; rfl
        obtain ⟨n', hn'⟩ : ∃ x, x = (M (i2 + 1)).length := ⟨_, rfl⟩
        rw [← e0, ← ent] at hU
        simp only [← ho] at hU hFl
        dsimp only at hFl hLo
        cbv
        repeat' (first | (refine Br.mk (fun hb => ?_) (fun hb => ?_) <;> ((try rw [ho] at hb); (try dsimp only [Ar.real, IX.vo] at hb); (try simp only [QN12] at hb); (try simp only [QBo, beq_iff_eq, beq_eq_false_iff_ne, ne_eq] at hb))) | (refine StopN.mk ?_; cbv) | (first | refine CallN.pure hP (hU ‹_›) fn43 rfl rfl rfl ?_ | refine CallI.pure hP (hFl ‹_›) fn41 rfl rfl rfl ?_ | refine CallN.pure hP hOa fn45 rfl rfl rfl ?_ | refine CallN.pure hP b5 fn44 rfl rfl rfl ?_ | refine CallN.pure hP hWk fn37 rfl rfl rfl ?_); cbv | ((first | refine CallI.pure hP (x_Own _ ‹_›) fn22 (by first | rfl | (rw [ho]; done) | (rw [ho]; rfl)) (by rfl) (by first | rfl | (rw [ho]; done) | (rw [ho]; rfl)) ?_ | refine CallN.pure hP (x_Own _ ‹_›) fn22 (by first | rfl | (rw [ho]; done) | (rw [ho]; rfl)) (by rfl) (by first | rfl | (rw [ho]; done) | (rw [ho]; rfl)) ?_); (try rw [← ho]); cbv) | ((first | refine CallI.pure hP (x_works36) fn37 (by first | rfl | (rw [ho]; done) | (rw [ho]; rfl)) (by rfl) (by first | rfl | (rw [ho]; done) | (rw [ho]; rfl)) ?_ | refine CallN.pure hP (x_works36) fn37 (by first | rfl | (rw [ho]; done) | (rw [ho]; rfl)) (by rfl) (by first | rfl | (rw [ho]; done) | (rw [ho]; rfl)) ?_); (try rw [← ho]); cbv) | ((first | refine CallI.pure hP (x_r36Small _ ‹_›) fn38 (by first | rfl | (rw [ho]; done) | (rw [ho]; rfl)) (by rfl) (by first | rfl | (rw [ho]; done) | (rw [ho]; rfl)) ?_ | refine CallN.pure hP (x_r36Small _ ‹_›) fn38 (by first | rfl | (rw [ho]; done) | (rw [ho]; rfl)) (by rfl) (by first | rfl | (rw [ho]; done) | (rw [ho]; rfl)) ?_); (try rw [← ho]); generalize hr : smallA _ = r; (try rw [ho] at hr); (try dsimp only [Ar.real, IX.vo] at hr); (try simp only [QN12] at hr); cbv) | ((first | refine CallI.pure hP (x_r06Of _ ‹_›) fn45 (by first | rfl | (rw [ho]; done) | (rw [ho]; rfl)) (by rfl) (by first | rfl | (rw [ho]; done) | (rw [ho]; rfl)) ?_ | refine CallN.pure hP (x_r06Of _ ‹_›) fn45 (by first | rfl | (rw [ho]; done) | (rw [ho]; rfl)) (by rfl) (by first | rfl | (rw [ho]; done) | (rw [ho]; rfl)) ?_); (try rw [← ho]); generalize hr : sumsOf _ = r; (try rw [ho] at hr); (try dsimp only [Ar.real, IX.vo] at hr); (try simp only [QN12] at hr); cbv) | (refine hK _ _ ?_) | (refine NeedT.mk ?_ ?_))
        all_goals try have hit2 := hit (by assumption)
        all_goals try (((try clear hR3); (try clear hR2); (try clear hR); (try clear hK); (try simp only [ncCast] at *); (try simp only [castI_eq] at *); (try rw [ho]); (try dsimp only [Ar.real, IX.vo, IX.val, BX.val, IX.toN]); (try simp only [QN12]); (try simp only [decide_eq_true_eq]); (all_goals (repeat rw [wrap_i64 (by omega) (by omega)])); (all_goals (first | omega | (simp only [Int.ofNat_eq_natCast]; omega)))); done)
        · have hh := hM2 (by assumption) ((hu (by assumption)).trans (by assumption))
          rw [← q2] at hh
          exfalso
          omega
        · have hh := hM2 (by assumption) ((hu (by assumption)).trans (by assumption))
          rw [← q2] at hh
          exact absurd hh.2 hb
        · refine CallN.pure hP (hLo (by assumption)) fn32 rfl rfl (toDL_ii (by rw [ho]; exact (hwr (by assumption)).1) (by rw [ho]; exact (hwr (by assumption)).2)) ?_
          cbv
          repeat' (first | (refine Br.mk (fun hb => ?_) (fun hb => ?_) <;> ((try rw [ho] at hb); (try dsimp only [Ar.real, IX.vo] at hb); (try simp only [QN12] at hb); (try simp only [QBo, beq_iff_eq, beq_eq_false_iff_ne, ne_eq] at hb))) | (refine StopN.mk ?_; cbv) | ((first | refine CallI.pure hP (x_Own _ ‹_›) fn22 (by first | rfl | (rw [ho]; done) | (rw [ho]; rfl)) (by rfl) (by first | rfl | (rw [ho]; done) | (rw [ho]; rfl)) ?_ | refine CallN.pure hP (x_Own _ ‹_›) fn22 (by first | rfl | (rw [ho]; done) | (rw [ho]; rfl)) (by rfl) (by first | rfl | (rw [ho]; done) | (rw [ho]; rfl)) ?_); (try rw [← ho]); cbv) | ((first | refine CallI.pure hP (x_works36) fn37 (by first | rfl | (rw [ho]; done) | (rw [ho]; rfl)) (by rfl) (by first | rfl | (rw [ho]; done) | (rw [ho]; rfl)) ?_ | refine CallN.pure hP (x_works36) fn37 (by first | rfl | (rw [ho]; done) | (rw [ho]; rfl)) (by rfl) (by first | rfl | (rw [ho]; done) | (rw [ho]; rfl)) ?_); (try rw [← ho]); cbv) | ((first | refine CallI.pure hP (x_r36Small _ ‹_›) fn38 (by first | rfl | (rw [ho]; done) | (rw [ho]; rfl)) (by rfl) (by first | rfl | (rw [ho]; done) | (rw [ho]; rfl)) ?_ | refine CallN.pure hP (x_r36Small _ ‹_›) fn38 (by first | rfl | (rw [ho]; done) | (rw [ho]; rfl)) (by rfl) (by first | rfl | (rw [ho]; done) | (rw [ho]; rfl)) ?_); (try rw [← ho]); generalize hr : smallA _ = r; (try rw [ho] at hr); (try dsimp only [Ar.real, IX.vo] at hr); (try simp only [QN12] at hr); cbv) | ((first | refine CallI.pure hP (x_r06Of _ ‹_›) fn45 (by first | rfl | (rw [ho]; done) | (rw [ho]; rfl)) (by rfl) (by first | rfl | (rw [ho]; done) | (rw [ho]; rfl)) ?_ | refine CallN.pure hP (x_r06Of _ ‹_›) fn45 (by first | rfl | (rw [ho]; done) | (rw [ho]; rfl)) (by rfl) (by first | rfl | (rw [ho]; done) | (rw [ho]; rfl)) ?_); (try rw [← ho]); generalize hr : sumsOf _ = r; (try rw [ho] at hr); (try dsimp only [Ar.real, IX.vo] at hr); (try simp only [QN12] at hr); cbv) | (refine hK _ _ ?_) | (refine NeedT.mk ?_ ?_))
          · exfalso
            revert hb
            simp
          · have hn3 : n' = n + 1 := by rw [hn', hM1, if_pos ((hu (by assumption)).trans (by assumption)), List.length_append, ← hn2]; rfl
            refine hR2 _ ⟨i2 + 1, n'⟩ (by show wants.length - (i2 + 1) < wants.length - i2; omega) ⟨by show i2 + 1 ≤ wants.length; omega, hn'⟩ ?_
            refine ⟨(by cbv), by cbv; repeat' (first | trivial | exact EqX.rfl' | exact EqO.rfl' | apply And.intro | ((try clear hR3); (try clear hR2); (try clear hR); (try clear hK); (try simp only [ncCast] at *); (try simp only [castI_eq] at *); refine EqX.i ?_; (try rw [ho]); (try dsimp only [Ar.real, IX.vo, IX.val, BX.val, IX.toN]); (try simp only [QN12]); (repeat rw [wrap_i64 (by omega) (by omega)]); omega)), by cbv; repeat' (first | trivial | exact EqO.rfl' | apply And.intro), by cbv; repeat' (first | trivial | exact EqO.rfl' | apply And.intro)⟩
        · refine CallN.pure hP (hLo (by assumption)) fn32 rfl rfl (toDL_ii (by rw [ho]; exact (hwr (by assumption)).1) (by rw [ho]; exact (hwr (by assumption)).2)) ?_
          cbv
          repeat' (first | (refine Br.mk (fun hb => ?_) (fun hb => ?_) <;> ((try rw [ho] at hb); (try dsimp only [Ar.real, IX.vo] at hb); (try simp only [QN12] at hb); (try simp only [QBo, beq_iff_eq, beq_eq_false_iff_ne, ne_eq] at hb))) | (refine StopN.mk ?_; cbv) | ((first | refine CallI.pure hP (x_Own _ ‹_›) fn22 (by first | rfl | (rw [ho]; done) | (rw [ho]; rfl)) (by rfl) (by first | rfl | (rw [ho]; done) | (rw [ho]; rfl)) ?_ | refine CallN.pure hP (x_Own _ ‹_›) fn22 (by first | rfl | (rw [ho]; done) | (rw [ho]; rfl)) (by rfl) (by first | rfl | (rw [ho]; done) | (rw [ho]; rfl)) ?_); (try rw [← ho]); cbv) | ((first | refine CallI.pure hP (x_works36) fn37 (by first | rfl | (rw [ho]; done) | (rw [ho]; rfl)) (by rfl) (by first | rfl | (rw [ho]; done) | (rw [ho]; rfl)) ?_ | refine CallN.pure hP (x_works36) fn37 (by first | rfl | (rw [ho]; done) | (rw [ho]; rfl)) (by rfl) (by first | rfl | (rw [ho]; done) | (rw [ho]; rfl)) ?_); (try rw [← ho]); cbv) | ((first | refine CallI.pure hP (x_r36Small _ ‹_›) fn38 (by first | rfl | (rw [ho]; done) | (rw [ho]; rfl)) (by rfl) (by first | rfl | (rw [ho]; done) | (rw [ho]; rfl)) ?_ | refine CallN.pure hP (x_r36Small _ ‹_›) fn38 (by first | rfl | (rw [ho]; done) | (rw [ho]; rfl)) (by rfl) (by first | rfl | (rw [ho]; done) | (rw [ho]; rfl)) ?_); (try rw [← ho]); generalize hr : smallA _ = r; (try rw [ho] at hr); (try dsimp only [Ar.real, IX.vo] at hr); (try simp only [QN12] at hr); cbv) | ((first | refine CallI.pure hP (x_r06Of _ ‹_›) fn45 (by first | rfl | (rw [ho]; done) | (rw [ho]; rfl)) (by rfl) (by first | rfl | (rw [ho]; done) | (rw [ho]; rfl)) ?_ | refine CallN.pure hP (x_r06Of _ ‹_›) fn45 (by first | rfl | (rw [ho]; done) | (rw [ho]; rfl)) (by rfl) (by first | rfl | (rw [ho]; done) | (rw [ho]; rfl)) ?_); (try rw [← ho]); generalize hr : sumsOf _ = r; (try rw [ho] at hr); (try dsimp only [Ar.real, IX.vo] at hr); (try simp only [QN12] at hr); cbv) | (refine hK _ _ ?_) | (refine NeedT.mk ?_ ?_))
          · exfalso
            revert hb
            simp
          · have hn3 : n' = n := by rw [hn', hM1, if_neg (by rw [hu (by assumption), ‹u = false›]; decide), ← hn2]
            refine hR2 _ ⟨i2 + 1, n'⟩ (by show wants.length - (i2 + 1) < wants.length - i2; omega) ⟨by show i2 + 1 ≤ wants.length; omega, hn'⟩ ?_
            refine ⟨(by cbv), by cbv; repeat' (first | trivial | exact EqX.rfl' | exact EqO.rfl' | apply And.intro | ((try clear hR3); (try clear hR2); (try clear hR); (try clear hK); (try simp only [ncCast] at *); (try simp only [castI_eq] at *); refine EqX.i ?_; (try rw [ho]); (try dsimp only [Ar.real, IX.vo, IX.val, BX.val, IX.toN]); (try simp only [QN12]); (repeat rw [wrap_i64 (by omega) (by omega)]); omega)), by cbv; repeat' (first | trivial | exact EqO.rfl' | apply And.intro), by cbv; repeat' (first | trivial | exact EqO.rfl' | apply And.intro)⟩
        · exact .b rfl
        · have hie : i2 = wants.length := by ((try clear hR3); (try clear hR2); (try clear hR); (try clear hK); (try simp only [ncCast] at *); (try simp only [castI_eq] at *)); omega
          exfalso
          apply hb
          rw [hn2, q2, hie]
end Go.Proofs.Ytddgcegimmcbgaa.Sy

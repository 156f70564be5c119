/-
  Bounds, in Lean alone: numbers with a sign over a denominator, in lowest terms. Plain theorems.
-/
import Derived.Test.YtddgcegimmcbgaaMd
import Derived.Test.YtddgcegimmcbgaaSyZe
set_option linter.unusedSectionVars false
set_option maxRecDepth 100000
set_option maxHeartbeats 8000000
set_option linter.unusedVariables false
set_option linter.unusedSimpArgs false
namespace Go.Proofs.Ytddgcegimmcbgaa.Sy
open Go Go.Sy Go.Proofs.Ytddgcegimmcbgaa
def LZ (z : Int) (d : Nat) : Rt := Rt.low ⟨decide (z < 0), z.natAbs, d⟩
def valZ (r : Rt) : Int := if r.m = true then -(r.n : Int) else r.n
theorem low_z (m : Bool) (n d : Nat) {z : Int} (h : z = if m = true then -(n : Int) else n) : Rt.low ⟨m, n, d⟩ = LZ z d := by
  unfold LZ
  cases m with
  | false =>
    have h1 : z = n := h
    subst h1
    rw [decide_eq_false (by omega), Int.natAbs_natCast]
  | true =>
    have h1 : z = -(n : Int) := h
    subst h1
    rw [Int.natAbs_neg, Int.natAbs_natCast]
    by_cases hn : n = 0
    · subst hn
      unfold Rt.low
      simp
    · rw [decide_eq_true (by omega)]
theorem LZ_scale (z : Int) (d k : Nat) (hk : 0 < k) : LZ (z * k) (d * k) = LZ z d := by
  unfold LZ
  have e1 : (z * (k : Int)).natAbs = z.natAbs * k := by rw [Int.natAbs_mul, Int.natAbs_natCast]
  have e2 : decide (z * (k : Int) < 0) = decide (z < 0) := by
    have : (0 : Int) < k := by omega
    congr 1
    apply propext
    constructor
    · intro h
      by_cases h0 : z < 0
      · exact h0
      · have := Int.mul_nonneg (show 0 ≤ z by omega) (show (0 : Int) ≤ k by omega)
        omega
    · intro h
      exact Int.mul_neg_of_neg_of_pos h this
  rw [e1, e2, low_scale _ _ _ _ hk]
theorem LZ_val (z : Int) (d : Nat) (hd : 0 < d) : ∃ g : Nat, 0 < g ∧ 0 < (LZ z d).d ∧ z = valZ (LZ z d) * g ∧ d = (LZ z d).d * g := by
  obtain ⟨a, b, g, hg, hb, e1, e2, q1, q2⟩ := by_gcd z.natAbs d hd
  have e : LZ z d = ⟨decide (z < 0) && decide (0 < a), a, b⟩ := by unfold LZ Rt.low; dsimp only; rw [q1, q2]
  refine ⟨g, hg, ?_⟩
  rw [e]
  refine ⟨hb, ?_, e2⟩
  unfold valZ
  dsimp only
  by_cases hz : z < 0
  · rw [decide_eq_true hz, Bool.true_and]
    have h1 : z = -(z.natAbs : Int) := by omega
    have ha : 0 < a := by
      rcases Nat.eq_zero_or_pos a with h | h
      · rw [h] at e1
        omega
      · exact h
    rw [decide_eq_true ha, if_pos rfl, h1]
    have : (z.natAbs : Int) = (a : Int) * g := by rw [e1]; push_cast; rfl
    rw [this, Int.neg_mul]
  · rw [decide_eq_false hz, Bool.false_and, if_neg (by decide)]
    have h1 : z = (z.natAbs : Int) := by omega
    rw [h1, e1]
    push_cast
    rfl
theorem add_val (r s : Rt) : r.add s = LZ (valZ r * s.d + valZ s * r.d) (r.d * s.d) := by
  obtain ⟨m, n, d⟩ := r
  obtain ⟨m', n', d'⟩ := s
  unfold Rt.add
  dsimp only
  have c1 : ((n * d' : Nat) : Int) = (n : Int) * d' := by push_cast; rfl
  have c2 : ((n' * d : Nat) : Int) = (n' : Int) * d := by push_cast; rfl
  generalize n * d' = p at *
  generalize n' * d = q at *
  have v : valZ ⟨m, n, d⟩ * (d' : Int) = (if m = true then -(p : Int) else p) ∧ valZ ⟨m', n', d'⟩ * (d : Int) = (if m' = true then -(q : Int) else q) := by
    rw [c1, c2]
    constructor
    · cases m
      · rfl
      · show -(n : Int) * d' = -((n : Int) * d')
        rw [Int.neg_mul]
    · cases m'
      · rfl
      · show -(n' : Int) * d = -((n' : Int) * d)
        rw [Int.neg_mul]
  rw [v.1, v.2]
  cases m <;> cases m'
  · rw [if_pos rfl]
    exact low_z _ _ _ (by simp)
  · rw [if_neg (by decide)]
    split
    · exact low_z _ _ _ (by simp; omega)
    · exact low_z _ _ _ (by simp; omega)
  · rw [if_neg (by decide)]
    split
    · exact low_z _ _ _ (by simp; omega)
    · exact low_z _ _ _ (by simp; omega)
  · rw [if_pos rfl]
    exact low_z _ _ _ (by simp; omega)
theorem neg_val (r : Rt) : valZ r.neg = -valZ r ∧ r.neg.d = r.d := by
  obtain ⟨m, n, d⟩ := r
  refine ⟨?_, rfl⟩
  unfold Rt.neg valZ
  dsimp only
  rcases Nat.eq_zero_or_pos n with h | h
  · subst h
    cases m <;> rfl
  · rw [decide_eq_true h]
    cases m <;> simp
theorem LZ_sub (z w : Int) (d e : Nat) (hd : 0 < d) (he : 0 < e) : (LZ z d).add (LZ w e).neg = LZ (z * e - w * d) (d * e) := by
  obtain ⟨g, hg, hp, e1, e2⟩ := LZ_val z d hd
  obtain ⟨h, hh, hq, e3, e4⟩ := LZ_val w e he
  rw [add_val, (neg_val _).1, (neg_val _).2]
  generalize LZ z d = r at *
  generalize LZ w e = s at *
  rw [← LZ_scale _ _ (g * h) (Nat.mul_pos hg hh), e1, e2, e3, e4]
  congr 1
  · push_cast
    rw [Int.add_mul, Int.neg_mul, Int.neg_mul, Int.sub_eq_add_neg]
    congr 1
    · ac_rfl
    · congr 1
      ac_rfl
  · ac_rfl
theorem whole_LZ (n : Nat) : Rt.whole n = LZ n 1 := by
  exact low_z false n 1 rfl
end Go.Proofs.Ytddgcegimmcbgaa.Sy
namespace Go.Proofs.Ytddgcegimmcbgaa.Sy
open Go Go.Sy Go.Proofs.Ytddgcegimmcbgaa
def whT (t : S4) : Nat → Int
  | 0 => 1
  | k + 1 => if 0 < t.at_ k then whT t k * t.at_ k else whT t k
def dlT (s t : S4) : Nat → Int
  | 0 => 0
  | k + 1 => if 0 < t.at_ k then max (dlT s t k) (s.at_ k * (whT t 4 / t.at_ k)) else dlT s t k
def Lit4 (t : S4) : Prop := ∀ k, t.at_ k ≤ 1000
theorem whT_bd {t : S4} (h : Lit4 t) : ∀ k, 1 ≤ whT t k ∧ whT t k ≤ (1000 ^ k : Nat)
  | 0 => ⟨Int.le_refl 1, Int.le_refl 1⟩
  | k + 1 => by
    obtain ⟨h1, h2⟩ := whT_bd h k
    have h3 := h k
    have e : ((1000 ^ (k + 1) : Nat) : Int) = ((1000 ^ k : Nat) : Int) * 1000 := by rw [Nat.pow_succ]; push_cast; rfl
    rw [e]
    generalize ((1000 ^ k : Nat) : Int) = P at *
    unfold whT
    split
    · generalize t.at_ k = x at *
      generalize whT t k = w at *
      have m1 : 1 * 1 ≤ w * x := Int.mul_le_mul h1 (by omega) (by omega) (by omega)
      have m2 : w * x ≤ P * 1000 := Int.mul_le_mul h2 h3 (by omega) (by omega)
      omega
    · omega
theorem wh_bd {t : S4} (h : Lit4 t) : 1 ≤ whT t 4 ∧ whT t 4 ≤ 1000000000000 := by
  have := whT_bd h 4
  omega
theorem whT_dvd {t : S4} {j : Nat} (h0 : 0 < t.at_ j) : ∀ k, j < k → t.at_ j ∣ whT t k
  | 0, h => by omega
  | k + 1, h => by
    rcases Nat.lt_or_ge j k with h1 | h1
    · have ih := whT_dvd h0 k h1
      unfold whT
      split
      · exact Int.dvd_trans ih (Int.dvd_mul_right _ _)
      · exact ih
    · obtain rfl : j = k := by omega
      unfold whT
      rw [if_pos h0]
      exact Int.dvd_mul_left _ _
structure Part4 (s t : S4) : Prop where
  rs : sumsRight s = true
  rt : sumsRight t = true
  le : ∀ k, s.at_ k ≤ t.at_ k
  lit : Lit4 t
theorem dom_dl {s t : S4} (h : Part4 s t) : ∀ k, k ≤ 4 → ((domTo s t k).at_ = -1 ∧ dlT s t k = 0 ∧ ∀ j, j < k → t.at_ j ≤ 0) ∨
    (0 ≤ (domTo s t k).at_ ∧ 1 ≤ (domTo s t k).den ∧ (domTo s t k).den ∣ whT t 4 ∧ dlT s t k = (domTo s t k).num * (whT t 4 / (domTo s t k).den) ∧ 0 ≤ (domTo s t k).num ∧ (domTo s t k).num ≤ (domTo s t k).den)
  | 0, _ => .inl ⟨rfl, rfl, fun j hj => absurd hj (Nat.not_lt_zero j)⟩
  | k + 1, hk => by
    have ih := dom_dl h k (by omega)
    have hs := S4.at_bd h.rs k
    have ht := S4.at_bd h.rt k
    have hle := h.le k
    have hdv := fun h0 : 0 < t.at_ k => whT_dvd h0 4 (by omega)
    have hw := wh_bd h.lit
    have e1 : domTo s t (k + 1) = domStep (domTo s t k) (s.at_ k) (t.at_ k) k := rfl
    have e2 : dlT s t (k + 1) = if 0 < t.at_ k then max (dlT s t k) (s.at_ k * (whT t 4 / t.at_ k)) else dlT s t k := rfl
    rw [e1, e2]
    by_cases h0 : 0 < t.at_ k
    · right
      rw [if_pos h0]
      obtain ⟨q, hq⟩ := hdv h0
      generalize dlT s t k = dl at *
      have hqd : whT t 4 / t.at_ k = q := by rw [hq]; exact Int.mul_ediv_cancel_left _ (by omega)
      rw [hqd]
      rcases ih with ⟨i1, i2, i3⟩ | ⟨i1, i2, i3, i4, i5, i6⟩
      · have hst : domStep (domTo s t k) (s.at_ k) (t.at_ k) k = ⟨s.at_ k, t.at_ k, k⟩ := if_pos ⟨h0, .inl i1⟩
        rw [hst]
        dsimp only
        rw [hqd]
        have hq0 : 0 ≤ q := by
          rw [← hqd]
          exact Int.ediv_nonneg (by omega) (by omega)
        have := Int.mul_nonneg hs.1 hq0
        exact ⟨by omega, by omega, ⟨q, hq⟩, by omega, hs.1, hle⟩
      · obtain ⟨u, hu⟩ := i3
        have hud : whT t 4 / (domTo s t k).den = u := by rw [hu]; exact Int.mul_ediv_cancel_left _ (by omega)
        rw [hud] at i4
        have r1 : fracRight (s.at_ k) (t.at_ k) = true := by unfold fracRight; simp only [Bool.and_eq_true, decide_eq_true_eq]; omega
        have r2 : fracRight (domTo s t k).num (domTo s t k).den = true := by unfold fracRight; simp only [Bool.and_eq_true, decide_eq_true_eq]; omega
        have hcmp : 0 < fracCmp (s.at_ k) (t.at_ k) (domTo s t k).num (domTo s t k).den ↔ (domTo s t k).num * t.at_ k < s.at_ k * (domTo s t k).den := by
          unfold fracCmp
          rw [if_pos ⟨r1, r2⟩]
          split
          · omega
          · split <;> omega
        unfold domStep
        generalize hd : domTo s t k = D at *
        obtain ⟨num, den, at_⟩ := D
        dsimp only at *
        generalize whT t 4 = w at *
        generalize s.at_ k = a at *
        generalize t.at_ k = b at *
        -- w = b q = den u
        have hkey : num * b < a * den ↔ num * u < a * q := by
          have p1 : (num * b) * w = (num * u) * (den * b) := by rw [hu]; ac_rfl
          have p2 : (a * den) * w = (a * q) * (den * b) := by rw [hq]; ac_rfl
          have hdb : 0 < den * b := Int.mul_pos (by omega) h0
          constructor
          · intro hlt
            have := Int.mul_lt_mul_of_pos_right hlt (show 0 < w by omega)
            rw [p1, p2] at this
            exact Int.lt_of_mul_lt_mul_right this (by omega)
          · intro hlt
            have := Int.mul_lt_mul_of_pos_right hlt hdb
            rw [← p1, ← p2] at this
            exact Int.lt_of_mul_lt_mul_right this (by omega)
        by_cases hlt : num * b < a * den
        · rw [if_pos ⟨h0, .inr (hcmp.2 hlt)⟩]
          dsimp only
          have hbq : w / b = q := by rw [hq]; exact Int.mul_ediv_cancel_left _ (by omega)
          rw [hbq]
          have := hkey.1 hlt
          exact ⟨by omega, by omega, ⟨q, hq⟩, by omega, by omega, hle⟩
        · rw [if_neg (fun hh => by
            rcases hh.2 with h5 | h5
            · omega
            · exact hlt (hcmp.1 h5))]
          dsimp only
          have hdu : w / den = u := by rw [hu]; exact Int.mul_ediv_cancel_left _ (by omega)
          rw [hdu]
          have : ¬ num * u < a * q := fun h5 => hlt (hkey.2 h5)
          exact ⟨i1, i2, ⟨u, hu⟩, by omega, i5, i6⟩
    · rw [if_neg h0]
      have hst : domStep (domTo s t k) (s.at_ k) (t.at_ k) k = domTo s t k := if_neg (fun h5 => h0 h5.1)
      rw [hst]
      rcases ih with ⟨i1, i2, i3⟩ | ih
      · refine .inl ⟨i1, i2, fun j hj => ?_⟩
        rcases Nat.lt_or_ge j k with h5 | h5
        · exact i3 j h5
        · obtain rfl : j = k := by omega
          omega
      · exact .inr ih
theorem dl_bd {s t : S4} (h : Part4 s t) : 0 ≤ dlT s t 4 ∧ dlT s t 4 ≤ whT t 4 := by
  have hw := wh_bd h.lit
  rcases dom_dl h 4 (Nat.le_refl 4) with ⟨i1, i2, i3⟩ | ⟨i1, i2, ⟨u, hu⟩, i4, i5, i6⟩
  · omega
  · have hud : whT t 4 / (domTo s t 4).den = u := by rw [hu]; exact Int.mul_ediv_cancel_left _ (by omega)
    rw [i4, hud]
    generalize (domTo s t 4).den = den at *
    generalize (domTo s t 4).num = num at *
    have hu0 : 0 ≤ u := by
      rw [← hud]
      exact Int.ediv_nonneg (by omega) (by omega)
    rw [hu]
    exact ⟨Int.mul_nonneg i5 hu0, Int.mul_le_mul_of_nonneg_right i6 hu0⟩
theorem delta_LZ {s t : S4} (h : Part4 s t) (h0 : ∃ k, k < 4 ∧ 0 < t.at_ k) : (deltaR s t).2 = true ∧ Rt.of (deltaR s t).1.num.toNat (deltaR s t).1.den.toNat = LZ (dlT s t 4) (whT t 4).toNat := by
  have hw := wh_bd h.lit
  have hd : sumsDom s t = domTo s t 4 := if_pos ⟨h.rs, h.rt⟩
  have hH : sumsHolds t s = true := by
    unfold sumsHolds
    rw [h.rs, h.rt, Bool.and_true, Bool.and_true, decide_eq_true_eq]
    exact ⟨h.le 0, h.le 1, h.le 2, h.le 3⟩
  rcases dom_dl h 4 (Nat.le_refl 4) with ⟨i1, i2, i3⟩ | ⟨i1, i2, ⟨u, hu⟩, i4, i5, i6⟩
  · obtain ⟨k, hk, h5⟩ := h0
    have := i3 k hk
    omega
  · have hR : fracRight (domTo s t 4).num (domTo s t 4).den = true := by unfold fracRight; simp only [Bool.and_eq_true, decide_eq_true_eq]; omega
    have e : deltaR s t = (lowF (domTo s t 4).num.toNat (domTo s t 4).den.toNat, true) := by
      unfold deltaR
      rw [hd, if_neg (fun hh => by
        rcases hh with h5 | h5
        · omega
        · rw [hH] at h5
          exact absurd h5 (by decide))]
      unfold lowR
      rw [if_pos hR]
    have hud : whT t 4 / (domTo s t 4).den = u := by rw [hu]; exact Int.mul_ediv_cancel_left _ (by omega)
    rw [e, i4, hud]
    refine ⟨rfl, ?_⟩
    dsimp only
    have hu0 : 0 < u := by
      rcases Int.lt_or_le 0 u with h5 | h5
      · exact h5
      · have := Int.mul_nonneg (show 0 ≤ (domTo s t 4).den by omega) (show 0 ≤ -u by omega)
        rw [Int.mul_neg, ← hu] at this
        omega
    generalize (domTo s t 4).den = den at *
    generalize (domTo s t 4).num = num at *
    generalize whT t 4 = w at *
    subst hu
    obtain ⟨den, rfl⟩ := Int.eq_ofNat_of_zero_le (show 0 ≤ den by omega)
    obtain ⟨num, rfl⟩ := Int.eq_ofNat_of_zero_le i5
    obtain ⟨u, rfl⟩ := Int.eq_ofNat_of_zero_le (show 0 ≤ u by omega)
    have e3 : ((den : Int) * (u : Int)).toNat = den * u := by norm_cast
    rw [e3, LZ_scale _ _ _ (by omega), ← low_z false num den (z := (num : Int)) rfl]
    obtain ⟨a, b, g, hg, hb, ea, eb, qa, qb⟩ := by_gcd num den (by omega)
    unfold Rt.of lowF
    simp only [Int.toNat_natCast]
    rw [qa, qb, ← low_scale false a b g hg, ← ea, ← eb]
end Go.Proofs.Ytddgcegimmcbgaa.Sy
namespace Go.Proofs.Ytddgcegimmcbgaa.Sy
open Go Go.Sy Go.Proofs.Ytddgcegimmcbgaa
def lit4 (s : S4) : Bool := decide (s.a ≤ 1000) && (decide (s.b ≤ 1000) && (decide (s.c ≤ 1000) && decide (s.d ≤ 1000)))
theorem lit4_iff (s : S4) : lit4 s = true ↔ Lit4 s := by
  unfold lit4 Lit4
  simp only [Bool.and_eq_true, decide_eq_true_eq]
  constructor
  · rintro ⟨h1, h2, h3, h4⟩ k
    match k with
    | 0 => exact h1
    | 1 => exact h2
    | 2 => exact h3
    | 3 => exact h4
    | k + 4 => exact (by show (0 : Int) ≤ 1000; decide)
  · intro h
    exact ⟨h 0, h 1, h 2, h 3⟩
def smallA (l : List (List Part)) : Bool := (nextAt (fun i => !lit4 (sumsOf (l.getD i default))) 0 l.length).isNone
def rOne (p : Prof) : Bool := (decide (rCheck p = 0) && decide (p.ags.length = 1)) && (nextAt (fun i => !rHolds (ag0 p) (p.wants.getD i default).need) 0 p.wants.length).isNone
theorem checkR_fine {p : Prof} (h : checkR p = 0) : fineR p = true := by
  unfold checkR at h
  split at h
  · assumption
  · cases h
theorem part4_of {p : Prof} (hc : checkR p = 0) (hl : p.ags.length = 1) (hs : smallA p.ags = true) {i : Nat} (hi : i < p.wants.length) (hh : (subV (ag0 p) (p.wants.getD i default).need).2 = true) :
    Part4 (sumsOf (p.wants.getD i default).need) (sumsOf (ag0 p)) ∧ ∃ k, k < 4 ∧ 0 < (sumsOf (ag0 p)).at_ k := by
  obtain ⟨f1, f2, f3, _⟩ := fine_bare (checkR_fine hc)
  have ha : Bare (ag0 p) := f2 0 (by omega)
  have hb := (f3 i hi).1
  have hB : HB (ag0 p) (p.wants.getD i default).need := by
    rw [← rHolds_eq, rHolds_iff] at hh
    exact hh.2.2
  have hlit : Lit4 (sumsOf (ag0 p)) := by
    unfold smallA at hs
    rw [nextAt_isNone] at hs
    have := hs 0 (by omega)
    simp only [Bool.not_eq_false'] at this
    exact (lit4_iff _).1 this
  have hle : ∀ k : Int, sk (p.wants.getD i default).need k ≤ sk (ag0 p) k := fun k => by
    have h1 := res_sk _ _ ha.ok hb.ok hB k
    have h2 := sk_nn (res_ok ha.ok hb.ok hB).ok k
    omega
  have hle4 : ∀ k, (sumsOf (p.wants.getD i default).need).at_ k ≤ (sumsOf (ag0 p)).at_ k := fun k => by
    rw [sumsOf_sk ha.ok, sumsOf_sk hb.ok]
    match k with
    | 0 => exact hle 0
    | 1 => exact hle 1
    | 2 => exact hle 2
    | 3 => exact hle 3
    | k + 4 => exact Int.le_refl 0
  refine ⟨⟨hb.right, ha.right, hle4, hlit⟩, ?_⟩
  have hr := (sumsRight_iff _).1 ha.right
  have hne := ha.some
  generalize sumsOf (ag0 p) = t at *
  obtain ⟨a, b, c, d⟩ := t
  dsimp only at hr
  by_cases h0 : 0 < a
  · exact ⟨0, by decide, h0⟩
  by_cases h1 : 0 < b
  · exact ⟨1, by decide, h1⟩
  by_cases h2 : 0 < c
  · exact ⟨2, by decide, h2⟩
  by_cases h3 : 0 < d
  · exact ⟨3, by decide, h3⟩
  · exact absurd (by rw [show a = 0 by omega, show b = 0 by omega, show c = 0 by omega, show d = 0 by omega]) hne
theorem one_eq {p : Prof} (hs : smallA p.ags = true) : (oneR p).2 = rOne p := by
  unfold oneR rOne
  rw [rCheck_eq]
  by_cases h0 : checkR p = 0 ∧ p.ags.length = 1
  · rw [if_pos h0, decide_eq_true h0.1, decide_eq_true h0.2, Bool.true_and, Bool.true_and]
    have hb : ∀ i, i < p.wants.length → oneOk p i = rHolds (ag0 p) (p.wants.getD i default).need := fun i hi => by
      rw [rHolds_eq]
      unfold oneOk
      cases e : (subV (ag0 p) (p.wants.getD i default).need).2 with
      | false => exact Bool.and_false _
      | true =>
        obtain ⟨g1, g2⟩ := part4_of h0.1 h0.2 hs hi e
        rw [Bool.and_true]
        exact (delta_LZ g1 g2).1
    cases hn : nextAt (fun i => !oneOk p i) 0 p.wants.length with
    | some j =>
      obtain ⟨j1, j2, j3⟩ := nextAt_eq_some.1 hn
      rw [isNone_no (p := fun i => !rHolds (ag0 p) (p.wants.getD i default).need) j2.2 (by rw [← hb j j2.2]; exact j1)]
    | none =>
      have := nextAt_eq_none.1 hn
      rw [isNone_all (p := fun i => !rHolds (ag0 p) (p.wants.getD i default).need) fun i hi => by rw [← hb i hi]; exact this i (Nat.zero_le _) hi]
  · rw [if_neg h0]
    have : (decide (checkR p = 0) && decide (p.ags.length = 1)) = false := by
      by_cases h1 : checkR p = 0
      · rw [decide_eq_true h1, decide_eq_false fun h2 => h0 ⟨h1, h2⟩]
        rfl
      · rw [decide_eq_false h1]
        rfl
    rw [this]
    rfl
def dlP (p : Prof) (i : Nat) : Int := dlT (sumsOf (p.wants.getD i default).need) (sumsOf (ag0 p)) 4
def whP (p : Prof) : Int := whT (sumsOf (ag0 p)) 4
def rsP (p : Prof) : Nat → Int
  | 0 => whP p
  | i + 1 => rsP p i - dlP p i
def wsP (p : Prof) : Nat → Int
  | 0 => 0
  | i + 1 => wsP p i + (p.wants.getD i default).weight
structure OneL (p : Prof) : Prop where
  one : (oneR p).2 = true
  small : smallA p.ags = true
  six : p.wants.length ≤ 6
theorem OneL.part {p : Prof} (h : OneL p) {i : Nat} (hi : i < p.wants.length) : Part4 (sumsOf (p.wants.getD i default).need) (sumsOf (ag0 p)) ∧ ∃ k, k < 4 ∧ 0 < (sumsOf (ag0 p)).at_ k := by
  obtain ⟨o1, o2, o3, o4⟩ := oneR_true h.one
  have := o3 i hi
  unfold oneOk at this
  rw [Bool.and_eq_true] at this
  exact part4_of o1 o2 h.small hi this.2
theorem OneL.lit {p : Prof} (h : OneL p) : Lit4 (sumsOf (ag0 p)) := by
  obtain ⟨o1, o2, o3, o4⟩ := oneR_true h.one
  have hs := h.small
  unfold smallA at hs
  rw [nextAt_isNone] at hs
  have := hs 0 (by omega)
  simp only [Bool.not_eq_false'] at this
  exact (lit4_iff _).1 this
theorem OneL.wh {p : Prof} (h : OneL p) : 1 ≤ whP p ∧ whP p ≤ 1000000000000 := wh_bd h.lit
theorem OneL.dl {p : Prof} (h : OneL p) {i : Nat} (hi : i < p.wants.length) : 0 ≤ dlP p i ∧ dlP p i ≤ whP p := dl_bd (h.part hi).1
theorem OneL.w {p : Prof} (h : OneL p) {i : Nat} (hi : i < p.wants.length) : 1 ≤ (p.wants.getD i default).weight ∧ (p.wants.getD i default).weight ≤ 1000 := (checkR_fin (oneR_true h.one).1).2 i hi
theorem OneL.n {p : Prof} (h : OneL p) : 1 ≤ p.wants.length := (checkR_fin (oneR_true h.one).1).1.1
theorem OneL.rs {p : Prof} (h : OneL p) : ∀ i, i ≤ p.wants.length → rsP p i ≤ whP p ∧ -(i * whP p) ≤ rsP p i
  | 0, _ => by
    have := h.wh
    simp only [rsP]
    omega
  | i + 1, hi => by
    have ih := h.rs i (by omega)
    have hd := h.dl (i := i) (by omega)
    simp only [rsP]
    have : ((i + 1 : Nat) : Int) * whP p = i * whP p + whP p := by push_cast; rw [Int.add_mul, Int.one_mul]
    rw [this]
    generalize (i : Int) * whP p = x at *
    omega
theorem OneL.ws {p : Prof} (h : OneL p) : ∀ i, i ≤ p.wants.length → (i ≤ wsP p i ∧ wsP p i ≤ i * 1000) ∧ wsP p i = (wsum p i : Nat)
  | 0, _ => by simp [wsP, wsum]
  | i + 1, hi => by
    have ih := h.ws i (by omega)
    have hd := h.w (i := i) (by omega)
    simp only [wsP, wsum]
    push_cast
    omega
theorem OneL.oneRt {p : Prof} (h : OneL p) {i : Nat} (hi : i < p.wants.length) : oneRt p i = LZ (dlP p i) (whP p).toNat := (delta_LZ (h.part hi).1 (h.part hi).2).2
theorem OneL.rest {p : Prof} (h : OneL p) : ∀ i, i ≤ p.wants.length → (oneTo p i).rest = LZ (rsP p i) (whP p).toNat
  | 0, _ => by
    have hw := h.wh
    show Rt.whole 1 = LZ (whP p) (whP p).toNat
    rw [whole_LZ, ← LZ_scale _ _ (whP p).toNat (by omega)]
    congr 1
    · omega
    · omega
  | i + 1, hi => by
    have hw := h.wh
    show (oneTo p i).rest.add (Sy.oneRt p i).neg = LZ (rsP p i - dlP p i) _
    rw [h.rest i (by omega), h.oneRt (by omega), LZ_sub _ _ _ _ (by omega) (by omega), ← Int.sub_mul, LZ_scale _ _ _ (by omega)]
end Go.Proofs.Ytddgcegimmcbgaa.Sy
namespace Go.Proofs.Ytddgcegimmcbgaa.Sy
open Go Go.Sy Go.Proofs.Ytddgcegimmcbgaa
end Go.Proofs.Ytddgcegimmcbgaa.Sy
namespace Go.Proofs.Ytddgcegimmcbgaa.Sy
open Go Go.Sy Go.Proofs.Ytddgcegimmcbgaa
theorem lit4_at {s : S4} : lit4 s = true ↔ ∀ k, k < 4 → [s.a, s.b, s.c, s.d].getD k 0 ≤ 1000 := by
  rw [lit4_iff]
  constructor
  · intro h k _
    exact h k
  · intro h k
    match k with
    | 0 => exact h 0 (by decide)
    | 1 => exact h 1 (by decide)
    | 2 => exact h 2 (by decide)
    | 3 => exact h 3 (by decide)
    | k + 4 => exact (by show (0 : Int) ≤ 1000; decide)
theorem x_r36Small (l : List (List Part)) (hl : l.length ≤ 1048576) (hla : ∀ k, (l.getD k default).length ≤ 1048576) : XC Try.prog 38 [.ro (SL Ar.real PV.X l)] [] (xb (smallA l)) [] := by
  have hO := fun k => x_r06Of (l.getD k default) (hla k)
  have q0 : ∀ i, i < l.length → lit4 (sumsOf (l.getD i default)) = false → smallA l = false := fun i hi h => by
    unfold smallA
    rw [isNone_no (p := fun i => !lit4 (sumsOf (l.getD i default))) hi (by simp only [h, Bool.not_false])]
  have q1 : (∀ j, j < l.length → lit4 (sumsOf (l.getD j default)) = true) → smallA l = true := fun h => by
    unfold smallA
    rw [isNone_all (p := fun i => !lit4 (sumsOf (l.getD i default))) fun i hi => by simp only [h i hi, Bool.not_true]]
  generalize smallA l = res at *
  (refine XC.of_body ([]) Try.func38 rfl Try.ntmps38 mixed (T := [(2, ti2), (3, ti3), (31, ti31), (52, ti52), (57, ti57), (123, ti123)]) (.cons tok2 (.cons tok3 (.cons tok31 (.cons tok52 (.cons tok57 (.cons tok123 .nil)))))) (by kernel_rfl) (by simp) rfl rfl rfl rfl rfl ?_; rintro o ho P hP c K hK; have hm : P.follows .mixedOrders = true := hP ▸ mixed; have hT : TOk P [(2, ti2), (3, ti3), (31, ti31), (52, ti52), (57, ti57), (123, ti123)] := hP ▸ (.cons tok2 (.cons tok3 (.cons tok31 (.cons tok52 (.cons tok57 (.cons tok123 .nil)))))); (try rw [← ho]); cbv; (repeat (refine StopN.mk ?_; cbv)))
  repeat' (first | (refine Br.mk (fun hb => ?_) (fun hb => ?_) <;> ((try rw [ho] at hb); (try dsimp only [Ar.real, IX.vo] at hb); (try simp only [QN12] at hb); (try simp only [QBo, beq_iff_eq, beq_eq_false_iff_ne, ne_eq] at hb))) | (refine StopN.mk ?_; cbv) | ((first | refine CallI.pure hP (x_r06Of _ ‹_›) fn45 (by first | rfl | (rw [ho]; done) | (rw [ho]; rfl)) (by rfl) (by first | rfl | (rw [ho]; done) | (rw [ho]; rfl)) ?_ | refine CallN.pure hP (x_r06Of _ ‹_›) fn45 (by first | rfl | (rw [ho]; done) | (rw [ho]; rfl)) (by rfl) (by first | rfl | (rw [ho]; done) | (rw [ho]; rfl)) ?_); (try rw [← ho]); generalize hr : sumsOf _ = r; (try rw [ho] at hr); (try dsimp only [Ar.real, IX.vo] at hr); (try simp only [QN12] at hr); cbv) | (refine hK _ _ ?_) | (refine NeedT.mk ?_ ?_))
  refine LoopN.over (o := o) (D := []) ho hm hT (by kernel_rfl) (fun i : Nat => [(3, xn i)]) (fun _ => []) (fun _ => []) (fun i => i ≤ l.length ∧ ∀ j, j < i → lit4 (sumsOf (l.getD j default)) = true) (fun i => l.length - i) 0 ⟨Nat.zero_le _, fun j hj => absurd hj (Nat.not_lt_zero j)⟩ ?_ ?_
  · refine ⟨(by cbv), by cbv; repeat' (first | trivial | exact EqX.rfl' | exact EqO.rfl' | apply And.intro | ((try clear hR3); (try clear hR2); (try clear hR); (try clear hK); (try simp only [ncCast] at *); (try simp only [castI_eq] at *); refine EqX.i ?_; (try rw [ho]); (try dsimp only [Ar.real, IX.vo, IX.val, BX.val, IX.toN]); (try simp only [QN12]); (repeat rw [wrap_i64 (by omega) (by omega)]); omega)), by cbv; repeat' (first | trivial | exact EqO.rfl' | apply And.intro), by cbv; repeat' (first | trivial | exact EqO.rfl' | apply And.intro)⟩
  · rintro i ⟨hi, hok⟩ R hR
    have hOi := hO i
    have q2 := q0 i
    have hL : lit4 (sumsOf (l.getD i default)) = true → ∀ j, j < i + 1 → lit4 (sumsOf (l.getD j default)) = true := fun h j hj => by
      rcases Nat.lt_or_ge j i with h5 | h5
      · exact hok j h5
      · obtain rfl : j = i := by omega
        exact h
    have h4 := lit4_at (s := sumsOf (l.getD i default))
    have en : o.nth l i = l.getD i default := by rw [ho, real_nth]
    have hend : l.length ≤ i → res = true := fun h => q1 fun j hj => hok j (by omega)
    generalize sumsOf (l.getD i default) = s at hOi q2 h4 hL
    obtain ⟨a, b, p, d⟩ := s
    generalize lit4 ⟨a, b, p, d⟩ = lt at *
    dsimp only at h4
    rw [← en, ← ho] at hOi
    cbv
    repeat' (first | (refine Br.mk (fun hb => ?_) (fun hb => ?_) <;> ((try rw [ho] at hb); (try dsimp only [Ar.real, IX.vo] at hb); (try simp only [QN12] at hb); (try simp only [QBo, beq_iff_eq, beq_eq_false_iff_ne, ne_eq] at hb))) | (refine StopN.mk ?_; cbv) | (first | refine CallI.pure hP hOi fn45 rfl rfl rfl ?_); cbv | ((first | refine CallI.pure hP (x_r06Of _ ‹_›) fn45 (by first | rfl | (rw [ho]; done) | (rw [ho]; rfl)) (by rfl) (by first | rfl | (rw [ho]; done) | (rw [ho]; rfl)) ?_ | refine CallN.pure hP (x_r06Of _ ‹_›) fn45 (by first | rfl | (rw [ho]; done) | (rw [ho]; rfl)) (by rfl) (by first | rfl | (rw [ho]; done) | (rw [ho]; rfl)) ?_); (try rw [← ho]); generalize hr : sumsOf _ = r; (try rw [ho] at hr); (try dsimp only [Ar.real, IX.vo] at hr); (try simp only [QN12] at hr); cbv) | (refine hK _ _ ?_) | (refine NeedT.mk ?_ ?_))
    any_goals (((try clear hR3); (try clear hR2); (try clear hR); (try clear hK); (try simp only [ncCast] at *); (try simp only [castI_eq] at *); (try rw [ho]); (try dsimp only [Ar.real, IX.vo, IX.val, BX.val, IX.toN]); (try simp only [QN12]); (try simp only [decide_eq_true_eq]); (all_goals (repeat rw [wrap_i64 (by omega) (by omega)])); (all_goals (first | omega | (simp only [Int.ofNat_eq_natCast]; omega)))); done)
    · have hil : i < l.length := by ((try clear hR3); (try clear hR2); (try clear hR); (try clear hK); (try simp only [ncCast] at *); (try simp only [castI_eq] at *)); omega
      refine LoopN.over (o := o) (D := []) ho hm hT (by kernel_rfl) (fun k : Nat => [(5, xn k)]) (fun _ => []) (fun _ => []) (fun k => k ≤ 4 ∧ ∀ j, j < k → [a, b, p, d].getD j 0 ≤ 1000) (fun k => 4 - k) 0 ⟨Nat.zero_le _, fun j hj => absurd hj (Nat.not_lt_zero j)⟩ ?_ ?_
      · refine ⟨(by cbv), by cbv; repeat' (first | trivial | exact EqX.rfl' | exact EqO.rfl' | apply And.intro | ((try clear hR3); (try clear hR2); (try clear hR); (try clear hK); (try simp only [ncCast] at *); (try simp only [castI_eq] at *); refine EqX.i ?_; (try rw [ho]); (try dsimp only [Ar.real, IX.vo, IX.val, BX.val, IX.toN]); (try simp only [QN12]); (repeat rw [wrap_i64 (by omega) (by omega)]); omega)), by cbv; repeat' (first | trivial | exact EqO.rfl' | apply And.intro), by cbv; repeat' (first | trivial | exact EqO.rfl' | apply And.intro)⟩
      · rintro k ⟨hk, hkk⟩ R2 hR2
        have h5 : 1000 < [a, b, p, d].getD ((k : Int).toNat) 0 → k < 4 → lt = false := fun h h' => by
          rw [Int.toNat_natCast] at h
          cases hlt : lt with
          | false => rfl
          | true =>
            have := h4.1 hlt k h'
            omega
        have h6 : [a, b, p, d].getD ((k : Int).toNat) 0 ≤ 1000 → ∀ j, j < k + 1 → [a, b, p, d].getD j 0 ≤ 1000 := fun h j hj => by
          rw [Int.toNat_natCast] at h
          rcases Nat.lt_or_ge j k with h5 | h5
          · exact hkk j h5
          · obtain rfl : j = k := by omega
            exact h
        have h7 : 4 ≤ k → lt = true := fun h => h4.2 fun j hj => hkk j (by omega)
        cbv
        repeat' (first | (refine Br.mk (fun hb => ?_) (fun hb => ?_) <;> ((try rw [ho] at hb); (try dsimp only [Ar.real, IX.vo] at hb); (try simp only [QN12] at hb); (try simp only [QBo, beq_iff_eq, beq_eq_false_iff_ne, ne_eq] at hb))) | (refine StopN.mk ?_; cbv) | ((first | refine CallI.pure hP (x_r06Of _ ‹_›) fn45 (by first | rfl | (rw [ho]; done) | (rw [ho]; rfl)) (by rfl) (by first | rfl | (rw [ho]; done) | (rw [ho]; rfl)) ?_ | refine CallN.pure hP (x_r06Of _ ‹_›) fn45 (by first | rfl | (rw [ho]; done) | (rw [ho]; rfl)) (by rfl) (by first | rfl | (rw [ho]; done) | (rw [ho]; rfl)) ?_); (try rw [← ho]); generalize hr : sumsOf _ = r; (try rw [ho] at hr); (try dsimp only [Ar.real, IX.vo] at hr); (try simp only [QN12] at hr); cbv) | (refine hK _ _ ?_) | (refine NeedT.mk ?_ ?_))
        any_goals (((try clear hR3); (try clear hR2); (try clear hR); (try clear hK); (try simp only [ncCast] at *); (try simp only [castI_eq] at *); (try rw [ho]); (try dsimp only [Ar.real, IX.vo, IX.val, BX.val, IX.toN]); (try simp only [QN12]); (try simp only [decide_eq_true_eq]); (all_goals (repeat rw [wrap_i64 (by omega) (by omega)])); (all_goals (first | omega | (simp only [Int.ofNat_eq_natCast]; omega)))); done)
        · rw [q2 hil (h5 hb (by ((try clear hR3); (try clear hR2); (try clear hR); (try clear hK); (try simp only [ncCast] at *); (try simp only [castI_eq] at *)); omega))]
          exact .b rfl
        · refine hR2 _ (k + 1) (by show 4 - (k + 1) < 4 - k; ((try clear hR3); (try clear hR2); (try clear hR); (try clear hK); (try simp only [ncCast] at *); (try simp only [castI_eq] at *)); omega) ⟨by show k + 1 ≤ 4; ((try clear hR3); (try clear hR2); (try clear hR); (try clear hK); (try simp only [ncCast] at *); (try simp only [castI_eq] at *)); omega, h6 hb⟩ ?_
          refine ⟨(by cbv), by cbv; repeat' (first | trivial | exact EqX.rfl' | exact EqO.rfl' | apply And.intro | ((try clear hR3); (try clear hR2); (try clear hR); (try clear hK); (try simp only [ncCast] at *); (try simp only [castI_eq] at *); refine EqX.i ?_; (try rw [ho]); (try dsimp only [Ar.real, IX.vo, IX.val, BX.val, IX.toN]); (try simp only [QN12]); (repeat rw [wrap_i64 (by omega) (by omega)]); omega)), by cbv; repeat' (first | trivial | exact EqO.rfl' | apply And.intro), by cbv; repeat' (first | trivial | exact EqO.rfl' | apply And.intro)⟩
        · refine hR _ (i + 1) (by show l.length - (i + 1) < l.length - i; ((try clear hR3); (try clear hR2); (try clear hR); (try clear hK); (try simp only [ncCast] at *); (try simp only [castI_eq] at *)); omega) ⟨by show i + 1 ≤ l.length; ((try clear hR3); (try clear hR2); (try clear hR); (try clear hK); (try simp only [ncCast] at *); (try simp only [castI_eq] at *)); omega, hL (h7 (by ((try clear hR3); (try clear hR2); (try clear hR); (try clear hK); (try simp only [ncCast] at *); (try simp only [castI_eq] at *)); omega))⟩ ?_
          refine ⟨(by cbv), by cbv; repeat' (first | trivial | exact EqX.rfl' | exact EqO.rfl' | apply And.intro | ((try clear hR3); (try clear hR2); (try clear hR); (try clear hK); (try simp only [ncCast] at *); (try simp only [castI_eq] at *); refine EqX.i ?_; (try rw [ho]); (try dsimp only [Ar.real, IX.vo, IX.val, BX.val, IX.toN]); (try simp only [QN12]); (repeat rw [wrap_i64 (by omega) (by omega)]); omega)), by cbv; repeat' (first | trivial | exact EqO.rfl' | apply And.intro), by cbv; repeat' (first | trivial | exact EqO.rfl' | apply And.intro)⟩
    · rw [hend (by ((try clear hR3); (try clear hR2); (try clear hR); (try clear hK); (try simp only [ncCast] at *); (try simp only [castI_eq] at *)); omega)]
      exact .b rfl
theorem x_r36One (p : Prof) (hp : ProfOk p) : XC Try.prog 40 [.ro (SL Ar.real PV.X p.ags), .ro (SL Ar.real Want.X p.wants), .agg (S4.X Ar.real p.lo)] [] (xb (rOne p)) [] := by
  have hCk := x_r35Check p hp
  have hH := fun i => x_r05Holds (ag0 p) (p.wants.getD i default).need (hp.a 0) (hp.w i)
  have q0 : ¬ (rCheck p = 0 ∧ p.ags.length = 1) → rOne p = false := fun h => by
    unfold rOne
    by_cases h1 : rCheck p = 0
    · rw [decide_eq_false (p := p.ags.length = 1) fun h2 => h ⟨h1, h2⟩, Bool.and_false]
      rfl
    · rw [decide_eq_false h1]
      rfl
  have q1 : ∀ i, i < p.wants.length → rHolds (ag0 p) (p.wants.getD i default).need = false → rOne p = false := fun i hi h => by
    unfold rOne
    rw [isNone_no (p := fun i => !rHolds (ag0 p) (p.wants.getD i default).need) hi (by simp only [h, Bool.not_false]), Bool.and_false]
  have q2 : rCheck p = 0 → p.ags.length = 1 → (∀ i, i < p.wants.length → rHolds (ag0 p) (p.wants.getD i default).need = true) → rOne p = true := fun h h' hl => by
    unfold rOne
    rw [decide_eq_true h, decide_eq_true h', isNone_all (p := fun i => !rHolds (ag0 p) (p.wants.getD i default).need) fun i hi => by simp only [hl i hi, Bool.not_true]]
    rfl
  have hag : ∀ (o : Ar), o = Ar.real → o.nth p.ags 0 = ag0 p := fun o ho => by rw [ho, real_nth]; rfl
  generalize rOne p = res at *
  generalize rCheck p = rc at *
  generalize ag0 p = a0 at *
  obtain ⟨ags, wants, lo⟩ := p
  obtain ⟨loa, lob, loc, lod⟩ := lo
  obtain ⟨pa, pw, hla, hwa⟩ := hp
  dsimp only at *
  (refine XC.of_body ([(6, [])]) Try.func40 rfl Try.ntmps40 mixed (T := [(2, ti2), (3, ti3), (4, ti4), (31, ti31), (47, ti47), (52, ti52), (57, ti57), (88, ti88), (123, ti123)]) (.cons tok2 (.cons tok3 (.cons tok4 (.cons tok31 (.cons tok47 (.cons tok52 (.cons tok57 (.cons tok88 (.cons tok123 .nil))))))))) (by kernel_rfl) (by simp) rfl rfl rfl rfl rfl ?_; rintro o ho P hP c K hK; have hm : P.follows .mixedOrders = true := hP ▸ mixed; have hT : TOk P [(2, ti2), (3, ti3), (4, ti4), (31, ti31), (47, ti47), (52, ti52), (57, ti57), (88, ti88), (123, ti123)] := hP ▸ (.cons tok2 (.cons tok3 (.cons tok4 (.cons tok31 (.cons tok47 (.cons tok52 (.cons tok57 (.cons tok88 (.cons tok123 .nil))))))))); (try rw [← ho]); cbv; (repeat (refine StopN.mk ?_; cbv)))
  have en0 := hag o ho
  rw [← ho] at hCk
  repeat' (first | (refine Br.mk (fun hb => ?_) (fun hb => ?_) <;> ((try rw [ho] at hb); (try dsimp only [Ar.real, IX.vo] at hb); (try simp only [QN12] at hb); (try simp only [QBo, beq_iff_eq, beq_eq_false_iff_ne, ne_eq] at hb))) | (refine StopN.mk ?_; cbv) | (first | refine CallI.pure hP hCk fn28 rfl rfl rfl ?_); cbv | ((first | refine CallI.pure hP (x_r35Check _ ‹_›) fn28 (by first | rfl | (rw [ho]; done) | (rw [ho]; rfl)) (by rfl) (by first | rfl | (rw [ho]; done) | (rw [ho]; rfl)) ?_ | refine CallN.pure hP (x_r35Check _ ‹_›) fn28 (by first | rfl | (rw [ho]; done) | (rw [ho]; rfl)) (by rfl) (by first | rfl | (rw [ho]; done) | (rw [ho]; rfl)) ?_); (try rw [← ho]); generalize hr : rCheck _ = r; (try rw [ho] at hr); (try dsimp only [Ar.real, IX.vo] at hr); (try simp only [QN12] at hr); cbv) | ((first | refine CallI.pure hP (x_r05Holds _ _ ‹_› ‹_›) fn72 (by first | rfl | (rw [ho]; done) | (rw [ho]; rfl)) (by rfl) (by first | rfl | (rw [ho]; done) | (rw [ho]; rfl)) ?_ | refine CallN.pure hP (x_r05Holds _ _ ‹_› ‹_›) fn72 (by first | rfl | (rw [ho]; done) | (rw [ho]; rfl)) (by rfl) (by first | rfl | (rw [ho]; done) | (rw [ho]; rfl)) ?_); (try rw [← ho]); generalize hr : rHolds _ _ = r; (try rw [ho] at hr); (try dsimp only [Ar.real, IX.vo] at hr); (try simp only [QN12] at hr); cbv) | (refine hK _ _ ?_) | (refine NeedT.mk ?_ ?_))
  · rw [q0 fun h => hb h.1]
    exact .b rfl
  · rw [q0 fun h => by omega]
    exact .b rfl
  have hc0 : rc = 0 := by assumption
  have hl1 : ags.length = 1 := by omega
  refine LoopN.over (o := o) (D := [(6, [])]) ho hm hT (by kernel_rfl) (fun i : Nat => [(7, xn i)]) (fun _ => []) (fun _ => []) (fun i => i ≤ wants.length ∧ ∀ j, j < i → rHolds a0 (wants.getD j default).need = true) (fun i => wants.length - i) 0 ⟨Nat.zero_le _, fun j hj => absurd hj (Nat.not_lt_zero j)⟩ ?_ ?_
  · refine ⟨(by cbv), by cbv; repeat' (first | trivial | exact EqX.rfl' | exact EqO.rfl' | apply And.intro | ((try clear hR3); (try clear hR2); (try clear hR); (try clear hK); (try simp only [ncCast] at *); (try simp only [castI_eq] at *); refine EqX.i ?_; (try rw [ho]); (try dsimp only [Ar.real, IX.vo, IX.val, BX.val, IX.toN]); (try simp only [QN12]); (repeat rw [wrap_i64 (by omega) (by omega)]); omega)), by cbv; repeat' (first | trivial | exact EqO.rfl' | apply And.intro), by cbv; repeat' (first | trivial | exact EqO.rfl' | apply And.intro)⟩
  · rintro i ⟨hi, hok⟩ R hR
    have hHi := hH i
    have q3 := q1 i
    have en : o.nth wants i = wants.getD i default := by rw [ho, real_nth]
    have hoks : rHolds a0 (wants.getD i default).need = true → ∀ j, j < i + 1 → rHolds a0 (wants.getD j default).need = true := fun h j hj => by
      rcases Nat.lt_or_ge j i with h5 | h5
      · exact hok j h5
      · obtain rfl : j = i := by omega
        exact h
    have hend : wants.length ≤ i → res = true := fun h => q2 hc0 hl1 fun j hj => hok j (by omega)
    generalize rHolds a0 (wants.getD i default).need = b at *
    rw [← en, ← en0, ← ho] at hHi
    cbv
    repeat' (first | (refine Br.mk (fun hb => ?_) (fun hb => ?_) <;> ((try rw [ho] at hb); (try dsimp only [Ar.real, IX.vo] at hb); (try simp only [QN12] at hb); (try simp only [QBo, beq_iff_eq, beq_eq_false_iff_ne, ne_eq] at hb))) | (refine StopN.mk ?_; cbv) | (first | refine CallN.pure hP hHi fn72 rfl rfl rfl ?_); cbv | ((first | refine CallI.pure hP (x_r35Check _ ‹_›) fn28 (by first | rfl | (rw [ho]; done) | (rw [ho]; rfl)) (by rfl) (by first | rfl | (rw [ho]; done) | (rw [ho]; rfl)) ?_ | refine CallN.pure hP (x_r35Check _ ‹_›) fn28 (by first | rfl | (rw [ho]; done) | (rw [ho]; rfl)) (by rfl) (by first | rfl | (rw [ho]; done) | (rw [ho]; rfl)) ?_); (try rw [← ho]); generalize hr : rCheck _ = r; (try rw [ho] at hr); (try dsimp only [Ar.real, IX.vo] at hr); (try simp only [QN12] at hr); cbv) | ((first | refine CallI.pure hP (x_r05Holds _ _ ‹_› ‹_›) fn72 (by first | rfl | (rw [ho]; done) | (rw [ho]; rfl)) (by rfl) (by first | rfl | (rw [ho]; done) | (rw [ho]; rfl)) ?_ | refine CallN.pure hP (x_r05Holds _ _ ‹_› ‹_›) fn72 (by first | rfl | (rw [ho]; done) | (rw [ho]; rfl)) (by rfl) (by first | rfl | (rw [ho]; done) | (rw [ho]; rfl)) ?_); (try rw [← ho]); generalize hr : rHolds _ _ = r; (try rw [ho] at hr); (try dsimp only [Ar.real, IX.vo] at hr); (try simp only [QN12] at hr); cbv) | (refine hK _ _ ?_) | (refine NeedT.mk ?_ ?_))
    any_goals (((try clear hR3); (try clear hR2); (try clear hR); (try clear hK); (try simp only [ncCast] at *); (try simp only [castI_eq] at *); (try rw [ho]); (try dsimp only [Ar.real, IX.vo, IX.val, BX.val, IX.toN]); (try simp only [QN12]); (try simp only [decide_eq_true_eq]); (all_goals (repeat rw [wrap_i64 (by omega) (by omega)])); (all_goals (first | omega | (simp only [Int.ofNat_eq_natCast]; omega)))); done)
    · rw [q3 (by ((try clear hR3); (try clear hR2); (try clear hR); (try clear hK); (try simp only [ncCast] at *); (try simp only [castI_eq] at *)); omega) (by assumption)]
      exact .b rfl
    · refine hR _ (i + 1) (by show wants.length - (i + 1) < wants.length - i; ((try clear hR3); (try clear hR2); (try clear hR); (try clear hK); (try simp only [ncCast] at *); (try simp only [castI_eq] at *)); omega) ⟨by show i + 1 ≤ wants.length; ((try clear hR3); (try clear hR2); (try clear hR); (try clear hK); (try simp only [ncCast] at *); (try simp only [castI_eq] at *)); omega, hoks (by assumption)⟩ ?_
      refine ⟨(by cbv), by cbv; repeat' (first | trivial | exact EqX.rfl' | exact EqO.rfl' | apply And.intro | ((try clear hR3); (try clear hR2); (try clear hR); (try clear hK); (try simp only [ncCast] at *); (try simp only [castI_eq] at *); refine EqX.i ?_; (try rw [ho]); (try dsimp only [Ar.real, IX.vo, IX.val, BX.val, IX.toN]); (try simp only [QN12]); (repeat rw [wrap_i64 (by omega) (by omega)]); omega)), by cbv; repeat' (first | trivial | exact EqO.rfl' | apply And.intro), by cbv; repeat' (first | trivial | exact EqO.rfl' | apply And.intro)⟩
    · rw [hend (by ((try clear hR3); (try clear hR2); (try clear hR); (try clear hK); (try simp only [ncCast] at *); (try simp only [castI_eq] at *)); omega)]
      exact .b rfl
end Go.Proofs.Ytddgcegimmcbgaa.Sy
namespace Go.Proofs.Ytddgcegimmcbgaa.Sy
open Go Go.Sy Go.Proofs.Ytddgcegimmcbgaa
end Go.Proofs.Ytddgcegimmcbgaa.Sy
namespace Go.Proofs.Ytddgcegimmcbgaa.Sy
open Go Go.Sy Go.Proofs.Ytddgcegimmcbgaa
theorem XC_args {P : Program} {f : FuncId} {args args' : List X} {O O' : List OX} {r : X} (h : XC P f args O r O') (e : ∀ c, X.toDL c args = X.toDL c args') : XC P f args' O r O' := by
  intro c h1 h2
  rw [← e c]
  exact h c h1 h2
def sing (t : Int) : List Int := [t]
theorem map_getD (l : List Int) {i : Nat} (h : i < l.length) : (l.map sing).getD i default = [l.getD i 0] := by
  simp [List.getD_eq_getElem?_getD, h, sing]
theorem resOf_row (l : List Int) (i : Nat) : ((l.map sing).getD i default).length ≤ 1 := by
  by_cases h : i < l.length
  · rw [map_getD l h]
    exact Nat.le_refl 1
  · rw [List.getD_eq_getElem?_getD, List.getElem?_eq_none (by simpa using h)]
    exact Nat.zero_le 1
structure StBu where
  i : Nat
  rv : Nat
  f : Bool
  dl : List (List Int)
structure StBv where
  i : Nat
  n : Nat
end Go.Proofs.Ytddgcegimmcbgaa.Sy
namespace Go.Proofs.Ytddgcegimmcbgaa.Sy
open Go Go.Sy Go.Proofs.Ytddgcegimmcbgaa
def foldAGt_pick (e : Gt) := (by
  have h : PLift (e.pick = e.pick) := ⟨rfl⟩
  conv at h => arg 1; lhs; delta Gt.pick
  exact h)
theorem foldGt_pick (e : Gt) : type_of% (foldAGt_pick e).down := (foldAGt_pick e).down
def foldAGt_agent (e : Gt) := (by
  have h : PLift (e.agent = e.agent) := ⟨rfl⟩
  conv at h => arg 1; lhs; delta Gt.agent
  exact h)
theorem foldGt_agent (e : Gt) : type_of% (foldAGt_agent e).down := (foldAGt_agent e).down
def foldAGt_frame (e : Gt) := (by
  have h : PLift (e.frame = e.frame) := ⟨rfl⟩
  conv at h => arg 1; lhs; delta Gt.frame
  exact h)
theorem foldGt_frame (e : Gt) : type_of% (foldAGt_frame e).down := (foldAGt_frame e).down
def foldAGt_num (e : Gt) := (by
  have h : PLift (e.num = e.num) := ⟨rfl⟩
  conv at h => arg 1; lhs; delta Gt.num
  exact h)
theorem foldGt_num (e : Gt) : type_of% (foldAGt_num e).down := (foldAGt_num e).down
def foldAGt_den (e : Gt) := (by
  have h : PLift (e.den = e.den) := ⟨rfl⟩
  conv at h => arg 1; lhs; delta Gt.den
  exact h)
theorem foldGt_den (e : Gt) : type_of% (foldAGt_den e).down := (foldAGt_den e).down
def foldAGt_weight (e : Gt) := (by
  have h : PLift (e.weight = e.weight) := ⟨rfl⟩
  conv at h => arg 1; lhs; delta Gt.weight
  exact h)
theorem foldGt_weight (e : Gt) : type_of% (foldAGt_weight e).down := (foldAGt_weight e).down
def foldAGt_off (e : Gt) := (by
  have h : PLift (e.off = e.off) := ⟨rfl⟩
  conv at h => arg 1; lhs; delta Gt.off
  exact h)
theorem foldGt_off (e : Gt) : type_of% (foldAGt_off e).down := (foldAGt_off e).down
def foldAGt_la (e : Gt) := (by
  have h : PLift (e.la = e.la) := ⟨rfl⟩
  conv at h => arg 1; lhs; delta Gt.la
  exact h)
theorem foldGt_la (e : Gt) : type_of% (foldAGt_la e).down := (foldAGt_la e).down
theorem foldGt : (⟨0, 0, 0, 0, 0, 0, [], false⟩ : Gt) = default := rfl
theorem QN25 : type_of% (And.intro @foldGt (And.intro @foldGt_pick (And.intro @foldGt_agent (And.intro @foldGt_frame (And.intro @foldGt_num (And.intro @foldGt_den (And.intro @foldGt_weight (And.intro @foldGt_off (And.intro @foldGt_la (QN12)))))))))) := And.intro @foldGt (And.intro @foldGt_pick (And.intro @foldGt_agent (And.intro @foldGt_frame (And.intro @foldGt_num (And.intro @foldGt_den (And.intro @foldGt_weight (And.intro @foldGt_off (And.intro @foldGt_la (QN12)))))))))
def gtOf (gr : List Gt) (j : Int) (k : Nat) : Bool := decide ((gr.getD k default).frame = j) && (gr.getD k default).la
def lastI (gr : List Gt) (j : Int) : Nat → Int
  | 0 => -1
  | k + 1 => if gtOf gr j k = true then (k : Int) else lastI gr j k
theorem lastI_bd (gr : List Gt) (j : Int) : ∀ k, -1 ≤ lastI gr j k ∧ lastI gr j k < k
  | 0 => by simp [lastI]
  | k + 1 => by
    have := lastI_bd gr j k
    simp only [lastI]
    split <;> omega
def lastG (gr : List Gt) (j : Int) : Gt × Bool := if lastI gr j gr.length < 0 then (default, false) else (gr.getD (lastI gr j gr.length).toNat default, true)
theorem lastI_eq (gr : List Gt) (j : Int) (k : Nat) : ∀ n, k ≤ n → (∀ i, k ≤ i → i < n → gtOf gr j i = false) → lastI gr j n = lastI gr j k
  | 0, h, _ => by
    obtain rfl : k = 0 := by omega
    rfl
  | n + 1, h, hf => by
    by_cases e : k = n + 1
    · rw [e]
    · have h1 := hf n (by omega) (by omega)
      have e2 : lastI gr j (n + 1) = if gtOf gr j n = true then (n : Int) else lastI gr j n := rfl
      rw [e2, h1, if_neg (by decide)]
      exact lastI_eq gr j k n (by omega) fun i h2 h3 => hf i h2 (by omega)
theorem FinX_lg {o : Ar} (ho : o = Ar.real) {g : Gt} {b : Bool} {x0 x1 x2 x3 x4 x5 : IX} {r : RR} {x7 y : BX} (h0 : x0.val = g.pick) (h1 : x1.val = g.agent) (h2 : x2.val = g.frame) (h3 : x3.val = g.num) (h4 : x4.val = g.den) (h5 : x5.val = g.weight) (h6 : r.rows = (SL Ar.real Part.X g.off).rows) (h7 : x7.val = g.la) (h8 : y.val = b) :
    FinX (.tup [.agg (Gt.X Ar.real g), xb b]) [] (.tup [.agg [.i .i64 x0, .i .i64 x1, .i .i64 x2, .i .i64 x3, .i .i64 x4, .i .i64 x5, .ro r, .b x7], .b y]) [] := .pure fun _ => by
  unfold Gt.X
  simp only [X.toD, X.toDL, h0, h1, h2, h3, h4, h5, h6, h7, h8]
  rfl
theorem x_last (gr : List Gt) (hg : gr.length ≤ 1048576) (j : Int) : XC Try.prog 168 [.ro (SL Ar.real Gt.X gr), xi j] [] (.tup [.agg (Gt.X Ar.real (lastG gr j).1), xb (lastG gr j).2]) [] := by
  have q0 : (∀ i, 0 ≤ i → i < gr.length → gtOf gr j i = false) → lastG gr j = (default, false) := fun h => by
    unfold lastG
    rw [lastI_eq gr j 0 gr.length (Nat.zero_le _) h]
    exact if_pos (show (-1 : Int) < 0 by decide)
  have q1 : ∀ k, k < gr.length → gtOf gr j k = true → (∀ i, k + 1 ≤ i → i < gr.length → gtOf gr j i = false) → lastG gr j = (gr.getD k default, true) := fun k hk h1 h => by
    unfold lastG
    have e : lastI gr j (k + 1) = (k : Int) := if_pos h1
    rw [lastI_eq gr j (k + 1) gr.length (by omega) h, e, if_neg (by omega), Int.toNat_natCast]
  have hgt : ∀ k, gtOf gr j k = (decide ((gr.getD k default).frame = j) && (gr.getD k default).la) := fun _ => rfl
  generalize gtOf gr j = gt at *
  generalize lastG gr j = res at *
  (refine XC.of_body ([]) Try.func168 rfl Try.ntmps168 mixed (T := [(3, ti3), (4, ti4), (31, ti31), (77, ti77), (108, ti108), (110, ti110)]) (.cons tok3 (.cons tok4 (.cons tok31 (.cons tok77 (.cons tok108 (.cons tok110 .nil)))))) (by kernel_rfl) (by simp) rfl rfl rfl rfl rfl ?_; rintro o ho P hP c K hK; have hm : P.follows .mixedOrders = true := hP ▸ mixed; have hT : TOk P [(3, ti3), (4, ti4), (31, ti31), (77, ti77), (108, ti108), (110, ti110)] := hP ▸ (.cons tok3 (.cons tok4 (.cons tok31 (.cons tok77 (.cons tok108 (.cons tok110 .nil)))))); (try rw [← ho]); cbv; (repeat (refine StopN.mk ?_; cbv)))
  repeat' (first | (refine Br.mk (fun hb => ?_) (fun hb => ?_) <;> ((try rw [ho] at hb); (try dsimp only [Ar.real, IX.vo] at hb); (try simp only [QN25] at hb); (try simp only [QBo, beq_iff_eq, beq_eq_false_iff_ne, ne_eq] at hb))) | (refine StopN.mk ?_; cbv) | (refine hK _ _ ?_) | (refine NeedT.mk ?_ ?_))
  obtain ⟨m0, hm0⟩ : ∃ m, m = (gr.length : Int) - 1 := ⟨_, rfl⟩
  refine LoopN.over (o := o) (D := []) ho hm hT (by kernel_rfl) (fun s : Nat × Int => [(6, xi s.2)]) (fun _ => []) (fun _ => []) (fun s => s.2 = (s.1 : Int) - 1 ∧ s.1 ≤ gr.length ∧ ∀ i, s.1 ≤ i → i < gr.length → gt i = false) (fun s => s.1) (gr.length, m0) ⟨hm0, Nat.le_refl _, fun i h h' => by have : gr.length ≤ i := h; omega⟩ ?_ ?_
  · refine ⟨(by cbv), by cbv; repeat' (first | trivial | exact EqX.rfl' | exact EqO.rfl' | apply And.intro | ((try clear hR3); (try clear hR2); (try clear hR); (try clear hK); (try simp only [ncCast] at *); (try simp only [castI_eq] at *); refine EqX.i ?_; (try rw [ho]); (try dsimp only [Ar.real, IX.vo, IX.val, BX.val, IX.toN]); (try simp only [QN25]); (repeat rw [wrap_i64 (by omega) (by omega)]); omega)), by cbv; repeat' (first | trivial | exact EqO.rfl' | apply And.intro), by cbv; repeat' (first | trivial | exact EqO.rfl' | apply And.intro)⟩
  · rintro ⟨k, m⟩ ⟨hm1, hk, hlt⟩ R hR
    dsimp only at hm1 hk hlt
    obtain ⟨m', hm'⟩ : ∃ x, x = m - 1 := ⟨_, rfl⟩
    obtain ⟨k', hk'⟩ : ∃ x, x = k - 1 := ⟨_, rfl⟩
    have en : 0 ≤ m → o.nth gr m.toNat = gr.getD k' default := fun h => by rw [ho, real_nth, hk']; congr 1; omega
    have hgk := hgt k'
    have hkm : 0 ≤ m → m.toNat = k' := fun h => by omega
    have hpp : 0 ≤ m → k' < k ∧ m' = (k' : Int) - 1 ∧ k' ≤ gr.length := fun h => by omega
    have hno : 0 ≤ m → gt k' = false → ∀ i, k' ≤ i → i < gr.length → gt i = false := fun h h1 i h2 h3 => by
      by_cases e : i = k'
      · rw [e]; exact h1
      · exact hlt i (by omega) h3
    have hyes : 0 ≤ m → gt k' = true → res = (gr.getD k' default, true) := fun h h1 => q1 k' (by omega) h1 fun i h2 h3 => hlt i (by omega) h3
    have hend : m < 0 → res = (default, false) := fun h => q0 fun i h2 h3 => hlt i (by omega) h3
    cbv
    repeat' (first | (refine Br.mk (fun hb => ?_) (fun hb => ?_) <;> ((try rw [ho] at hb); (try dsimp only [Ar.real, IX.vo] at hb); (try simp only [QN25] at hb); (try simp only [QBo, beq_iff_eq, beq_eq_false_iff_ne, ne_eq] at hb))) | (refine StopN.mk ?_; cbv) | (refine hK _ _ ?_) | (refine NeedT.mk ?_ ?_))
    any_goals (((try clear hR3); (try clear hR2); (try clear hR); (try clear hK); (try simp only [ncCast] at *); (try simp only [castI_eq] at *); (try rw [ho]); (try dsimp only [Ar.real, IX.vo, IX.val, BX.val, IX.toN]); (try simp only [QN25]); (try simp only [decide_eq_true_eq]); (all_goals (repeat rw [wrap_i64 (by omega) (by omega)])); (all_goals (first | omega | (simp only [Int.ofNat_eq_natCast]; omega)))); done)
    · have hk0 := hkm (by assumption)
      have h1 : gt k' = true := by rw [hgk, ← hk0, decide_eq_true (by assumption), hb]; rfl
      rw [hyes (by assumption) h1, ← hk0]
      exact FinX_lg ho (by rw [ho]; rfl) (by rw [ho]; rfl) (by rw [ho]; rfl) (by rw [ho]; rfl) (by rw [ho]; rfl) (by rw [ho]; rfl) (by rw [ho]; rfl) (by rw [ho]; rfl) rfl
    · have hk0 := hkm (by assumption)
      have h1 : gt k' = false := by rw [hgk, ← hk0, hb, Bool.and_false]
      refine hR _ (k', m') (hpp (by assumption)).1 ⟨(hpp (by assumption)).2.1, (hpp (by assumption)).2.2, hno (by assumption) h1⟩ ?_
      refine ⟨(by cbv), by cbv; repeat' (first | trivial | exact EqX.rfl' | exact EqO.rfl' | apply And.intro | ((try clear hR3); (try clear hR2); (try clear hR); (try clear hK); (try simp only [ncCast] at *); (try simp only [castI_eq] at *); refine EqX.i ?_; (try rw [ho]); (try dsimp only [Ar.real, IX.vo, IX.val, BX.val, IX.toN]); (try simp only [QN25]); (repeat rw [wrap_i64 (by omega) (by omega)]); omega)), by cbv; repeat' (first | trivial | exact EqO.rfl' | apply And.intro), by cbv; repeat' (first | trivial | exact EqO.rfl' | apply And.intro)⟩
    · have hk0 := hkm (by assumption)
      have h1 : gt k' = false := by rw [hgk, ← hk0, decide_eq_false hb]; rfl
      refine hR _ (k', m') (hpp (by assumption)).1 ⟨(hpp (by assumption)).2.1, (hpp (by assumption)).2.2, hno (by assumption) h1⟩ ?_
      refine ⟨(by cbv), by cbv; repeat' (first | trivial | exact EqX.rfl' | exact EqO.rfl' | apply And.intro | ((try clear hR3); (try clear hR2); (try clear hR); (try clear hK); (try simp only [ncCast] at *); (try simp only [castI_eq] at *); refine EqX.i ?_; (try rw [ho]); (try dsimp only [Ar.real, IX.vo, IX.val, BX.val, IX.toN]); (try simp only [QN25]); (repeat rw [wrap_i64 (by omega) (by omega)]); omega)), by cbv; repeat' (first | trivial | exact EqO.rfl' | apply And.intro), by cbv; repeat' (first | trivial | exact EqO.rfl' | apply And.intro)⟩
    · rw [hend (by assumption)]
      exact FinX_lg ho rfl rfl rfl rfl rfl rfl (rows_nil_SL Ar.real rfl Part.X) rfl rfl
end Go.Proofs.Ytddgcegimmcbgaa.Sy
namespace Go.Proofs.Ytddgcegimmcbgaa.Sy
open Go Go.Sy Go.Proofs.Ytddgcegimmcbgaa
theorem bor64 {x y : Nat} (hx : x < 18446744073709551616) (hy : y < 18446744073709551616) : (BitVec.ofInt 64 (x : Int) ||| BitVec.ofInt 64 (y : Int)).toNat = x ||| y := by
  rw [BitVec.toNat_or]
  simp only [BitVec.ofInt_natCast, BitVec.toNat_ofNat]
  rw [Nat.mod_eq_of_lt (by omega), Nat.mod_eq_of_lt (by omega)]
theorem or_low {a b i : Nat} (h : b < 2 ^ i) : b ||| (a * 2 ^ i) = a * 2 ^ i + b := by
  rw [Nat.mul_comm, Nat.two_pow_add_eq_or_of_lt h, Nat.or_comm]
theorem down_hi {h l s : Nat} (hl : l < 18446744073709551616) (hs : 64 ≤ s) : (h * 18446744073709551616 + l) / 2 ^ s = h / 2 ^ (s - 64) := by
  have e : 2 ^ s = 18446744073709551616 * 2 ^ (s - 64) := by
    have : 2 ^ s = 2 ^ 64 * 2 ^ (s - 64) := by rw [← Nat.pow_add]; congr 1; omega
    exact this
  rw [e, ← Nat.div_div_eq_div_mul]
  congr 1
  omega
theorem down_lo {h l s : Nat} (hh : h < 18446744073709551616) (hl : l < 18446744073709551616) (h0 : 0 < s) (hs : s < 64) :
    (h * 18446744073709551616 + l) / 2 ^ s / 18446744073709551616 = h / 2 ^ s ∧ (h * 18446744073709551616 + l) / 2 ^ s % 18446744073709551616 = h % 2 ^ s * 2 ^ (64 - s) + l / 2 ^ s ∧ l / 2 ^ s < 2 ^ (64 - s) ∧ h * 2 ^ (64 - s) % 18446744073709551616 = h % 2 ^ s * 2 ^ (64 - s) := by
  have e : 18446744073709551616 = 2 ^ s * 2 ^ (64 - s) := by
    have : 2 ^ s * 2 ^ (64 - s) = 2 ^ 64 := by rw [← Nat.pow_add]; congr 1; omega
    rw [this]
  have hK : 0 < 2 ^ s := Nat.pow_pos (by decide)
  have hL : 0 < 2 ^ (64 - s) := Nat.pow_pos (by decide)
  rw [e] at hl ⊢
  generalize 2 ^ s = K at *
  generalize 2 ^ (64 - s) = L at *
  have hq : l / K < L := (Nat.div_lt_iff_lt_mul hK).2 (by rw [Nat.mul_comm]; exact hl)
  have hV : (h * (K * L) + l) / K = h * L + l / K := by
    have : h * (K * L) + l = K * (h * L) + l := by congr 1; ac_rfl
    rw [this, Nat.mul_add_div hK]
  have hm : h * L % (K * L) = h % K * L := Nat.mul_mod_mul_right L h K
  have hsm : h % K * L + l / K < K * L := by
    have h1 : h % K < K := Nat.mod_lt _ hK
    have h2 : (h % K + 1) * L ≤ K * L := Nat.mul_le_mul_right _ h1
    rw [Nat.add_mul, Nat.one_mul] at h2
    omega
  refine ⟨?_, ?_, hq, hm⟩
  · rw [hV, Nat.mul_comm K L, ← Nat.div_div_eq_div_mul]
    congr 1
    rw [Nat.mul_comm h L, Nat.mul_add_div hL, Nat.div_eq_of_lt hq, Nat.add_zero]
  · rw [hV, Nat.add_mod, hm, Nat.mod_eq_of_lt (a := l / K) (by
      have := Nat.le_mul_of_pos_left L hK
      omega), Nat.mod_eq_of_lt hsm]
theorem x_Down (h l s : Nat) (hh : h < 18446744073709551616) (hl : l < 18446744073709551616) (hs : s < 128) : XC Try.prog 202 [.agg [xu h, xu l], xn s] [] (.agg [xu (((h * 18446744073709551616 + l) / 2 ^ s / 18446744073709551616 : Nat) : Int), xu (((h * 18446744073709551616 + l) / 2 ^ s % 18446744073709551616 : Nat) : Int)]) [] := by
  obtain ⟨r1, hr1⟩ : ∃ x : Int, x = (((h * 18446744073709551616 + l) / 2 ^ s / 18446744073709551616 : Nat) : Int) := ⟨_, rfl⟩
  obtain ⟨r2, hr2⟩ : ∃ x : Int, x = (((h * 18446744073709551616 + l) / 2 ^ s % 18446744073709551616 : Nat) : Int) := ⟨_, rfl⟩
  obtain ⟨a, ha⟩ : ∃ x : Int, x = (h : Int) := ⟨_, rfl⟩
  obtain ⟨b, hb'⟩ : ∃ x : Int, x = (l : Int) := ⟨_, rfl⟩
  have q1 : 64 ≤ s → r1 = 0 ∧ r2 = a.fdiv (2 ^ (min (IntKind.i64.wrap ((s : Int) - 64)).toNat IntKind.u64.bits)) := fun h0 => by
    have e : IntKind.i64.wrap ((s : Int) - 64) = ((s - 64 : Nat) : Int) := by rw [wrap_i64 (by omega) (by omega)]; omega
    have h3 : h / 2 ^ (s - 64) ≤ h := Nat.div_le_self _ _
    rw [down_hi hl h0] at hr1 hr2
    rw [e, ha, shr_nat IntKind.u64 h (s - 64) (show s - 64 ≤ 64 by omega), hr1, hr2, Nat.div_eq_of_lt (by omega), Nat.mod_eq_of_lt (by omega)]
    exact ⟨rfl, rfl⟩
  have q2 : s = 0 → r1 = a ∧ r2 = b := fun h0 => by
    rw [h0, Nat.pow_zero, Nat.div_one] at hr1 hr2
    omega
  have q3 : 0 < s → s < 64 → r1 = a.fdiv (2 ^ (min (s : Int).toNat IntKind.u64.bits)) ∧
      r2 = IntKind.u64.wrap (((BitVec.ofInt 64 (b.fdiv (2 ^ (min (s : Int).toNat IntKind.u64.bits))) ||| BitVec.ofInt 64 (IntKind.u64.wrap (a * 2 ^ (min (IntKind.i64.wrap (64 - (s : Int))).toNat IntKind.u64.bits)))).toNat : Nat) : Int) := fun h0 h1 => by
    obtain ⟨d1, d2, d3, d4⟩ := down_lo hh hl h0 h1
    have e : IntKind.i64.wrap (64 - (s : Int)) = ((64 - s : Nat) : Int) := by rw [wrap_i64 (by omega) (by omega)]; omega
    have h3 : h / 2 ^ s ≤ h := Nat.div_le_self _ _
    have h4 : l / 2 ^ s ≤ l := Nat.div_le_self _ _
    have e2 : IntKind.u64.wrap ((h : Int) * 2 ^ (min (((64 - s : Nat) : Int)).toNat IntKind.u64.bits)) = ((h % 2 ^ s * 2 ^ (64 - s) : Nat) : Int) := by
      rw [Int.toNat_natCast, show min (64 - s) IntKind.u64.bits = 64 - s from Nat.min_eq_left (show 64 - s ≤ 64 by omega), wrap_u64_mod, ← d4, Int.natCast_emod, Int.natCast_mul, Int.natCast_pow]
      rfl
    have h5 : h % 2 ^ s * 2 ^ (64 - s) < 18446744073709551616 := by rw [← d4]; exact Nat.mod_lt _ (by decide)
    have h6 : h % 2 ^ s * 2 ^ (64 - s) + l / 2 ^ s < 18446744073709551616 := by rw [← d2]; exact Nat.mod_lt _ (by decide)
    rw [d1] at hr1
    rw [d2] at hr2
    rw [e, ha, hb', e2, shr_nat IntKind.u64 h s (show s ≤ 64 by omega), shr_nat IntKind.u64 l s (show s ≤ 64 by omega), bor64 (by omega) h5, or_low d3, wrap_u64n h6]
    exact ⟨hr1, hr2⟩
  rw [← hr1, ← hr2, ← ha, ← hb']
  clear hr1 hr2 ha hb'
  (refine XC.of_body ([(7, [])]) Try.func202 rfl Try.ntmps202 mixed (T := [(3, ti3), (155, ti155), (235, ti235)]) (.cons tok3 (.cons tok155 (.cons tok235 .nil))) (by kernel_rfl) (by simp) rfl rfl rfl rfl rfl ?_; rintro o ho P hP c K hK; have hm : P.follows .mixedOrders = true := hP ▸ mixed; have hT : TOk P [(3, ti3), (155, ti155), (235, ti235)] := hP ▸ (.cons tok3 (.cons tok155 (.cons tok235 .nil))); (try rw [← ho]); cbv; (repeat (refine StopN.mk ?_; cbv)))
  repeat' (first | (refine Br.mk (fun hb => ?_) (fun hb => ?_) <;> ((try rw [ho] at hb); (try dsimp only [Ar.real, IX.vo] at hb); (try simp only [QN25] at hb); (try simp only [QBo, beq_iff_eq, beq_eq_false_iff_ne, ne_eq] at hb))) | (refine StopN.mk ?_; cbv) | (refine hK _ _ ?_) | (refine NeedT.mk ?_ ?_))
  any_goals (((try clear hR3); (try clear hR2); (try clear hR); (try clear hK); (try simp only [ncCast] at *); (try simp only [castI_eq] at *); (try rw [ho]); (try dsimp only [Ar.real, IX.vo, IX.val, BX.val, IX.toN]); (try simp only [QN25]); (try simp only [decide_eq_true_eq]); (all_goals (repeat rw [wrap_i64 (by omega) (by omega)])); (all_goals (first | omega | (simp only [Int.ofNat_eq_natCast]; omega)))); done)
  · obtain ⟨e1, e2⟩ := q1 (by ((try clear hR3); (try clear hR2); (try clear hR); (try clear hK); (try simp only [ncCast] at *); (try simp only [castI_eq] at *)); omega)
    exact FinX_agg2 e1.symm (by rw [ho]; exact e2.symm)
  · obtain ⟨e1, e2⟩ := q2 (by ((try clear hR3); (try clear hR2); (try clear hR); (try clear hK); (try simp only [ncCast] at *); (try simp only [castI_eq] at *)); omega)
    exact FinX_agg2 e1.symm e2.symm
  · obtain ⟨e1, e2⟩ := q3 (by ((try clear hR3); (try clear hR2); (try clear hR); (try clear hK); (try simp only [ncCast] at *); (try simp only [castI_eq] at *)); omega) (by ((try clear hR3); (try clear hR2); (try clear hR); (try clear hK); (try simp only [ncCast] at *); (try simp only [castI_eq] at *)); omega)
    exact FinX_agg2 (by rw [ho]; exact e1.symm) (by rw [ho]; exact e2.symm)
end Go.Proofs.Ytddgcegimmcbgaa.Sy
namespace Go.Proofs.Ytddgcegimmcbgaa.Sy
open Go Go.Sy Go.Proofs.Ytddgcegimmcbgaa
theorem shl1 {x : Nat} (hx : x < 18446744073709551616) : IntKind.u64.wrap ((x : Int) * 2 ^ (min (1 : Int).toNat IntKind.u64.bits)) = ((x * 2 % 18446744073709551616 : Nat) : Int) := by
  rw [wrap_u64_mod]
  show (x : Int) * 2 % 18446744073709551616 = _
  omega
theorem x_Up1 (h l : Nat) (hh : h < 18446744073709551616) (hl : l < 18446744073709551616) : XC Try.prog 203 [.agg [xu h, xu l], .i .i64 (.lit 1)] [] (.agg [xu ((h * 2 % 18446744073709551616 + l / 9223372036854775808 : Nat) : Int), xu ((l * 2 % 18446744073709551616 : Nat) : Int)]) [] := by
  obtain ⟨r1, hr1⟩ : ∃ x : Int, x = ((h * 2 % 18446744073709551616 + l / 9223372036854775808 : Nat) : Int) := ⟨_, rfl⟩
  obtain ⟨r2, hr2⟩ : ∃ x : Int, x = ((l * 2 % 18446744073709551616 : Nat) : Int) := ⟨_, rfl⟩
  obtain ⟨a, ha⟩ : ∃ x : Int, x = (h : Int) := ⟨_, rfl⟩
  obtain ⟨b, hb'⟩ : ∃ x : Int, x = (l : Int) := ⟨_, rfl⟩
  have e1 : r2 = IntKind.u64.wrap (b * 2 ^ (min (1 : Int).toNat IntKind.u64.bits)) := by rw [hb', shl1 hl, hr2]
  have e2 : r1 = IntKind.u64.wrap (((BitVec.ofInt 64 (IntKind.u64.wrap (a * 2 ^ (min (1 : Int).toNat IntKind.u64.bits))) ||| BitVec.ofInt 64 (b.fdiv (2 ^ (min (63 : Int).toNat IntKind.u64.bits)))).toNat : Nat) : Int) := by
    have e3 : b.fdiv (2 ^ (min (63 : Int).toNat IntKind.u64.bits)) = ((l / 9223372036854775808 : Nat) : Int) := by
      rw [hb', Int.fdiv_eq_ediv_of_nonneg _ (Int.pow_nonneg (by decide))]
      show (l : Int) / 9223372036854775808 = _
      omega
    rw [ha, shl1 hh, e3, bor64 (by omega) (by omega), hr1]
    have hq : l / 9223372036854775808 < 2 ^ 1 := by omega
    have e4 : h * 2 % 18446744073709551616 = (h % 9223372036854775808) * 2 ^ 1 := by omega
    rw [Nat.or_comm, e4, or_low hq, wrap_u64n (by omega)]
  rw [← hr1, ← hr2, ← ha, ← hb']
  clear hr1 hr2 ha hb'
  (refine XC.of_body ([(7, [])]) Try.func203 rfl Try.ntmps203 mixed (T := [(3, ti3), (155, ti155), (235, ti235)]) (.cons tok3 (.cons tok155 (.cons tok235 .nil))) (by kernel_rfl) (by simp) rfl rfl rfl rfl rfl ?_; rintro o ho P hP c K hK; have hm : P.follows .mixedOrders = true := hP ▸ mixed; have hT : TOk P [(3, ti3), (155, ti155), (235, ti235)] := hP ▸ (.cons tok3 (.cons tok155 (.cons tok235 .nil))); (try rw [← ho]); cbv; (repeat (refine StopN.mk ?_; cbv)))
  repeat' (first | (refine Br.mk (fun hb => ?_) (fun hb => ?_) <;> ((try rw [ho] at hb); (try dsimp only [Ar.real, IX.vo] at hb); (try simp only [QN25] at hb); (try simp only [QBo, beq_iff_eq, beq_eq_false_iff_ne, ne_eq] at hb))) | (refine StopN.mk ?_; cbv) | (refine hK _ _ ?_) | (refine NeedT.mk ?_ ?_))
  any_goals (((try clear hR3); (try clear hR2); (try clear hR); (try clear hK); (try simp only [ncCast] at *); (try simp only [castI_eq] at *); (try rw [ho]); (try dsimp only [Ar.real, IX.vo, IX.val, BX.val, IX.toN]); (try simp only [QN25]); (try simp only [decide_eq_true_eq]); (all_goals (repeat rw [wrap_i64 (by omega) (by omega)])); (all_goals (first | omega | (simp only [Int.ofNat_eq_natCast]; omega)))); done)
  exact FinX_agg2 (by rw [ho]; exact e2.symm) (by rw [ho]; exact e1.symm)
theorem dv_step {V d m : Nat} (hd : 0 < d) : V / 2 ^ m = 2 * (V / 2 ^ (m + 1)) + V / 2 ^ m % 2 ∧
    (2 * (V / 2 ^ (m + 1) % d) + V / 2 ^ m % 2 < d → V / 2 ^ m % d = 2 * (V / 2 ^ (m + 1) % d) + V / 2 ^ m % 2 ∧ V / 2 ^ m / d = 2 * (V / 2 ^ (m + 1) / d)) ∧
    (d ≤ 2 * (V / 2 ^ (m + 1) % d) + V / 2 ^ m % 2 → V / 2 ^ m % d = 2 * (V / 2 ^ (m + 1) % d) + V / 2 ^ m % 2 - d ∧ V / 2 ^ m / d = 2 * (V / 2 ^ (m + 1) / d) + 1) := by
  have h0 : V / 2 ^ m = 2 * (V / 2 ^ (m + 1)) + V / 2 ^ m % 2 := by
    rw [Nat.pow_succ, ← Nat.div_div_eq_div_mul]
    omega
  have hbit : V / 2 ^ m % 2 < 2 := Nat.mod_lt _ (by decide)
  refine ⟨h0, ?_⟩
  generalize V / 2 ^ m % 2 = t at *
  generalize V / 2 ^ (m + 1) = A at *
  rw [h0]
  have h1 := Nat.div_add_mod A d
  have h2 := Nat.mod_lt A hd
  generalize A / d = q at *
  generalize A % d = r at *
  refine ⟨fun h => ?_, fun h => ?_⟩
  · have e : 2 * A + t = (2 * r + t) + d * (2 * q) := by rw [← h1]; grind
    rw [e, Nat.add_mul_mod_self_left, Nat.add_mul_div_left _ _ hd, Nat.mod_eq_of_lt h, Nat.div_eq_of_lt h, Nat.zero_add]
    exact ⟨rfl, rfl⟩
  · have e : 2 * A + t = (2 * r + t - d) + d * (2 * q + 1) := by
      have : d * (2 * q + 1) = d * (2 * q) + d := by rw [Nat.mul_add, Nat.mul_one]
      have h3 : 2 * A + t = (2 * r + t) + d * (2 * q) := by rw [← h1]; grind
      omega
    have h4 : 2 * r + t - d < d := by omega
    rw [e, Nat.add_mul_mod_self_left, Nat.add_mul_div_left _ _ hd, Nat.mod_eq_of_lt h4, Nat.div_eq_of_lt h4, Nat.zero_add]
    exact ⟨rfl, rfl⟩
end Go.Proofs.Ytddgcegimmcbgaa.Sy
namespace Go.Proofs.Ytddgcegimmcbgaa.Sy
open Go Go.Sy Go.Proofs.Ytddgcegimmcbgaa
theorem toDL_ai {c : Cx} {l : List X} {k : IntKind} {x y : IX} (h : x.val = y.val) : X.toDL c [.agg l, .i k x] = X.toDL c [.agg l, .i k y] := by simp only [X.toDL, X.toD, h]
theorem wd_bit {w : Nat} (hw : w < 18446744073709551616) : ((BitVec.ofInt 64 (w : Int) &&& BitVec.ofInt 64 1).toNat : Int) = ((w % 2 : Nat) : Int) := and_mask (w := 64) w 1 hw (by decide)
theorem wd_sum {R0 w : Nat} {r w2 : Int} (hr : r = (R0 : Int)) (hw2 : w2 = (w : Int)) (hR : R0 < 18446744073709551616) (hw : w < 18446744073709551616) :
    IntKind.u64.wrap ((BitVec.ofInt IntKind.u64.bits (IntKind.u64.wrap (r * 2 ^ (min (1 : Int).toNat IntKind.u64.bits))) ||| BitVec.ofInt IntKind.u64.bits (IntKind.u64.wrap ((BitVec.ofInt IntKind.u64.bits w2 &&& BitVec.ofInt IntKind.u64.bits 1).toNat : Int))).toNat : Int) = ((R0 * 2 % 18446744073709551616 + w % 2 : Nat) : Int) := by
  show IntKind.u64.wrap ((BitVec.ofInt 64 (IntKind.u64.wrap (r * 2 ^ (min (1 : Int).toNat IntKind.u64.bits))) ||| BitVec.ofInt 64 (IntKind.u64.wrap ((BitVec.ofInt 64 w2 &&& BitVec.ofInt 64 1).toNat : Int))).toNat : Int) = _
  rw [hr, hw2, wd_bit hw, shl1 hR, wrap_u64n (n := w % 2) (by omega), bor64 (by omega) (by omega), Nat.or_comm]
  have e4 : R0 * 2 % 18446744073709551616 = (R0 % 9223372036854775808) * 2 ^ 1 := by omega
  rw [e4, or_low (by omega), wrap_u64n (by omega)]
theorem wd_top {R0 : Nat} {r : Int} (hr : r = (R0 : Int)) : r.fdiv (2 ^ (min (63 : Int).toNat IntKind.u64.bits)) = ((R0 / 9223372036854775808 : Nat) : Int) := by
  rw [hr, Int.fdiv_eq_ediv_of_nonneg _ (Int.pow_nonneg (by decide))]
  show (R0 : Int) / 9223372036854775808 = _
  omega
theorem wd_or1 {x : Nat} {y : Int} (hy : y = (x : Int)) (hx : x < 18446744073709551616) (h2 : x % 2 = 0) : IntKind.u64.wrap ((BitVec.ofInt IntKind.u64.bits y ||| BitVec.ofInt IntKind.u64.bits 1).toNat : Int) = ((x + 1 : Nat) : Int) := by
  show IntKind.u64.wrap ((BitVec.ofInt 64 y ||| BitVec.ofInt 64 ((1 : Nat) : Int)).toNat : Int) = _
  rw [hy, bor64 hx (by omega), Nat.or_comm]
  have e4 : x = (x / 2) * 2 ^ 1 := by omega
  rw [e4, or_low (by omega), wrap_u64n (by omega)]
structure StWd where
  i : Nat
  r : Int
  qh : Int
  ql : Int
structure InWd (V d : Nat) (s : StWd) : Prop where
  i : s.i ≤ 128
  r : s.r = ((V / 2 ^ (128 - s.i) % d : Nat) : Int)
  qh : s.qh = ((V / 2 ^ (128 - s.i) / d / 18446744073709551616 : Nat) : Int)
  ql : s.ql = ((V / 2 ^ (128 - s.i) / d % 18446744073709551616 : Nat) : Int)
theorem x_wDiv (h l d : Nat) (hh : h < 18446744073709551616) (hl : l < 18446744073709551616) (hd0 : 0 < d) (hd : d < 18446744073709551616) :
    XC Try.prog 170 [.agg [xu h, xu l], xu d] [] (.tup [.agg [xu (((h * 18446744073709551616 + l) / d / 18446744073709551616 : Nat) : Int), xu (((h * 18446744073709551616 + l) / d % 18446744073709551616 : Nat) : Int)], xu (((h * 18446744073709551616 + l) % d : Nat) : Int)]) [] := by
  have hDn := fun s hs => x_Down h l s hh hl hs
  have hUp : ∀ (Q : Nat) (x y x' y' : Int), Q < 18446744073709551616 * 18446744073709551616 → x = ((Q / 18446744073709551616 : Nat) : Int) → y = ((Q % 18446744073709551616 : Nat) : Int) → x' = ((Q / 18446744073709551616 * 2 % 18446744073709551616 + Q % 18446744073709551616 / 9223372036854775808 : Nat) : Int) → y' = ((Q % 18446744073709551616 * 2 % 18446744073709551616 : Nat) : Int) → XC Try.prog 203 [.agg [xu x, xu y], .i .i64 (.lit 1)] [] (.agg [xu x', xu y']) [] := fun Q x y x' y' h0 h1 h2 h3 h4 => by
    rw [h1, h2, h3, h4]
    exact x_Up1 _ _ (by omega) (by omega)
  have hV : h * 18446744073709551616 + l < 18446744073709551616 * 18446744073709551616 := by omega
  obtain ⟨V, hVd⟩ : ∃ V, V = h * 18446744073709551616 + l := ⟨_, rfl⟩
  rw [← hVd] at hV ⊢
  simp only [← hVd] at hDn
  clear hVd
  have hI0 : InWd V d ⟨0, 0, 0, 0⟩ := by
    have e : V / 2 ^ (128 - 0) = 0 := Nat.div_eq_of_lt hV
    refine ⟨Nat.zero_le _, ?_, ?_, ?_⟩ <;> dsimp only <;> rw [e] <;> simp
  have hfin : ∀ r qh ql, InWd V d ⟨128, r, qh, ql⟩ → ((V / d / 18446744073709551616 : Nat) : Int) = qh ∧ ((V / d % 18446744073709551616 : Nat) : Int) = ql ∧ ((V % d : Nat) : Int) = r := fun r qh ql hi => by
    have h1 := hi.r
    have h2 := hi.qh
    have h3 := hi.ql
    dsimp only at h1 h2 h3
    rw [show 128 - 128 = 0 from rfl, Nat.pow_zero, Nat.div_one] at h1 h2 h3
    exact ⟨h2.symm, h3.symm, h1.symm⟩
  have hst := fun m => dv_step (V := V) (m := m) hd0
  obtain ⟨a, ha⟩ : ∃ x : Int, x = (h : Int) := ⟨_, rfl⟩
  obtain ⟨b, hb'⟩ : ∃ x : Int, x = (l : Int) := ⟨_, rfl⟩
  obtain ⟨e, he⟩ : ∃ x : Int, x = (d : Int) := ⟨_, rfl⟩
  generalize hv1 : ((V / d / 18446744073709551616 : Nat) : Int) = v1 at *
  generalize hv2 : ((V / d % 18446744073709551616 : Nat) : Int) = v2 at *
  generalize hv3 : ((V % d : Nat) : Int) = v3 at *
  rw [← ha, ← hb', ← he]
  obtain ⟨W1, hW1⟩ : ∃ f : Nat → Int, ∀ m, f m = ((V / 2 ^ m / 18446744073709551616 : Nat) : Int) := ⟨_, fun _ => rfl⟩
  obtain ⟨W2, hW2⟩ : ∃ f : Nat → Int, ∀ m, f m = ((V / 2 ^ m % 18446744073709551616 : Nat) : Int) := ⟨_, fun _ => rfl⟩
  simp only [← ha, ← hb', ← hW1, ← hW2] at hDn
  (refine XC.of_body ([]) Try.func170 rfl Try.ntmps170 mixed (T := [(3, ti3), (155, ti155), (235, ti235)]) (.cons tok3 (.cons tok155 (.cons tok235 .nil))) (by kernel_rfl) (by simp) rfl rfl rfl rfl rfl ?_; rintro o ho P hP c K hK; have hm : P.follows .mixedOrders = true := hP ▸ mixed; have hT : TOk P [(3, ti3), (155, ti155), (235, ti235)] := hP ▸ (.cons tok3 (.cons tok155 (.cons tok235 .nil))); (try rw [← ho]); cbv; (repeat (refine StopN.mk ?_; cbv)))
  repeat' (first | (refine Br.mk (fun hb => ?_) (fun hb => ?_) <;> ((try rw [ho] at hb); (try dsimp only [Ar.real, IX.vo] at hb); (try simp only [QN25] at hb); (try simp only [QBo, beq_iff_eq, beq_eq_false_iff_ne, ne_eq] at hb))) | (refine StopN.mk ?_; cbv) | (refine hK _ _ ?_) | (refine NeedT.mk ?_ ?_))
  any_goals (((try clear hR3); (try clear hR2); (try clear hR); (try clear hK); (try simp only [ncCast] at *); (try simp only [castI_eq] at *); (try rw [ho]); (try dsimp only [Ar.real, IX.vo, IX.val, BX.val, IX.toN]); (try simp only [QN25]); (try simp only [decide_eq_true_eq]); (all_goals (repeat rw [wrap_i64 (by omega) (by omega)])); (all_goals (first | omega | (simp only [Int.ofNat_eq_natCast]; omega)))); done)
  refine LoopN.over (o := o) (D := []) ho hm hT (by kernel_rfl) (fun s : StWd => [(13, xn s.i), (7, xu s.r)]) (fun s => [(2, .var [xu s.qh, xu s.ql] 235)]) (fun _ => []) (InWd V d) (fun s => 128 - s.i) ⟨0, 0, 0, 0⟩ hI0 ?_ ?_
  · refine ⟨(by cbv), by cbv; repeat' (first | trivial | exact EqX.rfl' | exact EqO.rfl' | apply And.intro | ((try clear hR3); (try clear hR2); (try clear hR); (try clear hK); (try simp only [ncCast] at *); (try simp only [castI_eq] at *); refine EqX.i ?_; (try rw [ho]); (try dsimp only [Ar.real, IX.vo, IX.val, BX.val, IX.toN]); (try simp only [QN25]); (repeat rw [wrap_i64 (by omega) (by omega)]); omega) | (refine EqX.i ?_; rfl) | exact ⟨rfl⟩), by cbv; repeat' (first | trivial | exact EqO.rfl' | apply And.intro | (refine EqX.i ?_; rfl) | exact ⟨rfl⟩), by cbv; repeat' (first | trivial | exact EqO.rfl' | apply And.intro | (refine EqX.i ?_; rfl) | exact ⟨rfl⟩)⟩
  · rintro ⟨i, r, qh, ql⟩ hin R hR
    have hi := hin.i
    have hr := hin.r
    have hqh := hin.qh
    have hql := hin.ql
    dsimp only at hi hr hqh hql
    have he2 : e = (d : Int) := he
    clear he
    have hfi : i = 128 → v1 = qh ∧ v2 = ql ∧ v3 = r := fun h => by
      subst h
      exact hfin r qh ql hin
    obtain ⟨w1, hw1⟩ : ∃ x, x = W1 (127 - i) := ⟨_, rfl⟩
    obtain ⟨w2, hw2⟩ : ∃ x, x = W2 (127 - i) := ⟨_, rfl⟩
    have hD := hDn (127 - i) (by omega)
    rw [← hw1, ← hw2] at hD
    rw [hW2] at hw2
    have hsh : i < 128 → IntKind.i64.wrap ((127 : Int) - (i : Int)) = ((127 - i : Nat) : Int) := fun h => by
      rw [wrap_i64 (by omega) (by omega)]
      omega
    obtain ⟨Q, hQ⟩ : ∃ Q, Q = V / 2 ^ (128 - i) / d := ⟨_, rfl⟩
    obtain ⟨R0, hR0⟩ : ∃ R0, R0 = V / 2 ^ (128 - i) % d := ⟨_, rfl⟩
    rw [← hQ] at hqh hql
    rw [← hR0] at hr
    have hQb : Q < 18446744073709551616 * 18446744073709551616 := by
      rw [hQ]
      exact Nat.lt_of_le_of_lt (Nat.le_trans (Nat.div_le_self _ _) (Nat.div_le_self _ _)) hV
    have hRb : R0 < d := by rw [hR0]; exact Nat.mod_lt _ hd0
    obtain ⟨qh2, hqh2⟩ : ∃ x : Int, x = ((Q / 18446744073709551616 * 2 % 18446744073709551616 + Q % 18446744073709551616 / 9223372036854775808 : Nat) : Int) := ⟨_, rfl⟩
    obtain ⟨ql2, hql2⟩ : ∃ x : Int, x = ((Q % 18446744073709551616 * 2 % 18446744073709551616 : Nat) : Int) := ⟨_, rfl⟩
    have hU := hUp Q qh ql qh2 ql2 hQb hqh hql hqh2 hql2
    obtain ⟨w, hw⟩ : ∃ w, w = V / 2 ^ (127 - i) % 18446744073709551616 := ⟨_, rfl⟩
    have hw2' : w2 = (w : Int) := by rw [hw]; exact hw2
    have hsum := wd_sum hr hw2' (by omega) (by rw [hw]; exact Nat.mod_lt _ (by decide))
    have htop := wd_top hr
    obtain ⟨S, hS⟩ : ∃ x : Int, x = ((R0 * 2 % 18446744073709551616 + w % 2 : Nat) : Int) := ⟨_, rfl⟩
    rw [← hS] at hsum
    obtain ⟨r', hr'⟩ : ∃ x : Int, x = ((V / 2 ^ (127 - i) % d : Nat) : Int) := ⟨_, rfl⟩
    obtain ⟨qh', hqh'⟩ : ∃ x : Int, x = ((V / 2 ^ (127 - i) / d / 18446744073709551616 : Nat) : Int) := ⟨_, rfl⟩
    obtain ⟨ql', hql'⟩ : ∃ x : Int, x = ((V / 2 ^ (127 - i) / d % 18446744073709551616 : Nat) : Int) := ⟨_, rfl⟩
    have hnx : i < 128 → InWd V d ⟨i + 1, r', qh', ql'⟩ := fun h => by
      have e : 128 - (i + 1) = 127 - i := by omega
      refine ⟨h, ?_, ?_, ?_⟩ <;> dsimp only <;> rw [e] <;> assumption
    have hstep : i < 128 → (2 * R0 + w % 2 < d → r' = ((2 * R0 + w % 2 : Nat) : Int) ∧ qh' = ((2 * Q / 18446744073709551616 : Nat) : Int) ∧ ql' = ((2 * Q % 18446744073709551616 : Nat) : Int)) ∧
        (d ≤ 2 * R0 + w % 2 → r' = ((2 * R0 + w % 2 - d : Nat) : Int) ∧ qh' = (((2 * Q + 1) / 18446744073709551616 : Nat) : Int) ∧ ql' = (((2 * Q + 1) % 18446744073709551616 : Nat) : Int) ∧ 2 * Q + 1 < 18446744073709551616 * 18446744073709551616) ∧ 2 * Q < 18446744073709551616 * 18446744073709551616 := fun h => by
      obtain ⟨s0, s1, s2⟩ := hst (127 - i)
      rw [show 127 - i + 1 = 128 - i by omega, ← hQ, ← hR0] at s1 s2
      have ew : V / 2 ^ (127 - i) % 2 = w % 2 := by rw [hw, Nat.mod_mod_of_dvd _ (by decide)]
      rw [ew] at s1 s2
      have hb : V / 2 ^ (127 - i) / d < 18446744073709551616 * 18446744073709551616 := Nat.lt_of_le_of_lt (Nat.le_trans (Nat.div_le_self _ _) (Nat.div_le_self _ _)) hV
      refine ⟨fun h5 => ?_, fun h5 => ?_, ?_⟩
      · obtain ⟨t1, t2⟩ := s1 h5
        rw [t1] at hr'
        rw [t2] at hqh' hql'
        exact ⟨hr', hqh', hql'⟩
      · obtain ⟨t1, t2⟩ := s2 h5
        rw [t2] at hb
        rw [t1] at hr'
        rw [t2] at hqh' hql'
        exact ⟨hr', hqh', hql', hb⟩
      · rcases Nat.lt_or_ge (2 * R0 + w % 2) d with h5 | h5
        · rw [(s1 h5).2] at hb
          exact hb
        · rw [(s2 h5).2] at hb
          omega
    have hA : i < 128 → (r.fdiv (2 ^ (min (63 : Int).toNat IntKind.u64.bits)) = 1 ∨ e ≤ S) → IntKind.u64.wrap (S - e) = r' ∧ qh2 = qh' ∧ IntKind.u64.wrap ((BitVec.ofInt IntKind.u64.bits ql2 ||| BitVec.ofInt IntKind.u64.bits 1).toNat : Int) = ql' := fun h h5 => by
      rw [htop] at h5
      have h6 : d ≤ 2 * R0 + w % 2 := by omega
      obtain ⟨t1, t2, t3, t4⟩ := (hstep h).2.1 h6
      rw [wd_or1 hql2 (by omega) (by omega), wrap_u64_mod, t1, t2, t3, hqh2]
      refine ⟨by omega, by omega, by omega⟩
    have hB : i < 128 → ¬ r.fdiv (2 ^ (min (63 : Int).toNat IntKind.u64.bits)) = 1 → S < e → S = r' ∧ qh2 = qh' ∧ ql2 = ql' := fun h h5 h6 => by
      rw [htop] at h5
      have h7 : 2 * R0 + w % 2 < d := by omega
      obtain ⟨t1, t2, t3⟩ := (hstep h).1 h7
      have t4 := (hstep h).2.2
      rw [t1, t2, t3, hqh2, hql2]
      refine ⟨by omega, by omega, by omega⟩
    clear hstep hQ hR0 hw hw2 hw2' hS hr' hqh' hql' hqh2 hql2 hst hin
    cbv
    repeat' (first | (refine Br.mk (fun hb => ?_) (fun hb => ?_) <;> ((try rw [ho] at hb); (try dsimp only [Ar.real, IX.vo] at hb); (try simp only [QN25] at hb); (try simp only [QBo, beq_iff_eq, beq_eq_false_iff_ne, ne_eq] at hb))) | (refine StopN.mk ?_; cbv) | (refine hK _ _ ?_) | (refine NeedT.mk ?_ ?_))
    any_goals (((try clear hR3); (try clear hR2); (try clear hR); (try clear hK); (try simp only [ncCast] at *); (try simp only [castI_eq] at *); (try rw [ho]); (try dsimp only [Ar.real, IX.vo, IX.val, BX.val, IX.toN]); (try simp only [QN25]); (try simp only [decide_eq_true_eq]); (all_goals (repeat rw [wrap_i64 (by omega) (by omega)])); (all_goals (first | omega | (simp only [Int.ofNat_eq_natCast]; omega)))); done)
    · refine CallI.pure hP hD fn202 rfl rfl (toDL_ai (by rw [ho]; exact hsh (by ((try clear hR3); (try clear hR2); (try clear hR); (try clear hK); (try simp only [ncCast] at *); (try simp only [castI_eq] at *)); omega))) ?_
      cbv
      repeat' (first | (refine Br.mk (fun hb => ?_) (fun hb => ?_) <;> ((try rw [ho] at hb); (try dsimp only [Ar.real, IX.vo] at hb); (try simp only [QN25] at hb); (try simp only [QBo, beq_iff_eq, beq_eq_false_iff_ne, ne_eq] at hb))) | (refine StopN.mk ?_; cbv) | (first | refine CallI.pure hP hU fn203 rfl rfl rfl ?_); cbv | (refine hK _ _ ?_) | (refine NeedT.mk ?_ ?_))
      all_goals have hi1 : i < 128 := by ((try clear hR3); (try clear hR2); (try clear hR); (try clear hK); (try simp only [ncCast] at *); (try simp only [castI_eq] at *)); omega
      · obtain ⟨g1, g2, g3⟩ := hA hi1 (.inl hb)
        refine hR _ ⟨i + 1, r', qh', ql'⟩ (by show 128 - (i + 1) < 128 - i; omega) (hnx hi1) ?_
        refine ⟨(by cbv), by cbv; repeat' (first | trivial | exact EqX.rfl' | exact EqO.rfl' | apply And.intro | ((try clear hR3); (try clear hR2); (try clear hR); (try clear hK); (try simp only [ncCast] at *); (try simp only [castI_eq] at *); refine EqX.i ?_; (try rw [ho]); (try dsimp only [Ar.real, IX.vo, IX.val, BX.val, IX.toN]); (try simp only [QN25]); (repeat rw [wrap_i64 (by omega) (by omega)]); omega) | (refine EqX.i ?_; rw [ho, ← g1, ← hsum]; rfl) | exact ⟨by rw [← g2, ← g3, ho]; rfl⟩), by cbv; repeat' (first | trivial | exact EqO.rfl' | apply And.intro | (refine EqX.i ?_; rw [ho, ← g1, ← hsum]; rfl) | exact ⟨by rw [← g2, ← g3, ho]; rfl⟩), by cbv; repeat' (first | trivial | exact EqO.rfl' | apply And.intro | (refine EqX.i ?_; rw [ho, ← g1, ← hsum]; rfl) | exact ⟨by rw [← g2, ← g3, ho]; rfl⟩)⟩
      · obtain ⟨g1, g2, g3⟩ := hA hi1 (.inr (by rw [← hsum]; exact hb))
        refine hR _ ⟨i + 1, r', qh', ql'⟩ (by show 128 - (i + 1) < 128 - i; omega) (hnx hi1) ?_
        refine ⟨(by cbv), by cbv; repeat' (first | trivial | exact EqX.rfl' | exact EqO.rfl' | apply And.intro | ((try clear hR3); (try clear hR2); (try clear hR); (try clear hK); (try simp only [ncCast] at *); (try simp only [castI_eq] at *); refine EqX.i ?_; (try rw [ho]); (try dsimp only [Ar.real, IX.vo, IX.val, BX.val, IX.toN]); (try simp only [QN25]); (repeat rw [wrap_i64 (by omega) (by omega)]); omega) | (refine EqX.i ?_; rw [ho, ← g1, ← hsum]; rfl) | exact ⟨by rw [← g2, ← g3, ho]; rfl⟩), by cbv; repeat' (first | trivial | exact EqO.rfl' | apply And.intro | (refine EqX.i ?_; rw [ho, ← g1, ← hsum]; rfl) | exact ⟨by rw [← g2, ← g3, ho]; rfl⟩), by cbv; repeat' (first | trivial | exact EqO.rfl' | apply And.intro | (refine EqX.i ?_; rw [ho, ← g1, ← hsum]; rfl) | exact ⟨by rw [← g2, ← g3, ho]; rfl⟩)⟩
      · obtain ⟨g1, g2, g3⟩ := hB hi1 (by assumption) (by rw [← hsum]; exact hb)
        refine hR _ ⟨i + 1, r', qh', ql'⟩ (by show 128 - (i + 1) < 128 - i; omega) (hnx hi1) ?_
        refine ⟨(by cbv), by cbv; repeat' (first | trivial | exact EqX.rfl' | exact EqO.rfl' | apply And.intro | ((try clear hR3); (try clear hR2); (try clear hR); (try clear hK); (try simp only [ncCast] at *); (try simp only [castI_eq] at *); refine EqX.i ?_; (try rw [ho]); (try dsimp only [Ar.real, IX.vo, IX.val, BX.val, IX.toN]); (try simp only [QN25]); (repeat rw [wrap_i64 (by omega) (by omega)]); omega) | (refine EqX.i ?_; rw [ho, ← g1, ← hsum]; rfl) | exact ⟨by rw [← g2, ← g3]⟩), by cbv; repeat' (first | trivial | exact EqO.rfl' | apply And.intro | (refine EqX.i ?_; rw [ho, ← g1, ← hsum]; rfl) | exact ⟨by rw [← g2, ← g3]⟩), by cbv; repeat' (first | trivial | exact EqO.rfl' | apply And.intro | (refine EqX.i ?_; rw [ho, ← g1, ← hsum]; rfl) | exact ⟨by rw [← g2, ← g3]⟩)⟩
    · obtain ⟨rfl, rfl, rfl⟩ := hfi (by ((try clear hR3); (try clear hR2); (try clear hR); (try clear hK); (try simp only [ncCast] at *); (try simp only [castI_eq] at *)); omega)
      exact .pure fun _ => rfl
end Go.Proofs.Ytddgcegimmcbgaa.Sy
namespace Go.Proofs.Ytddgcegimmcbgaa.Sy
open Go Go.Sy Go.Proofs.Ytddgcegimmcbgaa
theorem x_wOf (a : Int) : XC Try.prog 172 [xu a] [] (.agg [xu 0, xu a]) [] := by
  (refine XC.of_body ([]) Try.func172 rfl Try.ntmps172 mixed (T := [(155, ti155), (235, ti235)]) (.cons tok155 (.cons tok235 .nil)) (by kernel_rfl) (by simp) rfl rfl rfl rfl rfl ?_; rintro o ho P hP c K hK; have hm : P.follows .mixedOrders = true := hP ▸ mixed; have hT : TOk P [(155, ti155), (235, ti235)] := hP ▸ (.cons tok155 (.cons tok235 .nil)); (try rw [← ho]); cbv; (repeat (refine StopN.mk ?_; cbv)))
  repeat' (first | (refine Br.mk (fun hb => ?_) (fun hb => ?_) <;> ((try rw [ho] at hb); (try dsimp only [Ar.real, IX.vo] at hb); (try simp only [QN25, QN12] at hb); (try simp only [QBo, beq_iff_eq, beq_eq_false_iff_ne, ne_eq] at hb))) | (refine StopN.mk ?_; cbv) | (refine hK _ _ ?_) | (refine NeedT.mk ?_ ?_))
  exact FinX_agg2 rfl rfl
theorem toDL_ii2 {c : Cx} {k k' : IntKind} {x y a b : IX} (h : x.val = a.val) (h' : y.val = b.val) : X.toDL c [.i k x, .i k' y] = X.toDL c [.i k a, .i k' b] := by simp only [X.toDL, X.toD, h, h']
def moTo (need other : S4) (c : Int) : Nat → Nat
  | 0 => 18446744073709551616
  | k + 1 => if 0 < need.at_ k then min (moTo need other c k) ((other.at_ k).toNat * c.toNat / (need.at_ k).toNat) else moTo need other c k
theorem moTo_bd (need other : S4) (c : Int) : ∀ k, moTo need other c k ≤ 18446744073709551616
  | 0 => Nat.le_refl _
  | k + 1 => by
    have := moTo_bd need other c k
    simp only [moTo]
    split <;> omega
def envB (p : Prof) (r : Res) (j i : Nat) : Bool :=
  (lastG r.gr j).2 && (decide (i ≠ j) && (decide ((p.wants.getD i default).weight = (p.wants.getD j default).weight) && ((subV (lastG r.gr j).1.off (p.wants.getD i default).need).2 &&
    decide ((tk r i).toNat < moTo (sumsOf (p.wants.getD i default).need) (sumsOf (p.wants.getD j default).need) (max 0 (tk r j - 1)) 4))))
theorem cmp_lt (D m : Nat) : (wideCmp ((D / 18446744073709551616 : Nat) : Int) ((D % 18446744073709551616 : Nat) : Int) ((m / 18446744073709551616 : Nat) : Int) ((m % 18446744073709551616 : Nat) : Int) < 0 ↔ D < m) ∧
    (0 < wideCmp ((D / 18446744073709551616 : Nat) : Int) ((D % 18446744073709551616 : Nat) : Int) ((m / 18446744073709551616 : Nat) : Int) ((m % 18446744073709551616 : Nat) : Int) ↔ m < D) := by
  unfold wideCmp
  split
  · omega
  · split <;> omega
theorem kind_step {x c n : Int} (hx : 0 ≤ x ∧ x ≤ 1152921504606846976) (hc : 0 ≤ c ∧ c ≤ 4095) (hn : 0 < n ∧ n ≤ 1152921504606846976) (m : Nat) {H L H' L' : Int} (hH : H = ((m / 18446744073709551616 : Nat) : Int)) (hL : L = ((m % 18446744073709551616 : Nat) : Int))
    (hH' : H' = ((min m (x.toNat * c.toNat / n.toNat) / 18446744073709551616 : Nat) : Int)) (hL' : L' = ((min m (x.toNat * c.toNat / n.toNat) % 18446744073709551616 : Nat) : Int)) :
    ∃ m1 m2 d1 d2 rm : Int, XC Try.prog 169 [xu x, xu c] [] (.agg [xu m1, xu m2]) [] ∧ XC Try.prog 170 [.agg [xu m1, xu m2], xu n] [] (.tup [.agg [xu d1, xu d2], xu rm]) [] ∧
      (wideCmp d1 d2 H L < 0 → H' = d1 ∧ L' = d2) ∧ (0 ≤ wideCmp d1 d2 H L → H' = H ∧ L' = L) := by
  have hM := x_Mul x c ⟨by omega, by omega⟩ ⟨by omega, by omega⟩
  have p0 : 0 ≤ x * c := Int.mul_nonneg hx.1 hc.1
  have p1 : x * c ≤ 1152921504606846976 * 4095 := Int.mul_le_mul hx.2 hc.2 hc.1 (by omega)
  obtain ⟨V, hV⟩ : ∃ V : Nat, x * c = V := ⟨(x * c).toNat, by omega⟩
  have hV2 : x.toNat * c.toNat = V := by
    obtain ⟨x, rfl⟩ := Int.eq_ofNat_of_zero_le hx.1
    obtain ⟨c, rfl⟩ := Int.eq_ofNat_of_zero_le hc.1
    simp only [Int.toNat_natCast]
    exact_mod_cast hV
  obtain ⟨n, rfl⟩ := Int.eq_ofNat_of_zero_le (show 0 ≤ n by omega)
  rw [hV2, Int.toNat_natCast] at hH' hL'
  have hD := x_wDiv (V / 18446744073709551616) (V % 18446744073709551616) n (by omega) (by omega) (by omega) (by omega)
  have eV : V / 18446744073709551616 * 18446744073709551616 + V % 18446744073709551616 = V := by omega
  rw [eV] at hD
  unfold mulHi mulLo at hM
  rw [hV] at hM
  have e1 : (V : Int) / 18446744073709551616 = ((V / 18446744073709551616 : Nat) : Int) := by omega
  have e2 : (V : Int) % 18446744073709551616 = ((V % 18446744073709551616 : Nat) : Int) := by omega
  rw [e1, e2] at hM
  refine ⟨_, _, _, _, _, hM, hD, fun h => ?_, fun h => ?_⟩
  · rw [hH, hL] at h
    have := (cmp_lt (V / n) m).1.1 h
    rw [hH', hL', Nat.min_eq_right (by omega)]
    exact ⟨rfl, rfl⟩
  · rw [hH, hL] at h
    have : ¬ V / n < m := fun h' => by
      have := (cmp_lt (V / n) m).1.2 h'
      omega
    rw [hH', hL', hH, hL, Nat.min_eq_left (by omega)]
    exact ⟨rfl, rfl⟩
theorem x_envies114 (p : Prof) (hp : ProfOk p) (r : Res) (hg : r.gr.length ≤ 1048576) (hgo : ∀ k, (r.gr.getD k default).off.length ≤ 1048576) (h1 : (oneR p).2 = true) (h2 : fitsR p r = true) (j i : Nat) (hj : j < p.wants.length) (hi : i < p.wants.length)
    (dl : List Rd) (rm : Bool) (rx ry : List Nat) (wm : Bool) (wx wy : List Nat) :
    XC Try.prog 114 [.agg (AX Ar.real p dl rm rx ry wm wx wy), .agg (Res.X Ar.real r), xn j, xn i] [] (xb (envB p r j i)) [] := by
  obtain ⟨c1, c2, c3, c4⟩ := oneR_true h1
  obtain ⟨t1, t2⟩ := fitsR_at h2
  obtain ⟨li1, li2, li3⟩ := t2 i hi
  obtain ⟨lj1, lj2, lj3⟩ := t2 j hj
  have hLa := x_last r.gr hg (j : Int)
  have hoff : (lastG r.gr j).1.off.length ≤ 1048576 := by
    unfold lastG
    split
    · exact Nat.zero_le _
    · exact hgo _
  have hHo := x_vecHolds (lastG r.gr j).1.off (p.wants.getD i default).need hoff (hp.w i)
  have hSi := x_sumsOf (p.wants.getD i default).need (hp.w i)
  have hSj := x_sumsOf (p.wants.getD j default).need (hp.w j)
  obtain ⟨_, _, f3, _⟩ := fine_bare (checkR_fine c1)
  have bi := (f3 i hi).1
  have bj := (f3 j hj).1
  have ati := fun k => S4.at_bd bi.right k
  have atj := fun k => S4.at_bd bj.right k
  have q0 : (lastG r.gr j).2 = false → envB p r j i = false := fun h => by unfold envB; rw [h]; rfl
  have q1 : i = j → envB p r j i = false := fun h => by
    have : ¬ i ≠ j := fun h' => h' h
    unfold envB
    rw [decide_eq_false this, Bool.false_and, Bool.and_false]
  have q2 : ¬ (p.wants.getD i default).weight = (p.wants.getD j default).weight → envB p r j i = false := fun h => by
    unfold envB
    rw [decide_eq_false h, Bool.false_and, Bool.and_false, Bool.and_false]
  have q3 : (subV (lastG r.gr j).1.off (p.wants.getD i default).need).2 = false → envB p r j i = false := fun h => by
    unfold envB
    rw [h, Bool.false_and, Bool.and_false, Bool.and_false, Bool.and_false]
  have q4 : (lastG r.gr j).2 = true → ¬ i = j → (p.wants.getD i default).weight = (p.wants.getD j default).weight → (subV (lastG r.gr j).1.off (p.wants.getD i default).need).2 = true →
      envB p r j i = decide ((tk r i).toNat < moTo (sumsOf (p.wants.getD i default).need) (sumsOf (p.wants.getD j default).need) (max 0 (tk r j - 1)) 4) := fun e1 e2 e3 e4 => by
    have : i ≠ j := e2
    unfold envB
    rw [e1, decide_eq_true this, decide_eq_true e3, e4]
    simp only [Bool.true_and]
  obtain ⟨cc, hcc⟩ : ∃ x, x = max 0 (tk r j - 1) := ⟨_, rfl⟩
  have hcb : 0 ≤ cc ∧ cc ≤ 4095 := by omega
  rw [← hcc] at q4
  have hM1 : ∀ k, moTo (sumsOf (p.wants.getD i default).need) (sumsOf (p.wants.getD j default).need) cc (k + 1) = if 0 < (sumsOf (p.wants.getD i default).need).at_ k then min (moTo (sumsOf (p.wants.getD i default).need) (sumsOf (p.wants.getD j default).need) cc k) (((sumsOf (p.wants.getD j default).need).at_ k).toNat * cc.toNat / ((sumsOf (p.wants.getD i default).need).at_ k).toNat) else moTo (sumsOf (p.wants.getD i default).need) (sumsOf (p.wants.getD j default).need) cc k := fun _ => rfl
  have hMb := moTo_bd (sumsOf (p.wants.getD i default).need) (sumsOf (p.wants.getD j default).need) cc
  have hM0 : moTo (sumsOf (p.wants.getD i default).need) (sumsOf (p.wants.getD j default).need) cc 0 = 18446744073709551616 := rfl
  have ha : ∀ k : Nat, (sumsOf (p.wants.getD i default).need).at_ k = [(sumsOf (p.wants.getD i default).need).a, (sumsOf (p.wants.getD i default).need).b, (sumsOf (p.wants.getD i default).need).c, (sumsOf (p.wants.getD i default).need).d].getD k 0 ∧ (sumsOf (p.wants.getD j default).need).at_ k = [(sumsOf (p.wants.getD j default).need).a, (sumsOf (p.wants.getD j default).need).b, (sumsOf (p.wants.getD j default).need).c, (sumsOf (p.wants.getD j default).need).d].getD k 0 := fun _ => ⟨rfl, rfl⟩
  clear bi bj f3 c3 c4 c1 hoff hgo
  generalize envB p r j i = res at *
  generalize hM : moTo (sumsOf (p.wants.getD i default).need) (sumsOf (p.wants.getD j default).need) cc = M at *
  generalize (subV (lastG r.gr j).1.off (p.wants.getD i default).need).2 = hh at *
  generalize lastG r.gr j = lg at *
  clear hM
  generalize hna : (sumsOf (p.wants.getD i default).need).at_ = na at *
  generalize hoa : (sumsOf (p.wants.getD j default).need).at_ = oa at *
  clear hna hoa
  generalize sumsOf (p.wants.getD i default).need = ns at *
  generalize sumsOf (p.wants.getD j default).need = os at *
  obtain ⟨H, hH⟩ : ∃ f : Nat → Int, ∀ k, f k = ((M k / 18446744073709551616 : Nat) : Int) := ⟨_, fun _ => rfl⟩
  obtain ⟨L, hL⟩ : ∃ f : Nat → Int, ∀ k, f k = ((M k % 18446744073709551616 : Nat) : Int) := ⟨_, fun _ => rfl⟩
  have hQ : ∀ k, 0 < na k → ∃ m1 m2 d1 d2 rm : Int, XC Try.prog 169 [xu (oa k), xu cc] [] (.agg [xu m1, xu m2]) [] ∧ XC Try.prog 170 [.agg [xu m1, xu m2], xu (na k)] [] (.tup [.agg [xu d1, xu d2], xu rm]) [] ∧
      (wideCmp d1 d2 (H k) (L k) < 0 → H (k + 1) = d1 ∧ L (k + 1) = d2) ∧ (0 ≤ wideCmp d1 d2 (H k) (L k) → H (k + 1) = H k ∧ L (k + 1) = L k) := fun k h => by
    have e := hM1 k
    rw [if_pos h] at e
    exact kind_step (atj k) hcb ⟨h, (ati k).2⟩ (M k) (hH k) (hL k) (by rw [hH, e]) (by rw [hL, e])
  have hQ0 : ∀ k, na k ≤ 0 → H (k + 1) = H k ∧ L (k + 1) = L k := fun k h => by
    have e := hM1 k
    rw [if_neg (by omega)] at e
    rw [hH, hL, hH, hL, e]
    exact ⟨rfl, rfl⟩
  have hH0 : H 0 = 1 ∧ L 0 = 0 := by rw [hH, hL, hM0]; exact ⟨rfl, rfl⟩
  obtain ⟨cm4, hcm4⟩ : ∃ x, x = wideCmp (H 4) (L 4) 0 (tk r i) := ⟨_, rfl⟩
  have hres4 : decide ((tk r i).toNat < M 4) = decide (0 < cm4) := by
    obtain ⟨t, ht⟩ : ∃ t : Nat, tk r i = t := ⟨(tk r i).toNat, by omega⟩
    have e0 : (0 : Int) = ((t / 18446744073709551616 : Nat) : Int) := by omega
    have e1 : (t : Int) = ((t % 18446744073709551616 : Nat) : Int) := by omega
    have := (cmp_lt (M 4) t).2
    rw [← e0, ← e1, ← hH, ← hL, ← ht, ← hcm4] at this
    rw [ht, Int.toNat_natCast]
    congr 1
    exact propext this.symm
  rw [hres4] at q4
  clear hres4 hM1 hM0 hMb hH hL
  obtain ⟨n1, n2, n3, n4⟩ := ns
  obtain ⟨o1, o2, o3, o4⟩ := os
  obtain ⟨⟨g1, g2, g3, g4, g5, g6, goff, gla⟩, gb⟩ := lg
  obtain ⟨gr, tasks, left⟩ := r
  obtain ⟨ags, wants, lo⟩ := p
  obtain ⟨loa, lob, loc, lod⟩ := lo
  obtain ⟨pa, pw, hla, hwa⟩ := hp
  unfold tk at *
  dsimp only at *
  (refine XC.of_body ([(2, []), (10, [(12, 14), (12, 15), (2, 21), (3, 21), (5, 21), (6, 21), (7, 21), (8, 21), (12, 21), (14, 21), (15, 21), (17, 21)]), (14, [(0, 9)])]) Try.func114 rfl Try.ntmps114 mixed (T := [(2, ti2), (3, ti3), (4, ti4), (31, ti31), (34, ti34), (42, ti42), (52, ti52), (57, ti57), (61, ti61), (75, ti75), (77, ti77), (78, ti78), (80, ti80), (108, ti108), (110, ti110), (123, ti123), (132, ti132), (144, ti144), (155, ti155), (156, ti156), (158, ti158), (235, ti235)]) (.cons tok2 (.cons tok3 (.cons tok4 (.cons tok31 (.cons tok34 (.cons tok42 (.cons tok52 (.cons tok57 (.cons tok61 (.cons tok75 (.cons tok77 (.cons tok78 (.cons tok80 (.cons tok108 (.cons tok110 (.cons tok123 (.cons tok132 (.cons tok144 (.cons tok155 (.cons tok156 (.cons tok158 (.cons tok235 .nil)))))))))))))))))))))) (by kernel_rfl) (by simp) rfl rfl rfl rfl rfl ?_; rintro o ho P hP c K hK; have hm : P.follows .mixedOrders = true := hP ▸ mixed; have hT : TOk P [(2, ti2), (3, ti3), (4, ti4), (31, ti31), (34, ti34), (42, ti42), (52, ti52), (57, ti57), (61, ti61), (75, ti75), (77, ti77), (78, ti78), (80, ti80), (108, ti108), (110, ti110), (123, ti123), (132, ti132), (144, ti144), (155, ti155), (156, ti156), (158, ti158), (235, ti235)] := hP ▸ (.cons tok2 (.cons tok3 (.cons tok4 (.cons tok31 (.cons tok34 (.cons tok42 (.cons tok52 (.cons tok57 (.cons tok61 (.cons tok75 (.cons tok77 (.cons tok78 (.cons tok80 (.cons tok108 (.cons tok110 (.cons tok123 (.cons tok132 (.cons tok144 (.cons tok155 (.cons tok156 (.cons tok158 (.cons tok235 .nil)))))))))))))))))))))); (try rw [← ho]); cbv; (repeat (refine StopN.mk ?_; cbv)))
  have eni : o.nth wants i = wants.getD i default := by rw [ho, real_nth]
  have enj : o.nth wants j = wants.getD j default := by rw [ho, real_nth]
  rw [← eni, ← ho] at hSi hHo
  rw [← enj, ← ho] at hSj
  rw [← ho] at hLa
  repeat' (first | (refine Br.mk (fun hb => ?_) (fun hb => ?_) <;> ((try rw [ho] at hb); (try dsimp only [Ar.real, IX.vo] at hb); (try simp only [QN25, QN12] at hb); (try simp only [QBo, beq_iff_eq, beq_eq_false_iff_ne, ne_eq] at hb))) | (refine StopN.mk ?_; cbv) | (first | refine CallI.pure hP hLa fn168 rfl rfl rfl ?_ | refine CallN.pure hP hHo fn146 rfl rfl rfl ?_ | refine CallI.pure hP hSi fn122 rfl rfl rfl ?_ | refine CallI.pure hP hSj fn122 rfl rfl rfl ?_); cbv | ((first | refine CallI.pure hP (x_sumsOf _ ‹_›) fn122 (by first | rfl | (rw [ho]; done) | (rw [ho]; rfl)) (by rfl) (by first | rfl | (rw [ho]; done) | (rw [ho]; rfl)) ?_ | refine CallN.pure hP (x_sumsOf _ ‹_›) fn122 (by first | rfl | (rw [ho]; done) | (rw [ho]; rfl)) (by rfl) (by first | rfl | (rw [ho]; done) | (rw [ho]; rfl)) ?_); (try rw [← ho]); generalize hr : sumsOf _ = r; (try rw [ho] at hr); (try dsimp only [Ar.real, IX.vo] at hr); (try simp only [QN25, QN12] at hr); cbv) | ((first | refine CallI.pure hP (x_vecHolds _ _ ‹_› ‹_›) fn146 (by first | rfl | (rw [ho]; done) | (rw [ho]; rfl)) (by rfl) (by first | rfl | (rw [ho]; done) | (rw [ho]; rfl)) ?_ | refine CallN.pure hP (x_vecHolds _ _ ‹_› ‹_›) fn146 (by first | rfl | (rw [ho]; done) | (rw [ho]; rfl)) (by rfl) (by first | rfl | (rw [ho]; done) | (rw [ho]; rfl)) ?_); (try rw [← ho]); generalize hr : subV _ _ = r; (try rw [ho] at hr); (try dsimp only [Ar.real, IX.vo] at hr); (try simp only [QN25, QN12] at hr); cbv) | ((first | refine CallI.pure hP (x_Mul _ _ ‹_› ‹_›) fn169 (by first | rfl | (rw [ho]; done) | (rw [ho]; rfl)) (by rfl) (by first | rfl | (rw [ho]; done) | (rw [ho]; rfl)) ?_ | refine CallN.pure hP (x_Mul _ _ ‹_› ‹_›) fn169 (by first | rfl | (rw [ho]; done) | (rw [ho]; rfl)) (by rfl) (by first | rfl | (rw [ho]; done) | (rw [ho]; rfl)) ?_); (try rw [← ho]); generalize hr : mulHi _ _ = r; (try rw [ho] at hr); (try dsimp only [Ar.real, IX.vo] at hr); (try simp only [QN25, QN12] at hr); generalize hr : mulLo _ _ = r; (try rw [ho] at hr); (try dsimp only [Ar.real, IX.vo] at hr); (try simp only [QN25, QN12] at hr); cbv) | ((first | refine CallI.pure hP (x_WCmp _ _ _ _) fn171 (by first | rfl | (rw [ho]; done) | (rw [ho]; rfl)) (by rfl) (by first | rfl | (rw [ho]; done) | (rw [ho]; rfl)) ?_ | refine CallN.pure hP (x_WCmp _ _ _ _) fn171 (by first | rfl | (rw [ho]; done) | (rw [ho]; rfl)) (by rfl) (by first | rfl | (rw [ho]; done) | (rw [ho]; rfl)) ?_); (try rw [← ho]); generalize hr : wideCmp _ _ _ _ = r; (try rw [ho] at hr); (try dsimp only [Ar.real, IX.vo] at hr); (try simp only [QN25, QN12] at hr); cbv) | ((first | refine CallI.pure hP (x_wOf _) fn172 (by first | rfl | (rw [ho]; done) | (rw [ho]; rfl)) (by rfl) (by first | rfl | (rw [ho]; done) | (rw [ho]; rfl)) ?_ | refine CallN.pure hP (x_wOf _) fn172 (by first | rfl | (rw [ho]; done) | (rw [ho]; rfl)) (by rfl) (by first | rfl | (rw [ho]; done) | (rw [ho]; rfl)) ?_); (try rw [← ho]); cbv) | (refine hK _ _ ?_) | (refine NeedT.mk ?_ ?_))
  any_goals (((try clear hR3); (try clear hR2); (try clear hR); (try clear hK); (try simp only [ncCast] at *); (try simp only [castI_eq] at *); (try rw [ho]); (try dsimp only [Ar.real, IX.vo, IX.val, BX.val, IX.toN]); (try simp only [QN25, QN12]); (try simp only [decide_eq_true_eq]); (all_goals (repeat rw [wrap_i64 (by omega) (by omega)])); (all_goals (first | omega | (simp only [Int.ofNat_eq_natCast]; omega)))); done)
  · rw [q0 (by assumption)]
    exact .b rfl
  · rw [q1 (by assumption)]
    exact .b rfl
  · rw [q2 hb]
    exact .b rfl
  · rw [q3 (by assumption)]
    exact .b rfl
  have q5 := q4 (by assumption) (by assumption) (by assumption) (by assumption)
  clear q0 q1 q2 q3 q4 hLa hHo hSi hSj
  refine LoopN.over (o := o) (D := [(2, []), (10, [(12, 14), (12, 15), (2, 21), (3, 21), (5, 21), (6, 21), (7, 21), (8, 21), (12, 21), (14, 21), (15, 21), (17, 21)]), (14, [(0, 9)])]) ho hm hT (by kernel_rfl) (fun k : Nat => [(78, xn k)]) (fun k => [(4, .var [xu (H k), xu (L k)] 235)]) (fun _ => []) (fun k => k ≤ 4) (fun k => 4 - k) 0 (by omega) ?_ ?_
  · refine ⟨(by cbv), by cbv; repeat' (first | trivial | exact EqX.rfl' | exact EqO.rfl' | apply And.intro | ((try clear hR3); (try clear hR2); (try clear hR); (try clear hK); (try simp only [ncCast] at *); (try simp only [castI_eq] at *); refine EqX.i ?_; (try rw [ho]); (try dsimp only [Ar.real, IX.vo, IX.val, BX.val, IX.toN]); (try simp only [QN25, QN12]); (repeat rw [wrap_i64 (by omega) (by omega)]); omega) | exact ⟨by rw [hH0.1, hH0.2]; rfl⟩), by cbv; repeat' (first | trivial | exact EqO.rfl' | apply And.intro | exact ⟨by rw [hH0.1, hH0.2]; rfl⟩), by cbv; repeat' (first | trivial | exact EqO.rfl' | apply And.intro | exact ⟨by rw [hH0.1, hH0.2]; rfl⟩)⟩
  · rintro k hk R hR
    have hKk := hQ k
    have hK1 := hQ0 k
    obtain ⟨a1, a2⟩ := ha k
    have ak := ati k
    have ok := atj k
    have hcw : IntKind.u64.wrap (max 0 (IntKind.i64.wrap ((tasks.getD j default).getD 0 0 - 1))) = cc := by
      rw [wrap_i64 (by omega) (by omega), ← hcc]
      exact wrap_u64 (by omega) (by omega)
    have hi4 : IntKind.u64.wrap ((tasks.getD i default).getD 0 0) = (tasks.getD i default).getD 0 0 := wrap_u64 (by omega) (by omega)
    have hxw : IntKind.u64.wrap ([o1, o2, o3, o4].getD ((k : Int).toNat) 0) = oa k := by
      rw [Int.toNat_natCast, ← a2]
      exact wrap_u64 (by omega) (by omega)
    have hnw : IntKind.u64.wrap ([n1, n2, n3, n4].getD ((k : Int).toNat) 0) = na k := by
      rw [Int.toNat_natCast, ← a1]
      exact wrap_u64 (by omega) (by omega)
    have hnk : [n1, n2, n3, n4].getD ((k : Int).toNat) 0 = na k := by rw [Int.toNat_natCast, ← a1]
    have hend : 4 ≤ k → wideCmp (H k) (L k) 0 ((tasks.getD i default).getD 0 0) = cm4 := fun h => by
      obtain rfl : k = 4 := by omega
      exact hcm4.symm
    cbv
    repeat' (first | (refine Br.mk (fun hb => ?_) (fun hb => ?_) <;> ((try rw [ho] at hb); (try dsimp only [Ar.real, IX.vo] at hb); (try simp only [QN25, QN12] at hb); (try simp only [QBo, beq_iff_eq, beq_eq_false_iff_ne, ne_eq] at hb))) | (refine StopN.mk ?_; cbv) | ((first | refine CallI.pure hP (x_sumsOf _ ‹_›) fn122 (by first | rfl | (rw [ho]; done) | (rw [ho]; rfl)) (by rfl) (by first | rfl | (rw [ho]; done) | (rw [ho]; rfl)) ?_ | refine CallN.pure hP (x_sumsOf _ ‹_›) fn122 (by first | rfl | (rw [ho]; done) | (rw [ho]; rfl)) (by rfl) (by first | rfl | (rw [ho]; done) | (rw [ho]; rfl)) ?_); (try rw [← ho]); generalize hr : sumsOf _ = r; (try rw [ho] at hr); (try dsimp only [Ar.real, IX.vo] at hr); (try simp only [QN25, QN12] at hr); cbv) | ((first | refine CallI.pure hP (x_vecHolds _ _ ‹_› ‹_›) fn146 (by first | rfl | (rw [ho]; done) | (rw [ho]; rfl)) (by rfl) (by first | rfl | (rw [ho]; done) | (rw [ho]; rfl)) ?_ | refine CallN.pure hP (x_vecHolds _ _ ‹_› ‹_›) fn146 (by first | rfl | (rw [ho]; done) | (rw [ho]; rfl)) (by rfl) (by first | rfl | (rw [ho]; done) | (rw [ho]; rfl)) ?_); (try rw [← ho]); generalize hr : subV _ _ = r; (try rw [ho] at hr); (try dsimp only [Ar.real, IX.vo] at hr); (try simp only [QN25, QN12] at hr); cbv) | ((first | refine CallI.pure hP (x_Mul _ _ ‹_› ‹_›) fn169 (by first | rfl | (rw [ho]; done) | (rw [ho]; rfl)) (by rfl) (by first | rfl | (rw [ho]; done) | (rw [ho]; rfl)) ?_ | refine CallN.pure hP (x_Mul _ _ ‹_› ‹_›) fn169 (by first | rfl | (rw [ho]; done) | (rw [ho]; rfl)) (by rfl) (by first | rfl | (rw [ho]; done) | (rw [ho]; rfl)) ?_); (try rw [← ho]); generalize hr : mulHi _ _ = r; (try rw [ho] at hr); (try dsimp only [Ar.real, IX.vo] at hr); (try simp only [QN25, QN12] at hr); generalize hr : mulLo _ _ = r; (try rw [ho] at hr); (try dsimp only [Ar.real, IX.vo] at hr); (try simp only [QN25, QN12] at hr); cbv) | ((first | refine CallI.pure hP (x_WCmp _ _ _ _) fn171 (by first | rfl | (rw [ho]; done) | (rw [ho]; rfl)) (by rfl) (by first | rfl | (rw [ho]; done) | (rw [ho]; rfl)) ?_ | refine CallN.pure hP (x_WCmp _ _ _ _) fn171 (by first | rfl | (rw [ho]; done) | (rw [ho]; rfl)) (by rfl) (by first | rfl | (rw [ho]; done) | (rw [ho]; rfl)) ?_); (try rw [← ho]); generalize hr : wideCmp _ _ _ _ = r; (try rw [ho] at hr); (try dsimp only [Ar.real, IX.vo] at hr); (try simp only [QN25, QN12] at hr); cbv) | ((first | refine CallI.pure hP (x_wOf _) fn172 (by first | rfl | (rw [ho]; done) | (rw [ho]; rfl)) (by rfl) (by first | rfl | (rw [ho]; done) | (rw [ho]; rfl)) ?_ | refine CallN.pure hP (x_wOf _) fn172 (by first | rfl | (rw [ho]; done) | (rw [ho]; rfl)) (by rfl) (by first | rfl | (rw [ho]; done) | (rw [ho]; rfl)) ?_); (try rw [← ho]); cbv) | (refine hK _ _ ?_) | (refine NeedT.mk ?_ ?_))
    any_goals (((try clear hR3); (try clear hR2); (try clear hR); (try clear hK); (try simp only [ncCast] at *); (try simp only [castI_eq] at *); (try rw [ho]); (try dsimp only [Ar.real, IX.vo, IX.val, BX.val, IX.toN]); (try simp only [QN25, QN12]); (try simp only [decide_eq_true_eq]); (all_goals (repeat rw [wrap_i64 (by omega) (by omega)])); (all_goals (first | omega | (simp only [Int.ofNat_eq_natCast]; omega)))); done)
    · have t6 : (tasks.getD j default).length = 1 := lj1
      rw [ho]
      show decide ((0 : Int) ≤ 0 ∧ (0 : Int) < ((tasks.getD j default).length : Int)) = true
      rw [t6]
      rfl
    · obtain ⟨m1, m2, d1, d2, rmm, hMu, hDi, s1, s2⟩ := hKk (by rw [← hnk]; exact hb)
      refine CallN.pure hP hMu fn169 rfl rfl (toDL_ii2 (by rw [ho]; exact hxw) (by rw [ho]; exact hcw)) ?_
      cbv
      repeat' (first | (refine Br.mk (fun hb => ?_) (fun hb => ?_) <;> ((try rw [ho] at hb); (try dsimp only [Ar.real, IX.vo] at hb); (try simp only [QN25, QN12] at hb); (try simp only [QBo, beq_iff_eq, beq_eq_false_iff_ne, ne_eq] at hb))) | (refine StopN.mk ?_; cbv) | ((first | refine CallI.pure hP (x_sumsOf _ ‹_›) fn122 (by first | rfl | (rw [ho]; done) | (rw [ho]; rfl)) (by rfl) (by first | rfl | (rw [ho]; done) | (rw [ho]; rfl)) ?_ | refine CallN.pure hP (x_sumsOf _ ‹_›) fn122 (by first | rfl | (rw [ho]; done) | (rw [ho]; rfl)) (by rfl) (by first | rfl | (rw [ho]; done) | (rw [ho]; rfl)) ?_); (try rw [← ho]); generalize hr : sumsOf _ = r; (try rw [ho] at hr); (try dsimp only [Ar.real, IX.vo] at hr); (try simp only [QN25, QN12] at hr); cbv) | ((first | refine CallI.pure hP (x_vecHolds _ _ ‹_› ‹_›) fn146 (by first | rfl | (rw [ho]; done) | (rw [ho]; rfl)) (by rfl) (by first | rfl | (rw [ho]; done) | (rw [ho]; rfl)) ?_ | refine CallN.pure hP (x_vecHolds _ _ ‹_› ‹_›) fn146 (by first | rfl | (rw [ho]; done) | (rw [ho]; rfl)) (by rfl) (by first | rfl | (rw [ho]; done) | (rw [ho]; rfl)) ?_); (try rw [← ho]); generalize hr : subV _ _ = r; (try rw [ho] at hr); (try dsimp only [Ar.real, IX.vo] at hr); (try simp only [QN25, QN12] at hr); cbv) | ((first | refine CallI.pure hP (x_Mul _ _ ‹_› ‹_›) fn169 (by first | rfl | (rw [ho]; done) | (rw [ho]; rfl)) (by rfl) (by first | rfl | (rw [ho]; done) | (rw [ho]; rfl)) ?_ | refine CallN.pure hP (x_Mul _ _ ‹_› ‹_›) fn169 (by first | rfl | (rw [ho]; done) | (rw [ho]; rfl)) (by rfl) (by first | rfl | (rw [ho]; done) | (rw [ho]; rfl)) ?_); (try rw [← ho]); generalize hr : mulHi _ _ = r; (try rw [ho] at hr); (try dsimp only [Ar.real, IX.vo] at hr); (try simp only [QN25, QN12] at hr); generalize hr : mulLo _ _ = r; (try rw [ho] at hr); (try dsimp only [Ar.real, IX.vo] at hr); (try simp only [QN25, QN12] at hr); cbv) | ((first | refine CallI.pure hP (x_WCmp _ _ _ _) fn171 (by first | rfl | (rw [ho]; done) | (rw [ho]; rfl)) (by rfl) (by first | rfl | (rw [ho]; done) | (rw [ho]; rfl)) ?_ | refine CallN.pure hP (x_WCmp _ _ _ _) fn171 (by first | rfl | (rw [ho]; done) | (rw [ho]; rfl)) (by rfl) (by first | rfl | (rw [ho]; done) | (rw [ho]; rfl)) ?_); (try rw [← ho]); generalize hr : wideCmp _ _ _ _ = r; (try rw [ho] at hr); (try dsimp only [Ar.real, IX.vo] at hr); (try simp only [QN25, QN12] at hr); cbv) | ((first | refine CallI.pure hP (x_wOf _) fn172 (by first | rfl | (rw [ho]; done) | (rw [ho]; rfl)) (by rfl) (by first | rfl | (rw [ho]; done) | (rw [ho]; rfl)) ?_ | refine CallN.pure hP (x_wOf _) fn172 (by first | rfl | (rw [ho]; done) | (rw [ho]; rfl)) (by rfl) (by first | rfl | (rw [ho]; done) | (rw [ho]; rfl)) ?_); (try rw [← ho]); cbv) | (refine hK _ _ ?_) | (refine NeedT.mk ?_ ?_))
      any_goals (((try clear hR3); (try clear hR2); (try clear hR); (try clear hK); (try simp only [ncCast] at *); (try simp only [castI_eq] at *); (try rw [ho]); (try dsimp only [Ar.real, IX.vo, IX.val, BX.val, IX.toN]); (try simp only [QN25, QN12]); (try simp only [decide_eq_true_eq]); (all_goals (repeat rw [wrap_i64 (by omega) (by omega)])); (all_goals (first | omega | (simp only [Int.ofNat_eq_natCast]; omega)))); done)
      refine CallN.pure hP hDi fn170 rfl rfl (toDL_ai (by rw [ho]; exact hnw)) ?_
      cbv
      repeat' (first | (refine Br.mk (fun hb => ?_) (fun hb => ?_) <;> ((try rw [ho] at hb); (try dsimp only [Ar.real, IX.vo] at hb); (try simp only [QN25, QN12] at hb); (try simp only [QBo, beq_iff_eq, beq_eq_false_iff_ne, ne_eq] at hb))) | (refine StopN.mk ?_; cbv) | ((first | refine CallI.pure hP (x_sumsOf _ ‹_›) fn122 (by first | rfl | (rw [ho]; done) | (rw [ho]; rfl)) (by rfl) (by first | rfl | (rw [ho]; done) | (rw [ho]; rfl)) ?_ | refine CallN.pure hP (x_sumsOf _ ‹_›) fn122 (by first | rfl | (rw [ho]; done) | (rw [ho]; rfl)) (by rfl) (by first | rfl | (rw [ho]; done) | (rw [ho]; rfl)) ?_); (try rw [← ho]); generalize hr : sumsOf _ = r; (try rw [ho] at hr); (try dsimp only [Ar.real, IX.vo] at hr); (try simp only [QN25, QN12] at hr); cbv) | ((first | refine CallI.pure hP (x_vecHolds _ _ ‹_› ‹_›) fn146 (by first | rfl | (rw [ho]; done) | (rw [ho]; rfl)) (by rfl) (by first | rfl | (rw [ho]; done) | (rw [ho]; rfl)) ?_ | refine CallN.pure hP (x_vecHolds _ _ ‹_› ‹_›) fn146 (by first | rfl | (rw [ho]; done) | (rw [ho]; rfl)) (by rfl) (by first | rfl | (rw [ho]; done) | (rw [ho]; rfl)) ?_); (try rw [← ho]); generalize hr : subV _ _ = r; (try rw [ho] at hr); (try dsimp only [Ar.real, IX.vo] at hr); (try simp only [QN25, QN12] at hr); cbv) | ((first | refine CallI.pure hP (x_Mul _ _ ‹_› ‹_›) fn169 (by first | rfl | (rw [ho]; done) | (rw [ho]; rfl)) (by rfl) (by first | rfl | (rw [ho]; done) | (rw [ho]; rfl)) ?_ | refine CallN.pure hP (x_Mul _ _ ‹_› ‹_›) fn169 (by first | rfl | (rw [ho]; done) | (rw [ho]; rfl)) (by rfl) (by first | rfl | (rw [ho]; done) | (rw [ho]; rfl)) ?_); (try rw [← ho]); generalize hr : mulHi _ _ = r; (try rw [ho] at hr); (try dsimp only [Ar.real, IX.vo] at hr); (try simp only [QN25, QN12] at hr); generalize hr : mulLo _ _ = r; (try rw [ho] at hr); (try dsimp only [Ar.real, IX.vo] at hr); (try simp only [QN25, QN12] at hr); cbv) | ((first | refine CallI.pure hP (x_WCmp _ _ _ _) fn171 (by first | rfl | (rw [ho]; done) | (rw [ho]; rfl)) (by rfl) (by first | rfl | (rw [ho]; done) | (rw [ho]; rfl)) ?_ | refine CallN.pure hP (x_WCmp _ _ _ _) fn171 (by first | rfl | (rw [ho]; done) | (rw [ho]; rfl)) (by rfl) (by first | rfl | (rw [ho]; done) | (rw [ho]; rfl)) ?_); (try rw [← ho]); generalize hr : wideCmp _ _ _ _ = r; (try rw [ho] at hr); (try dsimp only [Ar.real, IX.vo] at hr); (try simp only [QN25, QN12] at hr); cbv) | ((first | refine CallI.pure hP (x_wOf _) fn172 (by first | rfl | (rw [ho]; done) | (rw [ho]; rfl)) (by rfl) (by first | rfl | (rw [ho]; done) | (rw [ho]; rfl)) ?_ | refine CallN.pure hP (x_wOf _) fn172 (by first | rfl | (rw [ho]; done) | (rw [ho]; rfl)) (by rfl) (by first | rfl | (rw [ho]; done) | (rw [ho]; rfl)) ?_); (try rw [← ho]); cbv) | (refine hK _ _ ?_) | (refine NeedT.mk ?_ ?_))
      · obtain ⟨e1, e2⟩ := s1 (by rw [hr]; exact hb)
        refine hR _ (k + 1) (by show 4 - (k + 1) < 4 - k; ((try clear hR3); (try clear hR2); (try clear hR); (try clear hK); (try simp only [ncCast] at *); (try simp only [castI_eq] at *)); omega) (by show k + 1 ≤ 4; ((try clear hR3); (try clear hR2); (try clear hR); (try clear hK); (try simp only [ncCast] at *); (try simp only [castI_eq] at *)); omega) ?_
        refine ⟨(by cbv), by cbv; repeat' (first | trivial | exact EqX.rfl' | exact EqO.rfl' | apply And.intro | ((try clear hR3); (try clear hR2); (try clear hR); (try clear hK); (try simp only [ncCast] at *); (try simp only [castI_eq] at *); refine EqX.i ?_; (try rw [ho]); (try dsimp only [Ar.real, IX.vo, IX.val, BX.val, IX.toN]); (try simp only [QN25, QN12]); (repeat rw [wrap_i64 (by omega) (by omega)]); omega) | exact ⟨by rw [e1, e2]⟩), by cbv; repeat' (first | trivial | exact EqO.rfl' | apply And.intro | exact ⟨by rw [e1, e2]⟩), by cbv; repeat' (first | trivial | exact EqO.rfl' | apply And.intro | exact ⟨by rw [e1, e2]⟩)⟩
      · obtain ⟨e1, e2⟩ := s2 (by rw [hr]; exact hb)
        refine hR _ (k + 1) (by show 4 - (k + 1) < 4 - k; ((try clear hR3); (try clear hR2); (try clear hR); (try clear hK); (try simp only [ncCast] at *); (try simp only [castI_eq] at *)); omega) (by show k + 1 ≤ 4; ((try clear hR3); (try clear hR2); (try clear hR); (try clear hK); (try simp only [ncCast] at *); (try simp only [castI_eq] at *)); omega) ?_
        refine ⟨(by cbv), by cbv; repeat' (first | trivial | exact EqX.rfl' | exact EqO.rfl' | apply And.intro | ((try clear hR3); (try clear hR2); (try clear hR); (try clear hK); (try simp only [ncCast] at *); (try simp only [castI_eq] at *); refine EqX.i ?_; (try rw [ho]); (try dsimp only [Ar.real, IX.vo, IX.val, BX.val, IX.toN]); (try simp only [QN25, QN12]); (repeat rw [wrap_i64 (by omega) (by omega)]); omega) | exact ⟨by rw [e1, e2]⟩), by cbv; repeat' (first | trivial | exact EqO.rfl' | apply And.intro | exact ⟨by rw [e1, e2]⟩), by cbv; repeat' (first | trivial | exact EqO.rfl' | apply And.intro | exact ⟨by rw [e1, e2]⟩)⟩
    · obtain ⟨e1, e2⟩ := hK1 (by rw [← hnk]; exact hb)
      refine hR _ (k + 1) (by show 4 - (k + 1) < 4 - k; ((try clear hR3); (try clear hR2); (try clear hR); (try clear hK); (try simp only [ncCast] at *); (try simp only [castI_eq] at *)); omega) (by show k + 1 ≤ 4; ((try clear hR3); (try clear hR2); (try clear hR); (try clear hK); (try simp only [ncCast] at *); (try simp only [castI_eq] at *)); omega) ?_
      refine ⟨(by cbv), by cbv; repeat' (first | trivial | exact EqX.rfl' | exact EqO.rfl' | apply And.intro | ((try clear hR3); (try clear hR2); (try clear hR); (try clear hK); (try simp only [ncCast] at *); (try simp only [castI_eq] at *); refine EqX.i ?_; (try rw [ho]); (try dsimp only [Ar.real, IX.vo, IX.val, BX.val, IX.toN]); (try simp only [QN25, QN12]); (repeat rw [wrap_i64 (by omega) (by omega)]); omega) | exact ⟨by rw [e1, e2]⟩), by cbv; repeat' (first | trivial | exact EqO.rfl' | apply And.intro | exact ⟨by rw [e1, e2]⟩), by cbv; repeat' (first | trivial | exact EqO.rfl' | apply And.intro | exact ⟨by rw [e1, e2]⟩)⟩
    · have t6 : (tasks.getD i default).length = 1 := li1
      rw [ho]
      show decide ((0 : Int) ≤ 0 ∧ (0 : Int) < ((tasks.getD i default).length : Int)) = true
      rw [t6]
      rfl
    · have e1 := hend (by ((try clear hR3); (try clear hR2); (try clear hR); (try clear hK); (try simp only [ncCast] at *); (try simp only [castI_eq] at *)); omega)
      have e2 : r = cm4 := by rw [← hr, ← e1]; congr 1
      rw [q5, e2]
      refine .b ?_
      rw [ho]
      rfl
end Go.Proofs.Ytddgcegimmcbgaa.Sy
namespace Go.Proofs.Ytddgcegimmcbgaa.Sy
open Go Go.Sy Go.Proofs.Ytddgcegimmcbgaa
structure IP where
  j : Int
  i : Int
instance : Inhabited IP := ⟨⟨0, 0⟩⟩
def IP.X (_ : Ar) (x : IP) : List X := [xi x.j, xi x.i]
def envRow (p : Prof) (r : Res) (out : List IP) (j : Nat) : Nat → List IP
  | 0 => out
  | i + 1 => if envB p r j i = true then envRow p r out j i ++ [⟨j, i⟩] else envRow p r out j i
def envAll (p : Prof) (r : Res) : Nat → List IP
  | 0 => []
  | j + 1 => envRow p r (envAll p r j) j p.wants.length
def envR (p : Prof) (r : Res) : List IP := if (oneR p).2 = true ∧ fitsR p r = true then envAll p r p.wants.length else []
theorem envRow_len (p : Prof) (r : Res) (out : List IP) (j : Nat) : ∀ i, (envRow p r out j i).length ≤ out.length + i
  | 0 => Nat.le_refl _
  | i + 1 => by
    have := envRow_len p r out j i
    simp only [envRow]
    split
    · rw [List.length_append]
      simp only [List.length_cons, List.length_nil]
      omega
    · omega
theorem envAll_len (p : Prof) (r : Res) : ∀ j, (envAll p r j).length ≤ j * p.wants.length
  | 0 => Nat.zero_le _
  | j + 1 => by
    have h1 := envAll_len p r j
    have h2 := envRow_len p r (envAll p r j) j p.wants.length
    rw [Nat.add_mul, Nat.one_mul]
    simp only [envAll]
    omega
structure StEn where
  k : Nat
  rv : Nat
  out : List IP
theorem x_Envy (p : Prof) (hp : ProfOk p) (hwb : ∀ i, i64B (p.wants.getD i default).weight) (r : Res) (hg : r.gr.length ≤ 1048576) (hgo : ∀ k, (r.gr.getD k default).off.length ≤ 1048576) (hr : r.tasks.length ≤ 1048576) (hrt : ∀ i, (r.tasks.getD i default).length ≤ 1048576) :
    XC Try.prog 58 [.agg (Prof.X Ar.real p), .agg (Res.X Ar.real r)] [] (.ro (SL Ar.real IP.X (envR p r))) [] := by
  have hO := x_one p hp hwb
  have hF := fun dl rm rx ry wm wx wy => x_rfits p hp r hr hrt dl rm rx ry wm wx wy
  have hE := fun h1 h2 j i hj hi dl rm rx ry wm wx wy => x_envies114 p hp r hg hgo h1 h2 j i hj hi dl rm rx ry wm wx wy
  have h32 : (oneR p).2 = true → p.wants.length ≤ 32 := fun h => (checkR_fin (oneR_true h).1).1.2
  have q0 : (oneR p).2 = false → envR p r = [] := fun h => if_neg (by rw [h]; simp)
  have q1 : fitsR p r = false → envR p r = [] := fun h => if_neg (by rw [h]; simp)
  have q2 : (oneR p).2 = true → fitsR p r = true → envR p r = envAll p r p.wants.length := fun h h' => if_pos ⟨h, h'⟩
  have hM0 : envAll p r 0 = [] := rfl
  have hM1 : ∀ j, envAll p r (j + 1) = envRow p r (envAll p r j) j p.wants.length := fun _ => rfl
  have hMl := envAll_len p r
  have hN0 : ∀ out j, envRow p r out j 0 = out := fun _ _ => rfl
  have hN1 : ∀ out j i, envRow p r out j (i + 1) = if envB p r j i = true then envRow p r out j i ++ [⟨j, i⟩] else envRow p r out j i := fun _ _ _ => rfl
  have hNl := envRow_len p r
  generalize envR p r = res at *
  generalize envAll p r = M at *
  generalize envRow p r = RW at *
  generalize fitsR p r = fr at *
  generalize envB p r = eB at *
  generalize oneR p = oo at *
  obtain ⟨⟨dl, rest, ws⟩, ok⟩ := oo
  obtain ⟨rm, rn, rd⟩ := rest
  obtain ⟨wm, wn, wdd⟩ := ws
  dsimp only at *
  generalize wd rn = rx at *
  generalize wd rd = ry at *
  generalize wd wn = wx at *
  generalize wd wdd = wy at *
  generalize dl.map Rt.rd = dr at *
  have hF1 := hF dr rm rx ry wm wx wy
  have hE1 := fun h1 h2 j i hj hi => hE h1 h2 j i hj hi dr rm rx ry wm wx wy
  clear hF hE
  obtain ⟨gr, tasks, left⟩ := r
  obtain ⟨ags, wants, lo⟩ := p
  obtain ⟨loa, lob, loc, lod⟩ := lo
  obtain ⟨pa, pw, hla, hwa⟩ := hp
  dsimp only at *
  (refine XC.of_body ([]) Try.func58 rfl Try.ntmps58 mixed (T := [(3, ti3), (4, ti4), (42, ti42), (52, ti52), (57, ti57), (75, ti75), (77, ti77), (78, ti78), (80, ti80), (111, ti111), (114, ti114), (132, ti132), (144, ti144), (156, ti156), (158, ti158)]) (.cons tok3 (.cons tok4 (.cons tok42 (.cons tok52 (.cons tok57 (.cons tok75 (.cons tok77 (.cons tok78 (.cons tok80 (.cons tok111 (.cons tok114 (.cons tok132 (.cons tok144 (.cons tok156 (.cons tok158 .nil))))))))))))))) (by kernel_rfl) (by simp) rfl rfl rfl rfl rfl ?_; rintro o ho P hP c K hK; have hm : P.follows .mixedOrders = true := hP ▸ mixed; have hT : TOk P [(3, ti3), (4, ti4), (42, ti42), (52, ti52), (57, ti57), (75, ti75), (77, ti77), (78, ti78), (80, ti80), (111, ti111), (114, ti114), (132, ti132), (144, ti144), (156, ti156), (158, ti158)] := hP ▸ (.cons tok3 (.cons tok4 (.cons tok42 (.cons tok52 (.cons tok57 (.cons tok75 (.cons tok77 (.cons tok78 (.cons tok80 (.cons tok111 (.cons tok114 (.cons tok132 (.cons tok144 (.cons tok156 (.cons tok158 .nil))))))))))))))); (try rw [← ho]); cbv; (repeat (refine StopN.mk ?_; cbv)))
  rw [← ho] at hO hF1
  simp only [← ho] at hE1
  repeat' (first | (refine Br.mk (fun hb => ?_) (fun hb => ?_) <;> ((try rw [ho] at hb); (try dsimp only [Ar.real, IX.vo] at hb); (try simp only [QN25, QN12] at hb); (try simp only [QBo, beq_iff_eq, beq_eq_false_iff_ne, ne_eq] at hb))) | (refine StopN.mk ?_; cbv) | (first | refine CallI.pure hP hO fn89 rfl rfl rfl ?_ | refine CallI.pure hP hF1 fn90 rfl rfl rfl ?_ | refine CallN.pure hP hF1 fn90 rfl rfl rfl ?_); cbv | (refine hK _ _ ?_) | (refine NeedT.mk ?_ ?_))
  · rw [q0 hb]
    exact .ro (rows_nil_SL Ar.real rfl IP.X)
  · rw [q1 hb]
    exact .ro (rows_nil_SL Ar.real rfl IP.X)
  have q3 := q2 (by assumption) (by assumption)
  have hE2 := hE1 (by assumption) (by assumption)
  have h32 := h32 (by assumption)
  clear q0 q1 q2 hE1
  refine LoopN.ghost 7 114 2 rfl ?_
  refine LoopN.over (o := o) (D := []) ho hm hT (by kernel_rfl) (fun s : StEn => [(26, xn s.k), (7, .own (.loc 3) s.rv)]) (fun s => [(3, .row s.rv 114 2 (SL o IP.X s.out))]) (fun _ => []) (fun s => s.k ≤ wants.length ∧ s.out = M s.k) (fun s => wants.length - s.k) ⟨0, 0, []⟩ ⟨Nat.zero_le _, hM0.symm⟩ ?_ ?_
  · refine ⟨(by cbv), by cbv; repeat' (first | trivial | exact EqX.rfl' | exact EqO.rfl' | apply And.intro | ((try clear hR3); (try clear hR2); (try clear hR); (try clear hK); (try simp only [ncCast] at *); (try simp only [castI_eq] at *); refine EqX.i ?_; (try rw [ho]); (try dsimp only [Ar.real, IX.vo, IX.val, BX.val, IX.toN]); (try simp only [QN25, QN12]); (repeat rw [wrap_i64 (by omega) (by omega)]); omega) | exact EqO.row rfl (rows_nil_SL o ho IP.X)), by cbv; repeat' (first | trivial | exact EqO.rfl' | apply And.intro | exact EqO.row rfl (rows_nil_SL o ho IP.X)), by cbv; repeat' (first | trivial | exact EqO.rfl' | apply And.intro | exact EqO.row rfl (rows_nil_SL o ho IP.X))⟩
  · rintro ⟨j, rv, out⟩ ⟨hj, hout⟩ R hR
    dsimp only at hj hout
    have hol := hMl j
    rw [← hout] at hol
    have hjm : j * wants.length ≤ 32 * 32 := Nat.mul_le_mul (by omega) h32
    have hM1j := hM1 j
    rw [← hout] at hM1j
    have hN0j := hN0 out j
    cbv
    repeat' (first | (refine Br.mk (fun hb => ?_) (fun hb => ?_) <;> ((try rw [ho] at hb); (try dsimp only [Ar.real, IX.vo] at hb); (try simp only [QN25, QN12] at hb); (try simp only [QBo, beq_iff_eq, beq_eq_false_iff_ne, ne_eq] at hb))) | (refine StopN.mk ?_; cbv) | (refine hK _ _ ?_) | (refine NeedT.mk ?_ ?_))
    any_goals (((try clear hR3); (try clear hR2); (try clear hR); (try clear hK); (try simp only [ncCast] at *); (try simp only [castI_eq] at *); (try rw [ho]); (try dsimp only [Ar.real, IX.vo, IX.val, BX.val, IX.toN]); (try simp only [QN25, QN12]); (try simp only [decide_eq_true_eq]); (all_goals (repeat rw [wrap_i64 (by omega) (by omega)])); (all_goals (first | omega | (simp only [Int.ofNat_eq_natCast]; omega)))); done)
    · have hjl : j < wants.length := by assumption
      refine LoopN.over (o := o) (D := []) ho hm hT (by kernel_rfl) (fun s : StEn => [(32, xn s.k), (7, .own (.loc 3) s.rv)]) (fun s => [(3, .row s.rv 114 2 (SL o IP.X s.out))]) (fun _ => []) (fun s => s.k ≤ wants.length ∧ s.out = RW out j s.k) (fun s => wants.length - s.k) ⟨0, rv, out⟩ ⟨Nat.zero_le _, hN0j.symm⟩ ?_ ?_
      · refine ⟨(by cbv), by cbv; repeat' (first | trivial | exact EqX.rfl' | exact EqO.rfl' | apply And.intro | ((try clear hR3); (try clear hR2); (try clear hR); (try clear hK); (try simp only [ncCast] at *); (try simp only [castI_eq] at *); refine EqX.i ?_; (try rw [ho]); (try dsimp only [Ar.real, IX.vo, IX.val, BX.val, IX.toN]); (try simp only [QN25, QN12]); (repeat rw [wrap_i64 (by omega) (by omega)]); omega)), by cbv; repeat' (first | trivial | exact EqO.rfl' | apply And.intro), by cbv; repeat' (first | trivial | exact EqO.rfl' | apply And.intro)⟩
      · rintro ⟨i, rv2, out2⟩ ⟨hi, hout2⟩ R2 hR2
        dsimp only at hi hout2
        have hE3 := hE2 j i hjl
        have e1 := hN1 out j i
        have hl2 := hNl out j i
        rw [← hout2] at e1 hl2
        obtain ⟨out', hout'⟩ : ∃ q, q = RW out j (i + 1) := ⟨_, rfl⟩
        rw [← hout'] at e1
        have hjn : j + 1 ≤ wants.length := hjl
        have hfin : wants.length ≤ i → out2 = M (j + 1) := fun h => by
          obtain rfl : i = wants.length := by omega
          rw [hM1j, hout2]
        generalize eB j i = b at *
        cbv
        repeat' (first | (refine Br.mk (fun hb => ?_) (fun hb => ?_) <;> ((try rw [ho] at hb); (try dsimp only [Ar.real, IX.vo] at hb); (try simp only [QN25, QN12] at hb); (try simp only [QBo, beq_iff_eq, beq_eq_false_iff_ne, ne_eq] at hb))) | (refine StopN.mk ?_; cbv) | (first | refine CallI.pure hP (hE3 ‹_›) fn114 rfl rfl rfl ?_); cbv | (refine hK _ _ ?_) | (refine NeedT.mk ?_ ?_))
        any_goals (((try clear hR3); (try clear hR2); (try clear hR); (try clear hK); (try simp only [ncCast] at *); (try simp only [castI_eq] at *); (try rw [ho]); (try dsimp only [Ar.real, IX.vo, IX.val, BX.val, IX.toN]); (try simp only [QN25, QN12]); (try simp only [decide_eq_true_eq]); (all_goals (repeat rw [wrap_i64 (by omega) (by omega)])); (all_goals (first | omega | (simp only [Int.ofNat_eq_natCast]; omega)))); done)
        · have e2 := e1.trans (if_pos (by assumption))
          refine hR2 _ ⟨i + 1, rv2 + 1, out'⟩ (by show wants.length - (i + 1) < wants.length - i; omega) ⟨by show i + 1 ≤ wants.length; omega, hout'⟩ ?_
          refine ⟨(by cbv), by cbv; repeat' (first | trivial | exact EqX.rfl' | exact EqO.rfl' | apply And.intro | ((try clear hR3); (try clear hR2); (try clear hR); (try clear hK); (try simp only [ncCast] at *); (try simp only [castI_eq] at *); refine EqX.i ?_; (try rw [ho]); (try dsimp only [Ar.real, IX.vo, IX.val, BX.val, IX.toN]); (try simp only [QN25, QN12]); (repeat rw [wrap_i64 (by omega) (by omega)]); omega) | exact EqO.snoc ho IP.X _ _ _ _ rfl e2 rfl), by cbv; repeat' (first | trivial | exact EqO.rfl' | apply And.intro | exact EqO.snoc ho IP.X _ _ _ _ rfl e2 rfl), by cbv; repeat' (first | trivial | exact EqO.rfl' | apply And.intro | exact EqO.snoc ho IP.X _ _ _ _ rfl e2 rfl)⟩
        · have e2 := e1.trans (if_neg (by rw [‹b = false›]; decide))
          refine hR2 _ ⟨i + 1, rv2, out'⟩ (by show wants.length - (i + 1) < wants.length - i; omega) ⟨by show i + 1 ≤ wants.length; omega, hout'⟩ ?_
          subst e2
          refine ⟨(by cbv), by cbv; repeat' (first | trivial | exact EqX.rfl' | exact EqO.rfl' | apply And.intro | ((try clear hR3); (try clear hR2); (try clear hR); (try clear hK); (try simp only [ncCast] at *); (try simp only [castI_eq] at *); refine EqX.i ?_; (try rw [ho]); (try dsimp only [Ar.real, IX.vo, IX.val, BX.val, IX.toN]); (try simp only [QN25, QN12]); (repeat rw [wrap_i64 (by omega) (by omega)]); omega)), by cbv; repeat' (first | trivial | exact EqO.rfl' | apply And.intro), by cbv; repeat' (first | trivial | exact EqO.rfl' | apply And.intro)⟩
        · refine hR _ ⟨j + 1, rv2, out2⟩ (by show wants.length - (j + 1) < wants.length - j; omega) ⟨hjn, hfin (by ((try clear hR3); (try clear hR2); (try clear hR); (try clear hK); (try simp only [ncCast] at *); (try simp only [castI_eq] at *)); omega)⟩ ?_
          refine ⟨(by cbv), by cbv; repeat' (first | trivial | exact EqX.rfl' | exact EqO.rfl' | apply And.intro | ((try clear hR3); (try clear hR2); (try clear hR); (try clear hK); (try simp only [ncCast] at *); (try simp only [castI_eq] at *); refine EqX.i ?_; (try rw [ho]); (try dsimp only [Ar.real, IX.vo, IX.val, BX.val, IX.toN]); (try simp only [QN25, QN12]); (repeat rw [wrap_i64 (by omega) (by omega)]); omega)), by cbv; repeat' (first | trivial | exact EqO.rfl' | apply And.intro), by cbv; repeat' (first | trivial | exact EqO.rfl' | apply And.intro)⟩
    · obtain rfl : j = wants.length := by ((try clear hR3); (try clear hR2); (try clear hR); (try clear hK); (try simp only [ncCast] at *); (try simp only [castI_eq] at *)); omega
      rw [← q3] at hout
      subst hout
      exact .ro (by rw [ho])
end Go.Proofs.Ytddgcegimmcbgaa.Sy
namespace Go.Proofs.Ytddgcegimmcbgaa.Sy
open Go Go.Sy Go.Proofs.Ytddgcegimmcbgaa
def sc4 (s : S4) (c : Int) : S4 := ⟨s.a * c, s.b * c, s.c * c, s.d * c⟩
def envL (p : Prof) (r : Res) (j i : Nat) : Bool :=
  decide (0 ≤ lastI r.gr j r.gr.length) && (decide (i ≠ j) && (decide ((p.wants.getD i default).weight = (p.wants.getD j default).weight) && (rHolds (r.gr.getD (lastI r.gr j r.gr.length).toNat default).off (p.wants.getD i default).need &&
    decide (tk r i < rMany (sc4 (sumsOf (p.wants.getD j default).need) (max 0 (tk r j - 1))) (sumsOf (p.wants.getD i default).need)))))
theorem toDL_44 {c : Cx} {a b d e a' b' d' e' : IX} {l : List X} (h1 : a.val = a'.val) (h2 : b.val = b'.val) (h3 : d.val = d'.val) (h4 : e.val = e'.val) : X.toDL c [.agg [.i .i64 a, .i .i64 b, .i .i64 d, .i .i64 e], .agg l] = X.toDL c [.agg [.i .i64 a', .i .i64 b', .i .i64 d', .i .i64 e'], .agg l] := by simp only [X.toDL, X.toD, h1, h2, h3, h4]
theorem x_envies59 (p : Prof) (hp : ProfOk p) (r : Res) (hg : r.gr.length ≤ 1048576) (hgo : ∀ k, (r.gr.getD k default).off.length ≤ 1048576) (j i : Nat) (hj : j < p.wants.length) (hi : i < p.wants.length)
    (li : (r.tasks.getD i default).length = 1) (lj : (r.tasks.getD j default).length = 1) (tl : p.wants.length ≤ r.tasks.length) (ti0 : 0 ≤ tk r j ∧ tk r j ≤ 4096)
    (hs : ∀ k, 0 ≤ (sumsOf (p.wants.getD j default).need).at_ k ∧ (sumsOf (p.wants.getD j default).need).at_ k ≤ 1000) :
    XC Try.prog 59 [.agg (Prof.X Ar.real p), .agg (Res.X Ar.real r), xn j, xn i] [] (xb (envL p r j i)) [] := by
  have hLb := lastI_bd r.gr j r.gr.length
  have hHo := fun k => x_r05Holds (r.gr.getD k default).off (p.wants.getD i default).need (hgo k) (hp.w i)
  have hSi := x_r06Of (p.wants.getD i default).need (hp.w i)
  have hSj := x_r06Of (p.wants.getD j default).need (hp.w j)
  have q0 : lastI r.gr j r.gr.length < 0 → envL p r j i = false := fun h => by unfold envL; rw [decide_eq_false (by omega)]; rfl
  have q1 : i = j → envL p r j i = false := fun h => by
    have : ¬ i ≠ j := fun h' => h' h
    unfold envL
    rw [decide_eq_false this, Bool.false_and, Bool.and_false]
  have q2 : ¬ (p.wants.getD i default).weight = (p.wants.getD j default).weight → envL p r j i = false := fun h => by
    unfold envL
    rw [decide_eq_false h, Bool.false_and, Bool.and_false, Bool.and_false]
  have q3 : rHolds (r.gr.getD (lastI r.gr j r.gr.length).toNat default).off (p.wants.getD i default).need = false → envL p r j i = false := fun h => by
    unfold envL
    rw [h, Bool.false_and, Bool.and_false, Bool.and_false, Bool.and_false]
  have q4 : 0 ≤ lastI r.gr j r.gr.length → ¬ i = j → (p.wants.getD i default).weight = (p.wants.getD j default).weight → rHolds (r.gr.getD (lastI r.gr j r.gr.length).toNat default).off (p.wants.getD i default).need = true →
      envL p r j i = decide (tk r i < rMany (sc4 (sumsOf (p.wants.getD j default).need) (max 0 (tk r j - 1))) (sumsOf (p.wants.getD i default).need)) := fun e1 e2 e3 e4 => by
    have : i ≠ j := e2
    unfold envL
    rw [decide_eq_true e1, decide_eq_true this, decide_eq_true e3, e4]
    simp only [Bool.true_and]
  obtain ⟨cc, hcc⟩ : ∃ x, x = max 0 (tk r j - 1) := ⟨_, rfl⟩
  have hcb : 0 ≤ cc ∧ cc ≤ 4095 := by omega
  rw [← hcc] at q4
  have hMa := x_r35Many (sc4 (sumsOf (p.wants.getD j default).need) cc) (sumsOf (p.wants.getD i default).need)
  have hL0 : lastI r.gr j 0 = -1 := rfl
  have hL1 : ∀ k, lastI r.gr j (k + 1) = if gtOf r.gr j k = true then (k : Int) else lastI r.gr j k := fun _ => rfl
  have hLk := fun k => lastI_bd r.gr j k
  have hgt : ∀ k, gtOf r.gr j k = (decide ((r.gr.getD k default).frame = j) && (r.gr.getD k default).la) := fun _ => rfl
  unfold sc4 at hMa q4
  generalize envL p r j i = res at *
  generalize gtOf r.gr j = gt at *
  generalize lastI r.gr j = LI at *
  have hsj := hs
  generalize sumsOf (p.wants.getD i default).need = ns at *
  generalize sumsOf (p.wants.getD j default).need = os at *
  generalize rMany ⟨os.a * cc, os.b * cc, os.c * cc, os.d * cc⟩ ns = mn at *
  obtain ⟨gr, tasks, left⟩ := r
  obtain ⟨ags, wants, lo⟩ := p
  obtain ⟨loa, lob, loc, lod⟩ := lo
  obtain ⟨pa, pw, hla, hwa⟩ := hp
  obtain ⟨n1, n2, n3, n4⟩ := ns
  obtain ⟨o1, o2, o3, o4⟩ := os
  unfold tk at *
  dsimp only at *
  (refine XC.of_body ([(7, []), (13, []), (14, [(0, 7), (7, 9), (8, 9), (7, 10), (8, 10), (7, 12), (8, 12), (7, 13), (8, 13), (7, 14), (8, 14), (7, 15), (8, 15)])]) Try.func59 rfl Try.ntmps59 mixed (T := [(2, ti2), (3, ti3), (4, ti4), (31, ti31), (34, ti34), (42, ti42), (52, ti52), (57, ti57), (75, ti75), (77, ti77), (78, ti78), (80, ti80), (108, ti108), (110, ti110), (123, ti123), (132, ti132)]) (.cons tok2 (.cons tok3 (.cons tok4 (.cons tok31 (.cons tok34 (.cons tok42 (.cons tok52 (.cons tok57 (.cons tok75 (.cons tok77 (.cons tok78 (.cons tok80 (.cons tok108 (.cons tok110 (.cons tok123 (.cons tok132 .nil)))))))))))))))) (by kernel_rfl) (by simp) rfl rfl rfl rfl rfl ?_; rintro o ho P hP c K hK; have hm : P.follows .mixedOrders = true := hP ▸ mixed; have hT : TOk P [(2, ti2), (3, ti3), (4, ti4), (31, ti31), (34, ti34), (42, ti42), (52, ti52), (57, ti57), (75, ti75), (77, ti77), (78, ti78), (80, ti80), (108, ti108), (110, ti110), (123, ti123), (132, ti132)] := hP ▸ (.cons tok2 (.cons tok3 (.cons tok4 (.cons tok31 (.cons tok34 (.cons tok42 (.cons tok52 (.cons tok57 (.cons tok75 (.cons tok77 (.cons tok78 (.cons tok80 (.cons tok108 (.cons tok110 (.cons tok123 (.cons tok132 .nil)))))))))))))))); (try rw [← ho]); cbv; (repeat (refine StopN.mk ?_; cbv)))
  have eni : o.nth wants i = wants.getD i default := by rw [ho, real_nth]
  have enj : o.nth wants j = wants.getD j default := by rw [ho, real_nth]
  rw [← eni, ← ho] at hSi
  rw [← enj, ← ho] at hSj
  repeat' (first | (refine Br.mk (fun hb => ?_) (fun hb => ?_) <;> ((try rw [ho] at hb); (try dsimp only [Ar.real, IX.vo] at hb); (try simp only [QN25, QN12] at hb); (try simp only [QBo, beq_iff_eq, beq_eq_false_iff_ne, ne_eq] at hb))) | (refine StopN.mk ?_; cbv) | ((first | refine CallI.pure hP (x_r06Of _ ‹_›) fn45 (by first | rfl | (rw [ho]; done) | (rw [ho]; rfl)) (by rfl) (by first | rfl | (rw [ho]; done) | (rw [ho]; rfl)) ?_ | refine CallN.pure hP (x_r06Of _ ‹_›) fn45 (by first | rfl | (rw [ho]; done) | (rw [ho]; rfl)) (by rfl) (by first | rfl | (rw [ho]; done) | (rw [ho]; rfl)) ?_); (try rw [← ho]); generalize hr : sumsOf _ = r; (try rw [ho] at hr); (try dsimp only [Ar.real, IX.vo] at hr); (try simp only [QN25, QN12] at hr); cbv) | ((first | refine CallI.pure hP (x_r05Holds _ _ ‹_› ‹_›) fn72 (by first | rfl | (rw [ho]; done) | (rw [ho]; rfl)) (by rfl) (by first | rfl | (rw [ho]; done) | (rw [ho]; rfl)) ?_ | refine CallN.pure hP (x_r05Holds _ _ ‹_› ‹_›) fn72 (by first | rfl | (rw [ho]; done) | (rw [ho]; rfl)) (by rfl) (by first | rfl | (rw [ho]; done) | (rw [ho]; rfl)) ?_); (try rw [← ho]); generalize hr : rHolds _ _ = r; (try rw [ho] at hr); (try dsimp only [Ar.real, IX.vo] at hr); (try simp only [QN25, QN12] at hr); cbv) | ((first | refine CallI.pure hP (x_r35Many _ _) fn115 (by first | rfl | (rw [ho]; done) | (rw [ho]; rfl)) (by rfl) (by first | rfl | (rw [ho]; done) | (rw [ho]; rfl)) ?_ | refine CallN.pure hP (x_r35Many _ _) fn115 (by first | rfl | (rw [ho]; done) | (rw [ho]; rfl)) (by rfl) (by first | rfl | (rw [ho]; done) | (rw [ho]; rfl)) ?_); (try rw [← ho]); generalize hr : rMany _ _ = r; (try rw [ho] at hr); (try dsimp only [Ar.real, IX.vo] at hr); (try simp only [QN25, QN12] at hr); cbv) | (refine hK _ _ ?_) | (refine NeedT.mk ?_ ?_))
  refine LoopN.over (o := o) (D := [(7, []), (13, []), (14, [(0, 7), (7, 9), (8, 9), (7, 10), (8, 10), (7, 12), (8, 12), (7, 13), (8, 13), (7, 14), (8, 14), (7, 15), (8, 15)])]) ho hm hT (by kernel_rfl) (fun k : Nat => [(10, xn k), (9, xi (LI k))]) (fun _ => []) (fun _ => []) (fun k => k ≤ gr.length) (fun k => gr.length - k) 0 (Nat.zero_le _) ?_ ?_
  · refine ⟨(by cbv), by cbv; repeat' (first | trivial | exact EqX.rfl' | exact EqO.rfl' | apply And.intro | ((try clear hR3); (try clear hR2); (try clear hR); (try clear hK); (try simp only [ncCast] at *); (try simp only [castI_eq] at *); refine EqX.i ?_; (try rw [ho]); (try dsimp only [Ar.real, IX.vo, IX.val, BX.val, IX.toN]); (try simp only [QN25, QN12]); (repeat rw [wrap_i64 (by omega) (by omega)]); omega) | (refine EqX.i ?_; rw [hL0]; rfl)), by cbv; repeat' (first | trivial | exact EqO.rfl' | apply And.intro | (refine EqX.i ?_; rw [hL0]; rfl)), by cbv; repeat' (first | trivial | exact EqO.rfl' | apply And.intro | (refine EqX.i ?_; rw [hL0]; rfl))⟩
  · rintro k hk R hR
    have hgk := hgt k
    have hLs := hL1 k
    have e1 : (gr.getD k default).frame = (j : Int) → (gr.getD k default).la = true → LI (k + 1) = (k : Int) := fun h h' => by rw [hLs, hgk, decide_eq_true h, h']; rfl
    have e2 : (gr.getD k default).la = false → LI (k + 1) = LI k := fun h => by rw [hLs, hgk, h, Bool.and_false]; rfl
    have e3 : ¬ (gr.getD k default).frame = (j : Int) → LI (k + 1) = LI k := fun h => by rw [hLs, hgk, decide_eq_false h]; rfl
    have hlk := hLk k
    have hke : gr.length ≤ k → k = gr.length := fun h => by omega
    have hHk := hHo (LI k).toNat
    have hbk : k = gr.length → rHolds (gr.getD (LI k).toNat default).off (wants.getD i default).need = rHolds (gr.getD (LI gr.length).toNat default).off (wants.getD i default).need := fun h => by rw [h]
    generalize rHolds (gr.getD (LI k).toNat default).off (wants.getD i default).need = hh at *
    have eng : o.nth gr (LI k).toNat = gr.getD (LI k).toNat default := by rw [ho, real_nth]
    have hwm : ∀ x : Int, 0 ≤ x ∧ x ≤ 1000 → IntKind.i64.wrap (x * max 0 (IntKind.i64.wrap ((tasks.getD j default).getD 0 0 - 1))) = x * cc := fun x hx => by
      rw [wrap_i64 (x := (tasks.getD j default).getD 0 0 - 1) (by omega) (by omega), ← hcc]
      have m1 : 0 ≤ x * cc := Int.mul_nonneg hx.1 hcb.1
      have m2 : x * cc ≤ 1000 * 4095 := Int.mul_le_mul hx.2 hcb.2 hcb.1 (by omega)
      exact wrap_i64 (by omega) (by omega)
    have w1 := hwm o1 (hs 0)
    have w2 := hwm o2 (hs 1)
    have w3 := hwm o3 (hs 2)
    have w4 := hwm o4 (hs 3)
    clear hwm
    cbv
    repeat' (first | (refine Br.mk (fun hb => ?_) (fun hb => ?_) <;> ((try rw [ho] at hb); (try dsimp only [Ar.real, IX.vo] at hb); (try simp only [QN25, QN12] at hb); (try simp only [QBo, beq_iff_eq, beq_eq_false_iff_ne, ne_eq] at hb))) | (refine StopN.mk ?_; cbv) | ((first | refine CallI.pure hP (x_r06Of _ ‹_›) fn45 (by first | rfl | (rw [ho]; done) | (rw [ho]; rfl)) (by rfl) (by first | rfl | (rw [ho]; done) | (rw [ho]; rfl)) ?_ | refine CallN.pure hP (x_r06Of _ ‹_›) fn45 (by first | rfl | (rw [ho]; done) | (rw [ho]; rfl)) (by rfl) (by first | rfl | (rw [ho]; done) | (rw [ho]; rfl)) ?_); (try rw [← ho]); generalize hr : sumsOf _ = r; (try rw [ho] at hr); (try dsimp only [Ar.real, IX.vo] at hr); (try simp only [QN25, QN12] at hr); cbv) | ((first | refine CallI.pure hP (x_r05Holds _ _ ‹_› ‹_›) fn72 (by first | rfl | (rw [ho]; done) | (rw [ho]; rfl)) (by rfl) (by first | rfl | (rw [ho]; done) | (rw [ho]; rfl)) ?_ | refine CallN.pure hP (x_r05Holds _ _ ‹_› ‹_›) fn72 (by first | rfl | (rw [ho]; done) | (rw [ho]; rfl)) (by rfl) (by first | rfl | (rw [ho]; done) | (rw [ho]; rfl)) ?_); (try rw [← ho]); generalize hr : rHolds _ _ = r; (try rw [ho] at hr); (try dsimp only [Ar.real, IX.vo] at hr); (try simp only [QN25, QN12] at hr); cbv) | ((first | refine CallI.pure hP (x_r35Many _ _) fn115 (by first | rfl | (rw [ho]; done) | (rw [ho]; rfl)) (by rfl) (by first | rfl | (rw [ho]; done) | (rw [ho]; rfl)) ?_ | refine CallN.pure hP (x_r35Many _ _) fn115 (by first | rfl | (rw [ho]; done) | (rw [ho]; rfl)) (by rfl) (by first | rfl | (rw [ho]; done) | (rw [ho]; rfl)) ?_); (try rw [← ho]); generalize hr : rMany _ _ = r; (try rw [ho] at hr); (try dsimp only [Ar.real, IX.vo] at hr); (try simp only [QN25, QN12] at hr); cbv) | (refine hK _ _ ?_) | (refine NeedT.mk ?_ ?_))
    any_goals (((try clear hR3); (try clear hR2); (try clear hR); (try clear hK); (try simp only [ncCast] at *); (try simp only [castI_eq] at *); (try rw [ho]); (try dsimp only [Ar.real, IX.vo, IX.val, BX.val, IX.toN]); (try simp only [QN25, QN12]); (try simp only [decide_eq_true_eq]); (all_goals (repeat rw [wrap_i64 (by omega) (by omega)])); (all_goals (first | omega | (simp only [Int.ofNat_eq_natCast]; omega)))); done)
    · have e4 := e1 (by assumption) (by assumption)
      refine hR _ (k + 1) (by show gr.length - (k + 1) < gr.length - k; omega) (by show k + 1 ≤ gr.length; omega) ?_
      refine ⟨(by cbv), by cbv; repeat' (first | trivial | exact EqX.rfl' | exact EqO.rfl' | apply And.intro | ((try clear hR3); (try clear hR2); (try clear hR); (try clear hK); (try simp only [ncCast] at *); (try simp only [castI_eq] at *); refine EqX.i ?_; (try rw [ho]); (try dsimp only [Ar.real, IX.vo, IX.val, BX.val, IX.toN]); (try simp only [QN25, QN12]); (repeat rw [wrap_i64 (by omega) (by omega)]); omega) | (refine EqX.i ?_; rw [e4]; rfl)), by cbv; repeat' (first | trivial | exact EqO.rfl' | apply And.intro | (refine EqX.i ?_; rw [e4]; rfl)), by cbv; repeat' (first | trivial | exact EqO.rfl' | apply And.intro | (refine EqX.i ?_; rw [e4]; rfl))⟩
    · have e4 := e2 (by assumption)
      refine hR _ (k + 1) (by show gr.length - (k + 1) < gr.length - k; omega) (by show k + 1 ≤ gr.length; omega) ?_
      refine ⟨(by cbv), by cbv; repeat' (first | trivial | exact EqX.rfl' | exact EqO.rfl' | apply And.intro | ((try clear hR3); (try clear hR2); (try clear hR); (try clear hK); (try simp only [ncCast] at *); (try simp only [castI_eq] at *); refine EqX.i ?_; (try rw [ho]); (try dsimp only [Ar.real, IX.vo, IX.val, BX.val, IX.toN]); (try simp only [QN25, QN12]); (repeat rw [wrap_i64 (by omega) (by omega)]); omega) | (refine EqX.i ?_; rw [e4])), by cbv; repeat' (first | trivial | exact EqO.rfl' | apply And.intro | (refine EqX.i ?_; rw [e4])), by cbv; repeat' (first | trivial | exact EqO.rfl' | apply And.intro | (refine EqX.i ?_; rw [e4]))⟩
    · have e4 := e3 hb
      refine hR _ (k + 1) (by show gr.length - (k + 1) < gr.length - k; omega) (by show k + 1 ≤ gr.length; omega) ?_
      refine ⟨(by cbv), by cbv; repeat' (first | trivial | exact EqX.rfl' | exact EqO.rfl' | apply And.intro | ((try clear hR3); (try clear hR2); (try clear hR); (try clear hK); (try simp only [ncCast] at *); (try simp only [castI_eq] at *); refine EqX.i ?_; (try rw [ho]); (try dsimp only [Ar.real, IX.vo, IX.val, BX.val, IX.toN]); (try simp only [QN25, QN12]); (repeat rw [wrap_i64 (by omega) (by omega)]); omega) | (refine EqX.i ?_; rw [e4])), by cbv; repeat' (first | trivial | exact EqO.rfl' | apply And.intro | (refine EqX.i ?_; rw [e4])), by cbv; repeat' (first | trivial | exact EqO.rfl' | apply And.intro | (refine EqX.i ?_; rw [e4]))⟩
    · obtain rfl := hke (by assumption)
      rw [q0 (by assumption)]
      exact .b rfl
    · obtain rfl := hke (by assumption)
      rw [q1 (by assumption)]
      exact .b rfl
    · obtain rfl := hke (by assumption)
      rw [q2 (by assumption)]
      exact .b rfl
    · refine CallN.pure hP hHk fn72 rfl rfl (by rw [ho]; rfl) ?_
      cbv
      repeat' (first | (refine Br.mk (fun hb => ?_) (fun hb => ?_) <;> ((try rw [ho] at hb); (try dsimp only [Ar.real, IX.vo] at hb); (try simp only [QN25, QN12] at hb); (try simp only [QBo, beq_iff_eq, beq_eq_false_iff_ne, ne_eq] at hb))) | (refine StopN.mk ?_; cbv) | (first | refine CallI.pure hP hSj fn45 rfl rfl rfl ?_); cbv | ((first | refine CallI.pure hP (x_r06Of _ ‹_›) fn45 (by first | rfl | (rw [ho]; done) | (rw [ho]; rfl)) (by rfl) (by first | rfl | (rw [ho]; done) | (rw [ho]; rfl)) ?_ | refine CallN.pure hP (x_r06Of _ ‹_›) fn45 (by first | rfl | (rw [ho]; done) | (rw [ho]; rfl)) (by rfl) (by first | rfl | (rw [ho]; done) | (rw [ho]; rfl)) ?_); (try rw [← ho]); generalize hr : sumsOf _ = r; (try rw [ho] at hr); (try dsimp only [Ar.real, IX.vo] at hr); (try simp only [QN25, QN12] at hr); cbv) | ((first | refine CallI.pure hP (x_r05Holds _ _ ‹_› ‹_›) fn72 (by first | rfl | (rw [ho]; done) | (rw [ho]; rfl)) (by rfl) (by first | rfl | (rw [ho]; done) | (rw [ho]; rfl)) ?_ | refine CallN.pure hP (x_r05Holds _ _ ‹_› ‹_›) fn72 (by first | rfl | (rw [ho]; done) | (rw [ho]; rfl)) (by rfl) (by first | rfl | (rw [ho]; done) | (rw [ho]; rfl)) ?_); (try rw [← ho]); generalize hr : rHolds _ _ = r; (try rw [ho] at hr); (try dsimp only [Ar.real, IX.vo] at hr); (try simp only [QN25, QN12] at hr); cbv) | ((first | refine CallI.pure hP (x_r35Many _ _) fn115 (by first | rfl | (rw [ho]; done) | (rw [ho]; rfl)) (by rfl) (by first | rfl | (rw [ho]; done) | (rw [ho]; rfl)) ?_ | refine CallN.pure hP (x_r35Many _ _) fn115 (by first | rfl | (rw [ho]; done) | (rw [ho]; rfl)) (by rfl) (by first | rfl | (rw [ho]; done) | (rw [ho]; rfl)) ?_); (try rw [← ho]); generalize hr : rMany _ _ = r; (try rw [ho] at hr); (try dsimp only [Ar.real, IX.vo] at hr); (try simp only [QN25, QN12] at hr); cbv) | (refine hK _ _ ?_) | (refine NeedT.mk ?_ ?_))
      any_goals (((try clear hR3); (try clear hR2); (try clear hR); (try clear hK); (try simp only [ncCast] at *); (try simp only [castI_eq] at *); (try rw [ho]); (try dsimp only [Ar.real, IX.vo, IX.val, BX.val, IX.toN]); (try simp only [QN25, QN12]); (try simp only [decide_eq_true_eq]); (all_goals (repeat rw [wrap_i64 (by omega) (by omega)])); (all_goals (first | omega | (simp only [Int.ofNat_eq_natCast]; omega)))); done)
      · obtain rfl := hke (by assumption)
        rw [q3 (by rw [← hbk rfl]; assumption)]
        exact .b rfl
      · obtain rfl := hke (by assumption)
        have q5 := q4 (by assumption) (by assumption) (by assumption) (by rw [← hbk rfl]; assumption)
        clear q0 q1 q2 q3 q4 hSj hHk e1 e2 e3
        repeat' (first | (refine Br.mk (fun hb => ?_) (fun hb => ?_) <;> ((try rw [ho] at hb); (try dsimp only [Ar.real, IX.vo] at hb); (try simp only [QN25, QN12] at hb); (try simp only [QBo, beq_iff_eq, beq_eq_false_iff_ne, ne_eq] at hb))) | (refine StopN.mk ?_; cbv) | ((first | refine CallN.pure hP hSi fn45 rfl rfl rfl ?_); cbv) | ((first | refine CallI.pure hP (x_r06Of _ ‹_›) fn45 (by first | rfl | (rw [ho]; done) | (rw [ho]; rfl)) (by rfl) (by first | rfl | (rw [ho]; done) | (rw [ho]; rfl)) ?_ | refine CallN.pure hP (x_r06Of _ ‹_›) fn45 (by first | rfl | (rw [ho]; done) | (rw [ho]; rfl)) (by rfl) (by first | rfl | (rw [ho]; done) | (rw [ho]; rfl)) ?_); (try rw [← ho]); generalize hr : sumsOf _ = r; (try rw [ho] at hr); (try dsimp only [Ar.real, IX.vo] at hr); (try simp only [QN25, QN12] at hr); cbv) | ((first | refine CallI.pure hP (x_r05Holds _ _ ‹_› ‹_›) fn72 (by first | rfl | (rw [ho]; done) | (rw [ho]; rfl)) (by rfl) (by first | rfl | (rw [ho]; done) | (rw [ho]; rfl)) ?_ | refine CallN.pure hP (x_r05Holds _ _ ‹_› ‹_›) fn72 (by first | rfl | (rw [ho]; done) | (rw [ho]; rfl)) (by rfl) (by first | rfl | (rw [ho]; done) | (rw [ho]; rfl)) ?_); (try rw [← ho]); generalize hr : rHolds _ _ = r; (try rw [ho] at hr); (try dsimp only [Ar.real, IX.vo] at hr); (try simp only [QN25, QN12] at hr); cbv) | ((first | refine CallI.pure hP (x_r35Many _ _) fn115 (by first | rfl | (rw [ho]; done) | (rw [ho]; rfl)) (by rfl) (by first | rfl | (rw [ho]; done) | (rw [ho]; rfl)) ?_ | refine CallN.pure hP (x_r35Many _ _) fn115 (by first | rfl | (rw [ho]; done) | (rw [ho]; rfl)) (by rfl) (by first | rfl | (rw [ho]; done) | (rw [ho]; rfl)) ?_); (try rw [← ho]); generalize hr : rMany _ _ = r; (try rw [ho] at hr); (try dsimp only [Ar.real, IX.vo] at hr); (try simp only [QN25, QN12] at hr); cbv) | (refine hK _ _ ?_) | (refine NeedT.mk ?_ ?_) | (refine LoopN.lay (o := o) (D := [(7, []), (13, []), (14, [(0, 7), (7, 9), (8, 9), (7, 10), (8, 10), (7, 12), (8, 12), (7, 13), (8, 13), (7, 14), (8, 14), (7, 15), (8, 15)])]) 5 ho hm hT (by kernel_rfl) ?_; cbv))
        any_goals (((try clear hR3); (try clear hR2); (try clear hR); (try clear hK); (try simp only [ncCast] at *); (try simp only [castI_eq] at *); (try rw [ho]); (try dsimp only [Ar.real, IX.vo, IX.val, BX.val, IX.toN]); (try simp only [QN25, QN12]); (try simp only [decide_eq_true_eq]); (all_goals (repeat rw [wrap_i64 (by omega) (by omega)])); (all_goals (first | omega | (simp only [Int.ofNat_eq_natCast]; omega)))); done)
        any_goals (rw [ho]; show decide ((0 : Int) ≤ 0 ∧ (0 : Int) < ((tasks.getD j default).length : Int)) = true; rw [show (tasks.getD j default).length = 1 from lj]; rfl)
        · refine CallN.pure hP hMa fn115 rfl rfl (toDL_44 (by rw [ho]; exact w1) (by rw [ho]; exact w2) (by rw [ho]; exact w3) (by rw [ho]; exact w4)) ?_
          cbv
          repeat' (first | (refine Br.mk (fun hb => ?_) (fun hb => ?_) <;> ((try rw [ho] at hb); (try dsimp only [Ar.real, IX.vo] at hb); (try simp only [QN25, QN12] at hb); (try simp only [QBo, beq_iff_eq, beq_eq_false_iff_ne, ne_eq] at hb))) | (refine StopN.mk ?_; cbv) | ((first | refine CallI.pure hP (x_r06Of _ ‹_›) fn45 (by first | rfl | (rw [ho]; done) | (rw [ho]; rfl)) (by rfl) (by first | rfl | (rw [ho]; done) | (rw [ho]; rfl)) ?_ | refine CallN.pure hP (x_r06Of _ ‹_›) fn45 (by first | rfl | (rw [ho]; done) | (rw [ho]; rfl)) (by rfl) (by first | rfl | (rw [ho]; done) | (rw [ho]; rfl)) ?_); (try rw [← ho]); generalize hr : sumsOf _ = r; (try rw [ho] at hr); (try dsimp only [Ar.real, IX.vo] at hr); (try simp only [QN25, QN12] at hr); cbv) | ((first | refine CallI.pure hP (x_r05Holds _ _ ‹_› ‹_›) fn72 (by first | rfl | (rw [ho]; done) | (rw [ho]; rfl)) (by rfl) (by first | rfl | (rw [ho]; done) | (rw [ho]; rfl)) ?_ | refine CallN.pure hP (x_r05Holds _ _ ‹_› ‹_›) fn72 (by first | rfl | (rw [ho]; done) | (rw [ho]; rfl)) (by rfl) (by first | rfl | (rw [ho]; done) | (rw [ho]; rfl)) ?_); (try rw [← ho]); generalize hr : rHolds _ _ = r; (try rw [ho] at hr); (try dsimp only [Ar.real, IX.vo] at hr); (try simp only [QN25, QN12] at hr); cbv) | ((first | refine CallI.pure hP (x_r35Many _ _) fn115 (by first | rfl | (rw [ho]; done) | (rw [ho]; rfl)) (by rfl) (by first | rfl | (rw [ho]; done) | (rw [ho]; rfl)) ?_ | refine CallN.pure hP (x_r35Many _ _) fn115 (by first | rfl | (rw [ho]; done) | (rw [ho]; rfl)) (by rfl) (by first | rfl | (rw [ho]; done) | (rw [ho]; rfl)) ?_); (try rw [← ho]); generalize hr : rMany _ _ = r; (try rw [ho] at hr); (try dsimp only [Ar.real, IX.vo] at hr); (try simp only [QN25, QN12] at hr); cbv) | (refine hK _ _ ?_) | (refine NeedT.mk ?_ ?_))
          any_goals (((try clear hR3); (try clear hR2); (try clear hR); (try clear hK); (try simp only [ncCast] at *); (try simp only [castI_eq] at *); (try rw [ho]); (try dsimp only [Ar.real, IX.vo, IX.val, BX.val, IX.toN]); (try simp only [QN25, QN12]); (try simp only [decide_eq_true_eq]); (all_goals (repeat rw [wrap_i64 (by omega) (by omega)])); (all_goals (first | omega | (simp only [Int.ofNat_eq_natCast]; omega)))); done)
          · rw [ho]
            show decide ((0 : Int) ≤ 0 ∧ (0 : Int) < ((tasks.getD i default).length : Int)) = true
            rw [show (tasks.getD i default).length = 1 from li]
            rfl
          · rw [q5]
            refine .b ?_
            rw [ho]
            rfl
end Go.Proofs.Ytddgcegimmcbgaa.Sy
namespace Go.Proofs.Ytddgcegimmcbgaa.Sy
open Go Go.Sy Go.Proofs.Ytddgcegimmcbgaa
theorem last_fst (gr : List Gt) (j : Int) : (lastG gr j).2 = decide (0 ≤ lastI gr j gr.length) ∧ ((lastG gr j).2 = true → (lastG gr j).1 = gr.getD (lastI gr j gr.length).toNat default) := by
  unfold lastG
  split
  · rename_i h
    rw [decide_eq_false (by omega)]
    exact ⟨rfl, fun h => absurd h (by decide)⟩
  · rename_i h
    rw [decide_eq_true (by omega)]
    exact ⟨rfl, fun _ => rfl⟩
theorem sc4_at (s : S4) (c : Int) : ∀ k, (sc4 s c).at_ k = s.at_ k * c
  | 0 => rfl
  | 1 => rfl
  | 2 => rfl
  | 3 => rfl
  | k + 4 => (Int.zero_mul c).symm
theorem mo_many {need s : S4} {c : Int} (hs : ∀ k, 0 ≤ s.at_ k ∧ s.at_ k ≤ 1000) (hc : 0 ≤ c ∧ c ≤ 4095) (hn : ∀ k, 0 ≤ need.at_ k) : ∀ k, (rManyTo (sc4 s c) need k = -1 ∧ moTo need s c k = 18446744073709551616 ∧ ∀ j, j < k → need.at_ j ≤ 0) ∨ (0 ≤ rManyTo (sc4 s c) need k ∧ rManyTo (sc4 s c) need k = (moTo need s c k : Nat) ∧ moTo need s c k ≤ 4095000)
  | 0 => .inl ⟨rfl, rfl, fun j hj => absurd hj (Nat.not_lt_zero j)⟩
  | k + 1 => by
    have ih := mo_many hs hc hn k
    have h1 := hs k
    have h2 := hn k
    have e1 : rManyTo (sc4 s c) need (k + 1) = rManyStep (rManyTo (sc4 s c) need k) ((sc4 s c).at_ k) (need.at_ k) := rfl
    have e2 : moTo need s c (k + 1) = if 0 < need.at_ k then min (moTo need s c k) ((s.at_ k).toNat * c.toNat / (need.at_ k).toNat) else moTo need s c k := rfl
    rw [e1, e2, sc4_at]
    generalize rManyTo (sc4 s c) need k = r at *
    generalize moTo need s c k = m at *
    unfold rManyStep
    by_cases h0 : 0 < need.at_ k
    · rw [if_pos h0]
      generalize need.at_ k = y at *
      generalize s.at_ k = x at *
      have p0 : 0 ≤ x * c := Int.mul_nonneg h1.1 hc.1
      have p1 : x * c ≤ 1000 * 4095 := Int.mul_le_mul h1.2 hc.2 hc.1 (by omega)
      obtain ⟨q, hq⟩ : ∃ q : Nat, q = x.toNat * c.toNat / y.toNat := ⟨_, rfl⟩
      have e3 : (x * c).tdiv y = (q : Int) := by
        rw [Int.tdiv_eq_ediv_of_nonneg p0, hq]
        obtain ⟨x, rfl⟩ := Int.eq_ofNat_of_zero_le h1.1
        obtain ⟨c, rfl⟩ := Int.eq_ofNat_of_zero_le hc.1
        obtain ⟨y, rfl⟩ := Int.eq_ofNat_of_zero_le h2
        simp only [Int.toNat_natCast]
        norm_cast
      have e4 : q ≤ 4095000 := by
        rw [hq]
        refine Nat.le_trans (Nat.div_le_self _ _) ?_
        have h5 : x.toNat ≤ 1000 := by omega
        have h6 : c.toNat ≤ 4095 := by omega
        exact Nat.mul_le_mul h5 h6
      rw [e3, ← hq, wrap_i64 (by omega) (by omega)]
      right
      rcases ih with ⟨i1, i2, i3⟩ | ⟨i1, i2, i3⟩
      · rw [if_pos ⟨h0, .inl (by omega)⟩, i2, Nat.min_eq_right (by omega)]
        exact ⟨by omega, rfl, e4⟩
      · by_cases h7 : (q : Int) < r
        · rw [if_pos ⟨h0, .inr h7⟩, Nat.min_eq_right (by omega)]
          exact ⟨by omega, rfl, e4⟩
        · rw [if_neg (fun h8 => by omega), Nat.min_eq_left (by omega)]
          exact ⟨i1, i2, i3⟩
    · rw [if_neg h0, if_neg (fun h8 => h0 h8.1)]
      rcases ih with ⟨i1, i2, i3⟩ | ih
      · refine .inl ⟨i1, i2, fun j hj => ?_⟩
        rcases Nat.lt_or_ge j k with h5 | h5
        · exact i3 j h5
        · obtain rfl : j = k := by omega
          omega
      · exact .inr ih
theorem env_eq {p : Prof} {r : Res} (h : OneL p) (hf : fitsR p r = true) {j i : Nat} (hj : j < p.wants.length) (hi : i < p.wants.length) : envB p r j i = envL p r j i := by
  obtain ⟨l1, l2⟩ := last_fst r.gr j
  have ti := ((fitsR_at hf).2 i hi).2
  have tj := ((fitsR_at hf).2 j hj).2
  have pi := (h.part hi).1
  have pj := (h.part hj).1
  have bi := (fine_bare (checkR_fine (oneR_true h.one).1)).2.2.1 i hi
  have hs : ∀ k, 0 ≤ (sumsOf (p.wants.getD j default).need).at_ k ∧ (sumsOf (p.wants.getD j default).need).at_ k ≤ 1000 := fun k => ⟨(S4.at_bd pj.rs k).1, by
    have h1 := pj.le k
    have h2 := pj.lit k
    omega⟩
  have hn : ∀ k, 0 ≤ (sumsOf (p.wants.getD i default).need).at_ k := fun k => (S4.at_bd pi.rs k).1
  unfold envB envL
  rw [rHolds_eq, l1]
  by_cases h0 : 0 ≤ lastI r.gr j r.gr.length
  · rw [l2 (by rw [l1]; exact decide_eq_true h0)]
    congr 4
    have hm := mo_many hs (c := max 0 (tk r j - 1)) (by omega) hn 4
    unfold rMany
    rcases hm with ⟨m1, m2, m3⟩ | ⟨m1, m2, m3⟩
    · exfalso
      apply bi.1.some
      have := hn 0
      have := hn 1
      have := hn 2
      have := hn 3
      have := m3 0 (by decide)
      have := m3 1 (by decide)
      have := m3 2 (by decide)
      have := m3 3 (by decide)
      generalize sumsOf (p.wants.getD i default).need = ns at *
      obtain ⟨a, b, c, d⟩ := ns
      simp only [S4.at_] at *
      simp at *
      omega
    · exact decide_eq_decide.2 (by omega)
  · rw [decide_eq_false h0]
    rfl
end Go.Proofs.Ytddgcegimmcbgaa.Sy
namespace Go.Proofs.Ytddgcegimmcbgaa.Sy
open Go Go.Sy Go.Proofs.Ytddgcegimmcbgaa
theorem envRow_pre (p : Prof) (r : Res) (out : List IP) (j i : Nat) : ∀ m, i ≤ m → ∃ l, envRow p r out j m = envRow p r out j i ++ l
  | 0, h => by
    obtain rfl : i = 0 := by omega
    exact ⟨[], by simp⟩
  | m + 1, h => by
    by_cases e : i = m + 1
    · subst e
      exact ⟨[], by simp⟩
    · obtain ⟨l, hl⟩ := envRow_pre p r out j i m (by omega)
      simp only [envRow, hl]
      split
      · exact ⟨l ++ [⟨j, m⟩], by simp⟩
      · exact ⟨l, rfl⟩
theorem envAll_pre (p : Prof) (r : Res) (j : Nat) : ∀ m, j ≤ m → ∃ l, envAll p r m = envAll p r j ++ l
  | 0, h => by
    obtain rfl : j = 0 := by omega
    exact ⟨[], by simp⟩
  | m + 1, h => by
    by_cases e : j = m + 1
    · subst e
      exact ⟨[], by simp⟩
    · obtain ⟨l, hl⟩ := envAll_pre p r j m (by omega)
      obtain ⟨t, ht⟩ := envRow_pre p r (envAll p r m) m 0 p.wants.length (Nat.zero_le _)
      have e1 : envAll p r (m + 1) = envRow p r (envAll p r m) m p.wants.length := rfl
      have e2 : envRow p r (envAll p r m) m 0 = envAll p r m := rfl
      exact ⟨l ++ t, by rw [e1, ht, e2, hl, List.append_assoc]⟩
theorem envAll_hit {p : Prof} {r : Res} {j i : Nat} (hj : j < p.wants.length) (hi : i < p.wants.length) (hu : envB p r j i = true) :
    (envRow p r (envAll p r j) j i).length < (envAll p r p.wants.length).length ∧ (envAll p r p.wants.length).getD (envRow p r (envAll p r j) j i).length default = ⟨j, i⟩ := by
  obtain ⟨l, hl⟩ := envAll_pre p r (j + 1) p.wants.length hj
  obtain ⟨t, ht⟩ := envRow_pre p r (envAll p r j) j (i + 1) p.wants.length hi
  have e1 : envAll p r (j + 1) = envRow p r (envAll p r j) j p.wants.length := rfl
  have e2 : envRow p r (envAll p r j) j (i + 1) = envRow p r (envAll p r j) j i ++ [⟨j, i⟩] := if_pos hu
  rw [hl, e1, ht, e2]
  generalize envRow p r (envAll p r j) j i = A
  simp [List.getD_eq_getElem?_getD]
end Go.Proofs.Ytddgcegimmcbgaa.Sy
namespace Go.Proofs.Ytddgcegimmcbgaa.Sy
open Go Go.Sy Go.Proofs.Ytddgcegimmcbgaa
def resE (gr : List Gt) (tasks : List Int) : Res := ⟨gr, tasks.map sing, []⟩
def fvTo (p : Prof) (l : List Int) : Nat → Bool
  | 0 => decide (l.length = p.wants.length)
  | i + 1 => fvTo p l i && (decide (0 ≤ l.getD i 0) && decide (l.getD i 0 ≤ 4096))
theorem fvTo_iff (p : Prof) (l : List Int) : ∀ i, fvTo p l i = true ↔ l.length = p.wants.length ∧ ∀ j, j < i → 0 ≤ l.getD j 0 ∧ l.getD j 0 ≤ 4096
  | 0 => by simp [fvTo]
  | i + 1 => by
    simp only [fvTo, Bool.and_eq_true, fvTo_iff p l i, decide_eq_true_eq]
    refine ⟨fun ⟨⟨h0, h1⟩, h2⟩ => ⟨h0, fun j hj => ?_⟩, fun ⟨h0, h⟩ => ⟨⟨h0, fun j hj => h j (by omega)⟩, h i (by omega)⟩⟩
    rcases Nat.lt_or_ge j i with h5 | h5
    · exact h1 j h5
    · obtain rfl : j = i := by omega
      exact h2
theorem fitsE_eq (p : Prof) (gr : List Gt) (l : List Int) : fitsR p (resE gr l) = fvTo p l l.length := by
  have e : (fitsR p (resE gr l) = true) ↔ fvTo p l l.length = true := by
    rw [fvTo_iff]
    unfold fitsR
    have hl : (resE gr l).tasks.length = l.length := by simp [resE]
    rw [Bool.and_eq_true, decide_eq_true_eq, hl, nextAt_isNone]
    have ht : ∀ j, j < l.length → ((!tOk ((resE gr l).tasks.getD j default)) = false ↔ 0 ≤ l.getD j 0 ∧ l.getD j 0 ≤ 4096) := fun j hj => by
      have e1 : (resE gr l).tasks.getD j default = [l.getD j 0] := map_getD l hj
      rw [e1]
      unfold tOk
      simp only [Bool.not_eq_false', Bool.and_eq_true, decide_eq_true_eq]
      constructor
      · intro hh
        exact hh.2
      · intro hh
        exact ⟨rfl, hh⟩
    constructor
    · rintro ⟨h1, h2⟩
      exact ⟨h2, fun j hj => (ht j hj).1 (h1 j hj)⟩
    · rintro ⟨h1, h2⟩
      exact ⟨fun j hj => (ht j hj).2 (h2 j hj), h1⟩
  exact Bool.eq_iff_iff.2 e
end Go.Proofs.Ytddgcegimmcbgaa.Sy
namespace Go.Proofs.Ytddgcegimmcbgaa.Sy
open Go Go.Sy Go.Proofs.Ytddgcegimmcbgaa
structure InBw (p : Prof) (l : List Int) (s : StBu) : Prop where
  i : s.i ≤ l.length
  f : s.f = fvTo p l s.i
  dl : s.dl = (l.take s.i).map sing
theorem x_BoundEnvy (p : Prof) (hp : ProfOk p) (hwb : ∀ i, i64B (p.wants.getD i default).weight) (tasks : List Int) (ht : tasks.length ≤ 1048576) (gr : List Gt) (hg : gr.length ≤ 1048576) (hgo : ∀ k, (gr.getD k default).off.length ≤ 1048576) :
    XC Try.prog 10 [.agg (Prof.X Ar.real p), .ro (SL Ar.real encI tasks), .ro (SL Ar.real Gt.X gr)] [] (xb true) [] := by
  have hWk := x_works36
  have hOw := x_Own p.wants hp.nw
  have hSm := x_r36Small p.ags hp.na hp.a
  have hOn := x_r36One p hp
  have hEn : XC Try.prog 58 [.agg (Prof.X Ar.real p), .agg [.ro (SL Ar.real Gt.X gr), .ro (SL Ar.real IV.X (tasks.map sing)), .ro (.lits [])]] [] (.ro (SL Ar.real IP.X (envR p (resE gr tasks)))) [] :=
    XC_args (x_Envy p hp hwb (resE gr tasks) hg hgo (by simpa [resE] using ht) fun i => Nat.le_trans (resOf_row tasks i) (by decide)) fun c => rfl
  have hI0 : ∀ rv, InBw p tasks ⟨0, rv, decide (tasks.length = p.wants.length), []⟩ := fun rv => ⟨Nat.zero_le _, rfl, rfl⟩
  have hone := one_eq (p := p)
  have hL : smallA p.ags = true → p.wants.length ≤ 6 → rOne p = true → OneL p := fun h1 h2 h3 => ⟨(hone h1).trans h3, h1, h2⟩
  have hff := fitsE_eq p gr tasks
  have a1 : smallA p.ags = true → (rOne p = false ∨ fitsR p (resE gr tasks) = false) → envR p (resE gr tasks) = [] := fun h h' => if_neg (by
    rw [hone h]
    rcases h' with h' | h'
    · rw [h']; simp
    · rw [h']; simp)
  have a2 : smallA p.ags = true → rOne p = true → fitsR p (resE gr tasks) = true → envR p (resE gr tasks) = envAll p (resE gr tasks) p.wants.length := fun h h1 h2 => if_pos ⟨by rw [hone h]; exact h1, h2⟩
  have b1 : ∀ (h : OneL p), fitsR p (resE gr tasks) = true → ∀ j i, j < p.wants.length → i < p.wants.length → XC Try.prog 59 [.agg (Prof.X Ar.real p), .agg [.ro (SL Ar.real Gt.X gr), .ro (SL Ar.real IV.X (tasks.map sing)), .ro (.lits [])], xn j, xn i] [] (xb (envB p (resE gr tasks) j i)) [] := fun h hf j i hj hi => by
    obtain ⟨t1, t2⟩ := fitsR_at hf
    have pj := (h.part hj).1
    rw [env_eq h hf hj hi]
    refine XC_args (x_envies59 p hp (resE gr tasks) hg hgo j i hj hi (t2 i hi).1 (t2 j hj).1 (by rw [t1]; exact Nat.le_refl _) (t2 j hj).2 fun k => ⟨(S4.at_bd pj.rs k).1, ?_⟩) fun c => rfl
    have h1 := pj.le k
    have h2 := pj.lit k
    omega
  have c0 : envAll p (resE gr tasks) 0 = [] := rfl
  have c1 : ∀ j, envAll p (resE gr tasks) (j + 1) = envRow p (resE gr tasks) (envAll p (resE gr tasks) j) j p.wants.length := fun _ => rfl
  have c2 : ∀ out j, envRow p (resE gr tasks) out j 0 = out := fun _ _ => rfl
  have c3 : ∀ out j i, envRow p (resE gr tasks) out j (i + 1) = if envB p (resE gr tasks) j i = true then envRow p (resE gr tasks) out j i ++ [⟨j, i⟩] else envRow p (resE gr tasks) out j i := fun _ _ _ => rfl
  have c4 := fun j i (hj : j < p.wants.length) (hi : i < p.wants.length) hu => envAll_hit (p := p) (r := resE gr tasks) hj hi hu
  have c5 := fun j => envAll_len p (resE gr tasks) j
  have c6 := fun out j i => envRow_len p (resE gr tasks) out j i
  have hft : ∀ i, fvTo p tasks (i + 1) = (fvTo p tasks i && (decide (0 ≤ tasks.getD i 0) && decide (tasks.getD i 0 ≤ 4096))) := fun _ => rfl
  have hpw := hp.nw
  have hpa := hp.na
  clear hone hwb
  obtain ⟨ds, hds⟩ : ∃ x, x = tasks.map sing := ⟨_, rfl⟩
  rw [← hds] at hEn b1
  generalize smallA p.ags = sm at *
  generalize rOne p = on at *
  generalize envR p (resE gr tasks) = ul at *
  generalize envAll p (resE gr tasks) = M at *
  generalize envRow p (resE gr tasks) = RW at *
  generalize envB p (resE gr tasks) = eB at *
  generalize fitsR p (resE gr tasks) = fr at *
  generalize hOL : OneL p = OLp at *
  clear hOL
  generalize hInv : InBw p tasks = Inv at *
  have hmkI : ∀ s : StBu, Inv s ↔ s.i ≤ tasks.length ∧ s.f = fvTo p tasks s.i ∧ s.dl = (tasks.take s.i).map sing := fun s => by
    rw [← hInv]
    exact ⟨fun h => ⟨h.i, h.f, h.dl⟩, fun h => ⟨h.1, h.2.1, h.2.2⟩⟩
  clear hInv
  generalize fvTo p tasks = fT at *
  obtain ⟨ags, wants, lo⟩ := p
  obtain ⟨loa, lob, loc, lod⟩ := lo
  clear hp
  dsimp only at *
  (refine XC.of_body ([(10, [(0, 6), (1, 6), (0, 7), (1, 7)])]) Try.func10 rfl Try.ntmps10 mixed (T := [(2, ti2), (3, ti3), (4, ti4), (31, ti31), (34, ti34), (42, ti42), (47, ti47), (52, ti52), (57, ti57), (75, ti75), (77, ti77), (78, ti78), (80, ti80), (88, ti88), (108, ti108), (110, ti110), (111, ti111), (114, ti114), (123, ti123), (132, ti132)]) (.cons tok2 (.cons tok3 (.cons tok4 (.cons tok31 (.cons tok34 (.cons tok42 (.cons tok47 (.cons tok52 (.cons tok57 (.cons tok75 (.cons tok77 (.cons tok78 (.cons tok80 (.cons tok88 (.cons tok108 (.cons tok110 (.cons tok111 (.cons tok114 (.cons tok123 (.cons tok132 .nil)))))))))))))))))))) (by kernel_rfl) (by simp) rfl rfl rfl rfl rfl ?_; rintro o ho P hP c K hK; have hm : P.follows .mixedOrders = true := hP ▸ mixed; have hT : TOk P [(2, ti2), (3, ti3), (4, ti4), (31, ti31), (34, ti34), (42, ti42), (47, ti47), (52, ti52), (57, ti57), (75, ti75), (77, ti77), (78, ti78), (80, ti80), (88, ti88), (108, ti108), (110, ti110), (111, ti111), (114, ti114), (123, ti123), (132, ti132)] := hP ▸ (.cons tok2 (.cons tok3 (.cons tok4 (.cons tok31 (.cons tok34 (.cons tok42 (.cons tok47 (.cons tok52 (.cons tok57 (.cons tok75 (.cons tok77 (.cons tok78 (.cons tok80 (.cons tok88 (.cons tok108 (.cons tok110 (.cons tok111 (.cons tok114 (.cons tok123 (.cons tok132 .nil)))))))))))))))))))); (try rw [← ho]); cbv; (repeat (refine StopN.mk ?_; cbv)))
  rw [← ho] at hOw hSm hOn hEn
  repeat' (first | (refine Br.mk (fun hb => ?_) (fun hb => ?_) <;> ((try rw [ho] at hb); (try dsimp only [Ar.real, IX.vo] at hb); (try simp only [QN25, QN12] at hb); (try simp only [QBo, beq_iff_eq, beq_eq_false_iff_ne, ne_eq] at hb))) | (refine StopN.mk ?_; cbv) | (first | refine CallI.pure hP hOw fn22 rfl rfl rfl ?_ | refine CallI.pure hP hSm fn38 rfl rfl rfl ?_); cbv | ((first | refine CallI.pure hP (x_Own _ ‹_›) fn22 (by first | rfl | (rw [ho]; done) | (rw [ho]; rfl)) (by rfl) (by first | rfl | (rw [ho]; done) | (rw [ho]; rfl)) ?_ | refine CallN.pure hP (x_Own _ ‹_›) fn22 (by first | rfl | (rw [ho]; done) | (rw [ho]; rfl)) (by rfl) (by first | rfl | (rw [ho]; done) | (rw [ho]; rfl)) ?_); (try rw [← ho]); cbv) | ((first | refine CallI.pure hP (x_works36) fn37 (by first | rfl | (rw [ho]; done) | (rw [ho]; rfl)) (by rfl) (by first | rfl | (rw [ho]; done) | (rw [ho]; rfl)) ?_ | refine CallN.pure hP (x_works36) fn37 (by first | rfl | (rw [ho]; done) | (rw [ho]; rfl)) (by rfl) (by first | rfl | (rw [ho]; done) | (rw [ho]; rfl)) ?_); (try rw [← ho]); cbv) | ((first | refine CallI.pure hP (x_r36Small _ ‹_›) fn38 (by first | rfl | (rw [ho]; done) | (rw [ho]; rfl)) (by rfl) (by first | rfl | (rw [ho]; done) | (rw [ho]; rfl)) ?_ | refine CallN.pure hP (x_r36Small _ ‹_›) fn38 (by first | rfl | (rw [ho]; done) | (rw [ho]; rfl)) (by rfl) (by first | rfl | (rw [ho]; done) | (rw [ho]; rfl)) ?_); (try rw [← ho]); generalize hr : smallA _ = r; (try rw [ho] at hr); (try dsimp only [Ar.real, IX.vo] at hr); (try simp only [QN25, QN12] at hr); cbv) | (refine hK _ _ ?_) | (refine NeedT.mk ?_ ?_))
  iterate 5
    · exact .b rfl
  have hsm : sm = true := by assumption
  have hw6 : wants.length ≤ 6 := by ((try clear hR3); (try clear hR2); (try clear hR); (try clear hK); (try simp only [ncCast] at *); (try simp only [castI_eq] at *)); omega
  have ht6 : tasks.length ≤ 6 := by ((try clear hR3); (try clear hR2); (try clear hR); (try clear hK); (try simp only [ncCast] at *); (try simp only [castI_eq] at *)); omega
  have hg40 : gr.length ≤ 40 := by ((try clear hR3); (try clear hR2); (try clear hR); (try clear hK); (try simp only [ncCast] at *); (try simp only [castI_eq] at *)); omega
  replace hL := hL hsm hw6
  replace a1 := a1 hsm
  replace a2 := a2 hsm
  clear hSm hOw
  obtain ⟨f00, hf00⟩ : ∃ x, x = decide (tasks.length = wants.length) := ⟨_, rfl⟩
  have hI1 : Inv ⟨0, 0, f00, []⟩ := by rw [hf00]; exact hI0 0
  refine LoopN.ghostv 1 1 34 1 80 _ rfl rfl ?_
  refine LoopN.over (o := o) (D := [(10, [(0, 6), (1, 6), (0, 7), (1, 7)])]) ho hm hT (by kernel_rfl) (fun s : StBu => [(10, xn s.i), (9, xb s.f)]) (fun s => [(1, .var [.ro (SL o Gt.X gr), .own (.loc 2) s.rv, .v (.slice none 0 0)] 80), (2, .row s.rv 34 1 (SL o IV.X s.dl))]) (fun _ => []) Inv (fun s => tasks.length - s.i) ⟨0, 0, f00, []⟩ hI1 ?_ ?_
  · refine ⟨(by cbv), by cbv; repeat' (first | trivial | exact EqX.rfl' | exact EqO.rfl' | apply And.intro | ((try clear hR3); (try clear hR2); (try clear hR); (try clear hK); (try simp only [ncCast] at *); (try simp only [castI_eq] at *); refine EqX.i ?_; (try rw [ho]); (try dsimp only [Ar.real, IX.vo, IX.val, BX.val, IX.toN]); (try simp only [QN25, QN12]); (repeat rw [wrap_i64 (by omega) (by omega)]); omega) | (exact EqO.row rfl (rows_nil_SL o ho IV.X)) | (refine EqX.b ?_; rw [ho, hf00]; rfl)), by cbv; repeat' (first | trivial | exact EqO.rfl' | apply And.intro | (exact EqO.row rfl (rows_nil_SL o ho IV.X)) | (refine EqX.b ?_; rw [ho, hf00]; rfl)), by cbv; repeat' (first | trivial | exact EqO.rfl' | apply And.intro | (exact EqO.row rfl (rows_nil_SL o ho IV.X)) | (refine EqX.b ?_; rw [ho, hf00]; rfl))⟩
  · rintro ⟨i, rv, f, dl⟩ hin R hR
    obtain ⟨hi, hf, hdl⟩ := (hmkI _).1 hin
    dsimp only at hi hf hdl
    have hft1 := hft i
    rw [← hf] at hft1
    have en : o.nth tasks i = tasks.getD i 0 := by rw [ho]; rfl
    obtain ⟨f', hf'⟩ : ∃ x, x = fT (i + 1) := ⟨_, rfl⟩
    rw [← hf'] at hft1
    obtain ⟨dl', hdl'⟩ : ∃ x, x = (tasks.take (i + 1)).map sing := ⟨_, rfl⟩
    have hdn : i < tasks.length → dl' = dl ++ [sing (tasks.getD i 0)] := fun h => by
      rw [hdl', hdl, take_getD h, List.map_append]
      rfl
    have hnx : i < tasks.length → Inv ⟨i + 1, rv + 1, f', dl'⟩ := fun h => (hmkI _).2 ⟨h, hf', hdl'⟩
    have hdll : dl.length = i := by rw [hdl, List.length_map, List.length_take]; omega
    have hfT : f = true → 0 ≤ tasks.getD i 0 → decide (tasks.getD i 0 ≤ 4096) = f' := fun h h' => by rw [hft1, h, Bool.true_and, decide_eq_true h', Bool.true_and]
    have hfG : tasks.getD i 0 < 0 → false = f' := fun h => by rw [hft1, decide_eq_false (p := 0 ≤ tasks.getD i 0) (by omega), Bool.false_and, Bool.and_false]
    have hfF : f = false → false = f' := fun h => by rw [hft1, h, Bool.false_and]
    have hfx : tasks.length ≤ i → f = fr ∧ dl = ds := fun h => by
      obtain rfl : i = tasks.length := by omega
      exact ⟨by rw [hff, hf], by rw [hds, hdl, List.take_length]⟩
    cbv
    repeat' (first | (refine Br.mk (fun hb => ?_) (fun hb => ?_) <;> ((try rw [ho] at hb); (try dsimp only [Ar.real, IX.vo] at hb); (try simp only [QN25, QN12] at hb); (try simp only [QBo, beq_iff_eq, beq_eq_false_iff_ne, ne_eq] at hb))) | (refine StopN.mk ?_; cbv) | ((first | refine CallI.pure hP (x_Own _ ‹_›) fn22 (by first | rfl | (rw [ho]; done) | (rw [ho]; rfl)) (by rfl) (by first | rfl | (rw [ho]; done) | (rw [ho]; rfl)) ?_ | refine CallN.pure hP (x_Own _ ‹_›) fn22 (by first | rfl | (rw [ho]; done) | (rw [ho]; rfl)) (by rfl) (by first | rfl | (rw [ho]; done) | (rw [ho]; rfl)) ?_); (try rw [← ho]); cbv) | ((first | refine CallI.pure hP (x_works36) fn37 (by first | rfl | (rw [ho]; done) | (rw [ho]; rfl)) (by rfl) (by first | rfl | (rw [ho]; done) | (rw [ho]; rfl)) ?_ | refine CallN.pure hP (x_works36) fn37 (by first | rfl | (rw [ho]; done) | (rw [ho]; rfl)) (by rfl) (by first | rfl | (rw [ho]; done) | (rw [ho]; rfl)) ?_); (try rw [← ho]); cbv) | ((first | refine CallI.pure hP (x_r36Small _ ‹_›) fn38 (by first | rfl | (rw [ho]; done) | (rw [ho]; rfl)) (by rfl) (by first | rfl | (rw [ho]; done) | (rw [ho]; rfl)) ?_ | refine CallN.pure hP (x_r36Small _ ‹_›) fn38 (by first | rfl | (rw [ho]; done) | (rw [ho]; rfl)) (by rfl) (by first | rfl | (rw [ho]; done) | (rw [ho]; rfl)) ?_); (try rw [← ho]); generalize hr : smallA _ = r; (try rw [ho] at hr); (try dsimp only [Ar.real, IX.vo] at hr); (try simp only [QN25, QN12] at hr); cbv) | (refine hK _ _ ?_) | (refine NeedT.mk ?_ ?_))
    any_goals (((try clear hR3); (try clear hR2); (try clear hR); (try clear hK); (try simp only [ncCast] at *); (try simp only [castI_eq] at *); (try rw [ho]); (try dsimp only [Ar.real, IX.vo, IX.val, BX.val, IX.toN]); (try simp only [QN25, QN12]); (try simp only [decide_eq_true_eq]); (all_goals (repeat rw [wrap_i64 (by omega) (by omega)])); (all_goals (first | omega | (simp only [Int.ofNat_eq_natCast]; omega)))); done)
    · refine hR _ ⟨i + 1, rv + 1, f', dl'⟩ (by show tasks.length - (i + 1) < tasks.length - i; omega) (hnx (by assumption)) ?_
      refine ⟨(by cbv), by cbv; repeat' (first | trivial | exact EqX.rfl' | exact EqO.rfl' | apply And.intro | ((try clear hR3); (try clear hR2); (try clear hR); (try clear hK); (try simp only [ncCast] at *); (try simp only [castI_eq] at *); refine EqX.i ?_; (try rw [ho]); (try dsimp only [Ar.real, IX.vo, IX.val, BX.val, IX.toN]); (try simp only [QN25, QN12]); (repeat rw [wrap_i64 (by omega) (by omega)]); omega) | (refine EqX.b ?_; rw [ho]; exact hfT (by assumption) (by assumption)) | (refine EqO.snoc ho IV.X _ _ _ _ rfl (hdn (by assumption)) ?_; rw [ho]; rfl)), by cbv; repeat' (first | trivial | exact EqO.rfl' | apply And.intro | (refine EqX.b ?_; rw [ho]; exact hfT (by assumption) (by assumption)) | (refine EqO.snoc ho IV.X _ _ _ _ rfl (hdn (by assumption)) ?_; rw [ho]; rfl)), by cbv; repeat' (first | trivial | exact EqO.rfl' | apply And.intro | (refine EqX.b ?_; rw [ho]; exact hfT (by assumption) (by assumption)) | (refine EqO.snoc ho IV.X _ _ _ _ rfl (hdn (by assumption)) ?_; rw [ho]; rfl))⟩
    · refine hR _ ⟨i + 1, rv + 1, f', dl'⟩ (by show tasks.length - (i + 1) < tasks.length - i; omega) (hnx (by assumption)) ?_
      refine ⟨(by cbv), by cbv; repeat' (first | trivial | exact EqX.rfl' | exact EqO.rfl' | apply And.intro | ((try clear hR3); (try clear hR2); (try clear hR); (try clear hK); (try simp only [ncCast] at *); (try simp only [castI_eq] at *); refine EqX.i ?_; (try rw [ho]); (try dsimp only [Ar.real, IX.vo, IX.val, BX.val, IX.toN]); (try simp only [QN25, QN12]); (repeat rw [wrap_i64 (by omega) (by omega)]); omega) | (refine EqX.b ?_; exact hfG (by assumption)) | (refine EqO.snoc ho IV.X _ _ _ _ rfl (hdn (by assumption)) ?_; rw [ho]; rfl)), by cbv; repeat' (first | trivial | exact EqO.rfl' | apply And.intro | (refine EqX.b ?_; exact hfG (by assumption)) | (refine EqO.snoc ho IV.X _ _ _ _ rfl (hdn (by assumption)) ?_; rw [ho]; rfl)), by cbv; repeat' (first | trivial | exact EqO.rfl' | apply And.intro | (refine EqX.b ?_; exact hfG (by assumption)) | (refine EqO.snoc ho IV.X _ _ _ _ rfl (hdn (by assumption)) ?_; rw [ho]; rfl))⟩
    · refine hR _ ⟨i + 1, rv + 1, f', dl'⟩ (by show tasks.length - (i + 1) < tasks.length - i; omega) (hnx (by assumption)) ?_
      refine ⟨(by cbv), by cbv; repeat' (first | trivial | exact EqX.rfl' | exact EqO.rfl' | apply And.intro | ((try clear hR3); (try clear hR2); (try clear hR); (try clear hK); (try simp only [ncCast] at *); (try simp only [castI_eq] at *); refine EqX.i ?_; (try rw [ho]); (try dsimp only [Ar.real, IX.vo, IX.val, BX.val, IX.toN]); (try simp only [QN25, QN12]); (repeat rw [wrap_i64 (by omega) (by omega)]); omega) | (refine EqX.b ?_; exact hfF (by assumption)) | (refine EqO.snoc ho IV.X _ _ _ _ rfl (hdn (by assumption)) ?_; rw [ho]; rfl)), by cbv; repeat' (first | trivial | exact EqO.rfl' | apply And.intro | (refine EqX.b ?_; exact hfF (by assumption)) | (refine EqO.snoc ho IV.X _ _ _ _ rfl (hdn (by assumption)) ?_; rw [ho]; rfl)), by cbv; repeat' (first | trivial | exact EqO.rfl' | apply And.intro | (refine EqX.b ?_; exact hfF (by assumption)) | (refine EqO.snoc ho IV.X _ _ _ _ rfl (hdn (by assumption)) ?_; rw [ho]; rfl))⟩
    · obtain ⟨rfl, rfl⟩ := hfx (by ((try clear hR3); (try clear hR2); (try clear hR); (try clear hK); (try simp only [ncCast] at *); (try simp only [castI_eq] at *)); omega)
      clear hnx hdn hft1 hfT hfG hfF hft hmkI hin hI0 hI1
      refine LoopN.over (o := o) (D := [(10, [(0, 6), (1, 6), (0, 7), (1, 7)])]) ho hm hT (by kernel_rfl) (fun k : Nat => [(11, xn k)]) (fun _ => []) (fun _ => []) (fun k => k ≤ gr.length) (fun k => gr.length - k) 0 (Nat.zero_le _) ?_ ?_
      · refine ⟨(by cbv), by cbv; repeat' (first | trivial | exact EqX.rfl' | exact EqO.rfl' | apply And.intro | ((try clear hR3); (try clear hR2); (try clear hR); (try clear hK); (try simp only [ncCast] at *); (try simp only [castI_eq] at *); refine EqX.i ?_; (try rw [ho]); (try dsimp only [Ar.real, IX.vo, IX.val, BX.val, IX.toN]); (try simp only [QN25, QN12]); (repeat rw [wrap_i64 (by omega) (by omega)]); omega)), by cbv; repeat' (first | trivial | exact EqO.rfl' | apply And.intro), by cbv; repeat' (first | trivial | exact EqO.rfl' | apply And.intro)⟩
      · rintro k hk R2 hR2
        have hok := hgo k
        cbv
        repeat' (first | (refine Br.mk (fun hb => ?_) (fun hb => ?_) <;> ((try rw [ho] at hb); (try dsimp only [Ar.real, IX.vo] at hb); (try simp only [QN25, QN12] at hb); (try simp only [QBo, beq_iff_eq, beq_eq_false_iff_ne, ne_eq] at hb))) | (refine StopN.mk ?_; cbv) | ((first | refine CallI.pure hP (x_Own _ ‹_›) fn22 (by first | rfl | (rw [ho]; done) | (rw [ho]; rfl)) (by rfl) (by first | rfl | (rw [ho]; done) | (rw [ho]; rfl)) ?_ | refine CallN.pure hP (x_Own _ ‹_›) fn22 (by first | rfl | (rw [ho]; done) | (rw [ho]; rfl)) (by rfl) (by first | rfl | (rw [ho]; done) | (rw [ho]; rfl)) ?_); (try rw [← ho]); cbv) | ((first | refine CallI.pure hP (x_works36) fn37 (by first | rfl | (rw [ho]; done) | (rw [ho]; rfl)) (by rfl) (by first | rfl | (rw [ho]; done) | (rw [ho]; rfl)) ?_ | refine CallN.pure hP (x_works36) fn37 (by first | rfl | (rw [ho]; done) | (rw [ho]; rfl)) (by rfl) (by first | rfl | (rw [ho]; done) | (rw [ho]; rfl)) ?_); (try rw [← ho]); cbv) | ((first | refine CallI.pure hP (x_r36Small _ ‹_›) fn38 (by first | rfl | (rw [ho]; done) | (rw [ho]; rfl)) (by rfl) (by first | rfl | (rw [ho]; done) | (rw [ho]; rfl)) ?_ | refine CallN.pure hP (x_r36Small _ ‹_›) fn38 (by first | rfl | (rw [ho]; done) | (rw [ho]; rfl)) (by rfl) (by first | rfl | (rw [ho]; done) | (rw [ho]; rfl)) ?_); (try rw [← ho]); generalize hr : smallA _ = r; (try rw [ho] at hr); (try dsimp only [Ar.real, IX.vo] at hr); (try simp only [QN25, QN12] at hr); cbv) | (refine hK _ _ ?_) | (refine NeedT.mk ?_ ?_))
        any_goals (((try clear hR3); (try clear hR2); (try clear hR); (try clear hK); (try simp only [ncCast] at *); (try simp only [castI_eq] at *); (try rw [ho]); (try dsimp only [Ar.real, IX.vo, IX.val, BX.val, IX.toN]); (try simp only [QN25, QN12]); (try simp only [decide_eq_true_eq]); (all_goals (repeat rw [wrap_i64 (by omega) (by omega)])); (all_goals (first | omega | (simp only [Int.ofNat_eq_natCast]; omega)))); done)
        · exact .b rfl
        · refine hR2 _ (k + 1) (by show gr.length - (k + 1) < gr.length - k; omega) (by show k + 1 ≤ gr.length; omega) ?_
          refine ⟨(by cbv), by cbv; repeat' (first | trivial | exact EqX.rfl' | exact EqO.rfl' | apply And.intro | ((try clear hR3); (try clear hR2); (try clear hR); (try clear hK); (try simp only [ncCast] at *); (try simp only [castI_eq] at *); refine EqX.i ?_; (try rw [ho]); (try dsimp only [Ar.real, IX.vo, IX.val, BX.val, IX.toN]); (try simp only [QN25, QN12]); (repeat rw [wrap_i64 (by omega) (by omega)]); omega)), by cbv; repeat' (first | trivial | exact EqO.rfl' | apply And.intro), by cbv; repeat' (first | trivial | exact EqO.rfl' | apply And.intro)⟩
        · refine CallI.frzv 2 1 1 1 1 rfl rfl rfl rfl rfl ?_
          refine CallI.pure hP hEn fn58 rfl rfl rfl ?_
          cbv
          repeat' (first | (refine Br.mk (fun hb => ?_) (fun hb => ?_) <;> ((try rw [ho] at hb); (try dsimp only [Ar.real, IX.vo] at hb); (try simp only [QN25, QN12] at hb); (try simp only [QBo, beq_iff_eq, beq_eq_false_iff_ne, ne_eq] at hb))) | (refine StopN.mk ?_; cbv) | (first | refine CallN.pure hP hOn fn40 rfl rfl rfl ?_ | refine CallI.pure hP hOn fn40 rfl rfl rfl ?_ | refine CallN.pure hP hWk fn37 rfl rfl rfl ?_ | refine CallI.pure hP hWk fn37 rfl rfl rfl ?_); cbv | ((first | refine CallI.pure hP (x_Own _ ‹_›) fn22 (by first | rfl | (rw [ho]; done) | (rw [ho]; rfl)) (by rfl) (by first | rfl | (rw [ho]; done) | (rw [ho]; rfl)) ?_ | refine CallN.pure hP (x_Own _ ‹_›) fn22 (by first | rfl | (rw [ho]; done) | (rw [ho]; rfl)) (by rfl) (by first | rfl | (rw [ho]; done) | (rw [ho]; rfl)) ?_); (try rw [← ho]); cbv) | ((first | refine CallI.pure hP (x_works36) fn37 (by first | rfl | (rw [ho]; done) | (rw [ho]; rfl)) (by rfl) (by first | rfl | (rw [ho]; done) | (rw [ho]; rfl)) ?_ | refine CallN.pure hP (x_works36) fn37 (by first | rfl | (rw [ho]; done) | (rw [ho]; rfl)) (by rfl) (by first | rfl | (rw [ho]; done) | (rw [ho]; rfl)) ?_); (try rw [← ho]); cbv) | ((first | refine CallI.pure hP (x_r36Small _ ‹_›) fn38 (by first | rfl | (rw [ho]; done) | (rw [ho]; rfl)) (by rfl) (by first | rfl | (rw [ho]; done) | (rw [ho]; rfl)) ?_ | refine CallN.pure hP (x_r36Small _ ‹_›) fn38 (by first | rfl | (rw [ho]; done) | (rw [ho]; rfl)) (by rfl) (by first | rfl | (rw [ho]; done) | (rw [ho]; rfl)) ?_); (try rw [← ho]); generalize hr : smallA _ = r; (try rw [ho] at hr); (try dsimp only [Ar.real, IX.vo] at hr); (try simp only [QN25, QN12] at hr); cbv) | (refine hK _ _ ?_) | (refine NeedT.mk ?_ ?_))
          · exact .b rfl
          · exact absurd (by rw [a1 (.inr (by assumption))]; rfl) hb
          · exact .b rfl
          · exact absurd (by rw [a1 (.inl (by assumption))]; rfl) hb
          have hO1 : OLp := hL (by assumption)
          have hft : f = true := by assumption
          have q2 := a2 (by assumption) hft
          replace b1 := b1 hO1 hft
          rw [← ho] at b1
          clear a1 a2 hEn hOn hL hff hok hR hR2
          refine LoopN.over (o := o) (D := [(10, [(0, 6), (1, 6), (0, 7), (1, 7)])]) ho hm hT (by kernel_rfl) (fun s : StBv => [(14, xn s.i), (13, xn s.n)]) (fun _ => []) (fun _ => []) (fun s => s.i ≤ wants.length ∧ s.n = (M s.i).length) (fun s => wants.length - s.i) ⟨0, 0⟩ ⟨Nat.zero_le _, by rw [c0]; rfl⟩ ?_ ?_
          · refine ⟨(by cbv), by cbv; repeat' (first | trivial | exact EqX.rfl' | exact EqO.rfl' | apply And.intro | ((try clear hR3); (try clear hR2); (try clear hR); (try clear hK); (try simp only [ncCast] at *); (try simp only [castI_eq] at *); refine EqX.i ?_; (try rw [ho]); (try dsimp only [Ar.real, IX.vo, IX.val, BX.val, IX.toN]); (try simp only [QN25, QN12]); (repeat rw [wrap_i64 (by omega) (by omega)]); omega)), by cbv; repeat' (first | trivial | exact EqO.rfl' | apply And.intro), by cbv; repeat' (first | trivial | exact EqO.rfl' | apply And.intro)⟩
          · rintro ⟨j, n⟩ ⟨hj, hn⟩ R3 hR3
            dsimp only at hj hn
            have d1 := c1 j
            have d2 := c2 (M j) j
            have d5 := c5 j
            obtain ⟨n', hn'⟩ : ∃ x, x = (M (j + 1)).length := ⟨_, rfl⟩
            cbv
            repeat' (first | (refine Br.mk (fun hb => ?_) (fun hb => ?_) <;> ((try rw [ho] at hb); (try dsimp only [Ar.real, IX.vo] at hb); (try simp only [QN25, QN12] at hb); (try simp only [QBo, beq_iff_eq, beq_eq_false_iff_ne, ne_eq] at hb))) | (refine StopN.mk ?_; cbv) | ((first | refine CallI.pure hP (x_Own _ ‹_›) fn22 (by first | rfl | (rw [ho]; done) | (rw [ho]; rfl)) (by rfl) (by first | rfl | (rw [ho]; done) | (rw [ho]; rfl)) ?_ | refine CallN.pure hP (x_Own _ ‹_›) fn22 (by first | rfl | (rw [ho]; done) | (rw [ho]; rfl)) (by rfl) (by first | rfl | (rw [ho]; done) | (rw [ho]; rfl)) ?_); (try rw [← ho]); cbv) | ((first | refine CallI.pure hP (x_works36) fn37 (by first | rfl | (rw [ho]; done) | (rw [ho]; rfl)) (by rfl) (by first | rfl | (rw [ho]; done) | (rw [ho]; rfl)) ?_ | refine CallN.pure hP (x_works36) fn37 (by first | rfl | (rw [ho]; done) | (rw [ho]; rfl)) (by rfl) (by first | rfl | (rw [ho]; done) | (rw [ho]; rfl)) ?_); (try rw [← ho]); cbv) | ((first | refine CallI.pure hP (x_r36Small _ ‹_›) fn38 (by first | rfl | (rw [ho]; done) | (rw [ho]; rfl)) (by rfl) (by first | rfl | (rw [ho]; done) | (rw [ho]; rfl)) ?_ | refine CallN.pure hP (x_r36Small _ ‹_›) fn38 (by first | rfl | (rw [ho]; done) | (rw [ho]; rfl)) (by rfl) (by first | rfl | (rw [ho]; done) | (rw [ho]; rfl)) ?_); (try rw [← ho]); generalize hr : smallA _ = r; (try rw [ho] at hr); (try dsimp only [Ar.real, IX.vo] at hr); (try simp only [QN25, QN12] at hr); cbv) | (refine hK _ _ ?_) | (refine NeedT.mk ?_ ?_))
            · refine LoopN.over (o := o) (D := [(10, [(0, 6), (1, 6), (0, 7), (1, 7)])]) ho hm hT (by kernel_rfl) (fun s : StBv => [(15, xn s.i), (13, xn s.n)]) (fun _ => []) (fun _ => []) (fun s => s.i ≤ wants.length ∧ s.n = (RW (M j) j s.i).length) (fun s => wants.length - s.i) ⟨0, n⟩ ⟨Nat.zero_le _, by rw [d2]; exact hn⟩ ?_ ?_
              · refine ⟨(by cbv), by cbv; repeat' (first | trivial | exact EqX.rfl' | exact EqO.rfl' | apply And.intro | ((try clear hR3); (try clear hR2); (try clear hR); (try clear hK); (try simp only [ncCast] at *); (try simp only [castI_eq] at *); refine EqX.i ?_; (try rw [ho]); (try dsimp only [Ar.real, IX.vo, IX.val, BX.val, IX.toN]); (try simp only [QN25, QN12]); (repeat rw [wrap_i64 (by omega) (by omega)]); omega)), by cbv; repeat' (first | trivial | exact EqO.rfl' | apply And.intro), by cbv; repeat' (first | trivial | exact EqO.rfl' | apply And.intro)⟩
              · rintro ⟨i3, n3⟩ ⟨hi3, hn3⟩ R4 hR4
                dsimp only at hi3 hn3
                have hjl : j < wants.length := by ((try clear hR3); (try clear hR2); (try clear hR); (try clear hK); (try simp only [ncCast] at *); (try simp only [castI_eq] at *)); omega
                have e1 := fun h => b1 j i3 hjl h
                have e3 := c3 (M j) j i3
                have e4 := fun h hu => c4 j i3 hjl h hu
                have e6 := c6 (M j) j i3
                rw [← q2, ← hn3] at e4
                rw [← hn3] at e6
                have hb3 : n3 ≤ 42 := by
                  have := Nat.mul_le_mul (show j ≤ 6 by omega) hw6
                  omega
                generalize eB j i3 = e at *
                obtain ⟨n4, hn4⟩ : ∃ x, x = (RW (M j) j (i3 + 1)).length := ⟨_, rfl⟩
                cbv
                repeat' (first | (refine Br.mk (fun hb => ?_) (fun hb => ?_) <;> ((try rw [ho] at hb); (try dsimp only [Ar.real, IX.vo] at hb); (try simp only [QN25, QN12] at hb); (try simp only [QBo, beq_iff_eq, beq_eq_false_iff_ne, ne_eq] at hb))) | (refine StopN.mk ?_; cbv) | (first | refine CallN.pure hP (e1 ‹_›) fn59 rfl rfl rfl ?_ | refine CallI.pure hP (e1 ‹_›) fn59 rfl rfl rfl ?_); cbv | ((first | refine CallI.pure hP (x_Own _ ‹_›) fn22 (by first | rfl | (rw [ho]; done) | (rw [ho]; rfl)) (by rfl) (by first | rfl | (rw [ho]; done) | (rw [ho]; rfl)) ?_ | refine CallN.pure hP (x_Own _ ‹_›) fn22 (by first | rfl | (rw [ho]; done) | (rw [ho]; rfl)) (by rfl) (by first | rfl | (rw [ho]; done) | (rw [ho]; rfl)) ?_); (try rw [← ho]); cbv) | ((first | refine CallI.pure hP (x_works36) fn37 (by first | rfl | (rw [ho]; done) | (rw [ho]; rfl)) (by rfl) (by first | rfl | (rw [ho]; done) | (rw [ho]; rfl)) ?_ | refine CallN.pure hP (x_works36) fn37 (by first | rfl | (rw [ho]; done) | (rw [ho]; rfl)) (by rfl) (by first | rfl | (rw [ho]; done) | (rw [ho]; rfl)) ?_); (try rw [← ho]); cbv) | ((first | refine CallI.pure hP (x_r36Small _ ‹_›) fn38 (by first | rfl | (rw [ho]; done) | (rw [ho]; rfl)) (by rfl) (by first | rfl | (rw [ho]; done) | (rw [ho]; rfl)) ?_ | refine CallN.pure hP (x_r36Small _ ‹_›) fn38 (by first | rfl | (rw [ho]; done) | (rw [ho]; rfl)) (by rfl) (by first | rfl | (rw [ho]; done) | (rw [ho]; rfl)) ?_); (try rw [← ho]); generalize hr : smallA _ = r; (try rw [ho] at hr); (try dsimp only [Ar.real, IX.vo] at hr); (try simp only [QN25, QN12] at hr); cbv) | (refine hK _ _ ?_) | (refine NeedT.mk ?_ ?_))
                · exfalso
                  have := (e4 (by assumption) (by assumption)).1
                  clear hR4 hR3
                  ((try clear hR3); (try clear hR2); (try clear hR); (try clear hK); (try simp only [ncCast] at *); (try simp only [castI_eq] at *))
                  omega
                · clear hR4 hR3
                  ((try clear hR3); (try clear hR2); (try clear hR); (try clear hK); (try simp only [ncCast] at *); (try simp only [castI_eq] at *); (try rw [ho]); (try dsimp only [Ar.real, IX.vo, IX.val, BX.val, IX.toN]); (try simp only [QN25, QN12]); (try simp only [decide_eq_true_eq]); (all_goals (repeat rw [wrap_i64 (by omega) (by omega)])); (all_goals (first | omega | (simp only [Int.ofNat_eq_natCast]; omega))))
                · exfalso
                  have hh := (e4 (by assumption) (by assumption)).2
                  change (decide ((ul.getD n3 default).1 = (j : Int)) && decide ((ul.getD n3 default).2 = (i3 : Int))) = false at hb
                  rw [hh] at hb
                  simp at hb
                · have hn5 : n4 = n3 + 1 := by rw [hn4, e3, if_pos (by assumption), List.length_append, ← hn3]; rfl
                  refine hR4 _ ⟨i3 + 1, n4⟩ (by show wants.length - (i3 + 1) < wants.length - i3; omega) ⟨by show i3 + 1 ≤ wants.length; omega, hn4⟩ ?_
                  clear hR4 hR3
                  refine ⟨(by cbv), by cbv; repeat' (first | trivial | exact EqX.rfl' | exact EqO.rfl' | apply And.intro | ((try clear hR3); (try clear hR2); (try clear hR); (try clear hK); (try simp only [ncCast] at *); (try simp only [castI_eq] at *); refine EqX.i ?_; (try rw [ho]); (try dsimp only [Ar.real, IX.vo, IX.val, BX.val, IX.toN]); (try simp only [QN25, QN12]); (repeat rw [wrap_i64 (by omega) (by omega)]); omega)), by cbv; repeat' (first | trivial | exact EqO.rfl' | apply And.intro), by cbv; repeat' (first | trivial | exact EqO.rfl' | apply And.intro)⟩
                · have hn5 : n4 = n3 := by rw [hn4, e3, if_neg (by rw [‹e = false›]; decide), ← hn3]
                  refine hR4 _ ⟨i3 + 1, n4⟩ (by show wants.length - (i3 + 1) < wants.length - i3; omega) ⟨by show i3 + 1 ≤ wants.length; omega, hn4⟩ ?_
                  clear hR4 hR3
                  refine ⟨(by cbv), by cbv; repeat' (first | trivial | exact EqX.rfl' | exact EqO.rfl' | apply And.intro | ((try clear hR3); (try clear hR2); (try clear hR); (try clear hK); (try simp only [ncCast] at *); (try simp only [castI_eq] at *); refine EqX.i ?_; (try rw [ho]); (try dsimp only [Ar.real, IX.vo, IX.val, BX.val, IX.toN]); (try simp only [QN25, QN12]); (repeat rw [wrap_i64 (by omega) (by omega)]); omega)), by cbv; repeat' (first | trivial | exact EqO.rfl' | apply And.intro), by cbv; repeat' (first | trivial | exact EqO.rfl' | apply And.intro)⟩
                · clear hR4
                  obtain rfl : i3 = wants.length := by omega
                  have hn5 : n' = n3 := by rw [hn', d1, ← hn3]
                  refine hR3 _ ⟨j + 1, n'⟩ (by show wants.length - (j + 1) < wants.length - j; omega) ⟨by show j + 1 ≤ wants.length; omega, hn'⟩ ?_
                  clear hR3
                  refine ⟨(by cbv), by cbv; repeat' (first | trivial | exact EqX.rfl' | exact EqO.rfl' | apply And.intro | ((try clear hR3); (try clear hR2); (try clear hR); (try clear hK); (try simp only [ncCast] at *); (try simp only [castI_eq] at *); refine EqX.i ?_; (try rw [ho]); (try dsimp only [Ar.real, IX.vo, IX.val, BX.val, IX.toN]); (try simp only [QN25, QN12]); (repeat rw [wrap_i64 (by omega) (by omega)]); omega)), by cbv; repeat' (first | trivial | exact EqO.rfl' | apply And.intro), by cbv; repeat' (first | trivial | exact EqO.rfl' | apply And.intro)⟩
            · exact .b rfl
            · exfalso
              have hj2 : j = wants.length := by ((try clear hR3); (try clear hR2); (try clear hR); (try clear hK); (try simp only [ncCast] at *); (try simp only [castI_eq] at *)); omega
              exact hb (by rw [hn, q2, hj2])
end Go.Proofs.Ytddgcegimmcbgaa.Sy

/-
  Amounts, wide products, fractions, sums: contracts. Plain theorems.
-/
import Derived.Test.YtddgcegimmcbgaaK1
import Derived.Test.YtddgcegimmcbgaaSyZb
set_option linter.unusedSectionVars false
namespace Go.Proofs.Ytddgcegimmcbgaa.Sy
open Go Go.Sy Go.Proofs.Ytddgcegimmcbgaa
set_option maxRecDepth 100000
set_option maxHeartbeats 8000000
set_option linter.unusedVariables false
set_option linter.unusedSimpArgs false

structure Fr where
  num : Int
  den : Int
  deriving DecidableEq
instance : Inhabited Fr := ⟨⟨0, 0⟩⟩
def foldAFr_num (e : Fr) := (by
  have h : PLift (e.num = e.num) := ⟨rfl⟩
  conv at h => arg 1; lhs; delta Fr.num
  exact h)
theorem foldFr_num (e : Fr) : type_of% (foldAFr_num e).down := (foldAFr_num e).down
def foldAFr_den (e : Fr) := (by
  have h : PLift (e.den = e.den) := ⟨rfl⟩
  conv at h => arg 1; lhs; delta Fr.den
  exact h)
theorem foldFr_den (e : Fr) : type_of% (foldAFr_den e).down := (foldAFr_den e).down
theorem foldFr : (⟨0, 0⟩ : Fr) = default := rfl
theorem QB1 : type_of% (And.intro @foldFr (And.intro @foldFr_num (And.intro @foldFr_den (QSyVa)))) := And.intro @foldFr (And.intro @foldFr_num (And.intro @foldFr_den (QSyVa)))
@[reducible] def xu (x : Int) : X := .i .u64 (.s x)
def quantSub (a b : Int) : Int × Bool := if b < 0 ∨ a < b then (0, false) else (IntKind.i64.wrap (a - b), true)
theorem FinX_ib {k : IntKind} {r : Int} {s : Bool} {x : IX} {y : BX} (h : x.val = r) (h' : y.val = s) : FinX (.tup [.i k (.s r), xb s]) [] (.tup [.i k x, .b y]) [] := .pure fun _ => by simp only [X.toD, X.toDL, h, h']; rfl
theorem x_quant_Sub (a b : Int) : XC Try.prog 183 [xi a, xi b] [] (.tup [xi (quantSub a b).1, xb (quantSub a b).2]) [] := by
  (refine XC.of_body ([]) Try.func183 rfl Try.ntmps183 mixed (T := [(2, ti2)]) (.cons tok2 .nil) (by kernel_rfl) (by simp) rfl rfl rfl rfl rfl ?_; rintro o ho P hP c K hK; have hm : P.follows .mixedOrders = true := hP ▸ mixed; have hT : TOk P [(2, ti2)] := hP ▸ (.cons tok2 .nil); (try rw [← ho]); cbv; (repeat (refine StopN.mk ?_; cbv)))
  repeat' (first | (refine Br.mk (fun hb => ?_) (fun hb => ?_) <;> ((try rw [ho] at hb); (try dsimp only [Ar.real, IX.vo] at hb); (try simp only [QB1] at hb); (try simp only [QBo, beq_iff_eq, beq_eq_false_iff_ne, ne_eq] at hb))) | (refine StopN.mk ?_; cbv) | (refine hK _ _ ?_) | (refine NeedT.mk ?_ ?_))
  all_goals
    unfold quantSub
    split
    all_goals first
      | exact FinX_ib rfl rfl
      | (refine FinX_ib ?_ rfl; ((try clear hR3); (try clear hR2); (try clear hR); (try clear hK); (try simp only [ncCast] at *); (try simp only [castI_eq] at *); (try rw [ho]); (try dsimp only [Ar.real, IX.vo, IX.val, BX.val, IX.toN]); (try simp only [QB1])); done)
      | (exfalso; omega)

/-! ### Products of two halves -/
theorem band_low {a : Int} (h0 : 0 ≤ a) (h1 : a < 18446744073709551616) : ((BitVec.ofInt 64 a &&& BitVec.ofInt 64 4294967295).toNat : Int) = a % 4294967296 := by
  obtain ⟨n, rfl⟩ := Int.eq_ofNat_of_zero_le h0
  have hn : n < 18446744073709551616 := by omega
  rw [BitVec.toNat_and]
  have e1 : (BitVec.ofInt 64 (n : Int)).toNat = n := by
    rw [BitVec.toNat_ofInt]
    omega
  have e2 : (BitVec.ofInt 64 4294967295).toNat = 4294967295 := by decide
  rw [e1, e2]
  have e3 : (4294967295 : Nat) = 2 ^ 32 - 1 := by decide
  rw [e3, Nat.and_two_pow_sub_one_eq_mod]
  omega
theorem wrap_u64 {a : Int} (h0 : 0 ≤ a) (h1 : a < 18446744073709551616) : IntKind.u64.wrap a = a := by
  have e : IntKind.u64.wrap a = a % 18446744073709551616 := by
    first | rfl | simp [IntKind.wrap]
  rw [e]; omega
theorem wrap_u64_mod (a : Int) : IntKind.u64.wrap a = a % 18446744073709551616 := by
  first | rfl | simp [IntKind.wrap]
def mulHi (a b : Int) : Int := a * b / 18446744073709551616
def mulLo (a b : Int) : Int := a * b % 18446744073709551616
theorem mul_core {al ah bl bh : Int} (h1 : 0 ≤ al) (h2 : al < 4294967296) (h3 : 0 ≤ ah) (h4 : ah < 4294967296) (h5 : 0 ≤ bl) (h6 : bl < 4294967296) (h7 : 0 ≤ bh) (h8 : bh < 4294967296) {mid side : Int} (hm : mid = ah * bl + al * bl / 4294967296) (hs : side = al * bh + mid % 4294967296) :
    0 ≤ mid ∧ mid < 18446744073709551616 ∧ 0 ≤ side ∧ side < 18446744073709551616 ∧ ah * bh + mid / 4294967296 + side / 4294967296 = (ah * 4294967296 + al) * (bh * 4294967296 + bl) / 18446744073709551616 ∧
    side % 4294967296 * 4294967296 + al * bl % 4294967296 = (ah * 4294967296 + al) * (bh * 4294967296 + bl) % 18446744073709551616 ∧ 0 ≤ ah * bl ∧ ah * bl ≤ 18446744065119617025 ∧ 0 ≤ al * bl ∧ al * bl ≤ 18446744065119617025 ∧ 0 ≤ al * bh ∧ al * bh ≤ 18446744065119617025 ∧ 0 ≤ ah * bh ∧ ah * bh ≤ 18446744065119617025 := by
  have bd : ∀ x y : Int, 0 ≤ x → x < 4294967296 → 0 ≤ y → y < 4294967296 → 0 ≤ x * y ∧ x * y ≤ 18446744065119617025 := fun x y a1 a2 a3 a4 => by
    refine ⟨Int.mul_nonneg a1 a3, ?_⟩
    have : x * y ≤ 4294967295 * 4294967295 := Int.mul_le_mul (by omega) (by omega) a3 (by decide)
    omega
  obtain ⟨p1, p2⟩ := bd al bl h1 h2 h5 h6
  obtain ⟨q1, q2⟩ := bd ah bl h3 h4 h5 h6
  obtain ⟨r1, r2⟩ := bd al bh h1 h2 h7 h8
  obtain ⟨s1, s2⟩ := bd ah bh h3 h4 h7 h8
  have e : (ah * 4294967296 + al) * (bh * 4294967296 + bl) = ah * bh * 18446744073709551616 + (ah * bl + al * bh) * 4294967296 + al * bl := by
    rw [Int.add_mul, Int.mul_add, Int.mul_add]
    have t1 : ah * 4294967296 * (bh * 4294967296) = ah * bh * 18446744073709551616 := by
      rw [Int.mul_assoc, Int.mul_comm 4294967296, Int.mul_assoc bh, ← Int.mul_assoc]; rfl
    have t2 : ah * 4294967296 * bl = ah * bl * 4294967296 := by rw [Int.mul_assoc, Int.mul_comm 4294967296, ← Int.mul_assoc]
    have t3 : al * (bh * 4294967296) = al * bh * 4294967296 := by rw [Int.mul_assoc]
    rw [t1, t2, t3, Int.add_mul]
    omega
  rw [e]
  generalize al * bl = p at *
  generalize ah * bl = q at *
  generalize al * bh = r at *
  generalize ah * bh = s at *
  subst hm hs
  refine ⟨by omega, by omega, by omega, by omega, by omega, by omega, q1, q2, p1, p2, r1, r2, s1, s2⟩
theorem FinX_agg2 {k1 k2 : IntKind} {a b : Int} {x y : IX} (h1 : x.val = a) (h2 : y.val = b) : FinX (.agg [.i k1 (.s a), .i k2 (.s b)]) [] (.agg [.i k1 x, .i k2 y]) [] := .pure fun _ => by simp only [X.toD, X.toDL, h1, h2]; rfl
theorem x_Mul (a b : Int) (ha : 0 ≤ a ∧ a < 18446744073709551616) (hb' : 0 ≤ b ∧ b < 18446744073709551616) : XC Try.prog 169 [xu a, xu b] [] (.agg [xu (mulHi a b), xu (mulLo a b)]) [] := by
  obtain ⟨al, hal⟩ : ∃ q, q = a % 4294967296 := ⟨_, rfl⟩
  obtain ⟨ah, hah⟩ : ∃ q, q = a / 4294967296 := ⟨_, rfl⟩
  obtain ⟨bl, hbl⟩ : ∃ q, q = b % 4294967296 := ⟨_, rfl⟩
  obtain ⟨bh, hbh⟩ : ∃ q, q = b / 4294967296 := ⟨_, rfl⟩
  have ea : ah * 4294967296 + al = a := by omega
  have eb : bh * 4294967296 + bl = b := by omega
  have hcore := mul_core (al := al) (ah := ah) (bl := bl) (bh := bh) (by omega) (by omega) (by omega) (by omega) (by omega) (by omega) (by omega) (by omega) rfl rfl
  rw [ea, eb] at hcore
  (refine XC.of_body ([]) Try.func169 rfl Try.ntmps169 mixed (T := [(155, ti155), (235, ti235)]) (.cons tok155 (.cons tok235 .nil)) (by kernel_rfl) (by simp) rfl rfl rfl rfl rfl ?_; rintro o ho P hP c K hK; have hm : P.follows .mixedOrders = true := hP ▸ mixed; have hT : TOk P [(155, ti155), (235, ti235)] := hP ▸ (.cons tok155 (.cons tok235 .nil)); (try rw [← ho]); cbv; (repeat (refine StopN.mk ?_; cbv)))
  repeat' (first | (refine Br.mk (fun hb => ?_) (fun hb => ?_) <;> ((try rw [ho] at hb); (try dsimp only [Ar.real, IX.vo] at hb); (try simp only [QB1] at hb); (try simp only [QBo, beq_iff_eq, beq_eq_false_iff_ne, ne_eq] at hb))) | (refine StopN.mk ?_; cbv) | (refine hK _ _ ?_) | (refine NeedT.mk ?_ ?_))
  any_goals (rw [ho]; exact decide_eq_true (by decide))
  obtain ⟨c1, c2, c3, c4, c5, c6, q1, q2, p1, p2, r1, r2, s1, s2⟩ := hcore
  have l1 : ∀ x : Int, 0 ≤ x → x < 18446744073709551616 → ((BitVec.ofInt IntKind.u64.bits x &&& BitVec.ofInt IntKind.u64.bits 4294967295).toNat : Int) = x % 4294967296 := fun x h0 h1 => band_low h0 h1
  have f1 : ∀ x : Int, x.fdiv (2 ^ (min (Int.toNat 32) IntKind.u64.bits)) = x / 4294967296 := fun x => by
    have e : ((2 : Int) ^ (min (Int.toNat 32) IntKind.u64.bits)) = 4294967296 := by decide
    rw [e, Int.fdiv_eq_ediv_of_nonneg _ (by decide)]
  have f2 : ∀ x : Int, x * 2 ^ (min (Int.toNat 32) IntKind.u64.bits) = x * 4294967296 := fun x => by
    have e : ((2 : Int) ^ (min (Int.toNat 32) IntKind.u64.bits)) = 4294967296 := by decide
    rw [e]
  have wa : IntKind.u64.wrap al = al := wrap_u64 (by omega) (by omega)
  have wb : IntKind.u64.wrap bl = bl := wrap_u64 (by omega) (by omega)
  have l2 : ∀ x : Int, ((BitVec.ofInt IntKind.u64.bits (IntKind.u64.wrap x) &&& BitVec.ofInt IntKind.u64.bits 4294967295).toNat : Int) = IntKind.u64.wrap x % 4294967296 := fun x => l1 _ (by rw [wrap_u64_mod]; omega) (by rw [wrap_u64_mod]; omega)
  unfold mulHi mulLo
  refine FinX_agg2 ?_ ?_
  all_goals
    ((try clear hR3); (try clear hR2); (try clear hR); (try clear hK); (try simp only [ncCast] at *); (try simp only [castI_eq] at *); (try rw [ho]); (try dsimp only [Ar.real, IX.vo, IX.val, BX.val, IX.toN]); (try simp only [QB1]))
    simp only [f1, f2, l1 a ha.1 ha.2, l1 b hb'.1 hb'.2, ← hal, ← hbl, ← hah, ← hbh, wa, wb, l2]
    simp only [wrap_u64_mod]
    generalize al * bl = p at *
    generalize ah * bl = q at *
    generalize al * bh = r at *
    generalize ah * bh = s at *
    generalize a * b = z at *
    clear l1 f1 f2 l2 hm hT
    omega
/-! ### Comparing -/
def wideCmp (a b c d : Int) : Int := if a = c ∧ b = d then 0 else if a < c ∨ (a = c ∧ b < d) then -1 else 1
theorem x_WCmp (a b c d : Int) : XC Try.prog 171 [.agg [xu a, xu b], .agg [xu c, xu d]] [] (xi (wideCmp a b c d)) [] := by
  (refine XC.of_body ([]) Try.func171 rfl Try.ntmps171 mixed (T := [(155, ti155), (235, ti235)]) (.cons tok155 (.cons tok235 .nil)) (by kernel_rfl) (by simp) rfl rfl rfl rfl rfl ?_; rintro o ho P hP c K hK; have hm : P.follows .mixedOrders = true := hP ▸ mixed; have hT : TOk P [(155, ti155), (235, ti235)] := hP ▸ (.cons tok155 (.cons tok235 .nil)); (try rw [← ho]); cbv; (repeat (refine StopN.mk ?_; cbv)))
  repeat' (first | (refine Br.mk (fun hb => ?_) (fun hb => ?_) <;> ((try rw [ho] at hb); (try dsimp only [Ar.real, IX.vo] at hb); (try simp only [QB1] at hb); (try simp only [QBo, beq_iff_eq, beq_eq_false_iff_ne, ne_eq] at hb))) | (refine StopN.mk ?_; cbv) | (refine hK _ _ ?_) | (refine NeedT.mk ?_ ?_))
  all_goals
    refine .i ?_
    ((try clear hR3); (try clear hR2); (try clear hR); (try clear hK); (try simp only [ncCast] at *); (try simp only [castI_eq] at *); (try rw [ho]); (try dsimp only [Ar.real, IX.vo, IX.val, BX.val, IX.toN]); (try simp only [QB1]))
    simp only [Bool.and_eq_true, Bool.and_eq_false_iff, decide_eq_true_eq, decide_eq_false_iff_not] at *
    unfold wideCmp
    repeat' split
    all_goals omega
def fracRight (n d : Int) : Bool := decide (0 ≤ n) && decide (1 ≤ d)
theorem x_fracRight (n d : Int) : XC Try.prog 78 [.agg [xi n, xi d]] [] (xb (fracRight n d)) [] := by
  (refine XC.of_body ([]) Try.func78 rfl Try.ntmps78 mixed (T := [(2, ti2), (64, ti64)]) (.cons tok2 (.cons tok64 .nil)) (by kernel_rfl) (by simp) rfl rfl rfl rfl rfl ?_; rintro o ho P hP c K hK; have hm : P.follows .mixedOrders = true := hP ▸ mixed; have hT : TOk P [(2, ti2), (64, ti64)] := hP ▸ (.cons tok2 (.cons tok64 .nil)); (try rw [← ho]); cbv; (repeat (refine StopN.mk ?_; cbv)))
  repeat' (first | (refine Br.mk (fun hb => ?_) (fun hb => ?_) <;> ((try rw [ho] at hb); (try dsimp only [Ar.real, IX.vo] at hb); (try simp only [QB1] at hb); (try simp only [QBo, beq_iff_eq, beq_eq_false_iff_ne, ne_eq] at hb))) | (refine StopN.mk ?_; cbv) | (refine hK _ _ ?_) | (refine NeedT.mk ?_ ?_))
  all_goals (refine .b ?_; ((try clear hR3); (try clear hR2); (try clear hR); (try clear hK); (try simp only [ncCast] at *); (try simp only [castI_eq] at *); (try rw [ho]); (try dsimp only [Ar.real, IX.vo, IX.val, BX.val, IX.toN]); (try simp only [QB1])); simp [fracRight, *])
  all_goals omega
/-- Comparing two fractions. -/
def fracCmp (a b c d : Int) : Int := if fracRight a b = true ∧ fracRight c d = true then (if a * d = c * b then 0 else if a * d < c * b then -1 else 1) else 0
theorem wideCmp_mul {x y u v : Int} (h1 : 0 ≤ x * y) (h2 : 0 ≤ u * v) : wideCmp (mulHi x y) (mulLo x y) (mulHi u v) (mulLo u v) = if x * y = u * v then 0 else if x * y < u * v then -1 else 1 := by
  unfold wideCmp mulHi mulLo
  generalize x * y = p at *
  generalize u * v = q at *
  repeat' split
  all_goals omega
def i64B (x : Int) : Prop := -9223372036854775808 ≤ x ∧ x ≤ 9223372036854775807
theorem x_fracCmp (a b u v : Int) (ha : i64B a) (hb' : i64B b) (hc' : i64B u) (hd : i64B v) : XC Try.prog 144 [.agg [xi a, xi b], .agg [xi u, xi v]] [] (xi (fracCmp a b u v)) [] := by
  obtain ⟨a1, a2⟩ := ha
  obtain ⟨b1, b2⟩ := hb'
  obtain ⟨c1, c2⟩ := hc'
  obtain ⟨d1, d2⟩ := hd
  by_cases h : fracRight a b = true ∧ fracRight u v = true
  · have hr0 := h
    simp only [fracRight, Bool.and_eq_true, decide_eq_true_eq] at hr0
    obtain ⟨⟨a3, b3⟩, c3, d3⟩ := hr0
    have hm1 := x_Mul a v ⟨by omega, by omega⟩ ⟨by omega, by omega⟩
    have hm2 := x_Mul u b ⟨by omega, by omega⟩ ⟨by omega, by omega⟩
    have hw := wideCmp_mul (x := a) (y := v) (u := u) (v := b) (Int.mul_nonneg a3 (by omega)) (Int.mul_nonneg c3 (by omega))
    have hf : fracCmp a b u v = wideCmp (mulHi a v) (mulLo a v) (mulHi u b) (mulLo u b) := by rw [hw]; exact if_pos h
    have wa : IntKind.u64.wrap a = a := wrap_u64 (by omega) (by omega)
    have wb : IntKind.u64.wrap b = b := wrap_u64 (by omega) (by omega)
    have wu : IntKind.u64.wrap u = u := wrap_u64 (by omega) (by omega)
    have wv : IntKind.u64.wrap v = v := wrap_u64 (by omega) (by omega)
    rw [hf]
    generalize mulHi a v = p1 at *
    generalize mulLo a v = p2 at *
    generalize mulHi u b = p3 at *
    generalize mulLo u b = p4 at *
    have hm3 := x_WCmp p1 p2 p3 p4
    (refine XC.of_body ([(3, [(6, 7), (6, 8), (6, 10), (6, 11)])]) Try.func144 rfl Try.ntmps144 mixed (T := [(2, ti2), (4, ti4), (64, ti64), (155, ti155)]) (.cons tok2 (.cons tok4 (.cons tok64 (.cons tok155 .nil)))) (by kernel_rfl) (by simp) rfl rfl rfl rfl rfl ?_; rintro o ho P hP c K hK; have hm : P.follows .mixedOrders = true := hP ▸ mixed; have hT : TOk P [(2, ti2), (4, ti4), (64, ti64), (155, ti155)] := hP ▸ (.cons tok2 (.cons tok4 (.cons tok64 (.cons tok155 .nil)))); (try rw [← ho]); cbv; (repeat (refine StopN.mk ?_; cbv)))
    repeat' (first | (refine Br.mk (fun hb => ?_) (fun hb => ?_) <;> ((try rw [ho] at hb); (try dsimp only [Ar.real, IX.vo] at hb); (try simp only [QB1] at hb); (try simp only [QBo, beq_iff_eq, beq_eq_false_iff_ne, ne_eq] at hb))) | (refine StopN.mk ?_; cbv) | (refine CallN.pure hP hm1 fn169 rfl rfl (by rw [ho]; show X.toDL _ [xu (IntKind.u64.wrap a), xu (IntKind.u64.wrap v)] = _; rw [wa, wv]) ?_; cbv) | (refine CallN.pure hP hm2 fn169 rfl rfl (by rw [ho]; show X.toDL _ [xu (IntKind.u64.wrap u), xu (IntKind.u64.wrap b)] = _; rw [wu, wb]) ?_; cbv) | (refine CallN.pure hP hm3 fn171 rfl rfl rfl ?_; cbv) | ((first | refine CallI.pure hP (x_fracRight _ _) fn78 (by first | rfl | (rw [ho]; done) | (rw [ho]; rfl)) (by rfl) (by first | rfl | (rw [ho]; done) | (rw [ho]; rfl)) ?_ | refine CallN.pure hP (x_fracRight _ _) fn78 (by first | rfl | (rw [ho]; done) | (rw [ho]; rfl)) (by rfl) (by first | rfl | (rw [ho]; done) | (rw [ho]; rfl)) ?_); (try rw [← ho]); generalize hr : fracRight _ _ = r; (try rw [ho] at hr); (try dsimp only [Ar.real, IX.vo] at hr); (try simp only [QB1] at hr); cbv) | ((first | refine CallI.pure hP (x_Mul _ _ ‹_› ‹_›) fn169 (by first | rfl | (rw [ho]; done) | (rw [ho]; rfl)) (by rfl) (by first | rfl | (rw [ho]; done) | (rw [ho]; rfl)) ?_ | refine CallN.pure hP (x_Mul _ _ ‹_› ‹_›) fn169 (by first | rfl | (rw [ho]; done) | (rw [ho]; rfl)) (by rfl) (by first | rfl | (rw [ho]; done) | (rw [ho]; rfl)) ?_); (try rw [← ho]); generalize hr : mulHi _ _ = r; (try rw [ho] at hr); (try dsimp only [Ar.real, IX.vo] at hr); (try simp only [QB1] at hr); generalize hr : mulLo _ _ = r; (try rw [ho] at hr); (try dsimp only [Ar.real, IX.vo] at hr); (try simp only [QB1] at hr); cbv) | ((first | refine CallI.pure hP (x_WCmp _ _ _ _) fn171 (by first | rfl | (rw [ho]; done) | (rw [ho]; rfl)) (by rfl) (by first | rfl | (rw [ho]; done) | (rw [ho]; rfl)) ?_ | refine CallN.pure hP (x_WCmp _ _ _ _) fn171 (by first | rfl | (rw [ho]; done) | (rw [ho]; rfl)) (by rfl) (by first | rfl | (rw [ho]; done) | (rw [ho]; rfl)) ?_); (try rw [← ho]); generalize hr : wideCmp _ _ _ _ = r; (try rw [ho] at hr); (try dsimp only [Ar.real, IX.vo] at hr); (try simp only [QB1] at hr); cbv) | (refine hK _ _ ?_) | (refine NeedT.mk ?_ ?_))
    all_goals first
      | exact .i rfl
      | (exfalso; simp_all; done)
  · rw [show fracCmp a b u v = 0 from if_neg h]
    (refine XC.of_body ([(3, [(6, 7), (6, 8), (6, 10), (6, 11)])]) Try.func144 rfl Try.ntmps144 mixed (T := [(2, ti2), (4, ti4), (64, ti64), (155, ti155)]) (.cons tok2 (.cons tok4 (.cons tok64 (.cons tok155 .nil)))) (by kernel_rfl) (by simp) rfl rfl rfl rfl rfl ?_; rintro o ho P hP c K hK; have hm : P.follows .mixedOrders = true := hP ▸ mixed; have hT : TOk P [(2, ti2), (4, ti4), (64, ti64), (155, ti155)] := hP ▸ (.cons tok2 (.cons tok4 (.cons tok64 (.cons tok155 .nil)))); (try rw [← ho]); cbv; (repeat (refine StopN.mk ?_; cbv)))
    repeat' (first | (refine Br.mk (fun hb => ?_) (fun hb => ?_) <;> ((try rw [ho] at hb); (try dsimp only [Ar.real, IX.vo] at hb); (try simp only [QB1] at hb); (try simp only [QBo, beq_iff_eq, beq_eq_false_iff_ne, ne_eq] at hb))) | (refine StopN.mk ?_; cbv) | ((first | refine CallI.pure hP (x_fracRight _ _) fn78 (by first | rfl | (rw [ho]; done) | (rw [ho]; rfl)) (by rfl) (by first | rfl | (rw [ho]; done) | (rw [ho]; rfl)) ?_ | refine CallN.pure hP (x_fracRight _ _) fn78 (by first | rfl | (rw [ho]; done) | (rw [ho]; rfl)) (by rfl) (by first | rfl | (rw [ho]; done) | (rw [ho]; rfl)) ?_); (try rw [← ho]); generalize hr : fracRight _ _ = r; (try rw [ho] at hr); (try dsimp only [Ar.real, IX.vo] at hr); (try simp only [QB1] at hr); cbv) | ((first | refine CallI.pure hP (x_Mul _ _ ‹_› ‹_›) fn169 (by first | rfl | (rw [ho]; done) | (rw [ho]; rfl)) (by rfl) (by first | rfl | (rw [ho]; done) | (rw [ho]; rfl)) ?_ | refine CallN.pure hP (x_Mul _ _ ‹_› ‹_›) fn169 (by first | rfl | (rw [ho]; done) | (rw [ho]; rfl)) (by rfl) (by first | rfl | (rw [ho]; done) | (rw [ho]; rfl)) ?_); (try rw [← ho]); generalize hr : mulHi _ _ = r; (try rw [ho] at hr); (try dsimp only [Ar.real, IX.vo] at hr); (try simp only [QB1] at hr); generalize hr : mulLo _ _ = r; (try rw [ho] at hr); (try dsimp only [Ar.real, IX.vo] at hr); (try simp only [QB1] at hr); cbv) | ((first | refine CallI.pure hP (x_WCmp _ _ _ _) fn171 (by first | rfl | (rw [ho]; done) | (rw [ho]; rfl)) (by rfl) (by first | rfl | (rw [ho]; done) | (rw [ho]; rfl)) ?_ | refine CallN.pure hP (x_WCmp _ _ _ _) fn171 (by first | rfl | (rw [ho]; done) | (rw [ho]; rfl)) (by rfl) (by first | rfl | (rw [ho]; done) | (rw [ho]; rfl)) ?_); (try rw [← ho]); generalize hr : wideCmp _ _ _ _ = r; (try rw [ho] at hr); (try dsimp only [Ar.real, IX.vo] at hr); (try simp only [QB1] at hr); cbv) | (refine hK _ _ ?_) | (refine NeedT.mk ?_ ?_))
    all_goals first
      | exact .i rfl
      | (exfalso; simp_all; done)
end Go.Proofs.Ytddgcegimmcbgaa.Sy

/-
  Sums: contracts. Plain theorems.
-/
set_option linter.unusedSectionVars false
namespace Go.Proofs.Ytddgcegimmcbgaa.Sy
open Go Go.Sy Go.Proofs.Ytddgcegimmcbgaa
set_option maxRecDepth 100000
set_option maxHeartbeats 8000000
set_option linter.unusedVariables false
set_option linter.unusedSimpArgs false

structure DomS where
  num : Int
  den : Int
  at_ : Int
instance : Inhabited DomS := ⟨⟨0, 0, 0⟩⟩
def foldADomS_num (e : DomS) := (by
  have h : PLift (e.num = e.num) := ⟨rfl⟩
  conv at h => arg 1; lhs; delta DomS.num
  exact h)
theorem foldDomS_num (e : DomS) : type_of% (foldADomS_num e).down := (foldADomS_num e).down
def foldADomS_den (e : DomS) := (by
  have h : PLift (e.den = e.den) := ⟨rfl⟩
  conv at h => arg 1; lhs; delta DomS.den
  exact h)
theorem foldDomS_den (e : DomS) : type_of% (foldADomS_den e).down := (foldADomS_den e).down
def foldADomS_at_ (e : DomS) := (by
  have h : PLift (e.at_ = e.at_) := ⟨rfl⟩
  conv at h => arg 1; lhs; delta DomS.at_
  exact h)
theorem foldDomS_at_ (e : DomS) : type_of% (foldADomS_at_ e).down := (foldADomS_at_ e).down
theorem foldDomS : (⟨0, 0, 0⟩ : DomS) = default := rfl
structure S4 where
  a : Int
  b : Int
  c : Int
  d : Int
  deriving DecidableEq
instance : Inhabited S4 := ⟨⟨0, 0, 0, 0⟩⟩
def foldAS4_a (e : S4) := (by
  have h : PLift (e.a = e.a) := ⟨rfl⟩
  conv at h => arg 1; lhs; delta S4.a
  exact h)
theorem foldS4_a (e : S4) : type_of% (foldAS4_a e).down := (foldAS4_a e).down
def foldAS4_b (e : S4) := (by
  have h : PLift (e.b = e.b) := ⟨rfl⟩
  conv at h => arg 1; lhs; delta S4.b
  exact h)
theorem foldS4_b (e : S4) : type_of% (foldAS4_b e).down := (foldAS4_b e).down
def foldAS4_c (e : S4) := (by
  have h : PLift (e.c = e.c) := ⟨rfl⟩
  conv at h => arg 1; lhs; delta S4.c
  exact h)
theorem foldS4_c (e : S4) : type_of% (foldAS4_c e).down := (foldAS4_c e).down
def foldAS4_d (e : S4) := (by
  have h : PLift (e.d = e.d) := ⟨rfl⟩
  conv at h => arg 1; lhs; delta S4.d
  exact h)
theorem foldS4_d (e : S4) : type_of% (foldAS4_d e).down := (foldAS4_d e).down
theorem foldS4 : (⟨0, 0, 0, 0⟩ : S4) = default := rfl
theorem QB2 : type_of% (And.intro @foldDomS (And.intro @foldS4 (And.intro @foldDomS_num (And.intro @foldDomS_den (And.intro @foldDomS_at_ (And.intro @foldS4_a (And.intro @foldS4_b (And.intro @foldS4_c (And.intro @foldS4_d (QB1)))))))))) := And.intro @foldDomS (And.intro @foldS4 (And.intro @foldDomS_num (And.intro @foldDomS_den (And.intro @foldDomS_at_ (And.intro @foldS4_a (And.intro @foldS4_b (And.intro @foldS4_c (And.intro @foldS4_d (QB1)))))))))
def S4.X (_ : Ar) (s : S4) : List X := [xi s.a, xi s.b, xi s.c, xi s.d]
def S4.at_ (s : S4) (k : Nat) : Int := [s.a, s.b, s.c, s.d].getD k 0
def okS (x : Int) : Bool := decide (0 ≤ x) && decide (x ≤ 1152921504606846976)
def sumsRight (s : S4) : Bool := okS s.a && (okS s.b && (okS s.c && okS s.d))
theorem sumsRight_iff (s : S4) : sumsRight s = true ↔ (0 ≤ s.a ∧ s.a ≤ 1152921504606846976) ∧ (0 ≤ s.b ∧ s.b ≤ 1152921504606846976) ∧ (0 ≤ s.c ∧ s.c ≤ 1152921504606846976) ∧ (0 ≤ s.d ∧ s.d ≤ 1152921504606846976) := by
  simp [sumsRight, okS]
theorem x_sumsRight (s : S4) : XC Try.prog 143 [.agg (S4.X Ar.real s)] [] (xb (sumsRight s)) [] := by
  obtain ⟨a, b, u, d⟩ := s
  (refine XC.of_body ([]) Try.func143 rfl Try.ntmps143 mixed (T := [(2, ti2), (3, ti3), (61, ti61)]) (.cons tok2 (.cons tok3 (.cons tok61 .nil))) (by kernel_rfl) (by simp) rfl rfl rfl rfl rfl ?_; rintro o ho P hP c K hK; have hm : P.follows .mixedOrders = true := hP ▸ mixed; have hT : TOk P [(2, ti2), (3, ti3), (61, ti61)] := hP ▸ (.cons tok2 (.cons tok3 (.cons tok61 .nil))); (try rw [← ho]); cbv; (repeat (refine StopN.mk ?_; cbv)))
  repeat' (first | (refine Br.mk (fun hb => ?_) (fun hb => ?_) <;> ((try rw [ho] at hb); (try dsimp only [Ar.real, IX.vo] at hb); (try simp only [QB2] at hb); (try simp only [QBo, beq_iff_eq, beq_eq_false_iff_ne, ne_eq] at hb))) | (refine StopN.mk ?_; cbv) | (refine hK _ _ ?_) | (refine NeedT.mk ?_ ?_) | (refine LoopN.lay (o := o) (D := []) 5 ho hm hT (by kernel_rfl) ?_; cbv))
  all_goals
    refine .b ?_
    ((try clear hR3); (try clear hR2); (try clear hR); (try clear hK); (try simp only [ncCast] at *); (try simp only [castI_eq] at *); (try rw [ho]); (try dsimp only [Ar.real, IX.vo, IX.val, BX.val, IX.toN]); (try simp only [QB2]))
    rw [Bool.eq_iff_iff, sumsRight_iff]
    simp only [BX.val, reduceCtorEq, true_iff, false_iff, not_and]
    omega
theorem FinX_S4b {a b u d : IX} {s : S4} {y : BX} {r : Bool} (h1 : a.val = s.a) (h2 : b.val = s.b) (h3 : u.val = s.c) (h4 : d.val = s.d) (h5 : y.val = r) : FinX (.tup [.agg (S4.X Ar.real s), xb r]) [] (.tup [.agg [.i .i64 a, .i .i64 b, .i .i64 u, .i .i64 d], .b y]) [] := .pure fun _ => by simp only [S4.X, X.toD, X.toDL, h1, h2, h3, h4, h5]; rfl
def sumsAdd (s t : S4) : S4 × Bool :=
  if sumsRight s = true ∧ sumsRight t = true ∧ sumsRight ⟨s.a + t.a, s.b + t.b, s.c + t.c, s.d + t.d⟩ = true then (⟨s.a + t.a, s.b + t.b, s.c + t.c, s.d + t.d⟩, true) else (⟨0, 0, 0, 0⟩, false)
theorem x_sumsAdd (s t : S4) : XC Try.prog 129 [.agg (S4.X Ar.real s), .agg (S4.X Ar.real t)] [] (.tup [.agg (S4.X Ar.real (sumsAdd s t).1), xb (sumsAdd s t).2]) [] := by
  have hs := x_sumsRight s
  have ht := x_sumsRight t
  have hu := x_sumsRight ⟨s.a + t.a, s.b + t.b, s.c + t.c, s.d + t.d⟩
  have is := sumsRight_iff s
  have it := sumsRight_iff t
  unfold sumsAdd
  by_cases h0 : sumsRight s = true ∧ sumsRight t = true
  · have i1 := is.1 h0.1
    have i2 := it.1 h0.2
    rw [h0.1] at hs
    rw [h0.2] at ht
    simp only [h0.1, h0.2, true_and]
    clear is it h0
    obtain ⟨u, hu0⟩ : ∃ q : S4, q = ⟨s.a + t.a, s.b + t.b, s.c + t.c, s.d + t.d⟩ := ⟨_, rfl⟩
    rw [← hu0] at hu ⊢
    generalize sumsRight u = ru at *
    obtain ⟨a, b, p, d⟩ := s
    obtain ⟨a', b', p', d'⟩ := t
    obtain ⟨a2, b2, p2, d2⟩ := u
    simp only [S4.mk.injEq] at hu0
    obtain ⟨e1, e2, e3, e4⟩ := hu0
    dsimp only at i1 i2
    (refine XC.of_body ([(6, [])]) Try.func129 rfl Try.ntmps129 mixed (T := [(2, ti2), (3, ti3), (4, ti4), (61, ti61)]) (.cons tok2 (.cons tok3 (.cons tok4 (.cons tok61 .nil)))) (by kernel_rfl) (by simp) rfl rfl rfl rfl rfl ?_; rintro o ho P hP c K hK; have hm : P.follows .mixedOrders = true := hP ▸ mixed; have hT : TOk P [(2, ti2), (3, ti3), (4, ti4), (61, ti61)] := hP ▸ (.cons tok2 (.cons tok3 (.cons tok4 (.cons tok61 .nil)))); (try rw [← ho]); cbv; (repeat (refine StopN.mk ?_; cbv)))
    repeat' (first | (refine Br.mk (fun hb => ?_) (fun hb => ?_) <;> ((try rw [ho] at hb); (try dsimp only [Ar.real, IX.vo] at hb); (try simp only [QB2] at hb); (try simp only [QBo, beq_iff_eq, beq_eq_false_iff_ne, ne_eq] at hb))) | (refine StopN.mk ?_; cbv) | (first | refine CallI.pure hP hs fn143 rfl rfl rfl ?_ | refine CallI.pure hP ht fn143 rfl rfl rfl ?_ | refine CallI.pure hP hu fn143 rfl rfl (by (rw [ho]; (try dsimp only [Ar.real, IX.vo, IX.val]); (try simp only [castI_eq]); (repeat rw [wrap_i64 (by omega) (by omega)])); rw [← e1, ← e2, ← e3, ← e4]; rfl) ?_); cbv | ((first | refine CallI.pure hP (x_sumsRight _) fn143 (by first | rfl | (rw [ho]; done) | (rw [ho]; rfl)) (by rfl) (by first | rfl | (rw [ho]; done) | (rw [ho]; rfl)) ?_ | refine CallN.pure hP (x_sumsRight _) fn143 (by first | rfl | (rw [ho]; done) | (rw [ho]; rfl)) (by rfl) (by first | rfl | (rw [ho]; done) | (rw [ho]; rfl)) ?_); (try rw [← ho]); generalize hr : sumsRight _ = r; (try rw [ho] at hr); (try dsimp only [Ar.real, IX.vo] at hr); (try simp only [QB2] at hr); cbv) | (refine hK _ _ ?_) | (refine NeedT.mk ?_ ?_) | (refine LoopN.lay (o := o) (D := [(6, [])]) 5 ho hm hT (by kernel_rfl) ?_; cbv))
    · exact absurd ‹true = false› (by decide)
    · exact absurd ‹true = false› (by decide)
    · rw [‹ru = false›]
      exact FinX_S4b rfl rfl rfl rfl rfl
    · rw [‹ru = true›]
      refine FinX_S4b ?_ ?_ ?_ ?_ rfl <;> ((rw [ho]; (try dsimp only [Ar.real, IX.vo, IX.val]); (try simp only [castI_eq]); (repeat rw [wrap_i64 (by omega) (by omega)])); (first | exact e1.symm | exact e2.symm | exact e3.symm | exact e4.symm))
  · rw [if_neg (fun h => h0 ⟨h.1, h.2.1⟩)]
    generalize sumsRight s = rs at *
    generalize sumsRight t = rt at *
    clear hu
    obtain ⟨a, b, p, d⟩ := s
    obtain ⟨a', b', p', d'⟩ := t
    (refine XC.of_body ([(6, [])]) Try.func129 rfl Try.ntmps129 mixed (T := [(2, ti2), (3, ti3), (4, ti4), (61, ti61)]) (.cons tok2 (.cons tok3 (.cons tok4 (.cons tok61 .nil)))) (by kernel_rfl) (by simp) rfl rfl rfl rfl rfl ?_; rintro o ho P hP c K hK; have hm : P.follows .mixedOrders = true := hP ▸ mixed; have hT : TOk P [(2, ti2), (3, ti3), (4, ti4), (61, ti61)] := hP ▸ (.cons tok2 (.cons tok3 (.cons tok4 (.cons tok61 .nil)))); (try rw [← ho]); cbv; (repeat (refine StopN.mk ?_; cbv)))
    repeat' (first | (refine Br.mk (fun hb => ?_) (fun hb => ?_) <;> ((try rw [ho] at hb); (try dsimp only [Ar.real, IX.vo] at hb); (try simp only [QB2] at hb); (try simp only [QBo, beq_iff_eq, beq_eq_false_iff_ne, ne_eq] at hb))) | (refine StopN.mk ?_; cbv) | (first | refine CallI.pure hP hs fn143 rfl rfl rfl ?_ | refine CallI.pure hP ht fn143 rfl rfl rfl ?_); cbv | ((first | refine CallI.pure hP (x_sumsRight _) fn143 (by first | rfl | (rw [ho]; done) | (rw [ho]; rfl)) (by rfl) (by first | rfl | (rw [ho]; done) | (rw [ho]; rfl)) ?_ | refine CallN.pure hP (x_sumsRight _) fn143 (by first | rfl | (rw [ho]; done) | (rw [ho]; rfl)) (by rfl) (by first | rfl | (rw [ho]; done) | (rw [ho]; rfl)) ?_); (try rw [← ho]); generalize hr : sumsRight _ = r; (try rw [ho] at hr); (try dsimp only [Ar.real, IX.vo] at hr); (try simp only [QB2] at hr); cbv) | (refine hK _ _ ?_) | (refine NeedT.mk ?_ ?_))
    all_goals first
      | exact FinX_S4b rfl rfl rfl rfl rfl
      | (exfalso; simp_all; done)
      | trace_state
def sumsHolds (s t : S4) : Bool := decide (t.a ≤ s.a ∧ t.b ≤ s.b ∧ t.c ≤ s.c ∧ t.d ≤ s.d) && (sumsRight s && sumsRight t)
theorem x_sumsHolds (s t : S4) : XC Try.prog 83 [.agg (S4.X Ar.real s), .agg (S4.X Ar.real t)] [] (xb (sumsHolds s t)) [] := by
  have hs := x_sumsRight s
  have ht := x_sumsRight t
  unfold sumsHolds
  generalize sumsRight s = rs at *
  generalize sumsRight t = rt at *
  obtain ⟨a, b, p, d⟩ := s
  obtain ⟨a', b', p', d'⟩ := t
  (refine XC.of_body ([(4, [])]) Try.func83 rfl Try.ntmps83 mixed (T := [(2, ti2), (3, ti3), (61, ti61)]) (.cons tok2 (.cons tok3 (.cons tok61 .nil))) (by kernel_rfl) (by simp) rfl rfl rfl rfl rfl ?_; rintro o ho P hP c K hK; have hm : P.follows .mixedOrders = true := hP ▸ mixed; have hT : TOk P [(2, ti2), (3, ti3), (61, ti61)] := hP ▸ (.cons tok2 (.cons tok3 (.cons tok61 .nil))); (try rw [← ho]); cbv; (repeat (refine StopN.mk ?_; cbv)))
  repeat' (first | (refine Br.mk (fun hb => ?_) (fun hb => ?_) <;> ((try rw [ho] at hb); (try dsimp only [Ar.real, IX.vo] at hb); (try simp only [QB2] at hb); (try simp only [QBo, beq_iff_eq, beq_eq_false_iff_ne, ne_eq] at hb))) | (refine StopN.mk ?_; cbv) | (first | refine CallI.pure hP hs fn143 rfl rfl rfl ?_ | refine CallI.pure hP ht fn143 rfl rfl rfl ?_); cbv | ((first | refine CallI.pure hP (x_sumsRight _) fn143 (by first | rfl | (rw [ho]; done) | (rw [ho]; rfl)) (by rfl) (by first | rfl | (rw [ho]; done) | (rw [ho]; rfl)) ?_ | refine CallN.pure hP (x_sumsRight _) fn143 (by first | rfl | (rw [ho]; done) | (rw [ho]; rfl)) (by rfl) (by first | rfl | (rw [ho]; done) | (rw [ho]; rfl)) ?_); (try rw [← ho]); generalize hr : sumsRight _ = r; (try rw [ho] at hr); (try dsimp only [Ar.real, IX.vo] at hr); (try simp only [QB2] at hr); cbv) | (refine hK _ _ ?_) | (refine NeedT.mk ?_ ?_) | (refine LoopN.lay (o := o) (D := [(4, [])]) 5 ho hm hT (by kernel_rfl) ?_; cbv))
  all_goals
    refine .b ?_
    ((try clear hR3); (try clear hR2); (try clear hR); (try clear hK); (try simp only [ncCast] at *); (try simp only [castI_eq] at *); (try rw [ho]); (try dsimp only [Ar.real, IX.vo, IX.val, BX.val, IX.toN]); (try simp only [QB2]))
    first
      | (rw [decide_eq_true ⟨by assumption, by assumption, by assumption, by assumption⟩]; simp_all; done)
      | (rw [decide_eq_false (fun h => by omega)]; rfl)
/-- How often one holds another. -/
def minQ (m x y : Int) : Int := if 0 < y then min m (IntKind.i64.wrap (x.tdiv y)) else m
def sumsMany (s t : S4) : Int := if sumsRight s = true ∧ sumsRight t = true ∧ t ≠ ⟨0, 0, 0, 0⟩ then minQ (minQ (minQ (minQ 1152921504606846976 s.a t.a) s.b t.b) s.c t.c) s.d t.d else 0
def manyTo (s t : S4) : Nat → Int
  | 0 => 1152921504606846976
  | k + 1 => minQ (manyTo s t k) (s.at_ k) (t.at_ k)
theorem manyTo_4 (s t : S4) : manyTo s t 4 = minQ (minQ (minQ (minQ 1152921504606846976 s.a t.a) s.b t.b) s.c t.c) s.d t.d := rfl
theorem x_sumsMany (s t : S4) : XC Try.prog 207 [.agg (S4.X Ar.real s), .agg (S4.X Ar.real t)] [] (xi (sumsMany s t)) [] := by
  have hs := x_sumsRight s
  have ht := x_sumsRight t
  have hz : t = ⟨0, 0, 0, 0⟩ ↔ t.a = 0 ∧ t.b = 0 ∧ t.c = 0 ∧ t.d = 0 := by
    obtain ⟨a, b, p, d⟩ := t
    simp
  unfold sumsMany
  rw [← manyTo_4]
  have hm0 : manyTo s t 0 = 1152921504606846976 := rfl
  have hm1 : ∀ k, manyTo s t (k + 1) = minQ (manyTo s t k) (s.at_ k) (t.at_ k) := fun _ => rfl
  have ha : ∀ k : Nat, k < 4 → s.at_ k = [s.a, s.b, s.c, s.d].getD k 0 ∧ t.at_ k = [t.a, t.b, t.c, t.d].getD k 0 := fun _ _ => ⟨rfl, rfl⟩
  generalize hM : manyTo s t = M at *
  generalize sumsRight s = rs at *
  generalize sumsRight t = rt at *
  generalize hS : s.at_ = sa at *
  generalize hT2 : t.at_ = ta at *
  clear hM hS hT2
  obtain ⟨a, b, p, d⟩ := s
  obtain ⟨a', b', p', d'⟩ := t
  dsimp only at hz ha
  (refine XC.of_body ([(8, [])]) Try.func207 rfl Try.ntmps207 mixed (T := [(2, ti2), (3, ti3), (4, ti4), (61, ti61)]) (.cons tok2 (.cons tok3 (.cons tok4 (.cons tok61 .nil)))) (by kernel_rfl) (by simp) rfl rfl rfl rfl rfl ?_; rintro o ho P hP c K hK; have hm : P.follows .mixedOrders = true := hP ▸ mixed; have hT : TOk P [(2, ti2), (3, ti3), (4, ti4), (61, ti61)] := hP ▸ (.cons tok2 (.cons tok3 (.cons tok4 (.cons tok61 .nil)))); (try rw [← ho]); cbv; (repeat (refine StopN.mk ?_; cbv)))
  repeat' (first | (refine Br.mk (fun hb => ?_) (fun hb => ?_) <;> ((try rw [ho] at hb); (try dsimp only [Ar.real, IX.vo] at hb); (try simp only [QB2] at hb); (try simp only [QBo, beq_iff_eq, beq_eq_false_iff_ne, ne_eq] at hb))) | (refine StopN.mk ?_; cbv) | (first | refine CallI.pure hP hs fn143 rfl rfl rfl ?_ | refine CallI.pure hP ht fn143 rfl rfl rfl ?_); cbv | ((first | refine CallI.pure hP (x_sumsRight _) fn143 (by first | rfl | (rw [ho]; done) | (rw [ho]; rfl)) (by rfl) (by first | rfl | (rw [ho]; done) | (rw [ho]; rfl)) ?_ | refine CallN.pure hP (x_sumsRight _) fn143 (by first | rfl | (rw [ho]; done) | (rw [ho]; rfl)) (by rfl) (by first | rfl | (rw [ho]; done) | (rw [ho]; rfl)) ?_); (try rw [← ho]); generalize hr : sumsRight _ = r; (try rw [ho] at hr); (try dsimp only [Ar.real, IX.vo] at hr); (try simp only [QB2] at hr); cbv) | (refine hK _ _ ?_) | (refine NeedT.mk ?_ ?_))
  · refine .i ?_
    rw [if_neg (fun h => by rw [h.1] at hb; cases hb)]
    rfl
  · refine .i ?_
    rw [if_neg (fun h => by rw [h.2.1] at hb; cases hb)]
    rfl
  · refine .i ?_
    rw [if_neg (fun h => h.2.2 (hz.2 (by simpa using hb)))]
    rfl
  have hne : ¬ (⟨a', b', p', d'⟩ : S4) = ⟨0, 0, 0, 0⟩ := fun h => by
    have := hz.1 h
    simp [this.1, this.2.1, this.2.2.1, this.2.2.2] at hb
  have hres : (if rs = true ∧ rt = true ∧ ¬ (⟨a', b', p', d'⟩ : S4) = ⟨0, 0, 0, 0⟩ then M 4 else 0) = M 4 := if_pos ⟨by assumption, by assumption, hne⟩
  rw [show (if rs = true ∧ rt = true ∧ (⟨a', b', p', d'⟩ : S4) ≠ ⟨0, 0, 0, 0⟩ then M 4 else 0) = M 4 from hres] at hK
  refine LoopN.over (o := o) (D := [(8, [])]) ho hm hT (by kernel_rfl) (fun a : Nat => [(20, xn a), (5, xi (M a))]) (fun _ => []) (fun _ => []) (fun a => a ≤ 4) (fun a => 4 - a) 0 (by omega) ?_ ?_
  · refine ⟨(by cbv), by cbv; repeat' (first | trivial | exact EqX.rfl' | exact EqO.rfl' | apply And.intro | ((try clear hR3); (try clear hR2); (try clear hR); (try clear hK); (try simp only [ncCast] at *); (try simp only [castI_eq] at *); refine EqX.i ?_; (try rw [ho]); (try dsimp only [Ar.real, IX.vo, IX.val, BX.val, IX.toN]); (try simp only [QB2]); (repeat rw [wrap_i64 (by omega) (by omega)]); omega) | (refine EqX.i ?_; rw [hm0]; rfl)), by cbv; repeat' (first | trivial | exact EqO.rfl' | apply And.intro | (refine EqX.i ?_; rw [hm0]; rfl)), by cbv; repeat' (first | trivial | exact EqO.rfl' | apply And.intro | (refine EqX.i ?_; rw [hm0]; rfl))⟩
  · rintro i hi R hR
    have h3 : i < 4 → 0 < [a', b', p', d'].getD ((i : Int).toNat) 0 → M (i + 1) = min (M i) (IntKind.i64.wrap (([a, b, p, d].getD ((i : Int).toNat) 0).tdiv ([a', b', p', d'].getD ((i : Int).toNat) 0))) := fun h h' => by
      rw [Int.toNat_natCast] at h' ⊢
      rw [hm1 i, (ha i h).1, (ha i h).2]
      exact if_pos h'
    have h4 : i < 4 → [a', b', p', d'].getD ((i : Int).toNat) 0 ≤ 0 → M (i + 1) = M i := fun h h' => by
      rw [Int.toNat_natCast] at h'
      rw [hm1 i, (ha i h).1, (ha i h).2]
      exact if_neg (by omega)
    cbv
    repeat' (first | (refine Br.mk (fun hb => ?_) (fun hb => ?_) <;> ((try rw [ho] at hb); (try dsimp only [Ar.real, IX.vo] at hb); (try simp only [QB2] at hb); (try simp only [QBo, beq_iff_eq, beq_eq_false_iff_ne, ne_eq] at hb))) | (refine StopN.mk ?_; cbv) | ((first | refine CallI.pure hP (x_sumsRight _) fn143 (by first | rfl | (rw [ho]; done) | (rw [ho]; rfl)) (by rfl) (by first | rfl | (rw [ho]; done) | (rw [ho]; rfl)) ?_ | refine CallN.pure hP (x_sumsRight _) fn143 (by first | rfl | (rw [ho]; done) | (rw [ho]; rfl)) (by rfl) (by first | rfl | (rw [ho]; done) | (rw [ho]; rfl)) ?_); (try rw [← ho]); generalize hr : sumsRight _ = r; (try rw [ho] at hr); (try dsimp only [Ar.real, IX.vo] at hr); (try simp only [QB2] at hr); cbv) | (refine hK _ _ ?_) | (refine NeedT.mk ?_ ?_))
    any_goals (((try clear hR3); (try clear hR2); (try clear hR); (try clear hK); (try simp only [ncCast] at *); (try simp only [castI_eq] at *); (try rw [ho]); (try dsimp only [Ar.real, IX.vo, IX.val, BX.val, IX.toN]); (try simp only [QB2]); (try simp only [decide_eq_true_eq]); (all_goals (repeat rw [wrap_i64 (by omega) (by omega)])); (all_goals (first | omega | (simp only [Int.ofNat_eq_natCast]; omega)))); done)
    · ((try clear hR3); (try clear hR2); (try clear hR); (try clear hK); (try simp only [ncCast] at *); (try simp only [castI_eq] at *); (try rw [ho]); (try dsimp only [Ar.real, IX.vo, IX.val, BX.val, IX.toN]); (try simp only [QB2]))
      simp only [Bool.not_eq_true', decide_eq_false_iff_not]
      omega
    · have h5 := h3 (by ((try clear hR3); (try clear hR2); (try clear hR); (try clear hK); (try simp only [ncCast] at *); (try simp only [castI_eq] at *)); omega) hb
      refine hR _ (i + 1) (by omega) (by omega) ?_
      refine ⟨(by cbv), by cbv; repeat' (first | trivial | exact EqX.rfl' | exact EqO.rfl' | apply And.intro | ((try clear hR3); (try clear hR2); (try clear hR); (try clear hK); (try simp only [ncCast] at *); (try simp only [castI_eq] at *); refine EqX.i ?_; (try rw [ho]); (try dsimp only [Ar.real, IX.vo, IX.val, BX.val, IX.toN]); (try simp only [QB2]); (repeat rw [wrap_i64 (by omega) (by omega)]); omega) | (refine EqX.i ?_; rw [h5, ho]; rfl)), by cbv; repeat' (first | trivial | exact EqO.rfl' | apply And.intro | (refine EqX.i ?_; rw [h5, ho]; rfl)), by cbv; repeat' (first | trivial | exact EqO.rfl' | apply And.intro | (refine EqX.i ?_; rw [h5, ho]; rfl))⟩
    · have h5 := h4 (by ((try clear hR3); (try clear hR2); (try clear hR); (try clear hK); (try simp only [ncCast] at *); (try simp only [castI_eq] at *)); omega) hb
      refine hR _ (i + 1) (by omega) (by omega) ?_
      refine ⟨(by cbv), by cbv; repeat' (first | trivial | exact EqX.rfl' | exact EqO.rfl' | apply And.intro | ((try clear hR3); (try clear hR2); (try clear hR); (try clear hK); (try simp only [ncCast] at *); (try simp only [castI_eq] at *); refine EqX.i ?_; (try rw [ho]); (try dsimp only [Ar.real, IX.vo, IX.val, BX.val, IX.toN]); (try simp only [QB2]); (repeat rw [wrap_i64 (by omega) (by omega)]); omega) | (refine EqX.i ?_; rw [h5])), by cbv; repeat' (first | trivial | exact EqO.rfl' | apply And.intro | (refine EqX.i ?_; rw [h5])), by cbv; repeat' (first | trivial | exact EqO.rfl' | apply And.intro | (refine EqX.i ?_; rw [h5]))⟩
    · obtain rfl : i = 4 := by omega
      exact .i rfl
/-! ### The greatest part -/
def domStep (x : DomS) (n d : Int) (k : Nat) : DomS := if 0 < d ∧ (x.at_ = -1 ∨ 0 < fracCmp n d x.num x.den) then ⟨n, d, k⟩ else x
def domTo (s t : S4) : Nat → DomS
  | 0 => ⟨0, 1, -1⟩
  | k + 1 => domStep (domTo s t k) (s.at_ k) (t.at_ k) k
def sumsDom (s t : S4) : DomS := if sumsRight s = true ∧ sumsRight t = true then domTo s t 4 else ⟨0, 1, -1⟩
theorem S4.at_bd {s : S4} (h : sumsRight s = true) (k : Nat) : 0 ≤ s.at_ k ∧ s.at_ k ≤ 1152921504606846976 := by
  have := (sumsRight_iff s).1 h
  match k with
  | 0 => exact this.1
  | 1 => exact this.2.1
  | 2 => exact this.2.2.1
  | 3 => exact this.2.2.2
  | k + 4 => exact (by show (0 : Int) ≤ 0 ∧ (0 : Int) ≤ 1152921504606846976; decide)
theorem domTo_bd {s t : S4} (h : sumsRight s = true) (h' : sumsRight t = true) : ∀ k, (0 ≤ (domTo s t k).num ∧ (domTo s t k).num ≤ 1152921504606846976) ∧ (0 ≤ (domTo s t k).den ∧ (domTo s t k).den ≤ 1152921504606846976) ∧ -1 ≤ (domTo s t k).at_ ∧ (domTo s t k).at_ < k
  | 0 => by simp [domTo]
  | k + 1 => by
    have ih := domTo_bd h h' k
    have h1 := S4.at_bd h k
    have h2 := S4.at_bd h' k
    simp only [domTo, domStep]
    split
    · dsimp only; omega
    · omega
theorem FinX_dom {a n d : IX} {x : DomS} (h1 : a.val = x.at_) (h2 : n.val = x.num) (h3 : d.val = x.den) : FinX (.tup [xi x.at_, .agg [xi x.num, xi x.den]]) [] (.tup [.i .i64 a, .agg [.i .i64 n, .i .i64 d]]) [] := .pure fun _ => by simp only [X.toD, X.toDL, h1, h2, h3]; rfl
theorem x_sumsDom (s t : S4) : XC Try.prog 82 [.agg (S4.X Ar.real s), .agg (S4.X Ar.real t)] [] (.tup [xi (sumsDom s t).at_, .agg [xi (sumsDom s t).num, xi (sumsDom s t).den]]) [] := by
  have hs := x_sumsRight s
  have ht := x_sumsRight t
  unfold sumsDom
  by_cases h0 : sumsRight s = true ∧ sumsRight t = true
  · rw [if_pos h0]
    have hbd := domTo_bd h0.1 h0.2
    have h1 := fun k => S4.at_bd h0.1 k
    have h2 := fun k => S4.at_bd h0.2 k
    rw [h0.1] at hs
    rw [h0.2] at ht
    have hm0 : domTo s t 0 = ⟨0, 1, -1⟩ := rfl
    have hm1 : ∀ k, domTo s t (k + 1) = domStep (domTo s t k) (s.at_ k) (t.at_ k) k := fun _ => rfl
    have ha : ∀ k : Nat, s.at_ k = [s.a, s.b, s.c, s.d].getD k 0 ∧ t.at_ k = [t.a, t.b, t.c, t.d].getD k 0 := fun _ => ⟨rfl, rfl⟩
    clear h0
    generalize hM : domTo s t = M at *
    generalize hS : s.at_ = sa at *
    generalize hT2 : t.at_ = ta at *
    clear hM hS hT2
    obtain ⟨a, b, p, d⟩ := s
    obtain ⟨a', b', p', d'⟩ := t
    dsimp only at ha
    (refine XC.of_body ([(3, []), (7, [(1, 7), (2, 7), (4, 7), (5, 7)]), (11, [])]) Try.func82 rfl Try.ntmps82 mixed (T := [(2, ti2), (3, ti3), (4, ti4), (61, ti61), (64, ti64)]) (.cons tok2 (.cons tok3 (.cons tok4 (.cons tok61 (.cons tok64 .nil))))) (by kernel_rfl) (by simp) rfl rfl rfl rfl rfl ?_; rintro o ho P hP c K hK; have hm : P.follows .mixedOrders = true := hP ▸ mixed; have hT : TOk P [(2, ti2), (3, ti3), (4, ti4), (61, ti61), (64, ti64)] := hP ▸ (.cons tok2 (.cons tok3 (.cons tok4 (.cons tok61 (.cons tok64 .nil))))); (try rw [← ho]); cbv; (repeat (refine StopN.mk ?_; cbv)))
    repeat' (first | (refine Br.mk (fun hb => ?_) (fun hb => ?_) <;> ((try rw [ho] at hb); (try dsimp only [Ar.real, IX.vo] at hb); (try simp only [QB2] at hb); (try simp only [QBo, beq_iff_eq, beq_eq_false_iff_ne, ne_eq] at hb))) | (refine StopN.mk ?_; cbv) | (first | refine CallI.pure hP hs fn143 rfl rfl rfl ?_ | refine CallI.pure hP ht fn143 rfl rfl rfl ?_); cbv | ((first | refine CallI.pure hP (x_sumsRight _) fn143 (by first | rfl | (rw [ho]; done) | (rw [ho]; rfl)) (by rfl) (by first | rfl | (rw [ho]; done) | (rw [ho]; rfl)) ?_ | refine CallN.pure hP (x_sumsRight _) fn143 (by first | rfl | (rw [ho]; done) | (rw [ho]; rfl)) (by rfl) (by first | rfl | (rw [ho]; done) | (rw [ho]; rfl)) ?_); (try rw [← ho]); generalize hr : sumsRight _ = r; (try rw [ho] at hr); (try dsimp only [Ar.real, IX.vo] at hr); (try simp only [QB2] at hr); cbv) | ((first | refine CallI.pure hP (x_fracCmp _ _ _ _ ‹_› ‹_› ‹_› ‹_›) fn144 (by first | rfl | (rw [ho]; done) | (rw [ho]; rfl)) (by rfl) (by first | rfl | (rw [ho]; done) | (rw [ho]; rfl)) ?_ | refine CallN.pure hP (x_fracCmp _ _ _ _ ‹_› ‹_› ‹_› ‹_›) fn144 (by first | rfl | (rw [ho]; done) | (rw [ho]; rfl)) (by rfl) (by first | rfl | (rw [ho]; done) | (rw [ho]; rfl)) ?_); (try rw [← ho]); generalize hr : fracCmp _ _ _ _ = r; (try rw [ho] at hr); (try dsimp only [Ar.real, IX.vo] at hr); (try simp only [QB2] at hr); cbv) | (refine hK _ _ ?_) | (refine NeedT.mk ?_ ?_))
    · exact absurd ‹true = false› (by decide)
    · exact absurd ‹true = false› (by decide)
    refine LoopN.over (o := o) (D := [(3, []), (7, [(1, 7), (2, 7), (4, 7), (5, 7)]), (11, [])]) ho hm hT (by kernel_rfl) (fun a : Nat => [(21, xn a), (7, xi (M a).at_)]) (fun a => [(3, .var [xi (M a).num, xi (M a).den] 64)]) (fun _ => []) (fun a => a ≤ 4) (fun a => 4 - a) 0 (by omega) ?_ ?_
    · refine ⟨(by cbv), by cbv; repeat' (first | trivial | exact EqX.rfl' | exact EqO.rfl' | apply And.intro | ((try clear hR3); (try clear hR2); (try clear hR); (try clear hK); (try simp only [ncCast] at *); (try simp only [castI_eq] at *); refine EqX.i ?_; (try rw [ho]); (try dsimp only [Ar.real, IX.vo, IX.val, BX.val, IX.toN]); (try simp only [QB2]); (repeat rw [wrap_i64 (by omega) (by omega)]); omega) | (refine EqX.i ?_; rw [hm0]; rfl) | exact ⟨by rw [hm0]; rfl⟩), by cbv; repeat' (first | trivial | exact EqO.rfl' | apply And.intro | (refine EqX.i ?_; rw [hm0]; rfl) | exact ⟨by rw [hm0]; rfl⟩), by cbv; repeat' (first | trivial | exact EqO.rfl' | apply And.intro | (refine EqX.i ?_; rw [hm0]; rfl) | exact ⟨by rw [hm0]; rfl⟩)⟩
    · rintro i hi R hR
      have b0 := hbd i
      have b1 := h1 i
      have b2 := h2 i
      have hM1 := hm1 i
      have hq := x_fracCmp (sa i) (ta i) (M i).num (M i).den ⟨by omega, by omega⟩ ⟨by omega, by omega⟩ ⟨by omega, by omega⟩ ⟨by omega, by omega⟩
      unfold domStep at hM1
      generalize fracCmp (sa i) (ta i) (M i).num (M i).den = q at hq hM1
      obtain ⟨e1, e2⟩ := ha i
      generalize sa i = x at *
      generalize ta i = y at *
      have p1 : 0 < [a', b', p', d'].getD ((i : Int).toNat) 0 → ((M i).at_ = -1 ∨ 0 < q) → M (i + 1) = ⟨x, y, i⟩ := fun h h' => by
        rw [Int.toNat_natCast, ← e2] at h
        rw [hM1, if_pos ⟨h, h'⟩]
      have p2 : ([a', b', p', d'].getD ((i : Int).toNat) 0 ≤ 0 ∨ (¬ (M i).at_ = -1 ∧ q ≤ 0)) → M (i + 1) = M i := fun h => by
        rw [Int.toNat_natCast, ← e2] at h
        rw [hM1, if_neg (fun h' => by omega)]
      cbv
      repeat' (first | (refine Br.mk (fun hb => ?_) (fun hb => ?_) <;> ((try rw [ho] at hb); (try dsimp only [Ar.real, IX.vo] at hb); (try simp only [QB2] at hb); (try simp only [QBo, beq_iff_eq, beq_eq_false_iff_ne, ne_eq] at hb))) | (refine StopN.mk ?_; cbv) | (refine CallI.pure hP hq fn144 rfl rfl (by (rw [ho]; (try dsimp only [Ar.real, IX.vo, IX.val]); (try simp only [castI_eq]); (repeat rw [wrap_i64 (by omega) (by omega)])); rw [e1, e2]; rfl) ?_); cbv | ((first | refine CallI.pure hP (x_sumsRight _) fn143 (by first | rfl | (rw [ho]; done) | (rw [ho]; rfl)) (by rfl) (by first | rfl | (rw [ho]; done) | (rw [ho]; rfl)) ?_ | refine CallN.pure hP (x_sumsRight _) fn143 (by first | rfl | (rw [ho]; done) | (rw [ho]; rfl)) (by rfl) (by first | rfl | (rw [ho]; done) | (rw [ho]; rfl)) ?_); (try rw [← ho]); generalize hr : sumsRight _ = r; (try rw [ho] at hr); (try dsimp only [Ar.real, IX.vo] at hr); (try simp only [QB2] at hr); cbv) | ((first | refine CallI.pure hP (x_fracCmp _ _ _ _ ‹_› ‹_› ‹_› ‹_›) fn144 (by first | rfl | (rw [ho]; done) | (rw [ho]; rfl)) (by rfl) (by first | rfl | (rw [ho]; done) | (rw [ho]; rfl)) ?_ | refine CallN.pure hP (x_fracCmp _ _ _ _ ‹_› ‹_› ‹_› ‹_›) fn144 (by first | rfl | (rw [ho]; done) | (rw [ho]; rfl)) (by rfl) (by first | rfl | (rw [ho]; done) | (rw [ho]; rfl)) ?_); (try rw [← ho]); generalize hr : fracCmp _ _ _ _ = r; (try rw [ho] at hr); (try dsimp only [Ar.real, IX.vo] at hr); (try simp only [QB2] at hr); cbv) | (refine hK _ _ ?_) | (refine NeedT.mk ?_ ?_))
      any_goals (((try clear hR3); (try clear hR2); (try clear hR); (try clear hK); (try simp only [ncCast] at *); (try simp only [castI_eq] at *); (try rw [ho]); (try dsimp only [Ar.real, IX.vo, IX.val, BX.val, IX.toN]); (try simp only [QB2]); (try simp only [decide_eq_true_eq]); (all_goals (repeat rw [wrap_i64 (by omega) (by omega)])); (all_goals (first | omega | (simp only [Int.ofNat_eq_natCast]; omega)))); done)
      · have h5 := p1 (by assumption) (.inl hb)
        refine hR _ (i + 1) (by show 4 - (i + 1) < 4 - i; ((try clear hR3); (try clear hR2); (try clear hR); (try clear hK); (try simp only [ncCast] at *); (try simp only [castI_eq] at *)); omega) (by show i + 1 ≤ 4; ((try clear hR3); (try clear hR2); (try clear hR); (try clear hK); (try simp only [ncCast] at *); (try simp only [castI_eq] at *)); omega) ?_
        refine ⟨(by cbv), by cbv; repeat' (first | trivial | exact EqX.rfl' | exact EqO.rfl' | apply And.intro | ((try clear hR3); (try clear hR2); (try clear hR); (try clear hK); (try simp only [ncCast] at *); (try simp only [castI_eq] at *); refine EqX.i ?_; (try rw [ho]); (try dsimp only [Ar.real, IX.vo, IX.val, BX.val, IX.toN]); (try simp only [QB2]); (repeat rw [wrap_i64 (by omega) (by omega)]); omega) | (refine EqX.i ?_; rw [h5]; rfl) | exact ⟨by rw [h5, ho]; simp only [OX.toOb, X.toDL, X.toD]; rw [e1, e2]; rfl⟩), by cbv; repeat' (first | trivial | exact EqO.rfl' | apply And.intro | (refine EqX.i ?_; rw [h5]; rfl) | exact ⟨by rw [h5, ho]; simp only [OX.toOb, X.toDL, X.toD]; rw [e1, e2]; rfl⟩), by cbv; repeat' (first | trivial | exact EqO.rfl' | apply And.intro | (refine EqX.i ?_; rw [h5]; rfl) | exact ⟨by rw [h5, ho]; simp only [OX.toOb, X.toDL, X.toD]; rw [e1, e2]; rfl⟩)⟩
      · have h5 := p1 (by assumption) (.inr hb)
        refine hR _ (i + 1) (by show 4 - (i + 1) < 4 - i; ((try clear hR3); (try clear hR2); (try clear hR); (try clear hK); (try simp only [ncCast] at *); (try simp only [castI_eq] at *)); omega) (by show i + 1 ≤ 4; ((try clear hR3); (try clear hR2); (try clear hR); (try clear hK); (try simp only [ncCast] at *); (try simp only [castI_eq] at *)); omega) ?_
        refine ⟨(by cbv), by cbv; repeat' (first | trivial | exact EqX.rfl' | exact EqO.rfl' | apply And.intro | ((try clear hR3); (try clear hR2); (try clear hR); (try clear hK); (try simp only [ncCast] at *); (try simp only [castI_eq] at *); refine EqX.i ?_; (try rw [ho]); (try dsimp only [Ar.real, IX.vo, IX.val, BX.val, IX.toN]); (try simp only [QB2]); (repeat rw [wrap_i64 (by omega) (by omega)]); omega) | (refine EqX.i ?_; rw [h5]; rfl) | exact ⟨by rw [h5, ho]; simp only [OX.toOb, X.toDL, X.toD]; rw [e1, e2]; rfl⟩), by cbv; repeat' (first | trivial | exact EqO.rfl' | apply And.intro | (refine EqX.i ?_; rw [h5]; rfl) | exact ⟨by rw [h5, ho]; simp only [OX.toOb, X.toDL, X.toD]; rw [e1, e2]; rfl⟩), by cbv; repeat' (first | trivial | exact EqO.rfl' | apply And.intro | (refine EqX.i ?_; rw [h5]; rfl) | exact ⟨by rw [h5, ho]; simp only [OX.toOb, X.toDL, X.toD]; rw [e1, e2]; rfl⟩)⟩
      · have h5 := p2 (.inr ⟨by assumption, hb⟩)
        refine hR _ (i + 1) (by show 4 - (i + 1) < 4 - i; ((try clear hR3); (try clear hR2); (try clear hR); (try clear hK); (try simp only [ncCast] at *); (try simp only [castI_eq] at *)); omega) (by show i + 1 ≤ 4; ((try clear hR3); (try clear hR2); (try clear hR); (try clear hK); (try simp only [ncCast] at *); (try simp only [castI_eq] at *)); omega) ?_
        refine ⟨(by cbv), by cbv; repeat' (first | trivial | exact EqX.rfl' | exact EqO.rfl' | apply And.intro | ((try clear hR3); (try clear hR2); (try clear hR); (try clear hK); (try simp only [ncCast] at *); (try simp only [castI_eq] at *); refine EqX.i ?_; (try rw [ho]); (try dsimp only [Ar.real, IX.vo, IX.val, BX.val, IX.toN]); (try simp only [QB2]); (repeat rw [wrap_i64 (by omega) (by omega)]); omega) | (refine EqX.i ?_; rw [h5]) | exact ⟨by rw [h5]⟩), by cbv; repeat' (first | trivial | exact EqO.rfl' | apply And.intro | (refine EqX.i ?_; rw [h5]) | exact ⟨by rw [h5]⟩), by cbv; repeat' (first | trivial | exact EqO.rfl' | apply And.intro | (refine EqX.i ?_; rw [h5]) | exact ⟨by rw [h5]⟩)⟩
      · have h5 := p2 (.inl hb)
        refine hR _ (i + 1) (by show 4 - (i + 1) < 4 - i; ((try clear hR3); (try clear hR2); (try clear hR); (try clear hK); (try simp only [ncCast] at *); (try simp only [castI_eq] at *)); omega) (by show i + 1 ≤ 4; ((try clear hR3); (try clear hR2); (try clear hR); (try clear hK); (try simp only [ncCast] at *); (try simp only [castI_eq] at *)); omega) ?_
        refine ⟨(by cbv), by cbv; repeat' (first | trivial | exact EqX.rfl' | exact EqO.rfl' | apply And.intro | ((try clear hR3); (try clear hR2); (try clear hR); (try clear hK); (try simp only [ncCast] at *); (try simp only [castI_eq] at *); refine EqX.i ?_; (try rw [ho]); (try dsimp only [Ar.real, IX.vo, IX.val, BX.val, IX.toN]); (try simp only [QB2]); (repeat rw [wrap_i64 (by omega) (by omega)]); omega) | (refine EqX.i ?_; rw [h5]) | exact ⟨by rw [h5]⟩), by cbv; repeat' (first | trivial | exact EqO.rfl' | apply And.intro | (refine EqX.i ?_; rw [h5]) | exact ⟨by rw [h5]⟩), by cbv; repeat' (first | trivial | exact EqO.rfl' | apply And.intro | (refine EqX.i ?_; rw [h5]) | exact ⟨by rw [h5]⟩)⟩
      · obtain rfl : i = 4 := by omega
        exact FinX_dom rfl rfl rfl
  · rw [if_neg h0]
    generalize sumsRight s = rs at *
    generalize sumsRight t = rt at *
    obtain ⟨a, b, p, d⟩ := s
    obtain ⟨a', b', p', d'⟩ := t
    (refine XC.of_body ([(3, []), (7, [(1, 7), (2, 7), (4, 7), (5, 7)]), (11, [])]) Try.func82 rfl Try.ntmps82 mixed (T := [(2, ti2), (3, ti3), (4, ti4), (61, ti61), (64, ti64)]) (.cons tok2 (.cons tok3 (.cons tok4 (.cons tok61 (.cons tok64 .nil))))) (by kernel_rfl) (by simp) rfl rfl rfl rfl rfl ?_; rintro o ho P hP c K hK; have hm : P.follows .mixedOrders = true := hP ▸ mixed; have hT : TOk P [(2, ti2), (3, ti3), (4, ti4), (61, ti61), (64, ti64)] := hP ▸ (.cons tok2 (.cons tok3 (.cons tok4 (.cons tok61 (.cons tok64 .nil))))); (try rw [← ho]); cbv; (repeat (refine StopN.mk ?_; cbv)))
    repeat' (first | (refine Br.mk (fun hb => ?_) (fun hb => ?_) <;> ((try rw [ho] at hb); (try dsimp only [Ar.real, IX.vo] at hb); (try simp only [QB2] at hb); (try simp only [QBo, beq_iff_eq, beq_eq_false_iff_ne, ne_eq] at hb))) | (refine StopN.mk ?_; cbv) | (first | refine CallI.pure hP hs fn143 rfl rfl rfl ?_ | refine CallI.pure hP ht fn143 rfl rfl rfl ?_); cbv | ((first | refine CallI.pure hP (x_sumsRight _) fn143 (by first | rfl | (rw [ho]; done) | (rw [ho]; rfl)) (by rfl) (by first | rfl | (rw [ho]; done) | (rw [ho]; rfl)) ?_ | refine CallN.pure hP (x_sumsRight _) fn143 (by first | rfl | (rw [ho]; done) | (rw [ho]; rfl)) (by rfl) (by first | rfl | (rw [ho]; done) | (rw [ho]; rfl)) ?_); (try rw [← ho]); generalize hr : sumsRight _ = r; (try rw [ho] at hr); (try dsimp only [Ar.real, IX.vo] at hr); (try simp only [QB2] at hr); cbv) | ((first | refine CallI.pure hP (x_fracCmp _ _ _ _ ‹_› ‹_› ‹_› ‹_›) fn144 (by first | rfl | (rw [ho]; done) | (rw [ho]; rfl)) (by rfl) (by first | rfl | (rw [ho]; done) | (rw [ho]; rfl)) ?_ | refine CallN.pure hP (x_fracCmp _ _ _ _ ‹_› ‹_› ‹_› ‹_›) fn144 (by first | rfl | (rw [ho]; done) | (rw [ho]; rfl)) (by rfl) (by first | rfl | (rw [ho]; done) | (rw [ho]; rfl)) ?_); (try rw [← ho]); generalize hr : fracCmp _ _ _ _ = r; (try rw [ho] at hr); (try dsimp only [Ar.real, IX.vo] at hr); (try simp only [QB2] at hr); cbv) | (refine hK _ _ ?_) | (refine NeedT.mk ?_ ?_))
    all_goals first
      | exact FinX_dom rfl rfl rfl
      | (exfalso; simp_all; done)
end Go.Proofs.Ytddgcegimmcbgaa.Sy

/-
  Lists of numbers; vectors: contracts. Plain theorems.
-/
set_option linter.unusedSectionVars false
namespace Go.Proofs.Ytddgcegimmcbgaa.Sy
open Go Go.Sy Go.Proofs.Ytddgcegimmcbgaa
set_option maxRecDepth 100000
set_option maxHeartbeats 8000000
set_option linter.unusedVariables false
set_option linter.unusedSimpArgs false

def idxR (l : List Int) (x : Int) : Int := match nextAt (fun i => decide (x = l.getD i default)) 0 l.length with | some i => i | none => -1
theorem x_Index (l : List Int) (x : Int) (hl : l.length ≤ 1048576) : XC Try.prog 124 [.ro (SL Ar.real encI l), xi x] [] (xi (idxR l x)) [] := by
  (refine XC.of_body ([]) Try.func124 rfl Try.ntmps124 mixed (T := [(3, ti3), (43, ti43)]) (.cons tok3 (.cons tok43 .nil)) (by kernel_rfl) (by simp) rfl rfl rfl rfl rfl ?_; rintro o ho P hP c K hK; have hm : P.follows .mixedOrders = true := hP ▸ mixed; have hT : TOk P [(3, ti3), (43, ti43)] := hP ▸ (.cons tok3 (.cons tok43 .nil)); (try rw [← ho]); cbv; (repeat (refine StopN.mk ?_; cbv)))
  refine LoopN.over (o := o) (D := []) ho hm hT (by kernel_rfl) (fun i : Nat => [(8, xn i)]) (fun _ => []) (fun _ => []) (fun i => i ≤ l.length ∧ ∀ j, j < i → decide (x = l.getD j default) = false) (fun i => l.length - i) 0 ⟨Nat.zero_le _, fun j hj => by omega⟩ ?_ ?_
  · refine ⟨(by cbv), by cbv; repeat' (first | trivial | exact EqX.rfl' | exact EqO.rfl' | apply And.intro | ((try clear hR3); (try clear hR2); (try clear hR); (try clear hK); (try simp only [ncCast] at *); (try simp only [castI_eq] at *); refine EqX.i ?_; (try rw [ho]); (try dsimp only [Ar.real, IX.vo, IX.val, BX.val, IX.toN]); (try simp only [QB2]); (repeat rw [wrap_i64 (by omega) (by omega)]); omega)), by cbv; repeat' (first | trivial | exact EqO.rfl' | apply And.intro), by cbv; repeat' (first | trivial | exact EqO.rfl' | apply And.intro)⟩
  · rintro i ⟨hi, hno⟩ R hR
    cbv
    repeat' (first | (refine Br.mk (fun hb => ?_) (fun hb => ?_) <;> ((try rw [ho] at hb); (try dsimp only [Ar.real, IX.vo] at hb); (try simp only [QB2] at hb); (try simp only [QBo, beq_iff_eq, beq_eq_false_iff_ne, ne_eq] at hb))) | (refine StopN.mk ?_; cbv) | (refine hK _ _ ?_) | (refine NeedT.mk ?_ ?_))
    any_goals (((try clear hR3); (try clear hR2); (try clear hR); (try clear hK); (try simp only [ncCast] at *); (try simp only [castI_eq] at *); (try rw [ho]); (try dsimp only [Ar.real, IX.vo, IX.val, BX.val, IX.toN]); (try simp only [QB2]); (try simp only [decide_eq_true_eq]); (all_goals (repeat rw [wrap_i64 (by omega) (by omega)])); (all_goals (first | omega | (simp only [Int.ofNat_eq_natCast]; omega)))); done)
    · have hf := nextAt_some (p := fun i => decide (x = l.getD i default)) (a := 0) (n := l.length) (k := i) (Nat.zero_le _) (by assumption) (decide_eq_true hb) (fun j _ h => hno j h)
      refine .i ?_
      rw [idxR, hf]
      rfl
    · refine hR _ (i + 1) (by omega) ⟨by omega, fun j h => ?_⟩ ?_
      · rcases Nat.lt_or_ge j i with h3 | h3
        · exact hno j h3
        · obtain rfl : j = i := by omega
          exact decide_eq_false hb
      · refine ⟨(by cbv), by cbv; repeat' (first | trivial | exact EqX.rfl' | exact EqO.rfl' | apply And.intro | ((try clear hR3); (try clear hR2); (try clear hR); (try clear hK); (try simp only [ncCast] at *); (try simp only [castI_eq] at *); refine EqX.i ?_; (try rw [ho]); (try dsimp only [Ar.real, IX.vo, IX.val, BX.val, IX.toN]); (try simp only [QB2]); (repeat rw [wrap_i64 (by omega) (by omega)]); omega)), by cbv; repeat' (first | trivial | exact EqO.rfl' | apply And.intro), by cbv; repeat' (first | trivial | exact EqO.rfl' | apply And.intro)⟩
    · have hf := nextAt_none (p := fun i => decide (x = l.getD i default)) (a := 0) (n := l.length) (fun j _ h => hno j (by omega))
      refine .i ?_
      rw [idxR, hf]
      rfl
def inR (l : List Int) (x : Int) : Bool := decide (x ∈ l)
theorem idxR_in (l : List Int) (x : Int) : decide (0 ≤ idxR l x) = inR l x := by
  unfold idxR inR
  cases h : nextAt (fun i => decide (x = l.getD i default)) 0 l.length with
  | some i =>
    unfold nextAt at h
    rw [List.find?_range'_eq_some] at h
    have h1 := h.1
    have h2 := h.2.1
    simp at h2
    simp only [decide_eq_true_eq] at h1
    have : x ∈ l := by
      rw [h1, List.getD_eq_getElem?_getD, List.getElem?_eq_getElem h2]
      exact List.getElem_mem h2
    rw [decide_eq_true this]
    exact decide_eq_true (Int.natCast_nonneg i)
  | none =>
    unfold nextAt at h
    rw [List.find?_range'_eq_none] at h
    have : ¬ x ∈ l := fun hm => by
      obtain ⟨i, hi, e⟩ := List.getElem_of_mem hm
      have := h i (Nat.zero_le _) (by omega)
      simp [List.getD_eq_getElem?_getD, hi, e] at this
    rw [decide_eq_false this]
    rfl
theorem x_Contains (l : List Int) (x : Int) (hl : l.length ≤ 1048576) : XC Try.prog 65 [.ro (SL Ar.real encI l), xi x] [] (xb (inR l x)) [] := by
  have h := idxR_in l x
  (refine XC.of_body ([]) Try.func65 rfl Try.ntmps65 mixed (T := [(3, ti3)]) (.cons tok3 .nil) (by kernel_rfl) (by simp) rfl rfl rfl rfl rfl ?_; rintro o ho P hP c K hK; have hm : P.follows .mixedOrders = true := hP ▸ mixed; have hT : TOk P [(3, ti3)] := hP ▸ (.cons tok3 .nil); (try rw [← ho]); cbv; (repeat (refine StopN.mk ?_; cbv)))
  repeat' (first | (refine Br.mk (fun hb => ?_) (fun hb => ?_) <;> ((try rw [ho] at hb); (try dsimp only [Ar.real, IX.vo] at hb); (try simp only [QB2] at hb); (try simp only [QBo, beq_iff_eq, beq_eq_false_iff_ne, ne_eq] at hb))) | (refine StopN.mk ?_; cbv) | ((first | refine CallI.pure hP (x_Index _ _ ‹_›) fn124 (by first | rfl | (rw [ho]; done) | (rw [ho]; rfl)) (by rfl) (by first | rfl | (rw [ho]; done) | (rw [ho]; rfl)) ?_ | refine CallN.pure hP (x_Index _ _ ‹_›) fn124 (by first | rfl | (rw [ho]; done) | (rw [ho]; rfl)) (by rfl) (by first | rfl | (rw [ho]; done) | (rw [ho]; rfl)) ?_); (try rw [← ho]); generalize hr : idxR _ _ = r; (try rw [ho] at hr); (try dsimp only [Ar.real, IX.vo] at hr); (try simp only [QB2] at hr); cbv) | (refine hK _ _ ?_) | (refine NeedT.mk ?_ ?_))
  refine .b ?_
  ((try clear hR3); (try clear hR2); (try clear hR); (try clear hK); (try simp only [ncCast] at *); (try simp only [castI_eq] at *); (try rw [ho]); (try dsimp only [Ar.real, IX.vo, IX.val, BX.val, IX.toN]); (try simp only [QB2]))
  rw [← h, hr]

/-! ### Vectors -/
def onlyR (v : List Part) (rs : List Int) : List Part := if vecRight v = true then v.filter fun p => inR rs p.role else []
def onlyTo (v : List Part) (rs : List Int) (b : Bool) (k : Nat) : List Part := if b = true then (v.take k).filter fun p => inR rs p.role else []
theorem onlyTo_succ (v : List Part) (rs : List Int) (b : Bool) {k : Nat} (h : k < v.length) : onlyTo v rs b (k + 1) = onlyTo v rs b k ++ if inR rs (v.getD k default).role = true ∧ b = true then [v.getD k default] else [] := by
  unfold onlyTo
  cases b with
  | false => simp
  | true =>
    have e : v.getD k default = v[k] := by simp [List.getD_eq_getElem?_getD, h]
    simp only [if_true, and_true]
    rw [List.take_succ_eq_append_getElem h, List.filter_append, e]
    congr 1
    by_cases h2 : inR rs v[k].role = true <;> simp [h2]
theorem onlyTo_len (v : List Part) (rs : List Int) (b : Bool) (k : Nat) : (onlyTo v rs b k).length ≤ k := by
  unfold onlyTo
  split
  · exact Nat.le_trans (List.length_filter_le _ _) (by simp; omega)
  · simp
structure StL (α : Type) where
  i : Nat
  rv : Nat
  out : List α
theorem x_Only (v : List Part) (rs : List Int) (hv : v.length ≤ 1048576) (hrs : rs.length ≤ 1024) : XC Try.prog 214 [.ro (SL Ar.real Part.X v), .ro (SL Ar.real encI rs)] [] (.ro (SL Ar.real Part.X (onlyR v rs))) [] := by
  have hx := x_vec_Right v (by omega)
  have hend : onlyTo v rs (vecRight v) v.length = onlyR v rs := by
    unfold onlyTo onlyR
    rw [List.take_of_length_le (Nat.le_refl _)]
  obtain ⟨b, hb0⟩ : ∃ q, q = vecRight v := ⟨_, rfl⟩
  rw [← hb0] at hx hend
  clear hb0
  have hC : ∀ x, XC Try.prog 65 [.ro (SL Ar.real encI rs), xi x] [] (xb (inR rs x)) [] := fun x => x_Contains rs x (by omega)
  (refine XC.of_body ([]) Try.func214 rfl Try.ntmps214 mixed (T := [(2, ti2), (3, ti3), (31, ti31), (123, ti123)]) (.cons tok2 (.cons tok3 (.cons tok31 (.cons tok123 .nil)))) (by kernel_rfl) (by simp) rfl rfl rfl rfl rfl ?_; rintro o ho P hP c K hK; have hm : P.follows .mixedOrders = true := hP ▸ mixed; have hT : TOk P [(2, ti2), (3, ti3), (31, ti31), (123, ti123)] := hP ▸ (.cons tok2 (.cons tok3 (.cons tok31 (.cons tok123 .nil)))); (try rw [← ho]); cbv; (repeat (refine StopN.mk ?_; cbv)))
  refine LoopN.ghost 5 123 3 rfl ?_
  refine LoopN.over (o := o) (D := []) ho hm hT (by kernel_rfl) (fun a : StL Part => [(10, xn a.i), (5, .own (.loc 0) a.rv)]) (fun a => [(0, .row a.rv 123 3 (SL o Part.X a.out))]) (fun _ => []) (fun a => a.i ≤ v.length ∧ a.out = onlyTo v rs b a.i) (fun a => v.length - a.i) ⟨0, 0, []⟩ ⟨Nat.zero_le _, by unfold onlyTo; split <;> rfl⟩ ?_ ?_
  · refine ⟨(by cbv), by cbv; repeat' (first | trivial | exact EqX.rfl' | exact EqO.rfl' | apply And.intro | ((try clear hR3); (try clear hR2); (try clear hR); (try clear hK); (try simp only [ncCast] at *); (try simp only [castI_eq] at *); refine EqX.i ?_; (try rw [ho]); (try dsimp only [Ar.real, IX.vo, IX.val, BX.val, IX.toN]); (try simp only [QB2]); (repeat rw [wrap_i64 (by omega) (by omega)]); omega) | exact EqO.row rfl (rows_nil_SL o ho Part.X)), by cbv; repeat' (first | trivial | exact EqO.rfl' | apply And.intro | exact EqO.row rfl (rows_nil_SL o ho Part.X)), by cbv; repeat' (first | trivial | exact EqO.rfl' | apply And.intro | exact EqO.row rfl (rows_nil_SL o ho Part.X))⟩
  · rintro ⟨i, rv, out⟩ ⟨hi, hout⟩ R hR
    dsimp only at hi hout
    have hol := onlyTo_len v rs b i
    rw [← hout] at hol
    have hsucc : i < v.length → onlyTo v rs b (i + 1) = _ := fun h => onlyTo_succ v rs b h
    rw [← hout] at hsucc
    obtain ⟨out', hout'⟩ : ∃ q, q = onlyTo v rs b (i + 1) := ⟨_, rfl⟩
    rw [← hout'] at hsucc
    cbv
    repeat' (first | (refine Br.mk (fun hb => ?_) (fun hb => ?_) <;> ((try rw [ho] at hb); (try dsimp only [Ar.real, IX.vo] at hb); (try simp only [QB2] at hb); (try simp only [QBo, beq_iff_eq, beq_eq_false_iff_ne, ne_eq] at hb))) | (refine StopN.mk ?_; cbv) | ((first | refine CallI.pure hP (hC _) fn65 rfl rfl (by rw [ho]) ?_ | refine CallN.pure hP (hC _) fn65 rfl rfl (by rw [ho]) ?_); (try rw [← ho]); generalize hr : inR rs _ = r; (try rw [ho] at hr); (try dsimp only [Ar.real] at hr); (try simp only [foldPart_kind, foldPart_role, foldPart_amount, foldPart, castI_eq] at hr); cbv) | ((first | refine CallI.pure hP hx fn180 rfl rfl (by rw [ho]) ?_ | refine CallN.pure hP hx fn180 rfl rfl (by rw [ho]) ?_); cbv) | ((first | refine CallI.pure hP (x_Contains _ _ ‹_›) fn65 (by first | rfl | (rw [ho]; done) | (rw [ho]; rfl)) (by rfl) (by first | rfl | (rw [ho]; done) | (rw [ho]; rfl)) ?_ | refine CallN.pure hP (x_Contains _ _ ‹_›) fn65 (by first | rfl | (rw [ho]; done) | (rw [ho]; rfl)) (by rfl) (by first | rfl | (rw [ho]; done) | (rw [ho]; rfl)) ?_); (try rw [← ho]); generalize hr : inR _ _ = r; (try rw [ho] at hr); (try dsimp only [Ar.real, IX.vo] at hr); (try simp only [QB2] at hr); cbv) | ((first | refine CallI.pure hP (x_vec_Right _ ‹_›) fn180 (by first | rfl | (rw [ho]; done) | (rw [ho]; rfl)) (by rfl) (by first | rfl | (rw [ho]; done) | (rw [ho]; rfl)) ?_ | refine CallN.pure hP (x_vec_Right _ ‹_›) fn180 (by first | rfl | (rw [ho]; done) | (rw [ho]; rfl)) (by rfl) (by first | rfl | (rw [ho]; done) | (rw [ho]; rfl)) ?_); (try rw [← ho]); generalize hr : vecRight _ = r; (try rw [ho] at hr); (try dsimp only [Ar.real, IX.vo] at hr); (try simp only [QB2] at hr); cbv) | (refine hK _ _ ?_) | (refine NeedT.mk ?_ ?_))
    any_goals (((try clear hR3); (try clear hR2); (try clear hR); (try clear hK); (try simp only [ncCast] at *); (try simp only [castI_eq] at *); (try rw [ho]); (try dsimp only [Ar.real, IX.vo, IX.val, BX.val, IX.toN]); (try simp only [QB2]); (try simp only [decide_eq_true_eq]); (all_goals (repeat rw [wrap_i64 (by omega) (by omega)])); (all_goals (first | omega | (simp only [Int.ofNat_eq_natCast]; omega)))); done)
    · have hs := hsucc (by assumption)
      rw [if_pos ⟨by rw [hr]; assumption, by assumption⟩] at hs
      refine hR _ ⟨i + 1, rv + 1, out'⟩ (by dsimp only; omega) ⟨by dsimp only; omega, hout'⟩ ?_
      refine ⟨(by cbv), by cbv; repeat' (first | trivial | exact EqX.rfl' | exact EqO.rfl' | apply And.intro | ((try clear hR3); (try clear hR2); (try clear hR); (try clear hK); (try simp only [ncCast] at *); (try simp only [castI_eq] at *); refine EqX.i ?_; (try rw [ho]); (try dsimp only [Ar.real, IX.vo, IX.val, BX.val, IX.toN]); (try simp only [QB2]); (repeat rw [wrap_i64 (by omega) (by omega)]); omega) | (refine EqO.snoc ho Part.X _ _ _ _ rfl hs ?_; rw [ho]; rfl)), by cbv; repeat' (first | trivial | exact EqO.rfl' | apply And.intro | (refine EqO.snoc ho Part.X _ _ _ _ rfl hs ?_; rw [ho]; rfl)), by cbv; repeat' (first | trivial | exact EqO.rfl' | apply And.intro | (refine EqO.snoc ho Part.X _ _ _ _ rfl hs ?_; rw [ho]; rfl))⟩
    · have hs := hsucc (by assumption)
      rw [if_neg (fun h => by simp_all), List.append_nil] at hs
      refine hR _ ⟨i + 1, rv, out'⟩ (by dsimp only; omega) ⟨by dsimp only; omega, hout'⟩ ?_
      subst hs
      refine ⟨(by cbv), by cbv; repeat' (first | trivial | exact EqX.rfl' | exact EqO.rfl' | apply And.intro | ((try clear hR3); (try clear hR2); (try clear hR); (try clear hK); (try simp only [ncCast] at *); (try simp only [castI_eq] at *); refine EqX.i ?_; (try rw [ho]); (try dsimp only [Ar.real, IX.vo, IX.val, BX.val, IX.toN]); (try simp only [QB2]); (repeat rw [wrap_i64 (by omega) (by omega)]); omega)), by cbv; repeat' (first | trivial | exact EqO.rfl' | apply And.intro), by cbv; repeat' (first | trivial | exact EqO.rfl' | apply And.intro)⟩
    · have hs := hsucc (by assumption)
      rw [if_neg (fun h => by simp_all), List.append_nil] at hs
      refine hR _ ⟨i + 1, rv, out'⟩ (by dsimp only; omega) ⟨by dsimp only; omega, hout'⟩ ?_
      subst hs
      refine ⟨(by cbv), by cbv; repeat' (first | trivial | exact EqX.rfl' | exact EqO.rfl' | apply And.intro | ((try clear hR3); (try clear hR2); (try clear hR); (try clear hK); (try simp only [ncCast] at *); (try simp only [castI_eq] at *); refine EqX.i ?_; (try rw [ho]); (try dsimp only [Ar.real, IX.vo, IX.val, BX.val, IX.toN]); (try simp only [QB2]); (repeat rw [wrap_i64 (by omega) (by omega)]); omega)), by cbv; repeat' (first | trivial | exact EqO.rfl' | apply And.intro), by cbv; repeat' (first | trivial | exact EqO.rfl' | apply And.intro)⟩
    · obtain rfl : i = v.length := by omega
      rw [hend] at hout
      subst hout
      exact .ro (by rw [ho])
theorem fits_Part (o : Ar) (ho : o = Ar.real) (v : List Part) : (SL o Part.X v).fits 3 := by
  intro row hr
  rw [rows_SL o ho] at hr
  obtain ⟨a, _, rfl⟩ := List.mem_map.1 hr
  exact ⟨rfl, rfl⟩
def bareR (v : List Part) : Bool := decide (0 < v.length) && decide ((onlyR v [0]).length = v.length)
theorem x_bare (v : List Part) (hv : v.length ≤ 1048576) : XC Try.prog 206 [.ro (SL Ar.real Part.X v)] [] (xb (bareR v)) [] := by
  have hO := x_Only v [0] hv (by decide)
  have hlen : (onlyR v [0]).length ≤ v.length := by
    unfold onlyR
    split
    · exact List.length_filter_le _ _
    · simp
  unfold bareR
  generalize onlyR v [0] = w at *
  (refine XC.of_body ([]) Try.func206 rfl Try.ntmps206 mixed (T := [(3, ti3), (31, ti31), (43, ti43), (123, ti123)]) (.cons tok3 (.cons tok31 (.cons tok43 (.cons tok123 .nil)))) (by kernel_rfl) (by simp) rfl rfl rfl rfl rfl ?_; rintro o ho P hP c K hK; have hm : P.follows .mixedOrders = true := hP ▸ mixed; have hT : TOk P [(3, ti3), (31, ti31), (43, ti43), (123, ti123)] := hP ▸ (.cons tok3 (.cons tok31 (.cons tok43 (.cons tok123 .nil)))); (try rw [← ho]); cbv; (repeat (refine StopN.mk ?_; cbv)))
  repeat' (first | (refine Br.mk (fun hb => ?_) (fun hb => ?_) <;> ((try rw [ho] at hb); (try dsimp only [Ar.real, IX.vo] at hb); (try simp only [QB2] at hb); (try simp only [QBo, beq_iff_eq, beq_eq_false_iff_ne, ne_eq] at hb))) | (refine StopN.mk ?_; cbv) | ((first | refine CallI.pure hP hO fn214 rfl rfl (by rw [ho]; rfl) ?_ | refine CallN.pure hP hO fn214 rfl rfl (by rw [ho]; rfl) ?_); (try rw [← ho]); cbv) | ((first | refine CallI.pure hP (x_Only _ _ ‹_› ‹_›) fn214 (by first | rfl | (rw [ho]; done) | (rw [ho]; rfl)) (by rfl) (by first | rfl | (rw [ho]; done) | (rw [ho]; rfl)) ?_ | refine CallN.pure hP (x_Only _ _ ‹_› ‹_›) fn214 (by first | rfl | (rw [ho]; done) | (rw [ho]; rfl)) (by rfl) (by first | rfl | (rw [ho]; done) | (rw [ho]; rfl)) ?_); (try rw [← ho]); generalize hr : onlyR _ _ = r; (try rw [ho] at hr); (try dsimp only [Ar.real, IX.vo] at hr); (try simp only [QB2] at hr); cbv) | (refine hK _ _ ?_) | (refine NeedT.mk ?_ ?_))
  · refine .b ?_
    ((try clear hR3); (try clear hR2); (try clear hR); (try clear hK); (try simp only [ncCast] at *); (try simp only [castI_eq] at *); (try rw [ho]); (try dsimp only [Ar.real, IX.vo, IX.val, BX.val, IX.toN]); (try simp only [QB2]))
    have h0 : 0 < v.length := by omega
    rw [decide_eq_true h0, Bool.true_and]
  · refine .b ?_
    have h0 : ¬ 0 < v.length := by ((try clear hR3); (try clear hR2); (try clear hR); (try clear hK); (try simp only [ncCast] at *); (try simp only [castI_eq] at *)); omega
    rw [decide_eq_false h0, Bool.false_and]
    rfl
/-! ### The sums of a vector -/
def S4.addAt (s : S4) (k x : Int) : S4 :=
  ⟨if k = 0 then IntKind.i64.wrap (s.at_ k.toNat + x) else s.a, if k = 1 then IntKind.i64.wrap (s.at_ k.toNat + x) else s.b, if k = 2 then IntKind.i64.wrap (s.at_ k.toNat + x) else s.c, if k = 3 then IntKind.i64.wrap (s.at_ k.toNat + x) else s.d⟩
def ofTo (v : List Part) : Nat → S4
  | 0 => ⟨0, 0, 0, 0⟩
  | k + 1 => (ofTo v k).addAt (v.getD k default).kind (v.getD k default).amount
def sumsOf (v : List Part) : S4 := if vecRight v = true then ofTo v v.length else ⟨0, 0, 0, 0⟩
theorem vecRight_at {v : List Part} (h : vecRight v = true) {i : Nat} (hi : i < v.length) : (0 ≤ (v.getD i default).kind ∧ (v.getD i default).kind < 4) ∧ (0 ≤ (v.getD i default).role ∧ (v.getD i default).role ≤ 32) ∧ 1 ≤ (v.getD i default).amount ∧ (v.getD i default).amount ≤ 9007199254740992 := by
  unfold vecRight at h
  rw [Option.isNone_iff_eq_none] at h
  unfold nextAt at h
  rw [List.find?_range'_eq_none] at h
  have := h i (Nat.zero_le _) (by omega)
  simp only [badAt, slotRight, amountRight, Bool.not_eq_true', Bool.or_eq_false_iff, Bool.not_eq_eq_eq_not, Bool.not_false, Bool.not_true, Bool.and_eq_true, decide_eq_true_eq, decide_eq_false_iff_not, Bool.or_eq_true] at this
  omega
theorem FinX_S4 {a b u d : IX} {s : S4} (h1 : a.val = s.a) (h2 : b.val = s.b) (h3 : u.val = s.c) (h4 : d.val = s.d) : FinX (.agg (S4.X Ar.real s)) [] (.agg [.i .i64 a, .i .i64 b, .i .i64 u, .i .i64 d]) [] := .pure fun _ => by simp only [S4.X, X.toD, X.toDL, h1, h2, h3, h4]; rfl
theorem x_sumsOf (v : List Part) (hv : v.length ≤ 1048576) : XC Try.prog 122 [.ro (SL Ar.real Part.X v)] [] (.agg (S4.X Ar.real (sumsOf v))) [] := by
  have hx := x_vec_Right v (by omega)
  unfold sumsOf
  by_cases h0 : vecRight v = true
  · rw [if_pos h0]
    have hat := fun i (hi : i < v.length) => vecRight_at h0 hi
    rw [h0] at hx
    clear h0
    have hm0 : ofTo v 0 = ⟨0, 0, 0, 0⟩ := rfl
    have hm1 : ∀ k, ofTo v (k + 1) = (ofTo v k).addAt (v.getD k default).kind (v.getD k default).amount := fun _ => rfl
    generalize ofTo v = M at *
    (refine XC.of_body ([(7, [])]) Try.func122 rfl Try.ntmps122 mixed (T := [(2, ti2), (3, ti3), (4, ti4), (31, ti31), (61, ti61), (123, ti123)]) (.cons tok2 (.cons tok3 (.cons tok4 (.cons tok31 (.cons tok61 (.cons tok123 .nil)))))) (by kernel_rfl) (by simp) rfl rfl rfl rfl rfl ?_; rintro o ho P hP c K hK; have hm : P.follows .mixedOrders = true := hP ▸ mixed; have hT : TOk P [(2, ti2), (3, ti3), (4, ti4), (31, ti31), (61, ti61), (123, ti123)] := hP ▸ (.cons tok2 (.cons tok3 (.cons tok4 (.cons tok31 (.cons tok61 (.cons tok123 .nil)))))); (try rw [← ho]); cbv; (repeat (refine StopN.mk ?_; cbv)))
    repeat' (first | (refine Br.mk (fun hb => ?_) (fun hb => ?_) <;> ((try rw [ho] at hb); (try dsimp only [Ar.real, IX.vo] at hb); (try simp only [QB2] at hb); (try simp only [QBo, beq_iff_eq, beq_eq_false_iff_ne, ne_eq] at hb))) | (refine StopN.mk ?_; cbv) | ((first | refine CallI.pure hP hx fn180 rfl rfl (by rw [ho]) ?_ | refine CallN.pure hP hx fn180 rfl rfl (by rw [ho]) ?_); cbv) | ((first | refine CallI.pure hP (x_vec_Right _ ‹_›) fn180 (by first | rfl | (rw [ho]; done) | (rw [ho]; rfl)) (by rfl) (by first | rfl | (rw [ho]; done) | (rw [ho]; rfl)) ?_ | refine CallN.pure hP (x_vec_Right _ ‹_›) fn180 (by first | rfl | (rw [ho]; done) | (rw [ho]; rfl)) (by rfl) (by first | rfl | (rw [ho]; done) | (rw [ho]; rfl)) ?_); (try rw [← ho]); generalize hr : vecRight _ = r; (try rw [ho] at hr); (try dsimp only [Ar.real, IX.vo] at hr); (try simp only [QB2] at hr); cbv) | (refine hK _ _ ?_) | (refine NeedT.mk ?_ ?_))
    · exact absurd ‹true = false› (by decide)
    refine LoopN.over (o := o) (D := [(7, [])]) ho hm hT (by kernel_rfl) (fun a : Nat => [(12, xn a)]) (fun a => [(1, .var [xi (M a).a, xi (M a).b, xi (M a).c, xi (M a).d] 61)]) (fun _ => []) (fun a => a ≤ v.length) (fun a => v.length - a) 0 (by omega) ?_ ?_
    · refine ⟨(by cbv), by cbv; repeat' (first | trivial | exact EqX.rfl' | exact EqO.rfl' | apply And.intro | ((try clear hR3); (try clear hR2); (try clear hR); (try clear hK); (try simp only [ncCast] at *); (try simp only [castI_eq] at *); refine EqX.i ?_; (try rw [ho]); (try dsimp only [Ar.real, IX.vo, IX.val, BX.val, IX.toN]); (try simp only [QB2]); (repeat rw [wrap_i64 (by omega) (by omega)]); omega) | exact ⟨by rw [hm0]; rfl⟩), by cbv; repeat' (first | trivial | exact EqO.rfl' | apply And.intro | exact ⟨by rw [hm0]; rfl⟩), by cbv; repeat' (first | trivial | exact EqO.rfl' | apply And.intro | exact ⟨by rw [hm0]; rfl⟩)⟩
    · rintro i hi R hR
      have h1 := hat i
      have h2 := hm1 i
      cbv
      repeat' (first | (refine Br.mk (fun hb => ?_) (fun hb => ?_) <;> ((try rw [ho] at hb); (try dsimp only [Ar.real, IX.vo] at hb); (try simp only [QB2] at hb); (try simp only [QBo, beq_iff_eq, beq_eq_false_iff_ne, ne_eq] at hb))) | (refine StopN.mk ?_; cbv) | ((first | refine CallI.pure hP (x_vec_Right _ ‹_›) fn180 (by first | rfl | (rw [ho]; done) | (rw [ho]; rfl)) (by rfl) (by first | rfl | (rw [ho]; done) | (rw [ho]; rfl)) ?_ | refine CallN.pure hP (x_vec_Right _ ‹_›) fn180 (by first | rfl | (rw [ho]; done) | (rw [ho]; rfl)) (by rfl) (by first | rfl | (rw [ho]; done) | (rw [ho]; rfl)) ?_); (try rw [← ho]); generalize hr : vecRight _ = r; (try rw [ho] at hr); (try dsimp only [Ar.real, IX.vo] at hr); (try simp only [QB2] at hr); cbv) | (refine hK _ _ ?_) | (refine NeedT.mk ?_ ?_))
      any_goals (((try clear hR3); (try clear hR2); (try clear hR); (try clear hK); (try simp only [ncCast] at *); (try simp only [castI_eq] at *); (try rw [ho]); (try dsimp only [Ar.real, IX.vo, IX.val, BX.val, IX.toN]); (try simp only [QB2]); (try simp only [decide_eq_true_eq]); (all_goals (repeat rw [wrap_i64 (by omega) (by omega)])); (all_goals (first | omega | (simp only [Int.ofNat_eq_natCast]; omega)))); done)
      · refine hR _ (i + 1) (by show v.length - (i + 1) < v.length - i; omega) (by show i + 1 ≤ v.length; omega) ?_
        refine ⟨(by cbv), by cbv; repeat' (first | trivial | exact EqX.rfl' | exact EqO.rfl' | apply And.intro | ((try clear hR3); (try clear hR2); (try clear hR); (try clear hK); (try simp only [ncCast] at *); (try simp only [castI_eq] at *); refine EqX.i ?_; (try rw [ho]); (try dsimp only [Ar.real, IX.vo, IX.val, BX.val, IX.toN]); (try simp only [QB2]); (repeat rw [wrap_i64 (by omega) (by omega)]); omega) | exact ⟨by rw [h2, ho]; simp only [OX.toOb, X.toDL, X.toD]; rfl⟩), by cbv; repeat' (first | trivial | exact EqO.rfl' | apply And.intro | exact ⟨by rw [h2, ho]; simp only [OX.toOb, X.toDL, X.toD]; rfl⟩), by cbv; repeat' (first | trivial | exact EqO.rfl' | apply And.intro | exact ⟨by rw [h2, ho]; simp only [OX.toOb, X.toDL, X.toD]; rfl⟩)⟩
      · obtain rfl : i = v.length := by omega
        exact FinX_S4 rfl rfl rfl rfl
  · rw [if_neg h0]
    generalize vecRight v = b at *
    (refine XC.of_body ([(7, [])]) Try.func122 rfl Try.ntmps122 mixed (T := [(2, ti2), (3, ti3), (4, ti4), (31, ti31), (61, ti61), (123, ti123)]) (.cons tok2 (.cons tok3 (.cons tok4 (.cons tok31 (.cons tok61 (.cons tok123 .nil)))))) (by kernel_rfl) (by simp) rfl rfl rfl rfl rfl ?_; rintro o ho P hP c K hK; have hm : P.follows .mixedOrders = true := hP ▸ mixed; have hT : TOk P [(2, ti2), (3, ti3), (4, ti4), (31, ti31), (61, ti61), (123, ti123)] := hP ▸ (.cons tok2 (.cons tok3 (.cons tok4 (.cons tok31 (.cons tok61 (.cons tok123 .nil)))))); (try rw [← ho]); cbv; (repeat (refine StopN.mk ?_; cbv)))
    repeat' (first | (refine Br.mk (fun hb => ?_) (fun hb => ?_) <;> ((try rw [ho] at hb); (try dsimp only [Ar.real, IX.vo] at hb); (try simp only [QB2] at hb); (try simp only [QBo, beq_iff_eq, beq_eq_false_iff_ne, ne_eq] at hb))) | (refine StopN.mk ?_; cbv) | ((first | refine CallI.pure hP hx fn180 rfl rfl (by rw [ho]) ?_ | refine CallN.pure hP hx fn180 rfl rfl (by rw [ho]) ?_); cbv) | ((first | refine CallI.pure hP (x_vec_Right _ ‹_›) fn180 (by first | rfl | (rw [ho]; done) | (rw [ho]; rfl)) (by rfl) (by first | rfl | (rw [ho]; done) | (rw [ho]; rfl)) ?_ | refine CallN.pure hP (x_vec_Right _ ‹_›) fn180 (by first | rfl | (rw [ho]; done) | (rw [ho]; rfl)) (by rfl) (by first | rfl | (rw [ho]; done) | (rw [ho]; rfl)) ?_); (try rw [← ho]); generalize hr : vecRight _ = r; (try rw [ho] at hr); (try dsimp only [Ar.real, IX.vo] at hr); (try simp only [QB2] at hr); cbv) | (refine hK _ _ ?_) | (refine NeedT.mk ?_ ?_))
    all_goals first
      | exact FinX_S4 rfl rfl rfl rfl
      | exact absurd hb h0
end Go.Proofs.Ytddgcegimmcbgaa.Sy

/-
  Differences of vectors: contracts. Plain theorems.
-/
set_option linter.unusedSectionVars false
namespace Go.Proofs.Ytddgcegimmcbgaa.Sy
open Go Go.Sy Go.Proofs.Ytddgcegimmcbgaa
set_option maxRecDepth 100000
set_option maxHeartbeats 8000000
set_option linter.unusedVariables false
set_option linter.unusedSimpArgs false

def pushP (out : List Part) (p : Part) : List Part := if 0 < p.amount then out ++ [p] else out
def hitP (bs : List Part) (p : Part) : Bool := decide (0 < bs.length) && (decide ((bs.getD 0 default).kind = p.kind) && decide ((bs.getD 0 default).role = p.role))
def subStep (st : List Part × List Part) (p : Part) : Option (List Part × List Part) :=
  if hitP st.2 p = true then
    if (quantSub p.amount (st.2.getD 0 default).amount).2 = true then some (pushP st.1 ⟨p.kind, p.role, (quantSub p.amount (st.2.getD 0 default).amount).1⟩, st.2.tail) else none
  else some (pushP st.1 p, st.2)
def subTo (a b : List Part) : Nat → Option (List Part × List Part)
  | 0 => some ([], b)
  | k + 1 => (subTo a b k).bind fun st => subStep st (a.getD k default)
theorem subTo_none {a b : List Part} {k : Nat} (h : subTo a b k = none) : ∀ {n}, k ≤ n → subTo a b n = none := by
  intro n hn
  induction n with
  | zero => obtain rfl : k = 0 := by omega
            exact h
  | succ n ih =>
    rcases Nat.lt_or_ge n k with h1 | h1
    · obtain rfl : k = n + 1 := by omega
      exact h
    · simp only [subTo, ih h1, Option.bind_none]
def subV (a b : List Part) : List Part × Bool :=
  if vecRight a = true ∧ vecRight b = true then
    match subTo a b a.length with
    | some (out, []) => (out, true)
    | _ => ([], false)
  else ([], false)
theorem pushP_len (out : List Part) (p : Part) : (pushP out p).length ≤ out.length + 1 := by
  unfold pushP
  split <;> simp
theorem subTo_len {a b : List Part} : ∀ {k : Nat} {out bs : List Part}, subTo a b k = some (out, bs) → out.length ≤ k ∧ bs.length ≤ b.length
  | 0, out, bs, h => by
    simp only [subTo, Option.some.injEq, Prod.mk.injEq] at h
    obtain ⟨rfl, rfl⟩ := h
    simp
  | k + 1, out, bs, h => by
    simp only [subTo] at h
    obtain ⟨⟨o1, b1⟩, h1, h2⟩ := Option.bind_eq_some_iff.1 h
    obtain ⟨l1, l2⟩ := subTo_len h1
    unfold subStep at h2
    split at h2
    · split at h2
      · simp only [Option.some.injEq, Prod.mk.injEq] at h2
        obtain ⟨rfl, rfl⟩ := h2
        have := pushP_len o1 ⟨(a.getD k default).kind, (a.getD k default).role, (quantSub (a.getD k default).amount (b1.getD 0 default).amount).1⟩
        simp only [List.length_tail]
        omega
      · cases h2
    · simp only [Option.some.injEq, Prod.mk.injEq] at h2
      obtain ⟨rfl, rfl⟩ := h2
      have := pushP_len o1 (a.getD k default)
      omega
structure StS where
  i : Nat
  rv : Nat
  out : List Part
  bs : List Part
structure InS (a b : List Part) (s : StS) : Prop where
  i : s.i ≤ a.length
  to : subTo a b s.i = some (s.out, s.bs)
theorem FinX_rb {r : RR} {l : List Part} {y : BX} {s : Bool} (h : r.rows = (SL Ar.real Part.X l).rows) (h' : y.val = s) : FinX (.tup [.ro (SL Ar.real Part.X l), xb s]) [] (.tup [.ro r, .b y]) [] := .pure fun _ => by
  simp only [X.toD, X.toDL, h, h']
  rfl
theorem rows_nil_Part : (RR.lits []).rows = (SL Ar.real Part.X ([] : List Part)).rows := rows_nil_SL Ar.real rfl Part.X
theorem rows_tail {o : Ar} (ho : o = Ar.real) {bs bs' : List Part} (h : bs' = bs.tail) : (RR.fn (o.subN (o.len bs) 1) fun i => Part.X o (o.nth bs (o.addN 1 i))).rows = (SL o Part.X bs').rows := by
  subst ho
  subst h
  refine rows_fn_SL _ rfl Part.X _ _ _ (by show bs.length - 1 = _; simp) ?_
  intro i hi
  have e : bs.getD (1 + i) default = bs.tail.getD i default := by
    cases bs with
    | nil => rfl
    | cons x xs => rw [Nat.add_comm]; simp
  show X.toCL (Part.X Ar.real (bs.getD (1 + i) default)) = _
  rw [e]
theorem x_vecSub (a b : List Part) (ha : a.length ≤ 1048576) (hb' : b.length ≤ 1048576) : XC Try.prog 128 [.ro (SL Ar.real Part.X a), .ro (SL Ar.real Part.X b)] [] (.tup [.ro (SL Ar.real Part.X (subV a b).1), xb (subV a b).2]) [] := by
  have hxa := x_vec_Right a (by omega)
  have hxb := x_vec_Right b (by omega)
  unfold subV
  by_cases h0 : vecRight a = true ∧ vecRight b = true
  · rw [if_pos h0]
    rw [h0.1] at hxa
    rw [h0.2] at hxb
    clear h0
    (refine XC.of_body ([(7, [(7, 8)]), (8, []), (11, [(2, 3), (2, 4)])]) Try.func128 rfl Try.ntmps128 mixed (T := [(2, ti2), (3, ti3), (4, ti4), (31, ti31), (123, ti123), (209, ti209)]) (.cons tok2 (.cons tok3 (.cons tok4 (.cons tok31 (.cons tok123 (.cons tok209 .nil)))))) (by kernel_rfl) (by simp) rfl rfl rfl rfl rfl ?_; rintro o ho P hP c K hK; have hm : P.follows .mixedOrders = true := hP ▸ mixed; have hT : TOk P [(2, ti2), (3, ti3), (4, ti4), (31, ti31), (123, ti123), (209, ti209)] := hP ▸ (.cons tok2 (.cons tok3 (.cons tok4 (.cons tok31 (.cons tok123 (.cons tok209 .nil)))))); (try rw [← ho]); cbv; (repeat (refine StopN.mk ?_; cbv)))
    rw [← ho] at hxa hxb
    repeat' (first | (refine Br.mk (fun hb => ?_) (fun hb => ?_) <;> ((try rw [ho] at hb); (try dsimp only [Ar.real, IX.vo] at hb); (try simp only [QB2] at hb); (try simp only [QBo, beq_iff_eq, beq_eq_false_iff_ne, ne_eq] at hb))) | (refine StopN.mk ?_; cbv) | ((first | refine CallI.pure hP hxa fn180 rfl rfl rfl ?_ | refine CallI.pure hP hxb fn180 rfl rfl rfl ?_); cbv) | ((first | refine CallI.pure hP (x_vec_Right _ ‹_›) fn180 (by first | rfl | (rw [ho]; done) | (rw [ho]; rfl)) (by rfl) (by first | rfl | (rw [ho]; done) | (rw [ho]; rfl)) ?_ | refine CallN.pure hP (x_vec_Right _ ‹_›) fn180 (by first | rfl | (rw [ho]; done) | (rw [ho]; rfl)) (by rfl) (by first | rfl | (rw [ho]; done) | (rw [ho]; rfl)) ?_); (try rw [← ho]); generalize hr : vecRight _ = r; (try rw [ho] at hr); (try dsimp only [Ar.real, IX.vo] at hr); (try simp only [QB2] at hr); cbv) | ((first | refine CallI.pure hP (x_vec_of _ _ _) fn182 (by first | rfl | (rw [ho]; done) | (rw [ho]; rfl)) (by rfl) (by first | rfl | (rw [ho]; done) | (rw [ho]; rfl)) ?_ | refine CallN.pure hP (x_vec_of _ _ _) fn182 (by first | rfl | (rw [ho]; done) | (rw [ho]; rfl)) (by rfl) (by first | rfl | (rw [ho]; done) | (rw [ho]; rfl)) ?_); (try rw [← ho]); cbv) | ((first | refine CallI.pure hP (x_quant_Sub _ _) fn183 (by first | rfl | (rw [ho]; done) | (rw [ho]; rfl)) (by rfl) (by first | rfl | (rw [ho]; done) | (rw [ho]; rfl)) ?_ | refine CallN.pure hP (x_quant_Sub _ _) fn183 (by first | rfl | (rw [ho]; done) | (rw [ho]; rfl)) (by rfl) (by first | rfl | (rw [ho]; done) | (rw [ho]; rfl)) ?_); (try rw [← ho]); generalize hr : (quantSub _ _).1 = r; (try rw [ho] at hr); (try dsimp only [Ar.real, IX.vo] at hr); (try simp only [QB2] at hr); generalize hr : (quantSub _ _).2 = r; (try rw [ho] at hr); (try dsimp only [Ar.real, IX.vo] at hr); (try simp only [QB2] at hr); cbv) | (refine hK _ _ ?_) | (refine NeedT.mk ?_ ?_))
    · exact absurd ‹true = false› (by decide)
    · exact absurd ‹true = false› (by decide)
    refine LoopN.ghost 6 123 3 rfl ?_
    refine LoopN.over (o := o) (D := [(7, [(7, 8)]), (8, []), (11, [(2, 3), (2, 4)])]) ho hm hT (by kernel_rfl) (fun s : StS => [(21, xn s.i), (6, .own (.loc 0) s.rv), (1, .ro (SL o Part.X s.bs))]) (fun s => [(0, .row s.rv 123 3 (SL o Part.X s.out))]) (fun _ => []) (InS a b) (fun s => a.length - s.i) ⟨0, 0, [], b⟩ ⟨Nat.zero_le _, rfl⟩ ?_ ?_
    · refine ⟨(by cbv), by cbv; repeat' (first | trivial | exact EqX.rfl' | exact EqO.rfl' | apply And.intro | ((try clear hR3); (try clear hR2); (try clear hR); (try clear hK); (try simp only [ncCast] at *); (try simp only [castI_eq] at *); refine EqX.i ?_; (try rw [ho]); (try dsimp only [Ar.real, IX.vo, IX.val, BX.val, IX.toN]); (try simp only [QB2]); (repeat rw [wrap_i64 (by omega) (by omega)]); omega) | exact EqO.row rfl (rows_nil_SL o ho Part.X)), by cbv; repeat' (first | trivial | exact EqO.rfl' | apply And.intro | exact EqO.row rfl (rows_nil_SL o ho Part.X)), by cbv; repeat' (first | trivial | exact EqO.rfl' | apply And.intro | exact EqO.row rfl (rows_nil_SL o ho Part.X))⟩
    · rintro ⟨i, rv, out, bs⟩ ⟨hi, hto⟩ R hR
      dsimp only at hi hto
      obtain ⟨hol, hbl⟩ := subTo_len hto
      have hst : subTo a b (i + 1) = subStep (out, bs) (a.getD i default) := by simp only [subTo, hto, Option.bind_some]
      have hnone : subTo a b (i + 1) = none → i < a.length → subTo a b a.length = none := fun h h' => subTo_none h h'
      have hq := x_quant_Sub (a.getD i default).amount (bs.getD 0 default).amount
      unfold subStep hitP at hst
      dsimp only at hst
      generalize quantSub (a.getD i default).amount (bs.getD 0 default).amount = q at hq hst
      obtain ⟨qn, qb⟩ := q
      dsimp only at hq hst
      have hp1 : 0 < (bs.length : Int) → (decide ((bs.getD 0 default).kind = (a.getD i default).kind) && decide ((bs.getD 0 default).role = (a.getD i default).role)) = true → qb = false → subTo a b (i + 1) = none := by
        intro h1 h2 h3
        rw [hst, if_pos (by rw [Bool.and_eq_true]; exact ⟨decide_eq_true (by omega), h2⟩), if_neg (by rw [h3]; decide)]
      have hp2 : 0 < (bs.length : Int) → (decide ((bs.getD 0 default).kind = (a.getD i default).kind) && decide ((bs.getD 0 default).role = (a.getD i default).role)) = true → qb = true → subTo a b (i + 1) = some (pushP out ⟨(a.getD i default).kind, (a.getD i default).role, qn⟩, bs.tail) := by
        intro h1 h2 h3
        rw [hst, if_pos (by rw [Bool.and_eq_true]; exact ⟨decide_eq_true (by omega), h2⟩), if_pos h3]
      have hp3 : ((bs.length : Int) ≤ 0 ∨ (decide ((bs.getD 0 default).kind = (a.getD i default).kind) && decide ((bs.getD 0 default).role = (a.getD i default).role)) = false) → subTo a b (i + 1) = some (pushP out (a.getD i default), bs) := by
        intro h1
        rw [hst, if_neg (by
          rw [Bool.and_eq_true]
          rintro ⟨h2, h3⟩
          rcases h1 with h1 | h1
          · have := of_decide_eq_true h2
            omega
          · rw [h1] at h3
            cases h3)]
      have hn1 : o.nth a i = a.getD i default := by rw [ho, real_nth]
      have hn2 : o.nth bs 0 = bs.getD 0 default := by rw [ho, real_nth]
      rw [← hn1, ← hn2] at hq
      cbv
      repeat' (first | (refine Br.mk (fun hb => ?_) (fun hb => ?_) <;> ((try rw [ho] at hb); (try dsimp only [Ar.real, IX.vo] at hb); (try simp only [QB2] at hb); (try simp only [QBo, beq_iff_eq, beq_eq_false_iff_ne, ne_eq] at hb))) | (refine StopN.mk ?_; cbv) | ((first | refine CallI.pure hP hq fn183 rfl rfl rfl ?_ | refine CallN.pure hP hq fn183 rfl rfl rfl ?_); cbv) | (refine NeedP.mk (fits_Part o ho bs) ?_) | ((first | refine CallI.pure hP (x_vec_Right _ ‹_›) fn180 (by first | rfl | (rw [ho]; done) | (rw [ho]; rfl)) (by rfl) (by first | rfl | (rw [ho]; done) | (rw [ho]; rfl)) ?_ | refine CallN.pure hP (x_vec_Right _ ‹_›) fn180 (by first | rfl | (rw [ho]; done) | (rw [ho]; rfl)) (by rfl) (by first | rfl | (rw [ho]; done) | (rw [ho]; rfl)) ?_); (try rw [← ho]); generalize hr : vecRight _ = r; (try rw [ho] at hr); (try dsimp only [Ar.real, IX.vo] at hr); (try simp only [QB2] at hr); cbv) | ((first | refine CallI.pure hP (x_vec_of _ _ _) fn182 (by first | rfl | (rw [ho]; done) | (rw [ho]; rfl)) (by rfl) (by first | rfl | (rw [ho]; done) | (rw [ho]; rfl)) ?_ | refine CallN.pure hP (x_vec_of _ _ _) fn182 (by first | rfl | (rw [ho]; done) | (rw [ho]; rfl)) (by rfl) (by first | rfl | (rw [ho]; done) | (rw [ho]; rfl)) ?_); (try rw [← ho]); cbv) | ((first | refine CallI.pure hP (x_quant_Sub _ _) fn183 (by first | rfl | (rw [ho]; done) | (rw [ho]; rfl)) (by rfl) (by first | rfl | (rw [ho]; done) | (rw [ho]; rfl)) ?_ | refine CallN.pure hP (x_quant_Sub _ _) fn183 (by first | rfl | (rw [ho]; done) | (rw [ho]; rfl)) (by rfl) (by first | rfl | (rw [ho]; done) | (rw [ho]; rfl)) ?_); (try rw [← ho]); generalize hr : (quantSub _ _).1 = r; (try rw [ho] at hr); (try dsimp only [Ar.real, IX.vo] at hr); (try simp only [QB2] at hr); generalize hr : (quantSub _ _).2 = r; (try rw [ho] at hr); (try dsimp only [Ar.real, IX.vo] at hr); (try simp only [QB2] at hr); cbv) | (refine hK _ _ ?_) | (refine NeedT.mk ?_ ?_))
      any_goals (((try clear hR3); (try clear hR2); (try clear hR); (try clear hK); (try simp only [ncCast] at *); (try simp only [castI_eq] at *); (try rw [ho]); (try dsimp only [Ar.real, IX.vo, IX.val, BX.val, IX.toN]); (try simp only [QB2]); (try simp only [decide_eq_true_eq]); (all_goals (repeat rw [wrap_i64 (by omega) (by omega)])); (all_goals (first | omega | (simp only [Int.ofNat_eq_natCast]; omega)))); done)
      · rw [hnone (hp1 (by assumption) (by assumption) (by assumption)) (by omega)]
        exact FinX_rb rows_nil_Part rfl
      · ((try clear hR3); (try clear hR2); (try clear hR); (try clear hK); (try simp only [ncCast] at *); (try simp only [castI_eq] at *); (try rw [ho]); (try dsimp only [Ar.real, IX.vo, IX.val, BX.val, IX.toN]); (try simp only [QB2]))
        simp
        omega
      · have hs := hp2 (by assumption) (by assumption) (by assumption)
        unfold pushP at hs
        rw [if_pos (by assumption)] at hs
        obtain ⟨out', ho'⟩ : ∃ q, q = out ++ [(⟨(a.getD i default).kind, (a.getD i default).role, qn⟩ : Part)] := ⟨_, rfl⟩
        obtain ⟨bs', hb'⟩ : ∃ q, q = bs.tail := ⟨_, rfl⟩
        rw [← ho', ← hb'] at hs
        refine hR _ ⟨i + 1, rv + 1, out', bs'⟩ (by dsimp only; omega) ⟨by dsimp only; omega, hs⟩ ?_
        refine ⟨(by cbv), by cbv; repeat' (first | trivial | exact EqX.rfl' | exact EqO.rfl' | apply And.intro | ((try clear hR3); (try clear hR2); (try clear hR); (try clear hK); (try simp only [ncCast] at *); (try simp only [castI_eq] at *); refine EqX.i ?_; (try rw [ho]); (try dsimp only [Ar.real, IX.vo, IX.val, BX.val, IX.toN]); (try simp only [QB2]); (repeat rw [wrap_i64 (by omega) (by omega)]); omega) | (refine EqO.snoc ho Part.X _ _ _ _ rfl ho' ?_; rw [ho]; rfl) | (exact EqX.ro (rows_tail ho hb'))), by cbv; repeat' (first | trivial | exact EqO.rfl' | apply And.intro | (refine EqO.snoc ho Part.X _ _ _ _ rfl ho' ?_; rw [ho]; rfl) | (exact EqX.ro (rows_tail ho hb'))), by cbv; repeat' (first | trivial | exact EqO.rfl' | apply And.intro | (refine EqO.snoc ho Part.X _ _ _ _ rfl ho' ?_; rw [ho]; rfl) | (exact EqX.ro (rows_tail ho hb')))⟩
      · have hs := hp2 (by assumption) (by assumption) (by assumption)
        unfold pushP at hs
        rw [if_neg (by dsimp only; omega)] at hs
        obtain ⟨bs', hb'⟩ : ∃ q, q = bs.tail := ⟨_, rfl⟩
        rw [← hb'] at hs
        refine hR _ ⟨i + 1, rv, out, bs'⟩ (by dsimp only; omega) ⟨by dsimp only; omega, hs⟩ ?_
        refine ⟨(by cbv), by cbv; repeat' (first | trivial | exact EqX.rfl' | exact EqO.rfl' | apply And.intro | ((try clear hR3); (try clear hR2); (try clear hR); (try clear hK); (try simp only [ncCast] at *); (try simp only [castI_eq] at *); refine EqX.i ?_; (try rw [ho]); (try dsimp only [Ar.real, IX.vo, IX.val, BX.val, IX.toN]); (try simp only [QB2]); (repeat rw [wrap_i64 (by omega) (by omega)]); omega) | (exact EqX.ro (rows_tail ho hb'))), by cbv; repeat' (first | trivial | exact EqO.rfl' | apply And.intro | (exact EqX.ro (rows_tail ho hb'))), by cbv; repeat' (first | trivial | exact EqO.rfl' | apply And.intro | (exact EqX.ro (rows_tail ho hb')))⟩
      iterate 2
        · have hs := hp3 (by first | exact .inl (by assumption) | exact .inr (by assumption))
          unfold pushP at hs
          rw [if_pos (by assumption)] at hs
          obtain ⟨out', ho'⟩ : ∃ q, q = out ++ [a.getD i default] := ⟨_, rfl⟩
          rw [← ho'] at hs
          refine hR _ ⟨i + 1, rv + 1, out', bs⟩ (by dsimp only; omega) ⟨by dsimp only; omega, hs⟩ ?_
          refine ⟨(by cbv), by cbv; repeat' (first | trivial | exact EqX.rfl' | exact EqO.rfl' | apply And.intro | ((try clear hR3); (try clear hR2); (try clear hR); (try clear hK); (try simp only [ncCast] at *); (try simp only [castI_eq] at *); refine EqX.i ?_; (try rw [ho]); (try dsimp only [Ar.real, IX.vo, IX.val, BX.val, IX.toN]); (try simp only [QB2]); (repeat rw [wrap_i64 (by omega) (by omega)]); omega) | (refine EqO.snoc ho Part.X _ _ _ _ rfl ho' ?_; rw [ho]; rfl)), by cbv; repeat' (first | trivial | exact EqO.rfl' | apply And.intro | (refine EqO.snoc ho Part.X _ _ _ _ rfl ho' ?_; rw [ho]; rfl)), by cbv; repeat' (first | trivial | exact EqO.rfl' | apply And.intro | (refine EqO.snoc ho Part.X _ _ _ _ rfl ho' ?_; rw [ho]; rfl))⟩
        · have hs := hp3 (by first | exact .inl (by assumption) | exact .inr (by assumption))
          unfold pushP at hs
          rw [if_neg (by omega)] at hs
          refine hR _ ⟨i + 1, rv, out, bs⟩ (by dsimp only; omega) ⟨by dsimp only; omega, hs⟩ ?_
          refine ⟨(by cbv), by cbv; repeat' (first | trivial | exact EqX.rfl' | exact EqO.rfl' | apply And.intro | ((try clear hR3); (try clear hR2); (try clear hR); (try clear hK); (try simp only [ncCast] at *); (try simp only [castI_eq] at *); refine EqX.i ?_; (try rw [ho]); (try dsimp only [Ar.real, IX.vo, IX.val, BX.val, IX.toN]); (try simp only [QB2]); (repeat rw [wrap_i64 (by omega) (by omega)]); omega)), by cbv; repeat' (first | trivial | exact EqO.rfl' | apply And.intro), by cbv; repeat' (first | trivial | exact EqO.rfl' | apply And.intro)⟩
      · obtain rfl : i = a.length := by omega
        rw [hto]
        cases bs with
        | nil => exact absurd hb (by simp)
        | cons x xs => exact FinX_rb rows_nil_Part rfl
      · obtain rfl : i = a.length := by omega
        rw [hto]
        cases bs with
        | nil => exact FinX_rb (by rw [ho]) rfl
        | cons x xs => exact absurd hb (by simp)
  · rw [if_neg h0]
    generalize vecRight a = ra at *
    generalize vecRight b = rb at *
    (refine XC.of_body ([(7, [(7, 8)]), (8, []), (11, [(2, 3), (2, 4)])]) Try.func128 rfl Try.ntmps128 mixed (T := [(2, ti2), (3, ti3), (4, ti4), (31, ti31), (123, ti123), (209, ti209)]) (.cons tok2 (.cons tok3 (.cons tok4 (.cons tok31 (.cons tok123 (.cons tok209 .nil)))))) (by kernel_rfl) (by simp) rfl rfl rfl rfl rfl ?_; rintro o ho P hP c K hK; have hm : P.follows .mixedOrders = true := hP ▸ mixed; have hT : TOk P [(2, ti2), (3, ti3), (4, ti4), (31, ti31), (123, ti123), (209, ti209)] := hP ▸ (.cons tok2 (.cons tok3 (.cons tok4 (.cons tok31 (.cons tok123 (.cons tok209 .nil)))))); (try rw [← ho]); cbv; (repeat (refine StopN.mk ?_; cbv)))
    rw [← ho] at hxa hxb
    repeat' (first | (refine Br.mk (fun hb => ?_) (fun hb => ?_) <;> ((try rw [ho] at hb); (try dsimp only [Ar.real, IX.vo] at hb); (try simp only [QB2] at hb); (try simp only [QBo, beq_iff_eq, beq_eq_false_iff_ne, ne_eq] at hb))) | (refine StopN.mk ?_; cbv) | ((first | refine CallI.pure hP hxa fn180 rfl rfl rfl ?_ | refine CallI.pure hP hxb fn180 rfl rfl rfl ?_); cbv) | ((first | refine CallI.pure hP (x_vec_Right _ ‹_›) fn180 (by first | rfl | (rw [ho]; done) | (rw [ho]; rfl)) (by rfl) (by first | rfl | (rw [ho]; done) | (rw [ho]; rfl)) ?_ | refine CallN.pure hP (x_vec_Right _ ‹_›) fn180 (by first | rfl | (rw [ho]; done) | (rw [ho]; rfl)) (by rfl) (by first | rfl | (rw [ho]; done) | (rw [ho]; rfl)) ?_); (try rw [← ho]); generalize hr : vecRight _ = r; (try rw [ho] at hr); (try dsimp only [Ar.real, IX.vo] at hr); (try simp only [QB2] at hr); cbv) | ((first | refine CallI.pure hP (x_vec_of _ _ _) fn182 (by first | rfl | (rw [ho]; done) | (rw [ho]; rfl)) (by rfl) (by first | rfl | (rw [ho]; done) | (rw [ho]; rfl)) ?_ | refine CallN.pure hP (x_vec_of _ _ _) fn182 (by first | rfl | (rw [ho]; done) | (rw [ho]; rfl)) (by rfl) (by first | rfl | (rw [ho]; done) | (rw [ho]; rfl)) ?_); (try rw [← ho]); cbv) | ((first | refine CallI.pure hP (x_quant_Sub _ _) fn183 (by first | rfl | (rw [ho]; done) | (rw [ho]; rfl)) (by rfl) (by first | rfl | (rw [ho]; done) | (rw [ho]; rfl)) ?_ | refine CallN.pure hP (x_quant_Sub _ _) fn183 (by first | rfl | (rw [ho]; done) | (rw [ho]; rfl)) (by rfl) (by first | rfl | (rw [ho]; done) | (rw [ho]; rfl)) ?_); (try rw [← ho]); generalize hr : (quantSub _ _).1 = r; (try rw [ho] at hr); (try dsimp only [Ar.real, IX.vo] at hr); (try simp only [QB2] at hr); generalize hr : (quantSub _ _).2 = r; (try rw [ho] at hr); (try dsimp only [Ar.real, IX.vo] at hr); (try simp only [QB2] at hr); cbv) | (refine hK _ _ ?_) | (refine NeedT.mk ?_ ?_))
    all_goals first
      | exact FinX_rb rows_nil_Part rfl
      | (exfalso; simp_all; done)
end Go.Proofs.Ytddgcegimmcbgaa.Sy

/-
  Profiles: contracts. Plain theorems.
-/
set_option linter.unusedSectionVars false
namespace Go.Proofs.Ytddgcegimmcbgaa.Sy
open Go Go.Sy Go.Proofs.Ytddgcegimmcbgaa
set_option maxRecDepth 100000
set_option maxHeartbeats 8000000
set_option linter.unusedVariables false
set_option linter.unusedSimpArgs false

structure Want where
  weight : Int
  need : List Part
  deriving DecidableEq
instance : Inhabited Want := ⟨⟨0, []⟩⟩
def foldAWant_weight (e : Want) := (by
  have h : PLift (e.weight = e.weight) := ⟨rfl⟩
  conv at h => arg 1; lhs; delta Want.weight
  exact h)
theorem foldWant_weight (e : Want) : type_of% (foldAWant_weight e).down := (foldAWant_weight e).down
def foldAWant_need (e : Want) := (by
  have h : PLift (e.need = e.need) := ⟨rfl⟩
  conv at h => arg 1; lhs; delta Want.need
  exact h)
theorem foldWant_need (e : Want) : type_of% (foldAWant_need e).down := (foldAWant_need e).down
theorem foldWant : (⟨0, []⟩ : Want) = default := rfl
theorem QB5 : type_of% (And.intro @foldWant (And.intro @foldWant_weight (And.intro @foldWant_need (QB2)))) := And.intro @foldWant (And.intro @foldWant_weight (And.intro @foldWant_need (QB2)))
def Want.X (o : Ar) (w : Want) : List X := [xi w.weight, .ro (SL o Part.X w.need)]
def PV.X (o : Ar) (v : List Part) : List X := [.ro (SL o Part.X v)]

theorem x_vecHolds (a b : List Part) (ha : a.length ≤ 1048576) (hb' : b.length ≤ 1048576) : XC Try.prog 146 [.ro (SL Ar.real Part.X a), .ro (SL Ar.real Part.X b)] [] (xb (subV a b).2) [] := by
  have hx := x_vecSub a b ha hb'
  generalize subV a b = q at hx
  obtain ⟨out, ok⟩ := q
  (refine XC.of_body ([]) Try.func146 rfl Try.ntmps146 mixed (T := []) .nil (by kernel_rfl) (by simp) rfl rfl rfl rfl rfl ?_; rintro o ho P hP c K hK; have hm : P.follows .mixedOrders = true := hP ▸ mixed; have hT : TOk P [] := hP ▸ .nil; (try rw [← ho]); cbv; (repeat (refine StopN.mk ?_; cbv)))
  rw [← ho] at hx
  repeat' (first | (refine Br.mk (fun hb => ?_) (fun hb => ?_) <;> ((try rw [ho] at hb); (try dsimp only [Ar.real, IX.vo] at hb); (try simp only [QB5] at hb); (try simp only [QBo, beq_iff_eq, beq_eq_false_iff_ne, ne_eq] at hb))) | (refine StopN.mk ?_; cbv) | ((first | refine CallI.pure hP hx fn128 rfl rfl rfl ?_ | refine CallN.pure hP hx fn128 rfl rfl rfl ?_); cbv) | ((first | refine CallI.pure hP (x_vecSub _ _ ‹_› ‹_›) fn128 (by first | rfl | (rw [ho]; done) | (rw [ho]; rfl)) (by rfl) (by first | rfl | (rw [ho]; done) | (rw [ho]; rfl)) ?_ | refine CallN.pure hP (x_vecSub _ _ ‹_› ‹_›) fn128 (by first | rfl | (rw [ho]; done) | (rw [ho]; rfl)) (by rfl) (by first | rfl | (rw [ho]; done) | (rw [ho]; rfl)) ?_); (try rw [← ho]); generalize hr : subV _ _ = r; (try rw [ho] at hr); (try dsimp only [Ar.real, IX.vo] at hr); (try simp only [QB5] at hr); cbv) | (refine hK _ _ ?_) | (refine NeedT.mk ?_ ?_))
  exact .b rfl

structure Prof where
  ags : List (List Part)
  wants : List Want
  lo : S4
def Prof.X (o : Ar) (p : Prof) : List X := [.ro (SL o PV.X p.ags), .ro (SL o Want.X p.wants), xi p.lo.a, xi p.lo.b, xi p.lo.c, xi p.lo.d]
structure ProfOk (p : Prof) : Prop where
  na : p.ags.length ≤ 1048576
  nw : p.wants.length ≤ 1048576
  a : ∀ k, (p.ags.getD k default).length ≤ 1048576
  w : ∀ k, (p.wants.getD k default).need.length ≤ 1048576
def totTo (l : List (List Part)) : Nat → S4
  | 0 => ⟨0, 0, 0, 0⟩
  | k + 1 => (sumsAdd (totTo l k) (sumsOf (l.getD k default))).1
def topS (s : S4) : Bool := decide (s.a ≤ 9007199254740992 ∧ s.b ≤ 9007199254740992 ∧ s.c ≤ 9007199254740992 ∧ s.d ≤ 9007199254740992)
def totR (l : List (List Part)) : S4 × Bool :=
  match nextAt (fun k => !bareR (l.getD k default)) 0 l.length with
  | some j => (totTo l j, false)
  | none => (totTo l l.length, topS (totTo l l.length))
theorem x_total (p : Prof) (hp : ProfOk p) : XC Try.prog 205 [.agg (Prof.X Ar.real p)] [] (.tup [.agg (S4.X Ar.real (totR p.ags).1), xb (totR p.ags).2]) [] := by
  obtain ⟨l, ws, lo⟩ := p
  obtain ⟨hl, hws, hla, hwa⟩ := hp
  dsimp only at hl hws hla hwa
  dsimp only
  have hm0 : totTo l 0 = ⟨0, 0, 0, 0⟩ := rfl
  have hm1 : ∀ k, totTo l (k + 1) = (sumsAdd (totTo l k) (sumsOf (l.getD k default))).1 := fun _ => rfl
  have h1 : ∀ j, j < l.length → (∀ k, k < j → bareR (l.getD k default) = true) → bareR (l.getD j default) = false → totR l = (totTo l j, false) := by
    intro j hj hlt hx
    unfold totR
    rw [nextAt_some (Nat.zero_le _) hj (by simp only [hx, Bool.not_false]) (fun k _ hk => by simp only [hlt k hk, Bool.not_true])]
  have h2 : (∀ k, k < l.length → bareR (l.getD k default) = true) → totR l = (totTo l l.length, topS (totTo l l.length)) := by
    intro hlt
    unfold totR
    rw [nextAt_none (fun k _ hk => by simp only [hlt k hk, Bool.not_true])]
  generalize totR l = r at *
  generalize totTo l = M at *
  obtain ⟨a0, b0, c0, d0⟩ := lo
  (refine XC.of_body ([(7, [(0, 2)])]) Try.func205 rfl Try.ntmps205 mixed (T := [(2, ti2), (3, ti3), (4, ti4), (31, ti31), (42, ti42), (52, ti52), (57, ti57), (61, ti61), (75, ti75), (123, ti123)]) (.cons tok2 (.cons tok3 (.cons tok4 (.cons tok31 (.cons tok42 (.cons tok52 (.cons tok57 (.cons tok61 (.cons tok75 (.cons tok123 .nil)))))))))) (by kernel_rfl) (by simp) rfl rfl rfl rfl rfl ?_; rintro o ho P hP c K hK; have hm : P.follows .mixedOrders = true := hP ▸ mixed; have hT : TOk P [(2, ti2), (3, ti3), (4, ti4), (31, ti31), (42, ti42), (52, ti52), (57, ti57), (61, ti61), (75, ti75), (123, ti123)] := hP ▸ (.cons tok2 (.cons tok3 (.cons tok4 (.cons tok31 (.cons tok42 (.cons tok52 (.cons tok57 (.cons tok61 (.cons tok75 (.cons tok123 .nil)))))))))); (try rw [← ho]); cbv; (repeat (refine StopN.mk ?_; cbv)))
  refine LoopN.over (o := o) (D := [(7, [(0, 2)])]) ho hm hT (by kernel_rfl) (fun a : Nat => [(12, xn a)]) (fun a => [(2, .var [xi (M a).a, xi (M a).b, xi (M a).c, xi (M a).d] 61)]) (fun _ => []) (fun a => a ≤ l.length ∧ ∀ k, k < a → bareR (l.getD k default) = true) (fun a => l.length - a) 0 ⟨by omega, fun k hk => absurd hk (Nat.not_lt_zero k)⟩ ?_ ?_
  · refine ⟨(by cbv), by cbv; repeat' (first | trivial | exact EqX.rfl' | exact EqO.rfl' | apply And.intro | ((try clear hR3); (try clear hR2); (try clear hR); (try clear hK); (try simp only [ncCast] at *); (try simp only [castI_eq] at *); refine EqX.i ?_; (try rw [ho]); (try dsimp only [Ar.real, IX.vo, IX.val, BX.val, IX.toN]); (try simp only [QB5]); (repeat rw [wrap_i64 (by omega) (by omega)]); omega) | exact ⟨by rw [hm0]; rfl⟩), by cbv; repeat' (first | trivial | exact EqO.rfl' | apply And.intro | exact ⟨by rw [hm0]; rfl⟩), by cbv; repeat' (first | trivial | exact EqO.rfl' | apply And.intro | exact ⟨by rw [hm0]; rfl⟩)⟩
  · rintro i ⟨hi, hlt⟩ R hR
    have hv := x_bare (l.getD i default) (hla i)
    have hs := x_sumsOf (l.getD i default) (hla i)
    have hadd := x_sumsAdd (M i) (sumsOf (l.getD i default))
    have e1 := h1 i
    have e2 := hm1 i
    generalize sumsOf (l.getD i default) = sv at *
    generalize sumsAdd (M i) sv = sa at *
    generalize hbv : bareR (l.getD i default) = bv at *
    have en : o.nth l i = l.getD i default := by rw [ho, real_nth]
    rw [← en, ← ho] at hv hs
    rw [← ho] at hadd
    cbv
    repeat' (first | (refine Br.mk (fun hb => ?_) (fun hb => ?_) <;> ((try rw [ho] at hb); (try dsimp only [Ar.real, IX.vo] at hb); (try simp only [QB5] at hb); (try simp only [QBo, beq_iff_eq, beq_eq_false_iff_ne, ne_eq] at hb))) | (refine StopN.mk ?_; cbv) | ((first | refine CallI.pure hP hv fn206 rfl rfl rfl ?_ | refine CallN.pure hP hs fn122 rfl rfl rfl ?_ | refine CallN.pure hP hadd fn129 rfl rfl rfl ?_); cbv) | ((first | refine CallI.pure hP (x_sumsOf _ ‹_›) fn122 (by first | rfl | (rw [ho]; done) | (rw [ho]; rfl)) (by rfl) (by first | rfl | (rw [ho]; done) | (rw [ho]; rfl)) ?_ | refine CallN.pure hP (x_sumsOf _ ‹_›) fn122 (by first | rfl | (rw [ho]; done) | (rw [ho]; rfl)) (by rfl) (by first | rfl | (rw [ho]; done) | (rw [ho]; rfl)) ?_); (try rw [← ho]); generalize hr : sumsOf _ = r; (try rw [ho] at hr); (try dsimp only [Ar.real, IX.vo] at hr); (try simp only [QB5] at hr); cbv) | ((first | refine CallI.pure hP (x_sumsAdd _ _) fn129 (by first | rfl | (rw [ho]; done) | (rw [ho]; rfl)) (by rfl) (by first | rfl | (rw [ho]; done) | (rw [ho]; rfl)) ?_ | refine CallN.pure hP (x_sumsAdd _ _) fn129 (by first | rfl | (rw [ho]; done) | (rw [ho]; rfl)) (by rfl) (by first | rfl | (rw [ho]; done) | (rw [ho]; rfl)) ?_); (try rw [← ho]); generalize hr : sumsAdd _ _ = r; (try rw [ho] at hr); (try dsimp only [Ar.real, IX.vo] at hr); (try simp only [QB5] at hr); cbv) | ((first | refine CallI.pure hP (x_bare _ ‹_›) fn206 (by first | rfl | (rw [ho]; done) | (rw [ho]; rfl)) (by rfl) (by first | rfl | (rw [ho]; done) | (rw [ho]; rfl)) ?_ | refine CallN.pure hP (x_bare _ ‹_›) fn206 (by first | rfl | (rw [ho]; done) | (rw [ho]; rfl)) (by rfl) (by first | rfl | (rw [ho]; done) | (rw [ho]; rfl)) ?_); (try rw [← ho]); generalize hr : bareR _ = r; (try rw [ho] at hr); (try dsimp only [Ar.real, IX.vo] at hr); (try simp only [QB5] at hr); cbv) | (refine hK _ _ ?_) | (refine NeedT.mk ?_ ?_) | (refine LoopN.lay (o := o) (D := [(7, [(0, 2)])]) 5 ho hm hT (by kernel_rfl) ?_; cbv))
    any_goals (((try clear hR3); (try clear hR2); (try clear hR); (try clear hK); (try simp only [ncCast] at *); (try simp only [castI_eq] at *); (try rw [ho]); (try dsimp only [Ar.real, IX.vo, IX.val, BX.val, IX.toN]); (try simp only [QB5]); (try simp only [decide_eq_true_eq]); (all_goals (repeat rw [wrap_i64 (by omega) (by omega)])); (all_goals (first | omega | (simp only [Int.ofNat_eq_natCast]; omega)))); done)
    · rw [e1 (by ((try clear hR3); (try clear hR2); (try clear hR); (try clear hK); (try simp only [ncCast] at *); (try simp only [castI_eq] at *)); omega) hlt hb]
      exact FinX_S4b rfl rfl rfl rfl rfl
    · refine hR _ (i + 1) (by show l.length - (i + 1) < l.length - i; ((try clear hR3); (try clear hR2); (try clear hR); (try clear hK); (try simp only [ncCast] at *); (try simp only [castI_eq] at *)); omega) ⟨by show i + 1 ≤ l.length; ((try clear hR3); (try clear hR2); (try clear hR); (try clear hK); (try simp only [ncCast] at *); (try simp only [castI_eq] at *)); omega, fun k hk => ?_⟩ ?_
      · rcases Nat.lt_or_ge k i with h | h
        · exact hlt k h
        · obtain rfl : k = i := by
            have hk' : k < i + 1 := hk
            clear hk
            ((try clear hR3); (try clear hR2); (try clear hR); (try clear hK); (try simp only [ncCast] at *); (try simp only [castI_eq] at *))
            omega
          rw [hbv]; assumption
      · refine ⟨(by cbv), by cbv; repeat' (first | trivial | exact EqX.rfl' | exact EqO.rfl' | apply And.intro | ((try clear hR3); (try clear hR2); (try clear hR); (try clear hK); (try simp only [ncCast] at *); (try simp only [castI_eq] at *); refine EqX.i ?_; (try rw [ho]); (try dsimp only [Ar.real, IX.vo, IX.val, BX.val, IX.toN]); (try simp only [QB5]); (repeat rw [wrap_i64 (by omega) (by omega)]); omega) | exact ⟨by rw [e2]⟩), by cbv; repeat' (first | trivial | exact EqO.rfl' | apply And.intro | exact ⟨by rw [e2]⟩), by cbv; repeat' (first | trivial | exact EqO.rfl' | apply And.intro | exact ⟨by rw [e2]⟩)⟩
    all_goals
      obtain rfl : i = l.length := by ((try clear hR3); (try clear hR2); (try clear hR); (try clear hK); (try simp only [ncCast] at *); (try simp only [castI_eq] at *)); omega
      rw [h2 hlt]
      refine FinX_S4b rfl rfl rfl rfl ?_
      unfold topS
      ((try clear hR3); (try clear hR2); (try clear hR); (try clear hK); (try simp only [ncCast] at *); (try simp only [castI_eq] at *))
      simp only [BX.val, Bool.false_eq, Bool.true_eq, decide_eq_true_eq, decide_eq_false_iff_not]
      omega
def inTop (x : Int) : Bool := decide (0 ≤ x) && decide (x ≤ 9007199254740992)
def okLo (s : S4) : Bool := inTop s.a && (inTop s.b && (inTop s.c && inTop s.d))
def okW (lo : S4) (w : Want) : Bool := bareR w.need && (decide (1 ≤ w.weight ∧ w.weight ≤ 1000) && sumsHolds (sumsOf w.need) lo)
def fineR (p : Prof) : Bool := (totR p.ags).2 && (decide (1 ≤ p.ags.length ∧ p.ags.length ≤ 16 ∧ 1 ≤ p.wants.length ∧ p.wants.length ≤ 32) && (okLo p.lo && p.wants.all (okW p.lo)))
theorem all_getD {α : Type} [Inhabited α] {l : List α} {f : α → Bool} : l.all f = true ↔ ∀ k, k < l.length → f (l.getD k default) = true := by
  rw [List.all_eq_true]
  constructor
  · intro h k hk
    have e : l.getD k default = l[k] := by simp [List.getD_eq_getElem?_getD, hk]
    rw [e]
    exact h _ (List.getElem_mem _)
  · intro h x hx
    obtain ⟨k, hk, rfl⟩ := List.mem_iff_getElem.1 hx
    have e : l.getD k default = l[k] := by simp [List.getD_eq_getElem?_getD, hk]
    rw [← e]
    exact h k hk
theorem x_fine (p : Prof) (hp : ProfOk p) : XC Try.prog 178 [.agg (Prof.X Ar.real p)] [] (xb (fineR p)) [] := by
  have ht := x_total p hp
  have hsum := fun k => x_sumsOf (p.wants.getD k default).need (hp.w k)
  have hbare := fun k => x_bare (p.wants.getD k default).need (hp.w k)
  have hholds := fun k => x_sumsHolds (sumsOf (p.wants.getD k default).need) p.lo
  have hw : ∀ k, okW p.lo (p.wants.getD k default) = (bareR (p.wants.getD k default).need && (decide (1 ≤ (p.wants.getD k default).weight ∧ (p.wants.getD k default).weight ≤ 1000) && sumsHolds (sumsOf (p.wants.getD k default).need) p.lo)) := fun _ => rfl
  have hall : p.wants.all (okW p.lo) = true ↔ ∀ k, k < p.wants.length → okW p.lo (p.wants.getD k default) = true := all_getD
  unfold fineR
  generalize okW p.lo = W at *
  generalize (p.wants.all W) = A at *
  generalize totR p.ags = tt at *
  obtain ⟨l, ws, lo⟩ := p
  obtain ⟨hl, hws, hla, hwa⟩ := hp
  dsimp only at hl hws hla hwa ht hsum hbare hholds hw hall
  dsimp only
  generalize hlo : okLo lo = LO
  generalize hS : (fun k => sumsOf (ws.getD k default).need) = S at *
  generalize hB : (fun k => bareR (ws.getD k default).need) = B at *
  have eS : ∀ k, sumsOf (ws.getD k default).need = S k := fun k => by rw [← hS]
  have eB : ∀ k, bareR (ws.getD k default).need = B k := fun k => by rw [← hB]
  simp only [eS, eB] at hsum hbare hholds hw
  clear eS eB hS hB
  generalize hH : (fun k => sumsHolds (S k) lo) = H at *
  have eH : ∀ k, sumsHolds (S k) lo = H k := fun k => by rw [← hH]
  simp only [eH] at hholds hw
  clear eH hH
  obtain ⟨a0, b0, c0, d0⟩ := lo
  have hLO : LO = true ↔ (0 ≤ a0 ∧ a0 ≤ 9007199254740992) ∧ (0 ≤ b0 ∧ b0 ≤ 9007199254740992) ∧ (0 ≤ c0 ∧ c0 ≤ 9007199254740992) ∧ (0 ≤ d0 ∧ d0 ≤ 9007199254740992) := by
    rw [← hlo]
    simp [okLo, inTop]
  clear hlo
  (refine XC.of_body ([(13, [(17, 18), (17, 19)])]) Try.func178 rfl Try.ntmps178 mixed (T := [(2, ti2), (3, ti3), (4, ti4), (31, ti31), (42, ti42), (52, ti52), (57, ti57), (61, ti61), (75, ti75), (123, ti123), (132, ti132)]) (.cons tok2 (.cons tok3 (.cons tok4 (.cons tok31 (.cons tok42 (.cons tok52 (.cons tok57 (.cons tok61 (.cons tok75 (.cons tok123 (.cons tok132 .nil))))))))))) (by kernel_rfl) (by simp) rfl rfl rfl rfl rfl ?_; rintro o ho P hP c K hK; have hm : P.follows .mixedOrders = true := hP ▸ mixed; have hT : TOk P [(2, ti2), (3, ti3), (4, ti4), (31, ti31), (42, ti42), (52, ti52), (57, ti57), (61, ti61), (75, ti75), (123, ti123), (132, ti132)] := hP ▸ (.cons tok2 (.cons tok3 (.cons tok4 (.cons tok31 (.cons tok42 (.cons tok52 (.cons tok57 (.cons tok61 (.cons tok75 (.cons tok123 (.cons tok132 .nil))))))))))); (try rw [← ho]); cbv; (repeat (refine StopN.mk ?_; cbv)))
  rw [← ho] at ht
  repeat' (first | (refine Br.mk (fun hb => ?_) (fun hb => ?_) <;> ((try rw [ho] at hb); (try dsimp only [Ar.real, IX.vo] at hb); (try simp only [QB5] at hb); (try simp only [QBo, beq_iff_eq, beq_eq_false_iff_ne, ne_eq] at hb))) | (refine StopN.mk ?_; cbv) | ((first | refine CallI.pure hP ht fn205 rfl rfl rfl ?_ | refine CallN.pure hP ht fn205 rfl rfl rfl ?_); cbv) | ((first | refine CallI.pure hP (x_sumsHolds _ _) fn83 (by first | rfl | (rw [ho]; done) | (rw [ho]; rfl)) (by rfl) (by first | rfl | (rw [ho]; done) | (rw [ho]; rfl)) ?_ | refine CallN.pure hP (x_sumsHolds _ _) fn83 (by first | rfl | (rw [ho]; done) | (rw [ho]; rfl)) (by rfl) (by first | rfl | (rw [ho]; done) | (rw [ho]; rfl)) ?_); (try rw [← ho]); generalize hr : sumsHolds _ _ = r; (try rw [ho] at hr); (try dsimp only [Ar.real, IX.vo] at hr); (try simp only [QB5] at hr); cbv) | ((first | refine CallI.pure hP (x_sumsOf _ ‹_›) fn122 (by first | rfl | (rw [ho]; done) | (rw [ho]; rfl)) (by rfl) (by first | rfl | (rw [ho]; done) | (rw [ho]; rfl)) ?_ | refine CallN.pure hP (x_sumsOf _ ‹_›) fn122 (by first | rfl | (rw [ho]; done) | (rw [ho]; rfl)) (by rfl) (by first | rfl | (rw [ho]; done) | (rw [ho]; rfl)) ?_); (try rw [← ho]); generalize hr : sumsOf _ = r; (try rw [ho] at hr); (try dsimp only [Ar.real, IX.vo] at hr); (try simp only [QB5] at hr); cbv) | ((first | refine CallI.pure hP (x_total _ ‹_›) fn205 (by first | rfl | (rw [ho]; done) | (rw [ho]; rfl)) (by rfl) (by first | rfl | (rw [ho]; done) | (rw [ho]; rfl)) ?_ | refine CallN.pure hP (x_total _ ‹_›) fn205 (by first | rfl | (rw [ho]; done) | (rw [ho]; rfl)) (by rfl) (by first | rfl | (rw [ho]; done) | (rw [ho]; rfl)) ?_); (try rw [← ho]); generalize hr : totR _ = r; (try rw [ho] at hr); (try dsimp only [Ar.real, IX.vo] at hr); (try simp only [QB5] at hr); cbv) | ((first | refine CallI.pure hP (x_bare _ ‹_›) fn206 (by first | rfl | (rw [ho]; done) | (rw [ho]; rfl)) (by rfl) (by first | rfl | (rw [ho]; done) | (rw [ho]; rfl)) ?_ | refine CallN.pure hP (x_bare _ ‹_›) fn206 (by first | rfl | (rw [ho]; done) | (rw [ho]; rfl)) (by rfl) (by first | rfl | (rw [ho]; done) | (rw [ho]; rfl)) ?_); (try rw [← ho]); generalize hr : bareR _ = r; (try rw [ho] at hr); (try dsimp only [Ar.real, IX.vo] at hr); (try simp only [QB5] at hr); cbv) | (refine hK _ _ ?_) | (refine NeedT.mk ?_ ?_))
  iterate 5
    · refine .b ?_
      ((try clear hR3); (try clear hR2); (try clear hR); (try clear hK); (try simp only [ncCast] at *); (try simp only [castI_eq] at *))
      symm
      rw [BX.val, Bool.eq_false_iff]
      intro h
      simp only [Bool.and_eq_true, decide_eq_true_eq] at h
      first | omega | simp_all
  (refine LoopN.lay (o := o) (D := [(13, [(17, 18), (17, 19)])]) 5 ho hm hT (by kernel_rfl) ?_; cbv)
  repeat' (first | (refine Br.mk (fun hb => ?_) (fun hb => ?_) <;> ((try rw [ho] at hb); (try dsimp only [Ar.real, IX.vo] at hb); (try simp only [QB5] at hb); (try simp only [QBo, beq_iff_eq, beq_eq_false_iff_ne, ne_eq] at hb))) | (refine StopN.mk ?_; cbv) | ((first | refine CallI.pure hP (x_sumsHolds _ _) fn83 (by first | rfl | (rw [ho]; done) | (rw [ho]; rfl)) (by rfl) (by first | rfl | (rw [ho]; done) | (rw [ho]; rfl)) ?_ | refine CallN.pure hP (x_sumsHolds _ _) fn83 (by first | rfl | (rw [ho]; done) | (rw [ho]; rfl)) (by rfl) (by first | rfl | (rw [ho]; done) | (rw [ho]; rfl)) ?_); (try rw [← ho]); generalize hr : sumsHolds _ _ = r; (try rw [ho] at hr); (try dsimp only [Ar.real, IX.vo] at hr); (try simp only [QB5] at hr); cbv) | ((first | refine CallI.pure hP (x_sumsOf _ ‹_›) fn122 (by first | rfl | (rw [ho]; done) | (rw [ho]; rfl)) (by rfl) (by first | rfl | (rw [ho]; done) | (rw [ho]; rfl)) ?_ | refine CallN.pure hP (x_sumsOf _ ‹_›) fn122 (by first | rfl | (rw [ho]; done) | (rw [ho]; rfl)) (by rfl) (by first | rfl | (rw [ho]; done) | (rw [ho]; rfl)) ?_); (try rw [← ho]); generalize hr : sumsOf _ = r; (try rw [ho] at hr); (try dsimp only [Ar.real, IX.vo] at hr); (try simp only [QB5] at hr); cbv) | ((first | refine CallI.pure hP (x_total _ ‹_›) fn205 (by first | rfl | (rw [ho]; done) | (rw [ho]; rfl)) (by rfl) (by first | rfl | (rw [ho]; done) | (rw [ho]; rfl)) ?_ | refine CallN.pure hP (x_total _ ‹_›) fn205 (by first | rfl | (rw [ho]; done) | (rw [ho]; rfl)) (by rfl) (by first | rfl | (rw [ho]; done) | (rw [ho]; rfl)) ?_); (try rw [← ho]); generalize hr : totR _ = r; (try rw [ho] at hr); (try dsimp only [Ar.real, IX.vo] at hr); (try simp only [QB5] at hr); cbv) | ((first | refine CallI.pure hP (x_bare _ ‹_›) fn206 (by first | rfl | (rw [ho]; done) | (rw [ho]; rfl)) (by rfl) (by first | rfl | (rw [ho]; done) | (rw [ho]; rfl)) ?_ | refine CallN.pure hP (x_bare _ ‹_›) fn206 (by first | rfl | (rw [ho]; done) | (rw [ho]; rfl)) (by rfl) (by first | rfl | (rw [ho]; done) | (rw [ho]; rfl)) ?_); (try rw [← ho]); generalize hr : bareR _ = r; (try rw [ho] at hr); (try dsimp only [Ar.real, IX.vo] at hr); (try simp only [QB5] at hr); cbv) | (refine hK _ _ ?_) | (refine NeedT.mk ?_ ?_))
  iterate 8
    · refine .b ?_
      ((try clear hR3); (try clear hR2); (try clear hR); (try clear hK); (try simp only [ncCast] at *); (try simp only [castI_eq] at *))
      symm
      rw [BX.val, Bool.eq_false_iff]
      intro h
      simp only [Bool.and_eq_true, decide_eq_true_eq, hLO] at h
      omega
  have hLO1 : LO = true := hLO.2 (by ((try clear hR3); (try clear hR2); (try clear hR); (try clear hK); (try simp only [ncCast] at *); (try simp only [castI_eq] at *)); omega)
  refine LoopN.over (o := o) (D := [(13, [(17, 18), (17, 19)])]) ho hm hT (by kernel_rfl) (fun a : Nat => [(55, xn a)]) (fun _ => []) (fun _ => []) (fun a => a ≤ ws.length ∧ ∀ k, k < a → W (ws.getD k default) = true) (fun a => ws.length - a) 0 ⟨by omega, fun k hk => absurd hk (Nat.not_lt_zero k)⟩ ?_ ?_
  · refine ⟨(by cbv), by cbv; repeat' (first | trivial | exact EqX.rfl' | exact EqO.rfl' | apply And.intro | ((try clear hR3); (try clear hR2); (try clear hR); (try clear hK); (try simp only [ncCast] at *); (try simp only [castI_eq] at *); refine EqX.i ?_; (try rw [ho]); (try dsimp only [Ar.real, IX.vo, IX.val, BX.val, IX.toN]); (try simp only [QB5]); (repeat rw [wrap_i64 (by omega) (by omega)]); omega)), by cbv; repeat' (first | trivial | exact EqO.rfl' | apply And.intro), by cbv; repeat' (first | trivial | exact EqO.rfl' | apply And.intro)⟩
  · rintro i ⟨hi, hlt⟩ R hR
    have hs := hsum i
    have hv := hbare i
    have hh := hholds i
    have hw1 := hw i
    have en : o.nth ws i = ws.getD i default := by rw [ho, real_nth]
    rw [← en, ← ho] at hv hs
    rw [← ho] at hh
    cbv
    repeat' (first | (refine Br.mk (fun hb => ?_) (fun hb => ?_) <;> ((try rw [ho] at hb); (try dsimp only [Ar.real, IX.vo] at hb); (try simp only [QB5] at hb); (try simp only [QBo, beq_iff_eq, beq_eq_false_iff_ne, ne_eq] at hb))) | (refine StopN.mk ?_; cbv) | ((first | refine CallN.pure hP hv fn206 rfl rfl rfl ?_ | refine CallN.pure hP hs fn122 rfl rfl rfl ?_ | refine CallN.pure hP hh fn83 rfl rfl rfl ?_); cbv) | ((first | refine CallI.pure hP (x_sumsHolds _ _) fn83 (by first | rfl | (rw [ho]; done) | (rw [ho]; rfl)) (by rfl) (by first | rfl | (rw [ho]; done) | (rw [ho]; rfl)) ?_ | refine CallN.pure hP (x_sumsHolds _ _) fn83 (by first | rfl | (rw [ho]; done) | (rw [ho]; rfl)) (by rfl) (by first | rfl | (rw [ho]; done) | (rw [ho]; rfl)) ?_); (try rw [← ho]); generalize hr : sumsHolds _ _ = r; (try rw [ho] at hr); (try dsimp only [Ar.real, IX.vo] at hr); (try simp only [QB5] at hr); cbv) | ((first | refine CallI.pure hP (x_sumsOf _ ‹_›) fn122 (by first | rfl | (rw [ho]; done) | (rw [ho]; rfl)) (by rfl) (by first | rfl | (rw [ho]; done) | (rw [ho]; rfl)) ?_ | refine CallN.pure hP (x_sumsOf _ ‹_›) fn122 (by first | rfl | (rw [ho]; done) | (rw [ho]; rfl)) (by rfl) (by first | rfl | (rw [ho]; done) | (rw [ho]; rfl)) ?_); (try rw [← ho]); generalize hr : sumsOf _ = r; (try rw [ho] at hr); (try dsimp only [Ar.real, IX.vo] at hr); (try simp only [QB5] at hr); cbv) | ((first | refine CallI.pure hP (x_total _ ‹_›) fn205 (by first | rfl | (rw [ho]; done) | (rw [ho]; rfl)) (by rfl) (by first | rfl | (rw [ho]; done) | (rw [ho]; rfl)) ?_ | refine CallN.pure hP (x_total _ ‹_›) fn205 (by first | rfl | (rw [ho]; done) | (rw [ho]; rfl)) (by rfl) (by first | rfl | (rw [ho]; done) | (rw [ho]; rfl)) ?_); (try rw [← ho]); generalize hr : totR _ = r; (try rw [ho] at hr); (try dsimp only [Ar.real, IX.vo] at hr); (try simp only [QB5] at hr); cbv) | ((first | refine CallI.pure hP (x_bare _ ‹_›) fn206 (by first | rfl | (rw [ho]; done) | (rw [ho]; rfl)) (by rfl) (by first | rfl | (rw [ho]; done) | (rw [ho]; rfl)) ?_ | refine CallN.pure hP (x_bare _ ‹_›) fn206 (by first | rfl | (rw [ho]; done) | (rw [ho]; rfl)) (by rfl) (by first | rfl | (rw [ho]; done) | (rw [ho]; rfl)) ?_); (try rw [← ho]); generalize hr : bareR _ = r; (try rw [ho] at hr); (try dsimp only [Ar.real, IX.vo] at hr); (try simp only [QB5] at hr); cbv) | (refine hK _ _ ?_) | (refine NeedT.mk ?_ ?_))
    any_goals (((try clear hR3); (try clear hR2); (try clear hR); (try clear hK); (try simp only [ncCast] at *); (try simp only [castI_eq] at *); (try rw [ho]); (try dsimp only [Ar.real, IX.vo, IX.val, BX.val, IX.toN]); (try simp only [QB5]); (try simp only [decide_eq_true_eq]); (all_goals (repeat rw [wrap_i64 (by omega) (by omega)])); (all_goals (first | omega | (simp only [Int.ofNat_eq_natCast]; omega)))); done)
    iterate 4
      · refine .b ?_
        ((try clear hR3); (try clear hR2); (try clear hR); (try clear hK); (try simp only [ncCast] at *); (try simp only [castI_eq] at *))
        symm
        rw [BX.val, Bool.eq_false_iff]
        intro h
        simp only [Bool.and_eq_true, decide_eq_true_eq] at h
        have h5 := hall.1 h.2.2.2 i (by omega)
        rw [hw1] at h5
        simp only [Bool.and_eq_true, decide_eq_true_eq] at h5
        first | omega | simp_all
    · have hwi : W (ws.getD i default) = true := by
        rw [hw1, Bool.and_eq_true, Bool.and_eq_true, decide_eq_true_eq]
        exact ⟨by assumption, ⟨by assumption, by assumption⟩, by assumption⟩
      refine hR _ (i + 1) (by show ws.length - (i + 1) < ws.length - i; ((try clear hR3); (try clear hR2); (try clear hR); (try clear hK); (try simp only [ncCast] at *); (try simp only [castI_eq] at *)); omega) ⟨by show i + 1 ≤ ws.length; ((try clear hR3); (try clear hR2); (try clear hR); (try clear hK); (try simp only [ncCast] at *); (try simp only [castI_eq] at *)); omega, fun k hk => ?_⟩ ?_
      · rcases Nat.lt_or_ge k i with h | h
        · exact hlt k h
        · obtain rfl : k = i := by
            have hk' : k < i + 1 := hk
            clear hk
            ((try clear hR3); (try clear hR2); (try clear hR); (try clear hK); (try simp only [ncCast] at *); (try simp only [castI_eq] at *))
            omega
          exact hwi
      · refine ⟨(by cbv), by cbv; repeat' (first | trivial | exact EqX.rfl' | exact EqO.rfl' | apply And.intro | ((try clear hR3); (try clear hR2); (try clear hR); (try clear hK); (try simp only [ncCast] at *); (try simp only [castI_eq] at *); refine EqX.i ?_; (try rw [ho]); (try dsimp only [Ar.real, IX.vo, IX.val, BX.val, IX.toN]); (try simp only [QB5]); (repeat rw [wrap_i64 (by omega) (by omega)]); omega)), by cbv; repeat' (first | trivial | exact EqO.rfl' | apply And.intro), by cbv; repeat' (first | trivial | exact EqO.rfl' | apply And.intro)⟩
    · obtain rfl : i = ws.length := by ((try clear hR3); (try clear hR2); (try clear hR); (try clear hK); (try simp only [ncCast] at *); (try simp only [castI_eq] at *)); omega
      have hA : A = true := hall.2 hlt
      refine .b ?_
      have h16 : 1 ≤ l.length ∧ l.length ≤ 16 ∧ 1 ≤ ws.length ∧ ws.length ≤ 32 := by ((try clear hR3); (try clear hR2); (try clear hR); (try clear hK); (try simp only [ncCast] at *); (try simp only [castI_eq] at *)); omega
      have ht2 : tt.2 = true := by assumption
      rw [hA, hLO1, ht2, decide_eq_true h16]
      rfl
end Go.Proofs.Ytddgcegimmcbgaa.Sy

/-
  Bounds and checks of profiles: contracts. Plain theorems.
-/
set_option linter.unusedSectionVars false
namespace Go.Proofs.Ytddgcegimmcbgaa.Sy
open Go Go.Sy Go.Proofs.Ytddgcegimmcbgaa
set_option maxRecDepth 100000
set_option maxHeartbeats 8000000
set_option linter.unusedVariables false
set_option linter.unusedSimpArgs false

def bndW (a : List Part) (ws : List Want) (n : Int) : Nat → Int
  | 0 => n
  | k + 1 => min 9007199254740992 (bndW a ws n k + sumsMany (sumsOf a) (sumsOf (ws.getD k default).need))
def bndA (l : List (List Part)) (ws : List Want) : Nat → Int
  | 0 => (l.length : Int) * ws.length
  | i + 1 => bndW (l.getD i default) ws (bndA l ws i) ws.length
def boundR (p : Prof) : Int := if fineR p = true then bndA p.ags p.wants p.ags.length else 0
theorem minQ_le {m a b : Int} : minQ m a b ≤ m := by
  unfold minQ
  split <;> omega
theorem minQ_nonneg {m a b : Int} (hm : 0 ≤ m) (ha : 0 ≤ a ∧ a ≤ 1152921504606846976) : 0 ≤ minQ m a b := by
  unfold minQ
  split
  · rename_i h
    rw [Int.tdiv_eq_ediv_of_nonneg ha.1]
    have h1 := Int.ediv_nonneg ha.1 (Int.le_of_lt h)
    have h2 := Int.ediv_le_self b ha.1
    rw [wrap_i64 (by omega) (by omega)]
    omega
  · exact hm
theorem sumsMany_bd (s t : S4) : 0 ≤ sumsMany s t ∧ sumsMany s t ≤ 1152921504606846976 := by
  unfold sumsMany
  split
  · rename_i h
    have h1 := (sumsRight_iff s).1 h.1
    constructor
    · exact minQ_nonneg (minQ_nonneg (minQ_nonneg (minQ_nonneg (by omega) h1.1) h1.2.1) h1.2.2.1) h1.2.2.2
    · exact Int.le_trans minQ_le (Int.le_trans minQ_le (Int.le_trans minQ_le minQ_le))
  · omega
theorem bndW_bd {a : List Part} {ws : List Want} {n : Int} (hn : 0 ≤ n ∧ n ≤ 9007199254740992) : ∀ k, 0 ≤ bndW a ws n k ∧ bndW a ws n k ≤ 9007199254740992
  | 0 => hn
  | k + 1 => by
    have h1 := bndW_bd (a := a) (ws := ws) hn k
    have h2 := sumsMany_bd (sumsOf a) (sumsOf (ws.getD k default).need)
    simp only [bndW]
    omega
theorem bndA_bd {l : List (List Part)} {ws : List Want} (h : l.length ≤ 16 ∧ ws.length ≤ 32) : ∀ k, 0 ≤ bndA l ws k ∧ bndA l ws k ≤ 9007199254740992
  | 0 => by
    simp only [bndA]
    have h1 : (l.length : Int) * ws.length ≤ 16 * 32 := Int.mul_le_mul (by omega) (by omega) (by omega) (by omega)
    have h2 : (0 : Int) ≤ (l.length : Int) * ws.length := Int.mul_nonneg (by omega) (by omega)
    omega
  | k + 1 => by
    simp only [bndA]
    exact bndW_bd (bndA_bd h k) _
theorem fine_len {p : Prof} (h : fineR p = true) : p.ags.length ≤ 16 ∧ p.wants.length ≤ 32 := by
  unfold fineR at h
  simp only [Bool.and_eq_true, decide_eq_true_eq] at h
  omega
theorem x_Bound (p : Prof) (hp : ProfOk p) : XC Try.prog 179 [.agg (Prof.X Ar.real p)] [] (xi (boundR p)) [] := by
  have hf := x_fine p hp
  have hsa := fun k => x_sumsOf (p.ags.getD k default) (hp.a k)
  have hsw := fun k => x_sumsOf (p.wants.getD k default).need (hp.w k)
  have hlen := fine_len (p := p)
  unfold boundR
  generalize fineR p = F at *
  obtain ⟨l, ws, lo⟩ := p
  obtain ⟨hl, hws, hla, hwa⟩ := hp
  dsimp only at *
  obtain ⟨a0, b0, c0, d0⟩ := lo
  cases F with
  | false =>
    (refine XC.of_body ([(10, [(2, 3), (2, 4)])]) Try.func179 rfl Try.ntmps179 mixed (T := [(2, ti2), (3, ti3), (4, ti4), (31, ti31), (42, ti42), (52, ti52), (57, ti57), (75, ti75), (123, ti123), (132, ti132)]) (.cons tok2 (.cons tok3 (.cons tok4 (.cons tok31 (.cons tok42 (.cons tok52 (.cons tok57 (.cons tok75 (.cons tok123 (.cons tok132 .nil)))))))))) (by kernel_rfl) (by simp) rfl rfl rfl rfl rfl ?_; rintro o ho P hP c K hK; have hm : P.follows .mixedOrders = true := hP ▸ mixed; have hT : TOk P [(2, ti2), (3, ti3), (4, ti4), (31, ti31), (42, ti42), (52, ti52), (57, ti57), (75, ti75), (123, ti123), (132, ti132)] := hP ▸ (.cons tok2 (.cons tok3 (.cons tok4 (.cons tok31 (.cons tok42 (.cons tok52 (.cons tok57 (.cons tok75 (.cons tok123 (.cons tok132 .nil)))))))))); (try rw [← ho]); cbv; (repeat (refine StopN.mk ?_; cbv)))
    rw [← ho] at hf
    repeat' (first | (refine Br.mk (fun hb => ?_) (fun hb => ?_) <;> ((try rw [ho] at hb); (try dsimp only [Ar.real, IX.vo] at hb); (try simp only [QB5] at hb); (try simp only [QBo, beq_iff_eq, beq_eq_false_iff_ne, ne_eq] at hb))) | (refine StopN.mk ?_; cbv) | ((first | refine CallI.pure hP hf fn178 rfl rfl rfl ?_ | refine CallN.pure hP hf fn178 rfl rfl rfl ?_); cbv) | ((first | refine CallI.pure hP (x_sumsOf _ ‹_›) fn122 (by first | rfl | (rw [ho]; done) | (rw [ho]; rfl)) (by rfl) (by first | rfl | (rw [ho]; done) | (rw [ho]; rfl)) ?_ | refine CallN.pure hP (x_sumsOf _ ‹_›) fn122 (by first | rfl | (rw [ho]; done) | (rw [ho]; rfl)) (by rfl) (by first | rfl | (rw [ho]; done) | (rw [ho]; rfl)) ?_); (try rw [← ho]); generalize hr : sumsOf _ = r; (try rw [ho] at hr); (try dsimp only [Ar.real, IX.vo] at hr); (try simp only [QB5] at hr); cbv) | ((first | refine CallI.pure hP (x_fine _ ‹_›) fn178 (by first | rfl | (rw [ho]; done) | (rw [ho]; rfl)) (by rfl) (by first | rfl | (rw [ho]; done) | (rw [ho]; rfl)) ?_ | refine CallN.pure hP (x_fine _ ‹_›) fn178 (by first | rfl | (rw [ho]; done) | (rw [ho]; rfl)) (by rfl) (by first | rfl | (rw [ho]; done) | (rw [ho]; rfl)) ?_); (try rw [← ho]); generalize hr : fineR _ = r; (try rw [ho] at hr); (try dsimp only [Ar.real, IX.vo] at hr); (try simp only [QB5] at hr); cbv) | ((first | refine CallI.pure hP (x_sumsMany _ _) fn207 (by first | rfl | (rw [ho]; done) | (rw [ho]; rfl)) (by rfl) (by first | rfl | (rw [ho]; done) | (rw [ho]; rfl)) ?_ | refine CallN.pure hP (x_sumsMany _ _) fn207 (by first | rfl | (rw [ho]; done) | (rw [ho]; rfl)) (by rfl) (by first | rfl | (rw [ho]; done) | (rw [ho]; rfl)) ?_); (try rw [← ho]); generalize hr : sumsMany _ _ = r; (try rw [ho] at hr); (try dsimp only [Ar.real, IX.vo] at hr); (try simp only [QB5] at hr); cbv) | (refine hK _ _ ?_) | (refine NeedT.mk ?_ ?_))
    all_goals first
      | exact absurd ‹false = true› (by decide)
      | exact .i rfl
  | true =>
    have hlen := hlen rfl
    have hbd := bndA_bd hlen
    have hM0 : bndA l ws 0 = (l.length : Int) * ws.length := rfl
    have hM1 : ∀ i, bndA l ws (i + 1) = bndW (l.getD i default) ws (bndA l ws i) ws.length := fun _ => rfl
    rw [if_pos rfl]
    generalize bndA l ws = M at *
    have hbL : (l.length : Int) * ws.length ≤ 16 * 32 := Int.mul_le_mul (by omega) (by omega) (by omega) (by omega)
    have hbL0 : (0 : Int) ≤ (l.length : Int) * ws.length := Int.mul_nonneg (by omega) (by omega)
    (refine XC.of_body ([(10, [(2, 3), (2, 4)])]) Try.func179 rfl Try.ntmps179 mixed (T := [(2, ti2), (3, ti3), (4, ti4), (31, ti31), (42, ti42), (52, ti52), (57, ti57), (75, ti75), (123, ti123), (132, ti132)]) (.cons tok2 (.cons tok3 (.cons tok4 (.cons tok31 (.cons tok42 (.cons tok52 (.cons tok57 (.cons tok75 (.cons tok123 (.cons tok132 .nil)))))))))) (by kernel_rfl) (by simp) rfl rfl rfl rfl rfl ?_; rintro o ho P hP c K hK; have hm : P.follows .mixedOrders = true := hP ▸ mixed; have hT : TOk P [(2, ti2), (3, ti3), (4, ti4), (31, ti31), (42, ti42), (52, ti52), (57, ti57), (75, ti75), (123, ti123), (132, ti132)] := hP ▸ (.cons tok2 (.cons tok3 (.cons tok4 (.cons tok31 (.cons tok42 (.cons tok52 (.cons tok57 (.cons tok75 (.cons tok123 (.cons tok132 .nil)))))))))); (try rw [← ho]); cbv; (repeat (refine StopN.mk ?_; cbv)))
    rw [← ho] at hf
    repeat' (first | (refine Br.mk (fun hb => ?_) (fun hb => ?_) <;> ((try rw [ho] at hb); (try dsimp only [Ar.real, IX.vo] at hb); (try simp only [QB5] at hb); (try simp only [QBo, beq_iff_eq, beq_eq_false_iff_ne, ne_eq] at hb))) | (refine StopN.mk ?_; cbv) | ((first | refine CallI.pure hP hf fn178 rfl rfl rfl ?_ | refine CallN.pure hP hf fn178 rfl rfl rfl ?_); cbv) | ((first | refine CallI.pure hP (x_sumsOf _ ‹_›) fn122 (by first | rfl | (rw [ho]; done) | (rw [ho]; rfl)) (by rfl) (by first | rfl | (rw [ho]; done) | (rw [ho]; rfl)) ?_ | refine CallN.pure hP (x_sumsOf _ ‹_›) fn122 (by first | rfl | (rw [ho]; done) | (rw [ho]; rfl)) (by rfl) (by first | rfl | (rw [ho]; done) | (rw [ho]; rfl)) ?_); (try rw [← ho]); generalize hr : sumsOf _ = r; (try rw [ho] at hr); (try dsimp only [Ar.real, IX.vo] at hr); (try simp only [QB5] at hr); cbv) | ((first | refine CallI.pure hP (x_fine _ ‹_›) fn178 (by first | rfl | (rw [ho]; done) | (rw [ho]; rfl)) (by rfl) (by first | rfl | (rw [ho]; done) | (rw [ho]; rfl)) ?_ | refine CallN.pure hP (x_fine _ ‹_›) fn178 (by first | rfl | (rw [ho]; done) | (rw [ho]; rfl)) (by rfl) (by first | rfl | (rw [ho]; done) | (rw [ho]; rfl)) ?_); (try rw [← ho]); generalize hr : fineR _ = r; (try rw [ho] at hr); (try dsimp only [Ar.real, IX.vo] at hr); (try simp only [QB5] at hr); cbv) | ((first | refine CallI.pure hP (x_sumsMany _ _) fn207 (by first | rfl | (rw [ho]; done) | (rw [ho]; rfl)) (by rfl) (by first | rfl | (rw [ho]; done) | (rw [ho]; rfl)) ?_ | refine CallN.pure hP (x_sumsMany _ _) fn207 (by first | rfl | (rw [ho]; done) | (rw [ho]; rfl)) (by rfl) (by first | rfl | (rw [ho]; done) | (rw [ho]; rfl)) ?_); (try rw [← ho]); generalize hr : sumsMany _ _ = r; (try rw [ho] at hr); (try dsimp only [Ar.real, IX.vo] at hr); (try simp only [QB5] at hr); cbv) | (refine hK _ _ ?_) | (refine NeedT.mk ?_ ?_))
    · exact absurd ‹true = false› (by decide)
    refine LoopN.over (o := o) (D := [(10, [(2, 3), (2, 4)])]) ho hm hT (by kernel_rfl) (fun a : Nat => [(21, xn a), (3, xi (M a))]) (fun _ => []) (fun _ => []) (fun a => a ≤ l.length) (fun a => l.length - a) 0 (Nat.zero_le _) ?_ ?_
    · refine ⟨(by cbv), by cbv; repeat' (first | trivial | exact EqX.rfl' | exact EqO.rfl' | apply And.intro | ((try clear hR3); (try clear hR2); (try clear hR); (try clear hK); (try simp only [ncCast] at *); (try simp only [castI_eq] at *); refine EqX.i ?_; (try rw [ho]); (try dsimp only [Ar.real, IX.vo, IX.val, BX.val, IX.toN]); (try simp only [QB5]); (repeat rw [wrap_i64 (by omega) (by omega)]); omega) | (refine EqX.i ?_; rw [hM0]; (rw [ho]; (try dsimp only [Ar.real, IX.vo, IX.val]); (try simp only [castI_eq]); (repeat rw [wrap_i64 (by omega) (by omega)])); rfl)), by cbv; repeat' (first | trivial | exact EqO.rfl' | apply And.intro | (refine EqX.i ?_; rw [hM0]; (rw [ho]; (try dsimp only [Ar.real, IX.vo, IX.val]); (try simp only [castI_eq]); (repeat rw [wrap_i64 (by omega) (by omega)])); rfl)), by cbv; repeat' (first | trivial | exact EqO.rfl' | apply And.intro | (refine EqX.i ?_; rw [hM0]; (rw [ho]; (try dsimp only [Ar.real, IX.vo, IX.val]); (try simp only [castI_eq]); (repeat rw [wrap_i64 (by omega) (by omega)])); rfl))⟩
    · rintro i hi R hR
      have e1 := hM1 i
      have hb1 := hbd i
      have hN0 : bndW (l.getD i default) ws (M i) 0 = M i := rfl
      have hN1 : ∀ k, bndW (l.getD i default) ws (M i) (k + 1) = min 9007199254740992 (bndW (l.getD i default) ws (M i) k + sumsMany (sumsOf (l.getD i default)) (sumsOf (ws.getD k default).need)) := fun _ => rfl
      have hNb := bndW_bd (a := l.getD i default) (ws := ws) (n := M i) hb1
      generalize bndW (l.getD i default) ws (M i) = N at *
      have hs := hsa i
      have en : o.nth l i = l.getD i default := by rw [ho, real_nth]
      generalize sumsOf (l.getD i default) = sv at *
      rw [← en, ← ho] at hs
      cbv
      repeat' (first | (refine Br.mk (fun hb => ?_) (fun hb => ?_) <;> ((try rw [ho] at hb); (try dsimp only [Ar.real, IX.vo] at hb); (try simp only [QB5] at hb); (try simp only [QBo, beq_iff_eq, beq_eq_false_iff_ne, ne_eq] at hb))) | (refine StopN.mk ?_; cbv) | ((first | refine CallI.pure hP (x_sumsOf _ ‹_›) fn122 (by first | rfl | (rw [ho]; done) | (rw [ho]; rfl)) (by rfl) (by first | rfl | (rw [ho]; done) | (rw [ho]; rfl)) ?_ | refine CallN.pure hP (x_sumsOf _ ‹_›) fn122 (by first | rfl | (rw [ho]; done) | (rw [ho]; rfl)) (by rfl) (by first | rfl | (rw [ho]; done) | (rw [ho]; rfl)) ?_); (try rw [← ho]); generalize hr : sumsOf _ = r; (try rw [ho] at hr); (try dsimp only [Ar.real, IX.vo] at hr); (try simp only [QB5] at hr); cbv) | ((first | refine CallI.pure hP (x_fine _ ‹_›) fn178 (by first | rfl | (rw [ho]; done) | (rw [ho]; rfl)) (by rfl) (by first | rfl | (rw [ho]; done) | (rw [ho]; rfl)) ?_ | refine CallN.pure hP (x_fine _ ‹_›) fn178 (by first | rfl | (rw [ho]; done) | (rw [ho]; rfl)) (by rfl) (by first | rfl | (rw [ho]; done) | (rw [ho]; rfl)) ?_); (try rw [← ho]); generalize hr : fineR _ = r; (try rw [ho] at hr); (try dsimp only [Ar.real, IX.vo] at hr); (try simp only [QB5] at hr); cbv) | ((first | refine CallI.pure hP (x_sumsMany _ _) fn207 (by first | rfl | (rw [ho]; done) | (rw [ho]; rfl)) (by rfl) (by first | rfl | (rw [ho]; done) | (rw [ho]; rfl)) ?_ | refine CallN.pure hP (x_sumsMany _ _) fn207 (by first | rfl | (rw [ho]; done) | (rw [ho]; rfl)) (by rfl) (by first | rfl | (rw [ho]; done) | (rw [ho]; rfl)) ?_); (try rw [← ho]); generalize hr : sumsMany _ _ = r; (try rw [ho] at hr); (try dsimp only [Ar.real, IX.vo] at hr); (try simp only [QB5] at hr); cbv) | (refine hK _ _ ?_) | (refine NeedT.mk ?_ ?_))
      any_goals (((try clear hR3); (try clear hR2); (try clear hR); (try clear hK); (try simp only [ncCast] at *); (try simp only [castI_eq] at *); (try rw [ho]); (try dsimp only [Ar.real, IX.vo, IX.val, BX.val, IX.toN]); (try simp only [QB5]); (try simp only [decide_eq_true_eq]); (all_goals (repeat rw [wrap_i64 (by omega) (by omega)])); (all_goals (first | omega | (simp only [Int.ofNat_eq_natCast]; omega)))); done)
      · refine LoopN.over (o := o) (D := [(10, [(2, 3), (2, 4)])]) ho hm hT (by kernel_rfl) (fun a : Nat => [(28, xn a), (3, xi (N a))]) (fun _ => []) (fun _ => []) (fun a => a ≤ ws.length) (fun a => ws.length - a) 0 (Nat.zero_le _) ?_ ?_
        · refine ⟨(by cbv), by cbv; repeat' (first | trivial | exact EqX.rfl' | exact EqO.rfl' | apply And.intro | ((try clear hR3); (try clear hR2); (try clear hR); (try clear hK); (try simp only [ncCast] at *); (try simp only [castI_eq] at *); refine EqX.i ?_; (try rw [ho]); (try dsimp only [Ar.real, IX.vo, IX.val, BX.val, IX.toN]); (try simp only [QB5]); (repeat rw [wrap_i64 (by omega) (by omega)]); omega) | (refine EqX.i ?_; rw [hN0])), by cbv; repeat' (first | trivial | exact EqO.rfl' | apply And.intro | (refine EqX.i ?_; rw [hN0])), by cbv; repeat' (first | trivial | exact EqO.rfl' | apply And.intro | (refine EqX.i ?_; rw [hN0]))⟩
        · rintro k hk R' hR'
          have e3 := hN1 k
          have hb2 := hNb k
          have hs2 := hsw k
          have hm := x_sumsMany sv (sumsOf (ws.getD k default).need)
          have hm2 := sumsMany_bd sv (sumsOf (ws.getD k default).need)
          have en2 : o.nth ws k = ws.getD k default := by rw [ho, real_nth]
          generalize sumsOf (ws.getD k default).need = tv at *
          generalize sumsMany sv tv = q at *
          rw [← en2, ← ho] at hs2
          rw [← ho] at hm
          cbv
          repeat' (first | (refine Br.mk (fun hb => ?_) (fun hb => ?_) <;> ((try rw [ho] at hb); (try dsimp only [Ar.real, IX.vo] at hb); (try simp only [QB5] at hb); (try simp only [QBo, beq_iff_eq, beq_eq_false_iff_ne, ne_eq] at hb))) | (refine StopN.mk ?_; cbv) | ((first | refine CallN.pure hP hs fn122 rfl rfl rfl ?_ | refine CallN.pure hP hs2 fn122 rfl rfl rfl ?_ | refine CallN.pure hP hm fn207 rfl rfl rfl ?_); cbv) | ((first | refine CallI.pure hP (x_sumsOf _ ‹_›) fn122 (by first | rfl | (rw [ho]; done) | (rw [ho]; rfl)) (by rfl) (by first | rfl | (rw [ho]; done) | (rw [ho]; rfl)) ?_ | refine CallN.pure hP (x_sumsOf _ ‹_›) fn122 (by first | rfl | (rw [ho]; done) | (rw [ho]; rfl)) (by rfl) (by first | rfl | (rw [ho]; done) | (rw [ho]; rfl)) ?_); (try rw [← ho]); generalize hr : sumsOf _ = r; (try rw [ho] at hr); (try dsimp only [Ar.real, IX.vo] at hr); (try simp only [QB5] at hr); cbv) | ((first | refine CallI.pure hP (x_fine _ ‹_›) fn178 (by first | rfl | (rw [ho]; done) | (rw [ho]; rfl)) (by rfl) (by first | rfl | (rw [ho]; done) | (rw [ho]; rfl)) ?_ | refine CallN.pure hP (x_fine _ ‹_›) fn178 (by first | rfl | (rw [ho]; done) | (rw [ho]; rfl)) (by rfl) (by first | rfl | (rw [ho]; done) | (rw [ho]; rfl)) ?_); (try rw [← ho]); generalize hr : fineR _ = r; (try rw [ho] at hr); (try dsimp only [Ar.real, IX.vo] at hr); (try simp only [QB5] at hr); cbv) | ((first | refine CallI.pure hP (x_sumsMany _ _) fn207 (by first | rfl | (rw [ho]; done) | (rw [ho]; rfl)) (by rfl) (by first | rfl | (rw [ho]; done) | (rw [ho]; rfl)) ?_ | refine CallN.pure hP (x_sumsMany _ _) fn207 (by first | rfl | (rw [ho]; done) | (rw [ho]; rfl)) (by rfl) (by first | rfl | (rw [ho]; done) | (rw [ho]; rfl)) ?_); (try rw [← ho]); generalize hr : sumsMany _ _ = r; (try rw [ho] at hr); (try dsimp only [Ar.real, IX.vo] at hr); (try simp only [QB5] at hr); cbv) | (refine hK _ _ ?_) | (refine NeedT.mk ?_ ?_))
          any_goals (((try clear hR3); (try clear hR2); (try clear hR); (try clear hK); (try simp only [ncCast] at *); (try simp only [castI_eq] at *); (try rw [ho]); (try dsimp only [Ar.real, IX.vo, IX.val, BX.val, IX.toN]); (try simp only [QB5]); (try simp only [decide_eq_true_eq]); (all_goals (repeat rw [wrap_i64 (by omega) (by omega)])); (all_goals (first | omega | (simp only [Int.ofNat_eq_natCast]; omega)))); done)
          · refine hR' _ (k + 1) (by show ws.length - (k + 1) < ws.length - k; ((try clear hR3); (try clear hR2); (try clear hR); (try clear hK); (try simp only [ncCast] at *); (try simp only [castI_eq] at *)); omega) (by show k + 1 ≤ ws.length; ((try clear hR3); (try clear hR2); (try clear hR); (try clear hK); (try simp only [ncCast] at *); (try simp only [castI_eq] at *)); omega) ?_
            refine ⟨(by cbv), by cbv; repeat' (first | trivial | exact EqX.rfl' | exact EqO.rfl' | apply And.intro | ((try clear hR3); (try clear hR2); (try clear hR); (try clear hK); (try simp only [ncCast] at *); (try simp only [castI_eq] at *); refine EqX.i ?_; (try rw [ho]); (try dsimp only [Ar.real, IX.vo, IX.val, BX.val, IX.toN]); (try simp only [QB5]); (repeat rw [wrap_i64 (by omega) (by omega)]); omega)), by cbv; repeat' (first | trivial | exact EqO.rfl' | apply And.intro), by cbv; repeat' (first | trivial | exact EqO.rfl' | apply And.intro)⟩
          · obtain rfl : k = ws.length := by ((try clear hR3); (try clear hR2); (try clear hR); (try clear hK); (try simp only [ncCast] at *); (try simp only [castI_eq] at *)); omega
            refine hR _ (i + 1) (by show l.length - (i + 1) < l.length - i; ((try clear hR3); (try clear hR2); (try clear hR); (try clear hK); (try simp only [ncCast] at *); (try simp only [castI_eq] at *)); omega) (by show i + 1 ≤ l.length; ((try clear hR3); (try clear hR2); (try clear hR); (try clear hK); (try simp only [ncCast] at *); (try simp only [castI_eq] at *)); omega) ?_
            refine ⟨(by cbv), by cbv; repeat' (first | trivial | exact EqX.rfl' | exact EqO.rfl' | apply And.intro | ((try clear hR3); (try clear hR2); (try clear hR); (try clear hK); (try simp only [ncCast] at *); (try simp only [castI_eq] at *); refine EqX.i ?_; (try rw [ho]); (try dsimp only [Ar.real, IX.vo, IX.val, BX.val, IX.toN]); (try simp only [QB5]); (repeat rw [wrap_i64 (by omega) (by omega)]); omega) | (refine EqX.i ?_; rw [e1])), by cbv; repeat' (first | trivial | exact EqO.rfl' | apply And.intro | (refine EqX.i ?_; rw [e1])), by cbv; repeat' (first | trivial | exact EqO.rfl' | apply And.intro | (refine EqX.i ?_; rw [e1]))⟩
      · obtain rfl : i = l.length := by ((try clear hR3); (try clear hR2); (try clear hR); (try clear hK); (try simp only [ncCast] at *); (try simp only [castI_eq] at *)); omega
        exact .i rfl
def checkR (p : Prof) : Int := if fineR p = true then (if 4096 < boundR p then 32 else 0) else 41
theorem x_Check (p : Prof) (hp : ProfOk p) : XC Try.prog 121 [.agg (Prof.X Ar.real p)] [] (xi (checkR p)) [] := by
  have hf := x_fine p hp
  have hb' := x_Bound p hp
  unfold checkR
  generalize fineR p = F at *
  generalize boundR p = B at *
  obtain ⟨l, ws, lo⟩ := p
  obtain ⟨a0, b0, c0, d0⟩ := lo
  (refine XC.of_body ([]) Try.func121 rfl Try.ntmps121 mixed (T := [(2, ti2), (4, ti4), (42, ti42), (52, ti52), (57, ti57), (75, ti75)]) (.cons tok2 (.cons tok4 (.cons tok42 (.cons tok52 (.cons tok57 (.cons tok75 .nil)))))) (by kernel_rfl) (by simp) rfl rfl rfl rfl rfl ?_; rintro o ho P hP c K hK; have hm : P.follows .mixedOrders = true := hP ▸ mixed; have hT : TOk P [(2, ti2), (4, ti4), (42, ti42), (52, ti52), (57, ti57), (75, ti75)] := hP ▸ (.cons tok2 (.cons tok4 (.cons tok42 (.cons tok52 (.cons tok57 (.cons tok75 .nil)))))); (try rw [← ho]); cbv; (repeat (refine StopN.mk ?_; cbv)))
  rw [← ho] at hf hb'
  repeat' (first | (refine Br.mk (fun hb => ?_) (fun hb => ?_) <;> ((try rw [ho] at hb); (try dsimp only [Ar.real, IX.vo] at hb); (try simp only [QB5] at hb); (try simp only [QBo, beq_iff_eq, beq_eq_false_iff_ne, ne_eq] at hb))) | (refine StopN.mk ?_; cbv) | ((first | refine CallI.pure hP hf fn178 rfl rfl rfl ?_ | refine CallI.pure hP hb' fn179 rfl rfl rfl ?_); cbv) | ((first | refine CallI.pure hP (x_fine _ ‹_›) fn178 (by first | rfl | (rw [ho]; done) | (rw [ho]; rfl)) (by rfl) (by first | rfl | (rw [ho]; done) | (rw [ho]; rfl)) ?_ | refine CallN.pure hP (x_fine _ ‹_›) fn178 (by first | rfl | (rw [ho]; done) | (rw [ho]; rfl)) (by rfl) (by first | rfl | (rw [ho]; done) | (rw [ho]; rfl)) ?_); (try rw [← ho]); generalize hr : fineR _ = r; (try rw [ho] at hr); (try dsimp only [Ar.real, IX.vo] at hr); (try simp only [QB5] at hr); cbv) | ((first | refine CallI.pure hP (x_Bound _ ‹_›) fn179 (by first | rfl | (rw [ho]; done) | (rw [ho]; rfl)) (by rfl) (by first | rfl | (rw [ho]; done) | (rw [ho]; rfl)) ?_ | refine CallN.pure hP (x_Bound _ ‹_›) fn179 (by first | rfl | (rw [ho]; done) | (rw [ho]; rfl)) (by rfl) (by first | rfl | (rw [ho]; done) | (rw [ho]; rfl)) ?_); (try rw [← ho]); generalize hr : boundR _ = r; (try rw [ho] at hr); (try dsimp only [Ar.real, IX.vo] at hr); (try simp only [QB5] at hr); cbv) | (refine hK _ _ ?_) | (refine NeedT.mk ?_ ?_))
  all_goals
    refine .i ?_
    ((try clear hR3); (try clear hR2); (try clear hR); (try clear hK); (try simp only [ncCast] at *); (try simp only [castI_eq] at *))
    first
      | (rw [if_neg (by simp_all)]; rfl)
      | (rw [if_pos (by assumption), if_pos (by omega)]; rfl)
      | (rw [if_pos (by assumption), if_neg (by omega)]; rfl)
end Go.Proofs.Ytddgcegimmcbgaa.Sy

/-
  Shares: contracts. Plain theorems.
-/
set_option linter.unusedSectionVars false
namespace Go.Proofs.Ytddgcegimmcbgaa.Sy
open Go Go.Sy Go.Proofs.Ytddgcegimmcbgaa
set_option maxRecDepth 100000
set_option maxHeartbeats 8000000
set_option linter.unusedVariables false
set_option linter.unusedSimpArgs false

structure Shr where
  num : Int
  den : Int
  weight : Int
  deriving DecidableEq
instance : Inhabited Shr := ⟨⟨0, 0, 0⟩⟩
def foldAShr_num (e : Shr) := (by
  have h : PLift (e.num = e.num) := ⟨rfl⟩
  conv at h => arg 1; lhs; delta Shr.num
  exact h)
theorem foldShr_num (e : Shr) : type_of% (foldAShr_num e).down := (foldAShr_num e).down
def foldAShr_den (e : Shr) := (by
  have h : PLift (e.den = e.den) := ⟨rfl⟩
  conv at h => arg 1; lhs; delta Shr.den
  exact h)
theorem foldShr_den (e : Shr) : type_of% (foldAShr_den e).down := (foldAShr_den e).down
def foldAShr_weight (e : Shr) := (by
  have h : PLift (e.weight = e.weight) := ⟨rfl⟩
  conv at h => arg 1; lhs; delta Shr.weight
  exact h)
theorem foldShr_weight (e : Shr) : type_of% (foldAShr_weight e).down := (foldAShr_weight e).down
theorem foldShr : (⟨0, 0, 0⟩ : Shr) = default := rfl
theorem QB7 : type_of% (And.intro @foldShr (And.intro @foldShr_num (And.intro @foldShr_den (And.intro @foldShr_weight (QB5))))) := And.intro @foldShr (And.intro @foldShr_num (And.intro @foldShr_den (And.intro @foldShr_weight (QB5))))
def Shr.X (_ : Ar) (s : Shr) : List X := [xi s.num, xi s.den, xi s.weight]
/-! ### The least ones -/
end Go.Proofs.Ytddgcegimmcbgaa.Sy

/-
  The document's answers: numbers by digits. Plain theorems.
-/
set_option linter.unusedSectionVars false
namespace Go.Proofs.Ytddgcegimmcbgaa.Sy
open Go Go.Sy Go.Proofs.Ytddgcegimmcbgaa
set_option maxRecDepth 100000
set_option maxHeartbeats 8000000
set_option linter.unusedVariables false
set_option linter.unusedSimpArgs false

def dg (x : Int) : Int := IntKind.i64.wrap (x.tmod 65536)
def nq (x : Int) : Int := IntKind.u64.wrap (x.tdiv 65536)
def digsR (hi lo : Int) : List Int := [dg lo, dg (nq lo), dg (nq (nq lo)), dg (nq (nq (nq lo))), dg hi, dg (nq hi), dg (nq (nq hi)), dg (nq (nq (nq hi)))]
theorem x_Digits (hi lo : Int) : XC Try.prog 87 [xu hi, xu lo] [] (.ro (SL Ar.real encI (digsR hi lo))) [] := by
  have hrows := rows_SL Ar.real rfl encI (digsR hi lo)
  have hd : digsR hi lo = [dg lo, dg (nq lo), dg (nq (nq lo)), dg (nq (nq (nq lo))), dg hi, dg (nq hi), dg (nq (nq hi)), dg (nq (nq (nq hi)))] := rfl
  generalize digsR hi lo = ds at *
  (refine XC.of_body ([]) Try.func87 rfl Try.ntmps87 mixed (T := [(3, ti3), (43, ti43), (155, ti155)]) (.cons tok3 (.cons tok43 (.cons tok155 .nil))) (by kernel_rfl) (by simp) rfl rfl rfl rfl rfl ?_; rintro o ho P hP c K hK; have hm : P.follows .mixedOrders = true := hP ▸ mixed; have hT : TOk P [(3, ti3), (43, ti43), (155, ti155)] := hP ▸ (.cons tok3 (.cons tok43 (.cons tok155 .nil))); (try rw [← ho]); cbv; (repeat (refine StopN.mk ?_; cbv)))
  repeat' (first | (refine Br.mk (fun hb => ?_) (fun hb => ?_) <;> ((try rw [ho] at hb); (try dsimp only [Ar.real, IX.vo] at hb); (try simp only [QB7] at hb); (try simp only [QBo, beq_iff_eq, beq_eq_false_iff_ne, ne_eq] at hb))) | (refine StopN.mk ?_; cbv) | (refine hK _ _ ?_) | (refine NeedT.mk ?_ ?_) | (refine LoopN.lay (o := o) (D := []) 5 ho hm hT (by kernel_rfl) ?_; cbv))
  any_goals (((try clear hR3); (try clear hR2); (try clear hR); (try clear hK); (try simp only [ncCast] at *); (try simp only [castI_eq] at *); (try rw [ho]); (try dsimp only [Ar.real, IX.vo, IX.val, BX.val, IX.toN]); (try simp only [QB7]); (try simp only [decide_eq_true_eq]); (all_goals (repeat rw [wrap_i64 (by omega) (by omega)])); (all_goals (first | omega | (simp only [Int.ofNat_eq_natCast]; omega)))); done)
  refine .ro ?_
  have hrows' : (SL Ar.real encI ds).rows = ds.map fun x => X.toCL (encI Ar.real x) := rows_SL Ar.real rfl encI ds
  refine Eq.trans ?_ hrows'.symm
  rw [hd, ho]
  rfl
def lessTo (a b : List Int) : Nat → Bool
  | 0 => false
  | n + 1 => if a.getD n 0 = b.getD n 0 then lessTo a b n else decide (a.getD n 0 < b.getD n 0)
structure StE where
  n : Nat
  i : Int
structure InE (a b : List Int) (s : StE) : Prop where
  n : s.n ≤ a.length
  i : s.i = (s.n : Int) - 1
  to : lessTo a b s.n = lessTo a b a.length
theorem x_Less (a b : List Int) (ha : a.length ≤ 1048576) (hab : a.length = b.length) : XC Try.prog 88 [.ro (SL Ar.real encI a), .ro (SL Ar.real encI b)] [] (xb (lessTo a b a.length)) [] := by
  obtain ⟨res, hres⟩ : ∃ q, q = lessTo a b a.length := ⟨_, rfl⟩
  rw [← hres]
  obtain ⟨i0, hi0⟩ : ∃ q, q = (a.length : Int) - 1 := ⟨_, rfl⟩
  have h0 : InE a b ⟨a.length, i0⟩ := ⟨Nat.le_refl _, hi0, rfl⟩
  (refine XC.of_body ([(4, []), (5, [])]) Try.func88 rfl Try.ntmps88 mixed (T := [(3, ti3), (43, ti43)]) (.cons tok3 (.cons tok43 .nil)) (by kernel_rfl) (by simp) rfl rfl rfl rfl rfl ?_; rintro o ho P hP c K hK; have hm : P.follows .mixedOrders = true := hP ▸ mixed; have hT : TOk P [(3, ti3), (43, ti43)] := hP ▸ (.cons tok3 (.cons tok43 .nil)); (try rw [← ho]); cbv; (repeat (refine StopN.mk ?_; cbv)))
  refine LoopN.over (o := o) (D := [(4, []), (5, [])]) ho hm hT (by kernel_rfl) (fun s : StE => [(5, xi s.i)]) (fun _ => []) (fun _ => []) (InE a b) (fun s => s.n) ⟨a.length, i0⟩ h0 ?_ ?_
  · refine ⟨(by cbv), by cbv; repeat' (first | trivial | exact EqX.rfl' | exact EqO.rfl' | apply And.intro | ((try clear hR3); (try clear hR2); (try clear hR); (try clear hK); (try simp only [ncCast] at *); (try simp only [castI_eq] at *); refine EqX.i ?_; (try rw [ho]); (try dsimp only [Ar.real, IX.vo, IX.val, BX.val, IX.toN]); (try simp only [QB7]); (repeat rw [wrap_i64 (by omega) (by omega)]); omega)), by cbv; repeat' (first | trivial | exact EqO.rfl' | apply And.intro), by cbv; repeat' (first | trivial | exact EqO.rfl' | apply And.intro)⟩
  · rintro ⟨n, i⟩ ⟨hn, hi, hto⟩ R hR
    dsimp only at hn hi hto
    rw [← hres] at hto
    have h1 : ∀ m, n = m + 1 → res = if a.getD m 0 = b.getD m 0 then lessTo a b m else decide (a.getD m 0 < b.getD m 0) := fun m hm => by rw [← hto, hm]; rfl
    have h2 : n = 0 → res = false := fun h => by rw [← hto, h]; rfl
    obtain ⟨i', hi'⟩ : ∃ q, q = (n : Int) - 2 := ⟨_, rfl⟩
    cbv
    repeat' (first | (refine Br.mk (fun hb => ?_) (fun hb => ?_) <;> ((try rw [ho] at hb); (try dsimp only [Ar.real, IX.vo] at hb); (try simp only [QB7] at hb); (try simp only [QBo, beq_iff_eq, beq_eq_false_iff_ne, ne_eq] at hb))) | (refine StopN.mk ?_; cbv) | (refine hK _ _ ?_) | (refine NeedT.mk ?_ ?_))
    any_goals (((try clear hR3); (try clear hR2); (try clear hR); (try clear hK); (try simp only [ncCast] at *); (try simp only [castI_eq] at *); (try rw [ho]); (try dsimp only [Ar.real, IX.vo, IX.val, BX.val, IX.toN]); (try simp only [QB7]); (try simp only [decide_eq_true_eq]); (all_goals (repeat rw [wrap_i64 (by omega) (by omega)])); (all_goals (first | omega | (simp only [Int.ofNat_eq_natCast]; omega)))); done)
    · have hm1 : n = i.toNat + 1 := by ((try clear hR3); (try clear hR2); (try clear hR); (try clear hK); (try simp only [ncCast] at *); (try simp only [castI_eq] at *)); omega
      rw [h1 _ hm1, if_neg (show ¬ a.getD i.toNat 0 = b.getD i.toNat 0 from hb)]
      refine .b ?_
      rw [ho]
      rfl
    · have hm1 : n = i.toNat + 1 := by ((try clear hR3); (try clear hR2); (try clear hR); (try clear hK); (try simp only [ncCast] at *); (try simp only [castI_eq] at *)); omega
      have e1 : i' = (i.toNat : Int) - 1 := by ((try clear hR3); (try clear hR2); (try clear hR); (try clear hK); (try simp only [ncCast] at *); (try simp only [castI_eq] at *)); omega
      refine hR _ ⟨i.toNat, i'⟩ (by show i.toNat < n; ((try clear hR3); (try clear hR2); (try clear hR); (try clear hK); (try simp only [ncCast] at *); (try simp only [castI_eq] at *)); omega) ⟨by show i.toNat ≤ a.length; ((try clear hR3); (try clear hR2); (try clear hR); (try clear hK); (try simp only [ncCast] at *); (try simp only [castI_eq] at *)); omega, e1, ?_⟩ ?_
      · show lessTo a b i.toNat = _
        rw [← hres, h1 _ hm1, if_pos (show a.getD i.toNat 0 = b.getD i.toNat 0 from hb)]
      · refine ⟨(by cbv), by cbv; repeat' (first | trivial | exact EqX.rfl' | exact EqO.rfl' | apply And.intro | ((try clear hR3); (try clear hR2); (try clear hR); (try clear hK); (try simp only [ncCast] at *); (try simp only [castI_eq] at *); refine EqX.i ?_; (try rw [ho]); (try dsimp only [Ar.real, IX.vo, IX.val, BX.val, IX.toN]); (try simp only [QB7]); (repeat rw [wrap_i64 (by omega) (by omega)]); omega)), by cbv; repeat' (first | trivial | exact EqO.rfl' | apply And.intro), by cbv; repeat' (first | trivial | exact EqO.rfl' | apply And.intro)⟩
    · rw [h2 (by ((try clear hR3); (try clear hR2); (try clear hR); (try clear hK); (try simp only [ncCast] at *); (try simp only [castI_eq] at *)); omega)]
      exact .b rfl
/-! ### Products -/
def w64 (x : Int) : Int := IntKind.i64.wrap x
def pN (out a b : List Int) (i k : Nat) (over : Int) : Int := w64 (w64 (out.getD (i + k) 0 + w64 (a.getD i 0 * b.getD k 0)) + over)
structure StP where
  k : Nat
  out : List Int
  over : Int
def pIn (out a b : List Int) (i : Nat) : Nat → StP
  | 0 => ⟨0, out, 0⟩
  | k + 1 => ⟨k + 1, (pIn out a b i k).out.set (i + k) ((pN (pIn out a b i k).out a b i k (pIn out a b i k).over).tmod 65536), w64 ((pN (pIn out a b i k).out a b i k (pIn out a b i k).over).tdiv 65536)⟩
def pOut (a b : List Int) : Nat → List Int
  | 0 => List.replicate (a.length + b.length) 0
  | i + 1 => (pIn (pOut a b i) a b i b.length).out.set (i + b.length) (pIn (pOut a b i) a b i b.length).over
theorem pIn_len (out a b : List Int) (i : Nat) : ∀ k, (pIn out a b i k).out.length = out.length
  | 0 => rfl
  | k + 1 => by simp only [pIn, List.length_set]; exact pIn_len out a b i k
theorem pOut_len (a b : List Int) : ∀ i, (pOut a b i).length = a.length + b.length
  | 0 => by simp [pOut]
  | i + 1 => by simp only [pOut, List.length_set, pIn_len]; exact pOut_len a b i
theorem rows_zero {o : Ar} (ho : o = Ar.real) {l : List Int} {n m : Nat} (hl : l = List.replicate m 0) (hn : n = m) : (RR.fn n fun _ => [X.i .i64 (.lit 0)]).rows = (SL o encI l).rows := by
  subst hn
  refine rows_fn_SL o ho encI _ _ _ (by rw [hl, List.length_replicate]) ?_
  intro j hj
  have e : l.getD j default = 0 := by
    rw [hl, List.getD_eq_getElem?_getD, List.getElem?_replicate]
    split <;> rfl
  rw [e]
  rfl
theorem hval4 {i k : Nat} {n : Nat} (o : Ar) (ho : o = Ar.real) (h : IntKind.i64.wrap ((i : Int) + k) = n) : (IX.s (o.wrap IntKind.i64 (o.add (IX.vo o (IX.nat i)) (IX.vo o (IX.nat k))))).val = n := by
  subst ho
  exact h
theorem x_Product (a b : List Int) (ha : a.length ≤ 1000) (hb' : b.length ≤ 1000) : XC Try.prog 86 [.ro (SL Ar.real encI a), .ro (SL Ar.real encI b)] [] (.ro (SL Ar.real encI (pOut a b a.length))) [] := by
  have hM0 : pOut a b 0 = List.replicate (a.length + b.length) 0 := rfl
  have hM1 : ∀ i, pOut a b (i + 1) = (pIn (pOut a b i) a b i b.length).out.set (i + b.length) (pIn (pOut a b i) a b i b.length).over := fun _ => rfl
  have hMl := pOut_len a b
  generalize pOut a b = M at *
  (refine XC.of_body ([(9, [])]) Try.func86 rfl Try.ntmps86 mixed (T := [(3, ti3), (43, ti43)]) (.cons tok3 (.cons tok43 .nil)) (by kernel_rfl) (by simp) rfl rfl rfl rfl rfl ?_; rintro o ho P hP c K hK; have hm : P.follows .mixedOrders = true := hP ▸ mixed; have hT : TOk P [(3, ti3), (43, ti43)] := hP ▸ (.cons tok3 (.cons tok43 .nil)); (try rw [← ho]); cbv; (repeat (refine StopN.mk ?_; cbv)))
  repeat' (first | (refine Br.mk (fun hb => ?_) (fun hb => ?_) <;> ((try rw [ho] at hb); (try dsimp only [Ar.real, IX.vo] at hb); (try simp only [QB7] at hb); (try simp only [QBo, beq_iff_eq, beq_eq_false_iff_ne, ne_eq] at hb))) | (refine StopN.mk ?_; cbv) | (refine hK _ _ ?_) | (refine NeedT.mk ?_ ?_))
  any_goals (((try clear hR3); (try clear hR2); (try clear hR); (try clear hK); (try simp only [ncCast] at *); (try simp only [castI_eq] at *); (try rw [ho]); (try dsimp only [Ar.real, IX.vo, IX.val, BX.val, IX.toN]); (try simp only [QB7]); (try simp only [decide_eq_true_eq]); (all_goals (repeat rw [wrap_i64 (by omega) (by omega)])); (all_goals (first | omega | (simp only [Int.ofNat_eq_natCast]; omega)))); done)
  obtain ⟨z, hz⟩ : ∃ q, q = List.replicate (a.length + b.length) (0 : Int) := ⟨_, rfl⟩
  rw [← hz] at hM0
  refine LoopN.over (o := o) (D := [(9, [])]) ho hm hT (by kernel_rfl) (fun i : Nat => [(6, xn i)]) (fun i => [(0, .row 0 3 1 (SL o encI (M i)))]) (fun _ => []) (fun i => i ≤ a.length) (fun i => a.length - i) 0 (Nat.zero_le _) ?_ ?_
  · have hM0' := hM0.trans hz
    have hlen : (IntKind.i64.wrap ((a.length : Int) + b.length)).toNat = a.length + b.length := by rw [wrap_i64 (by omega) (by omega)]; omega
    refine ⟨(by cbv), by cbv; repeat' (first | trivial | exact EqX.rfl' | exact EqO.rfl' | apply And.intro | ((try clear hR3); (try clear hR2); (try clear hR); (try clear hK); (try simp only [ncCast] at *); (try simp only [castI_eq] at *); refine EqX.i ?_; (try rw [ho]); (try dsimp only [Ar.real, IX.vo, IX.val, BX.val, IX.toN]); (try simp only [QB7]); (repeat rw [wrap_i64 (by omega) (by omega)]); omega) | (refine EqO.row rfl (rows_zero ho hM0' ?_); rw [ho]; exact hlen)), by cbv; repeat' (first | trivial | exact EqO.rfl' | apply And.intro | (refine EqO.row rfl (rows_zero ho hM0' ?_); rw [ho]; exact hlen)), by cbv; repeat' (first | trivial | exact EqO.rfl' | apply And.intro | (refine EqO.row rfl (rows_zero ho hM0' ?_); rw [ho]; exact hlen))⟩
  · rintro i hi R hR
    have e1 := hM1 i
    have hl := hMl i
    have hP0 : (pIn (M i) a b i 0) = ⟨0, M i, 0⟩ := rfl
    have hP1 : ∀ k, pIn (M i) a b i (k + 1) = ⟨k + 1, (pIn (M i) a b i k).out.set (i + k) ((pN (pIn (M i) a b i k).out a b i k (pIn (M i) a b i k).over).tmod 65536), w64 ((pN (pIn (M i) a b i k).out a b i k (pIn (M i) a b i k).over).tdiv 65536)⟩ := fun _ => rfl
    have hPl := pIn_len (M i) a b i
    generalize pIn (M i) a b i = N at *
    obtain ⟨out0, hout0⟩ : ∃ q, q = M i := ⟨_, rfl⟩
    rw [← hout0] at hl hP0 hPl
    cbv
    repeat' (first | (refine Br.mk (fun hb => ?_) (fun hb => ?_) <;> ((try rw [ho] at hb); (try dsimp only [Ar.real, IX.vo] at hb); (try simp only [QB7] at hb); (try simp only [QBo, beq_iff_eq, beq_eq_false_iff_ne, ne_eq] at hb))) | (refine StopN.mk ?_; cbv) | (refine hK _ _ ?_) | (refine NeedT.mk ?_ ?_))
    any_goals (((try clear hR3); (try clear hR2); (try clear hR); (try clear hK); (try simp only [ncCast] at *); (try simp only [castI_eq] at *); (try rw [ho]); (try dsimp only [Ar.real, IX.vo, IX.val, BX.val, IX.toN]); (try simp only [QB7]); (try simp only [decide_eq_true_eq]); (all_goals (repeat rw [wrap_i64 (by omega) (by omega)])); (all_goals (first | omega | (simp only [Int.ofNat_eq_natCast]; omega)))); done)
    · have hN0 : (N 0).out = M i ∧ (N 0).over = 0 := by rw [hP0]; exact ⟨hout0, rfl⟩
      have hrow0 : (SL o encI (M i)).rows = (SL o encI (N 0).out).rows := by rw [hN0.1]
      refine LoopN.over (o := o) (D := [(9, [])]) ho hm hT (by kernel_rfl) (fun k : Nat => [(8, xn k), (7, xi (N k).over)]) (fun k => [(0, .row 0 3 1 (SL o encI (N k).out))]) (fun _ => []) (fun k => k ≤ b.length) (fun k => b.length - k) 0 (Nat.zero_le _) ?_ ?_
      · refine ⟨(by cbv), by cbv; repeat' (first | trivial | exact EqX.rfl' | exact EqO.rfl' | apply And.intro | ((try clear hR3); (try clear hR2); (try clear hR); (try clear hK); (try simp only [ncCast] at *); (try simp only [castI_eq] at *); refine EqX.i ?_; (try rw [ho]); (try dsimp only [Ar.real, IX.vo, IX.val, BX.val, IX.toN]); (try simp only [QB7]); (repeat rw [wrap_i64 (by omega) (by omega)]); omega) | (refine EqX.i ?_; exact hN0.2.symm) | exact EqO.row rfl hrow0), by cbv; repeat' (first | trivial | exact EqO.rfl' | apply And.intro | (refine EqX.i ?_; exact hN0.2.symm) | exact EqO.row rfl hrow0), by cbv; repeat' (first | trivial | exact EqO.rfl' | apply And.intro | (refine EqX.i ?_; exact hN0.2.symm) | exact EqO.row rfl hrow0)⟩
      · rintro k hk R' hR'
        have f1 := hP1 k
        have hPk := hPl k
        obtain ⟨N', hN'⟩ : ∃ q, q = N (k + 1) := ⟨_, rfl⟩
        rw [← hN'] at f1
        generalize hNk : N k = Nk at *
        obtain ⟨k0, outk, overk⟩ := Nk
        dsimp only at f1 hPk
        have hidx : i < a.length → k < b.length → (IntKind.i64.wrap ((i : Int) + k)).toNat = i + k := fun h h' => by rw [wrap_i64 (by omega) (by omega)]; omega
        have hidx2 : i < a.length → k < b.length → IntKind.i64.wrap ((i : Int) + k) = ((i + k : Nat) : Int) := fun h h' => by rw [wrap_i64 (by omega) (by omega)]; omega
        have hidx3 : i < a.length → IntKind.i64.wrap ((i : Int) + b.length) = ((i + b.length : Nat) : Int) := fun h => by rw [wrap_i64 (by omega) (by omega)]; omega
        have hp : i < a.length → k < b.length → pN outk a b i k overk = w64 (w64 (outk.getD ((IntKind.i64.wrap ((i : Int) + k)).toNat) 0 + w64 (a.getD i 0 * b.getD k 0)) + overk) := fun h h' => by rw [hidx h h']; rfl
        have g1 : i < a.length → k < b.length → (N (k + 1)).out = outk.set (i + k) ((w64 (w64 (outk.getD ((IntKind.i64.wrap ((i : Int) + k)).toNat) 0 + w64 (a.getD i 0 * b.getD k 0)) + overk)).tmod 65536) := fun h h' => by rw [← hN', f1, hp h h']
        have g2 : i < a.length → k < b.length → (N (k + 1)).over = w64 ((w64 (w64 (outk.getD ((IntKind.i64.wrap ((i : Int) + k)).toNat) 0 + w64 (a.getD i 0 * b.getD k 0)) + overk)).tdiv 65536) := fun h h' => by rw [← hN', f1, hp h h']
        have g3 : k = b.length → M (i + 1) = outk.set (i + b.length) overk := fun h => by rw [e1, ← h, hNk]
        cbv
        repeat' (first | (refine Br.mk (fun hb => ?_) (fun hb => ?_) <;> ((try rw [ho] at hb); (try dsimp only [Ar.real, IX.vo] at hb); (try simp only [QB7] at hb); (try simp only [QBo, beq_iff_eq, beq_eq_false_iff_ne, ne_eq] at hb))) | (refine StopN.mk ?_; cbv) | (refine hK _ _ ?_) | (refine NeedT.mk ?_ ?_))
        any_goals (((try clear hR3); (try clear hR2); (try clear hR); (try clear hK); (try simp only [ncCast] at *); (try simp only [castI_eq] at *); (try rw [ho]); (try dsimp only [Ar.real, IX.vo, IX.val, BX.val, IX.toN]); (try simp only [QB7]); (try simp only [decide_eq_true_eq]); (all_goals (repeat rw [wrap_i64 (by omega) (by omega)])); (all_goals (first | omega | (simp only [Int.ofNat_eq_natCast]; omega)))); done)
        · have g1' := g1 (by assumption) (by assumption)
          have g2' := g2 (by assumption) (by assumption)
          have g4 := hidx2 (by assumption) (by assumption)
          refine hR' _ (k + 1) (by show b.length - (k + 1) < b.length - k; ((try clear hR3); (try clear hR2); (try clear hR); (try clear hK); (try simp only [ncCast] at *); (try simp only [castI_eq] at *)); omega) (by show k + 1 ≤ b.length; ((try clear hR3); (try clear hR2); (try clear hR); (try clear hK); (try simp only [ncCast] at *); (try simp only [castI_eq] at *)); omega) ?_
          refine ⟨(by cbv), by cbv; repeat' (first | trivial | exact EqX.rfl' | exact EqO.rfl' | apply And.intro | ((try clear hR3); (try clear hR2); (try clear hR); (try clear hK); (try simp only [ncCast] at *); (try simp only [castI_eq] at *); refine EqX.i ?_; (try rw [ho]); (try dsimp only [Ar.real, IX.vo, IX.val, BX.val, IX.toN]); (try simp only [QB7]); (repeat rw [wrap_i64 (by omega) (by omega)]); omega) | (refine EqX.i ?_; rw [ho]; exact g2'.symm) | (refine EqO.set ho encI outk _ _ (i + k) _ _ rfl g1' (hval4 _ ho g4) ?_; rw [ho]; rfl)), by cbv; repeat' (first | trivial | exact EqO.rfl' | apply And.intro | (refine EqX.i ?_; rw [ho]; exact g2'.symm) | (refine EqO.set ho encI outk _ _ (i + k) _ _ rfl g1' (hval4 _ ho g4) ?_; rw [ho]; rfl)), by cbv; repeat' (first | trivial | exact EqO.rfl' | apply And.intro | (refine EqX.i ?_; rw [ho]; exact g2'.symm) | (refine EqO.set ho encI outk _ _ (i + k) _ _ rfl g1' (hval4 _ ho g4) ?_; rw [ho]; rfl))⟩
        · obtain rfl : k = b.length := by ((try clear hR3); (try clear hR2); (try clear hR); (try clear hK); (try simp only [ncCast] at *); (try simp only [castI_eq] at *)); omega
          have g3' := g3 rfl
          have g5 := hidx3 (by assumption)
          have g4 : IntKind.i64.wrap ((i : Int) + ((o.len b : Nat) : Int)) = ((i + b.length : Nat) : Int) := by rw [ho]; exact g5
          refine hR _ (i + 1) (by show a.length - (i + 1) < a.length - i; ((try clear hR3); (try clear hR2); (try clear hR); (try clear hK); (try simp only [ncCast] at *); (try simp only [castI_eq] at *)); omega) (by show i + 1 ≤ a.length; ((try clear hR3); (try clear hR2); (try clear hR); (try clear hK); (try simp only [ncCast] at *); (try simp only [castI_eq] at *)); omega) ?_
          refine ⟨(by cbv), by cbv; repeat' (first | trivial | exact EqX.rfl' | exact EqO.rfl' | apply And.intro | ((try clear hR3); (try clear hR2); (try clear hR); (try clear hK); (try simp only [ncCast] at *); (try simp only [castI_eq] at *); refine EqX.i ?_; (try rw [ho]); (try dsimp only [Ar.real, IX.vo, IX.val, BX.val, IX.toN]); (try simp only [QB7]); (repeat rw [wrap_i64 (by omega) (by omega)]); omega) | (exact EqO.set ho encI outk _ _ (i + b.length) _ _ rfl g3' (hval4 _ ho g4) rfl)), by cbv; repeat' (first | trivial | exact EqO.rfl' | apply And.intro | (exact EqO.set ho encI outk _ _ (i + b.length) _ _ rfl g3' (hval4 _ ho g4) rfl)), by cbv; repeat' (first | trivial | exact EqO.rfl' | apply And.intro | (exact EqO.set ho encI outk _ _ (i + b.length) _ _ rfl g3' (hval4 _ ho g4) rfl))⟩
    · obtain rfl : i = a.length := by ((try clear hR3); (try clear hR2); (try clear hR); (try clear hK); (try simp only [ncCast] at *); (try simp only [castI_eq] at *)); omega
      exact .ro (by rw [ho])
end Go.Proofs.Ytddgcegimmcbgaa.Sy

/-
  The document's answers: fractions. Plain theorems.
-/
set_option linter.unusedSectionVars false
namespace Go.Proofs.Ytddgcegimmcbgaa.Sy
open Go Go.Sy Go.Proofs.Ytddgcegimmcbgaa
set_option maxRecDepth 100000
set_option maxHeartbeats 8000000
set_option linter.unusedVariables false
set_option linter.unusedSimpArgs false

theorem x_r02Right (n d : Int) : XC Try.prog 30 [.agg [xi n, xi d]] [] (xb (fracRight n d)) [] := by
  (refine XC.of_body ([]) Try.func30 rfl Try.ntmps30 mixed (T := [(2, ti2), (64, ti64)]) (.cons tok2 (.cons tok64 .nil)) (by kernel_rfl) (by simp) rfl rfl rfl rfl rfl ?_; rintro o ho P hP c K hK; have hm : P.follows .mixedOrders = true := hP ▸ mixed; have hT : TOk P [(2, ti2), (64, ti64)] := hP ▸ (.cons tok2 (.cons tok64 .nil)); (try rw [← ho]); cbv; (repeat (refine StopN.mk ?_; cbv)))
  repeat' (first | (refine Br.mk (fun hb => ?_) (fun hb => ?_) <;> ((try rw [ho] at hb); (try dsimp only [Ar.real, IX.vo] at hb); (try simp only [QB7] at hb); (try simp only [QBo, beq_iff_eq, beq_eq_false_iff_ne, ne_eq] at hb))) | (refine StopN.mk ?_; cbv) | (refine hK _ _ ?_) | (refine NeedT.mk ?_ ?_))
  all_goals (refine .b ?_; ((try clear hR3); (try clear hR2); (try clear hR); (try clear hK); (try simp only [ncCast] at *); (try simp only [castI_eq] at *); (try rw [ho]); (try dsimp only [Ar.real, IX.vo, IX.val, BX.val, IX.toN]); (try simp only [QB7])); simp [fracRight, *])
  all_goals omega
def prodD (x y : Int) : List Int := pOut (digsR 0 x) (digsR 0 y) (digsR 0 x).length
theorem prodD_len (x y : Int) : (prodD x y).length = 16 := pOut_len _ _ _
def rFracCmp (a b u v : Int) : Int :=
  if fracRight a b = true ∧ fracRight u v = true then
    (if lessTo (prodD a v) (prodD u b) (prodD a v).length = true then -1 else if lessTo (prodD u b) (prodD a v) (prodD u b).length = true then 1 else 0)
  else 0
theorem x_prodD (x y : Int) : XC Try.prog 86 [.ro (SL Ar.real encI (digsR 0 x)), .ro (SL Ar.real encI (digsR 0 y))] [] (.ro (SL Ar.real encI (prodD x y))) [] := x_Product _ _ (show (8 : Nat) ≤ 1000 by decide) (show (8 : Nat) ≤ 1000 by decide)
theorem x_r02Cmp (a b u v : Int) (ha : i64B a) (hb' : i64B b) (hc' : i64B u) (hd : i64B v) : XC Try.prog 36 [.agg [xi a, xi b], .agg [xi u, xi v]] [] (xi (rFracCmp a b u v)) [] := by
  obtain ⟨a1, a2⟩ := ha
  obtain ⟨b1, b2⟩ := hb'
  obtain ⟨c1, c2⟩ := hc'
  obtain ⟨d1, d2⟩ := hd
  by_cases h : fracRight a b = true ∧ fracRight u v = true
  · have hr0 := h
    simp only [fracRight, Bool.and_eq_true, decide_eq_true_eq] at hr0
    obtain ⟨⟨a3, b3⟩, c3, d3⟩ := hr0
    have hf : rFracCmp a b u v = (if lessTo (prodD a v) (prodD u b) (prodD a v).length = true then -1 else if lessTo (prodD u b) (prodD a v) (prodD u b).length = true then 1 else 0) := if_pos h
    have hD1 := x_Digits 0 a
    have hD2 := x_Digits 0 v
    have hD3 := x_Digits 0 u
    have hD4 := x_Digits 0 b
    have hP1 := x_prodD a v
    have hP2 := x_prodD u b
    have hL1 := x_Less (prodD a v) (prodD u b) (by rw [prodD_len]; decide) (by rw [prodD_len, prodD_len])
    have hL2 := x_Less (prodD u b) (prodD a v) (by rw [prodD_len]; decide) (by rw [prodD_len, prodD_len])
    have wa : IntKind.u64.wrap a = a := wrap_u64 (by omega) (by omega)
    have wb : IntKind.u64.wrap b = b := wrap_u64 (by omega) (by omega)
    have wu : IntKind.u64.wrap u = u := wrap_u64 (by omega) (by omega)
    have wv : IntKind.u64.wrap v = v := wrap_u64 (by omega) (by omega)
    have hr1 := x_r02Right a b
    have hr2 := x_r02Right u v
    rw [h.1] at hr1
    rw [h.2] at hr2
    rw [hf]
    clear hf
    generalize prodD a v = p1 at *
    generalize prodD u b = p2 at *
    generalize lessTo p1 p2 p1.length = l1 at *
    generalize lessTo p2 p1 p2.length = l2 at *
    generalize digsR 0 a = da at *
    generalize digsR 0 b = db at *
    generalize digsR 0 u = du at *
    generalize digsR 0 v = dv at *
    (refine XC.of_body ([(3, [(3, 4), (3, 5)]), (4, [(3, 4), (3, 5)])]) Try.func36 rfl Try.ntmps36 mixed (T := [(2, ti2), (4, ti4), (64, ti64), (155, ti155)]) (.cons tok2 (.cons tok4 (.cons tok64 (.cons tok155 .nil)))) (by kernel_rfl) (by simp) rfl rfl rfl rfl rfl ?_; rintro o ho P hP c K hK; have hm : P.follows .mixedOrders = true := hP ▸ mixed; have hT : TOk P [(2, ti2), (4, ti4), (64, ti64), (155, ti155)] := hP ▸ (.cons tok2 (.cons tok4 (.cons tok64 (.cons tok155 .nil)))); (try rw [← ho]); cbv; (repeat (refine StopN.mk ?_; cbv)))
    have ew : ∀ x, o.wrap IntKind.u64 x = IntKind.u64.wrap x := fun x => by rw [ho]; rfl
    rw [← ho] at hD1 hD2 hD3 hD4 hP1 hP2 hL1 hL2
    rw [← wa, ← ew] at hD1
    rw [← wv, ← ew] at hD2
    rw [← wu, ← ew] at hD3
    rw [← wb, ← ew] at hD4
    repeat' (first | (refine Br.mk (fun hb => ?_) (fun hb => ?_) <;> ((try rw [ho] at hb); (try dsimp only [Ar.real, IX.vo] at hb); (try simp only [QB7] at hb); (try simp only [QBo, beq_iff_eq, beq_eq_false_iff_ne, ne_eq] at hb))) | (refine StopN.mk ?_; cbv) | ((first | refine CallI.pure hP hr1 fn30 rfl rfl rfl ?_ | refine CallI.pure hP hr2 fn30 rfl rfl rfl ?_ | refine CallN.pure hP hD1 fn87 rfl rfl rfl ?_ | refine CallN.pure hP hD2 fn87 rfl rfl rfl ?_ | refine CallN.pure hP hD3 fn87 rfl rfl rfl ?_ | refine CallN.pure hP hD4 fn87 rfl rfl rfl ?_ | refine CallN.pure hP hP1 fn86 rfl rfl rfl ?_ | refine CallN.pure hP hP2 fn86 rfl rfl rfl ?_ | refine CallI.pure hP hL1 fn88 rfl rfl rfl ?_ | refine CallI.pure hP hL2 fn88 rfl rfl rfl ?_); cbv) | ((first | refine CallI.pure hP (x_r02Right _ _) fn30 (by first | rfl | (rw [ho]; done) | (rw [ho]; rfl)) (by rfl) (by first | rfl | (rw [ho]; done) | (rw [ho]; rfl)) ?_ | refine CallN.pure hP (x_r02Right _ _) fn30 (by first | rfl | (rw [ho]; done) | (rw [ho]; rfl)) (by rfl) (by first | rfl | (rw [ho]; done) | (rw [ho]; rfl)) ?_); (try rw [← ho]); generalize hr : fracRight _ _ = r; (try rw [ho] at hr); (try dsimp only [Ar.real, IX.vo] at hr); (try simp only [QB7] at hr); cbv) | ((first | refine CallI.pure hP (x_Digits _ _) fn87 (by first | rfl | (rw [ho]; done) | (rw [ho]; rfl)) (by rfl) (by first | rfl | (rw [ho]; done) | (rw [ho]; rfl)) ?_ | refine CallN.pure hP (x_Digits _ _) fn87 (by first | rfl | (rw [ho]; done) | (rw [ho]; rfl)) (by rfl) (by first | rfl | (rw [ho]; done) | (rw [ho]; rfl)) ?_); (try rw [← ho]); generalize hr : digsR _ _ = r; (try rw [ho] at hr); (try dsimp only [Ar.real, IX.vo] at hr); (try simp only [QB7] at hr); cbv) | ((first | refine CallI.pure hP (x_Less _ _ ‹_› ‹_›) fn88 (by first | rfl | (rw [ho]; done) | (rw [ho]; rfl)) (by rfl) (by first | rfl | (rw [ho]; done) | (rw [ho]; rfl)) ?_ | refine CallN.pure hP (x_Less _ _ ‹_› ‹_›) fn88 (by first | rfl | (rw [ho]; done) | (rw [ho]; rfl)) (by rfl) (by first | rfl | (rw [ho]; done) | (rw [ho]; rfl)) ?_); (try rw [← ho]); generalize hr : lessTo _ _ _ = r; (try rw [ho] at hr); (try dsimp only [Ar.real, IX.vo] at hr); (try simp only [QB7] at hr); cbv) | (refine hK _ _ ?_) | (refine NeedT.mk ?_ ?_))
    · exact absurd ‹true = false› (by decide)
    · exact absurd ‹true = false› (by decide)
    · refine .i ?_
      rw [if_pos (by assumption)]
      rfl
    · refine .i ?_
      rw [if_neg (by rw [‹l1 = false›]; decide), if_pos (by assumption)]
      rfl
    · refine .i ?_
      rw [if_neg (by rw [‹l1 = false›]; decide), if_neg (by rw [‹l2 = false›]; decide)]
      rfl
  · rw [show rFracCmp a b u v = 0 from if_neg h]
    (refine XC.of_body ([(3, [(3, 4), (3, 5)]), (4, [(3, 4), (3, 5)])]) Try.func36 rfl Try.ntmps36 mixed (T := [(2, ti2), (4, ti4), (64, ti64), (155, ti155)]) (.cons tok2 (.cons tok4 (.cons tok64 (.cons tok155 .nil)))) (by kernel_rfl) (by simp) rfl rfl rfl rfl rfl ?_; rintro o ho P hP c K hK; have hm : P.follows .mixedOrders = true := hP ▸ mixed; have hT : TOk P [(2, ti2), (4, ti4), (64, ti64), (155, ti155)] := hP ▸ (.cons tok2 (.cons tok4 (.cons tok64 (.cons tok155 .nil)))); (try rw [← ho]); cbv; (repeat (refine StopN.mk ?_; cbv)))
    repeat' (first | (refine Br.mk (fun hb => ?_) (fun hb => ?_) <;> ((try rw [ho] at hb); (try dsimp only [Ar.real, IX.vo] at hb); (try simp only [QB7] at hb); (try simp only [QBo, beq_iff_eq, beq_eq_false_iff_ne, ne_eq] at hb))) | (refine StopN.mk ?_; cbv) | ((first | refine CallI.pure hP (x_r02Right _ _) fn30 (by first | rfl | (rw [ho]; done) | (rw [ho]; rfl)) (by rfl) (by first | rfl | (rw [ho]; done) | (rw [ho]; rfl)) ?_ | refine CallN.pure hP (x_r02Right _ _) fn30 (by first | rfl | (rw [ho]; done) | (rw [ho]; rfl)) (by rfl) (by first | rfl | (rw [ho]; done) | (rw [ho]; rfl)) ?_); (try rw [← ho]); generalize hr : fracRight _ _ = r; (try rw [ho] at hr); (try dsimp only [Ar.real, IX.vo] at hr); (try simp only [QB7] at hr); cbv) | ((first | refine CallI.pure hP (x_Digits _ _) fn87 (by first | rfl | (rw [ho]; done) | (rw [ho]; rfl)) (by rfl) (by first | rfl | (rw [ho]; done) | (rw [ho]; rfl)) ?_ | refine CallN.pure hP (x_Digits _ _) fn87 (by first | rfl | (rw [ho]; done) | (rw [ho]; rfl)) (by rfl) (by first | rfl | (rw [ho]; done) | (rw [ho]; rfl)) ?_); (try rw [← ho]); generalize hr : digsR _ _ = r; (try rw [ho] at hr); (try dsimp only [Ar.real, IX.vo] at hr); (try simp only [QB7] at hr); cbv) | ((first | refine CallI.pure hP (x_Less _ _ ‹_› ‹_›) fn88 (by first | rfl | (rw [ho]; done) | (rw [ho]; rfl)) (by rfl) (by first | rfl | (rw [ho]; done) | (rw [ho]; rfl)) ?_ | refine CallN.pure hP (x_Less _ _ ‹_› ‹_›) fn88 (by first | rfl | (rw [ho]; done) | (rw [ho]; rfl)) (by rfl) (by first | rfl | (rw [ho]; done) | (rw [ho]; rfl)) ?_); (try rw [← ho]); generalize hr : lessTo _ _ _ = r; (try rw [ho] at hr); (try dsimp only [Ar.real, IX.vo] at hr); (try simp only [QB7] at hr); cbv) | (refine hK _ _ ?_) | (refine NeedT.mk ?_ ?_))
    all_goals first
      | exact .i rfl
      | (exfalso; simp_all; done)
/-! ### Shares -/
end Go.Proofs.Ytddgcegimmcbgaa.Sy

/-
  The document's answers: slots and vectors. Plain theorems.
-/
set_option linter.unusedSectionVars false
namespace Go.Proofs.Ytddgcegimmcbgaa.Sy
open Go Go.Sy Go.Proofs.Ytddgcegimmcbgaa
set_option maxRecDepth 100000
set_option maxHeartbeats 8000000
set_option linter.unusedVariables false
set_option linter.unusedSimpArgs false

end Go.Proofs.Ytddgcegimmcbgaa.Sy

/-
  The document's answers: differences of vectors. Plain theorems.
-/
set_option linter.unusedSectionVars false
namespace Go.Proofs.Ytddgcegimmcbgaa.Sy
open Go Go.Sy Go.Proofs.Ytddgcegimmcbgaa
set_option maxRecDepth 100000
set_option maxHeartbeats 8000000
set_option linter.unusedVariables false
set_option linter.unusedSimpArgs false

end Go.Proofs.Ytddgcegimmcbgaa.Sy

/-
  The document's answers: sums. Plain theorems.
-/
set_option linter.unusedSectionVars false
namespace Go.Proofs.Ytddgcegimmcbgaa.Sy
open Go Go.Sy Go.Proofs.Ytddgcegimmcbgaa
set_option maxRecDepth 100000
set_option maxHeartbeats 8000000
set_option linter.unusedVariables false
set_option linter.unusedSimpArgs false

theorem x_r06Right (s : S4) : XC Try.prog 85 [.agg (S4.X Ar.real s)] [] (xb (sumsRight s)) [] := by
  have hi := sumsRight_iff s
  obtain ⟨a, b, u, d⟩ := s
  generalize sumsRight ⟨a, b, u, d⟩ = r at *
  dsimp only at hi
  (refine XC.of_body ([]) Try.func85 rfl Try.ntmps85 mixed (T := [(2, ti2), (3, ti3), (52, ti52)]) (.cons tok2 (.cons tok3 (.cons tok52 .nil))) (by kernel_rfl) (by simp) rfl rfl rfl rfl rfl ?_; rintro o ho P hP c K hK; have hm : P.follows .mixedOrders = true := hP ▸ mixed; have hT : TOk P [(2, ti2), (3, ti3), (52, ti52)] := hP ▸ (.cons tok2 (.cons tok3 (.cons tok52 .nil))); (try rw [← ho]); cbv; (repeat (refine StopN.mk ?_; cbv)))
  repeat' (first | (refine Br.mk (fun hb => ?_) (fun hb => ?_) <;> ((try rw [ho] at hb); (try dsimp only [Ar.real, IX.vo] at hb); (try simp only [QB7] at hb); (try simp only [QBo, beq_iff_eq, beq_eq_false_iff_ne, ne_eq] at hb))) | (refine StopN.mk ?_; cbv) | (refine hK _ _ ?_) | (refine NeedT.mk ?_ ?_) | (refine LoopN.lay (o := o) (D := []) 5 ho hm hT (by kernel_rfl) ?_; cbv))
  all_goals
    refine .b ?_
    ((try clear hR3); (try clear hR2); (try clear hR); (try clear hK); (try simp only [ncCast] at *); (try simp only [castI_eq] at *); (try rw [ho]); (try dsimp only [Ar.real, IX.vo, IX.val, BX.val, IX.toN]); (try simp only [QB7]))
    cases r <;> simp only [BX.val, reduceCtorEq, true_iff, false_iff, not_and, Bool.false_eq_true, iff_false, iff_true] at hi ⊢ <;> omega
theorem x_r06Holds (s t : S4) : XC Try.prog 35 [.agg (S4.X Ar.real s), .agg (S4.X Ar.real t)] [] (xb (sumsHolds s t)) [] := by
  have hs := x_r06Right s
  have ht := x_r06Right t
  unfold sumsHolds
  generalize sumsRight s = rs at *
  generalize sumsRight t = rt at *
  obtain ⟨a, b, p, d⟩ := s
  obtain ⟨a', b', p', d'⟩ := t
  (refine XC.of_body ([(4, [])]) Try.func35 rfl Try.ntmps35 mixed (T := [(2, ti2), (3, ti3), (52, ti52)]) (.cons tok2 (.cons tok3 (.cons tok52 .nil))) (by kernel_rfl) (by simp) rfl rfl rfl rfl rfl ?_; rintro o ho P hP c K hK; have hm : P.follows .mixedOrders = true := hP ▸ mixed; have hT : TOk P [(2, ti2), (3, ti3), (52, ti52)] := hP ▸ (.cons tok2 (.cons tok3 (.cons tok52 .nil))); (try rw [← ho]); cbv; (repeat (refine StopN.mk ?_; cbv)))
  rw [← ho] at hs ht
  repeat' (first | (refine Br.mk (fun hb => ?_) (fun hb => ?_) <;> ((try rw [ho] at hb); (try dsimp only [Ar.real, IX.vo] at hb); (try simp only [QB7] at hb); (try simp only [QBo, beq_iff_eq, beq_eq_false_iff_ne, ne_eq] at hb))) | (refine StopN.mk ?_; cbv) | ((first | refine CallI.pure hP hs fn85 rfl rfl rfl ?_ | refine CallI.pure hP ht fn85 rfl rfl rfl ?_); cbv) | ((first | refine CallI.pure hP (x_r06Right _) fn85 (by first | rfl | (rw [ho]; done) | (rw [ho]; rfl)) (by rfl) (by first | rfl | (rw [ho]; done) | (rw [ho]; rfl)) ?_ | refine CallN.pure hP (x_r06Right _) fn85 (by first | rfl | (rw [ho]; done) | (rw [ho]; rfl)) (by rfl) (by first | rfl | (rw [ho]; done) | (rw [ho]; rfl)) ?_); (try rw [← ho]); generalize hr : sumsRight _ = r; (try rw [ho] at hr); (try dsimp only [Ar.real, IX.vo] at hr); (try simp only [QB7] at hr); cbv) | (refine hK _ _ ?_) | (refine NeedT.mk ?_ ?_) | (refine LoopN.lay (o := o) (D := [(4, [])]) 5 ho hm hT (by kernel_rfl) ?_; cbv))
  all_goals
    refine .b ?_
    ((try clear hR3); (try clear hR2); (try clear hR); (try clear hK); (try simp only [ncCast] at *); (try simp only [castI_eq] at *); (try rw [ho]); (try dsimp only [Ar.real, IX.vo, IX.val, BX.val, IX.toN]); (try simp only [QB7]))
    first
      | (rw [decide_eq_true ⟨by assumption, by assumption, by assumption, by assumption⟩]; simp_all; done)
      | (rw [decide_eq_false (fun h => by omega)]; rfl)
end Go.Proofs.Ytddgcegimmcbgaa.Sy

/-
  The document's answers: the dominant part. Plain theorems.
-/
set_option linter.unusedSectionVars false
namespace Go.Proofs.Ytddgcegimmcbgaa.Sy
open Go Go.Sy Go.Proofs.Ytddgcegimmcbgaa
set_option maxRecDepth 100000
set_option maxHeartbeats 8000000
set_option linter.unusedVariables false
set_option linter.unusedSimpArgs false

def rDomStep (x : DomS) (n d : Int) (k : Nat) : DomS := if 0 < d ∧ (x.at_ < 0 ∨ 0 < rFracCmp n d x.num x.den) then ⟨n, d, k⟩ else x
def rDomTo (s t : S4) : Nat → DomS
  | 0 => ⟨0, 1, -1⟩
  | k + 1 => rDomStep (rDomTo s t k) (s.at_ k) (t.at_ k) k
def rDom (s t : S4) : DomS := if sumsRight s = true ∧ sumsRight t = true then rDomTo s t 4 else ⟨0, 1, -1⟩
theorem rDomTo_bd {s t : S4} (h : sumsRight s = true) (h' : sumsRight t = true) : ∀ k, (0 ≤ (rDomTo s t k).num ∧ (rDomTo s t k).num ≤ 1152921504606846976) ∧ (0 ≤ (rDomTo s t k).den ∧ (rDomTo s t k).den ≤ 1152921504606846976) ∧ -1 ≤ (rDomTo s t k).at_ ∧ (rDomTo s t k).at_ < k
  | 0 => by simp [rDomTo]
  | k + 1 => by
    have ih := rDomTo_bd h h' k
    have h1 := S4.at_bd h k
    have h2 := S4.at_bd h' k
    simp only [rDomTo, rDomStep]
    split
    · dsimp only; omega
    · omega
theorem x_rDom (s t : S4) : XC Try.prog 34 [.agg (S4.X Ar.real s), .agg (S4.X Ar.real t)] [] (.tup [xi (rDom s t).at_, .agg [xi (rDom s t).num, xi (rDom s t).den]]) [] := by
  have hs := x_r06Right s
  have ht := x_r06Right t
  unfold rDom
  by_cases h0 : sumsRight s = true ∧ sumsRight t = true
  · rw [if_pos h0]
    have hbd := rDomTo_bd h0.1 h0.2
    have h1 := fun k => S4.at_bd h0.1 k
    have h2 := fun k => S4.at_bd h0.2 k
    rw [h0.1] at hs
    rw [h0.2] at ht
    have hm0 : rDomTo s t 0 = ⟨0, 1, -1⟩ := rfl
    have hm1 : ∀ k, rDomTo s t (k + 1) = rDomStep (rDomTo s t k) (s.at_ k) (t.at_ k) k := fun _ => rfl
    have ha : ∀ k : Nat, s.at_ k = [s.a, s.b, s.c, s.d].getD k 0 ∧ t.at_ k = [t.a, t.b, t.c, t.d].getD k 0 := fun _ => ⟨rfl, rfl⟩
    clear h0
    generalize hM : rDomTo s t = M at *
    generalize hS : s.at_ = sa at *
    generalize hT2 : t.at_ = ta at *
    clear hM hS hT2
    obtain ⟨a, b, p, d⟩ := s
    obtain ⟨a', b', p', d'⟩ := t
    dsimp only at ha
    (refine XC.of_body ([(3, []), (7, [(1, 7), (2, 7), (4, 7), (5, 7)]), (10, [])]) Try.func34 rfl Try.ntmps34 mixed (T := [(2, ti2), (3, ti3), (4, ti4), (52, ti52), (64, ti64)]) (.cons tok2 (.cons tok3 (.cons tok4 (.cons tok52 (.cons tok64 .nil))))) (by kernel_rfl) (by simp) rfl rfl rfl rfl rfl ?_; rintro o ho P hP c K hK; have hm : P.follows .mixedOrders = true := hP ▸ mixed; have hT : TOk P [(2, ti2), (3, ti3), (4, ti4), (52, ti52), (64, ti64)] := hP ▸ (.cons tok2 (.cons tok3 (.cons tok4 (.cons tok52 (.cons tok64 .nil))))); (try rw [← ho]); cbv; (repeat (refine StopN.mk ?_; cbv)))
    repeat' (first | (refine Br.mk (fun hb => ?_) (fun hb => ?_) <;> ((try rw [ho] at hb); (try dsimp only [Ar.real, IX.vo] at hb); (try simp only [QB7] at hb); (try simp only [QBo, beq_iff_eq, beq_eq_false_iff_ne, ne_eq] at hb))) | (refine StopN.mk ?_; cbv) | (first | refine CallI.pure hP hs fn85 rfl rfl rfl ?_ | refine CallI.pure hP ht fn85 rfl rfl rfl ?_); cbv | ((first | refine CallI.pure hP (x_r02Cmp _ _ _ _ ‹_› ‹_› ‹_› ‹_›) fn36 (by first | rfl | (rw [ho]; done) | (rw [ho]; rfl)) (by rfl) (by first | rfl | (rw [ho]; done) | (rw [ho]; rfl)) ?_ | refine CallN.pure hP (x_r02Cmp _ _ _ _ ‹_› ‹_› ‹_› ‹_›) fn36 (by first | rfl | (rw [ho]; done) | (rw [ho]; rfl)) (by rfl) (by first | rfl | (rw [ho]; done) | (rw [ho]; rfl)) ?_); (try rw [← ho]); generalize hr : rFracCmp _ _ _ _ = r; (try rw [ho] at hr); (try dsimp only [Ar.real, IX.vo] at hr); (try simp only [QB7] at hr); cbv) | ((first | refine CallI.pure hP (x_r06Right _) fn85 (by first | rfl | (rw [ho]; done) | (rw [ho]; rfl)) (by rfl) (by first | rfl | (rw [ho]; done) | (rw [ho]; rfl)) ?_ | refine CallN.pure hP (x_r06Right _) fn85 (by first | rfl | (rw [ho]; done) | (rw [ho]; rfl)) (by rfl) (by first | rfl | (rw [ho]; done) | (rw [ho]; rfl)) ?_); (try rw [← ho]); generalize hr : sumsRight _ = r; (try rw [ho] at hr); (try dsimp only [Ar.real, IX.vo] at hr); (try simp only [QB7] at hr); cbv) | (refine hK _ _ ?_) | (refine NeedT.mk ?_ ?_))
    · exact absurd ‹true = false› (by decide)
    · exact absurd ‹true = false› (by decide)
    refine LoopN.over (o := o) (D := [(3, []), (7, [(1, 7), (2, 7), (4, 7), (5, 7)]), (10, [])]) ho hm hT (by kernel_rfl) (fun a : Nat => [(8, xn a), (7, xi (M a).at_)]) (fun a => [(3, .var [xi (M a).num, xi (M a).den] 64)]) (fun _ => []) (fun a => a ≤ 4) (fun a => 4 - a) 0 (by omega) ?_ ?_
    · refine ⟨(by cbv), by cbv; repeat' (first | trivial | exact EqX.rfl' | exact EqO.rfl' | apply And.intro | ((try clear hR3); (try clear hR2); (try clear hR); (try clear hK); (try simp only [ncCast] at *); (try simp only [castI_eq] at *); refine EqX.i ?_; (try rw [ho]); (try dsimp only [Ar.real, IX.vo, IX.val, BX.val, IX.toN]); (try simp only [QB7]); (repeat rw [wrap_i64 (by omega) (by omega)]); omega) | (refine EqX.i ?_; rw [hm0]; rfl) | exact ⟨by rw [hm0]; rfl⟩), by cbv; repeat' (first | trivial | exact EqO.rfl' | apply And.intro | (refine EqX.i ?_; rw [hm0]; rfl) | exact ⟨by rw [hm0]; rfl⟩), by cbv; repeat' (first | trivial | exact EqO.rfl' | apply And.intro | (refine EqX.i ?_; rw [hm0]; rfl) | exact ⟨by rw [hm0]; rfl⟩)⟩
    · rintro i hi R hR
      have b0 := hbd i
      have b1 := h1 i
      have b2 := h2 i
      have hM1 := hm1 i
      have hq := x_r02Cmp (sa i) (ta i) (M i).num (M i).den ⟨by omega, by omega⟩ ⟨by omega, by omega⟩ ⟨by omega, by omega⟩ ⟨by omega, by omega⟩
      unfold rDomStep at hM1
      generalize rFracCmp (sa i) (ta i) (M i).num (M i).den = q at hq hM1
      obtain ⟨e1, e2⟩ := ha i
      generalize sa i = x at *
      generalize ta i = y at *
      have p1 : 0 < [a', b', p', d'].getD ((i : Int).toNat) 0 → ((M i).at_ < 0 ∨ 0 < q) → M (i + 1) = ⟨x, y, i⟩ := fun h h' => by
        rw [Int.toNat_natCast, ← e2] at h
        rw [hM1, if_pos ⟨h, h'⟩]
      have p2 : ([a', b', p', d'].getD ((i : Int).toNat) 0 ≤ 0 ∨ (0 ≤ (M i).at_ ∧ q ≤ 0)) → M (i + 1) = M i := fun h => by
        rw [Int.toNat_natCast, ← e2] at h
        rw [hM1, if_neg (fun h' => by omega)]
      cbv
      repeat' (first | (refine Br.mk (fun hb => ?_) (fun hb => ?_) <;> ((try rw [ho] at hb); (try dsimp only [Ar.real, IX.vo] at hb); (try simp only [QB7] at hb); (try simp only [QBo, beq_iff_eq, beq_eq_false_iff_ne, ne_eq] at hb))) | (refine StopN.mk ?_; cbv) | (refine CallI.pure hP hq fn36 rfl rfl (by (rw [ho]; (try dsimp only [Ar.real, IX.vo, IX.val]); (try simp only [castI_eq]); (repeat rw [wrap_i64 (by omega) (by omega)])); rw [e1, e2]; rfl) ?_); cbv | ((first | refine CallI.pure hP (x_r02Cmp _ _ _ _ ‹_› ‹_› ‹_› ‹_›) fn36 (by first | rfl | (rw [ho]; done) | (rw [ho]; rfl)) (by rfl) (by first | rfl | (rw [ho]; done) | (rw [ho]; rfl)) ?_ | refine CallN.pure hP (x_r02Cmp _ _ _ _ ‹_› ‹_› ‹_› ‹_›) fn36 (by first | rfl | (rw [ho]; done) | (rw [ho]; rfl)) (by rfl) (by first | rfl | (rw [ho]; done) | (rw [ho]; rfl)) ?_); (try rw [← ho]); generalize hr : rFracCmp _ _ _ _ = r; (try rw [ho] at hr); (try dsimp only [Ar.real, IX.vo] at hr); (try simp only [QB7] at hr); cbv) | ((first | refine CallI.pure hP (x_r06Right _) fn85 (by first | rfl | (rw [ho]; done) | (rw [ho]; rfl)) (by rfl) (by first | rfl | (rw [ho]; done) | (rw [ho]; rfl)) ?_ | refine CallN.pure hP (x_r06Right _) fn85 (by first | rfl | (rw [ho]; done) | (rw [ho]; rfl)) (by rfl) (by first | rfl | (rw [ho]; done) | (rw [ho]; rfl)) ?_); (try rw [← ho]); generalize hr : sumsRight _ = r; (try rw [ho] at hr); (try dsimp only [Ar.real, IX.vo] at hr); (try simp only [QB7] at hr); cbv) | (refine hK _ _ ?_) | (refine NeedT.mk ?_ ?_))
      any_goals (((try clear hR3); (try clear hR2); (try clear hR); (try clear hK); (try simp only [ncCast] at *); (try simp only [castI_eq] at *); (try rw [ho]); (try dsimp only [Ar.real, IX.vo, IX.val, BX.val, IX.toN]); (try simp only [QB7]); (try simp only [decide_eq_true_eq]); (all_goals (repeat rw [wrap_i64 (by omega) (by omega)])); (all_goals (first | omega | (simp only [Int.ofNat_eq_natCast]; omega)))); done)
      · have h5 := p1 (by assumption) (.inl hb)
        refine hR _ (i + 1) (by show 4 - (i + 1) < 4 - i; ((try clear hR3); (try clear hR2); (try clear hR); (try clear hK); (try simp only [ncCast] at *); (try simp only [castI_eq] at *)); omega) (by show i + 1 ≤ 4; ((try clear hR3); (try clear hR2); (try clear hR); (try clear hK); (try simp only [ncCast] at *); (try simp only [castI_eq] at *)); omega) ?_
        refine ⟨(by cbv), by cbv; repeat' (first | trivial | exact EqX.rfl' | exact EqO.rfl' | apply And.intro | ((try clear hR3); (try clear hR2); (try clear hR); (try clear hK); (try simp only [ncCast] at *); (try simp only [castI_eq] at *); refine EqX.i ?_; (try rw [ho]); (try dsimp only [Ar.real, IX.vo, IX.val, BX.val, IX.toN]); (try simp only [QB7]); (repeat rw [wrap_i64 (by omega) (by omega)]); omega) | (refine EqX.i ?_; rw [h5]; rfl) | exact ⟨by rw [h5, ho]; simp only [OX.toOb, X.toDL, X.toD]; rw [e1, e2]; rfl⟩), by cbv; repeat' (first | trivial | exact EqO.rfl' | apply And.intro | (refine EqX.i ?_; rw [h5]; rfl) | exact ⟨by rw [h5, ho]; simp only [OX.toOb, X.toDL, X.toD]; rw [e1, e2]; rfl⟩), by cbv; repeat' (first | trivial | exact EqO.rfl' | apply And.intro | (refine EqX.i ?_; rw [h5]; rfl) | exact ⟨by rw [h5, ho]; simp only [OX.toOb, X.toDL, X.toD]; rw [e1, e2]; rfl⟩)⟩
      · have h5 := p1 (by assumption) (.inr hb)
        refine hR _ (i + 1) (by show 4 - (i + 1) < 4 - i; ((try clear hR3); (try clear hR2); (try clear hR); (try clear hK); (try simp only [ncCast] at *); (try simp only [castI_eq] at *)); omega) (by show i + 1 ≤ 4; ((try clear hR3); (try clear hR2); (try clear hR); (try clear hK); (try simp only [ncCast] at *); (try simp only [castI_eq] at *)); omega) ?_
        refine ⟨(by cbv), by cbv; repeat' (first | trivial | exact EqX.rfl' | exact EqO.rfl' | apply And.intro | ((try clear hR3); (try clear hR2); (try clear hR); (try clear hK); (try simp only [ncCast] at *); (try simp only [castI_eq] at *); refine EqX.i ?_; (try rw [ho]); (try dsimp only [Ar.real, IX.vo, IX.val, BX.val, IX.toN]); (try simp only [QB7]); (repeat rw [wrap_i64 (by omega) (by omega)]); omega) | (refine EqX.i ?_; rw [h5]; rfl) | exact ⟨by rw [h5, ho]; simp only [OX.toOb, X.toDL, X.toD]; rw [e1, e2]; rfl⟩), by cbv; repeat' (first | trivial | exact EqO.rfl' | apply And.intro | (refine EqX.i ?_; rw [h5]; rfl) | exact ⟨by rw [h5, ho]; simp only [OX.toOb, X.toDL, X.toD]; rw [e1, e2]; rfl⟩), by cbv; repeat' (first | trivial | exact EqO.rfl' | apply And.intro | (refine EqX.i ?_; rw [h5]; rfl) | exact ⟨by rw [h5, ho]; simp only [OX.toOb, X.toDL, X.toD]; rw [e1, e2]; rfl⟩)⟩
      · have h5 := p2 (.inr ⟨by assumption, hb⟩)
        refine hR _ (i + 1) (by show 4 - (i + 1) < 4 - i; ((try clear hR3); (try clear hR2); (try clear hR); (try clear hK); (try simp only [ncCast] at *); (try simp only [castI_eq] at *)); omega) (by show i + 1 ≤ 4; ((try clear hR3); (try clear hR2); (try clear hR); (try clear hK); (try simp only [ncCast] at *); (try simp only [castI_eq] at *)); omega) ?_
        refine ⟨(by cbv), by cbv; repeat' (first | trivial | exact EqX.rfl' | exact EqO.rfl' | apply And.intro | ((try clear hR3); (try clear hR2); (try clear hR); (try clear hK); (try simp only [ncCast] at *); (try simp only [castI_eq] at *); refine EqX.i ?_; (try rw [ho]); (try dsimp only [Ar.real, IX.vo, IX.val, BX.val, IX.toN]); (try simp only [QB7]); (repeat rw [wrap_i64 (by omega) (by omega)]); omega) | (refine EqX.i ?_; rw [h5]) | exact ⟨by rw [h5]⟩), by cbv; repeat' (first | trivial | exact EqO.rfl' | apply And.intro | (refine EqX.i ?_; rw [h5]) | exact ⟨by rw [h5]⟩), by cbv; repeat' (first | trivial | exact EqO.rfl' | apply And.intro | (refine EqX.i ?_; rw [h5]) | exact ⟨by rw [h5]⟩)⟩
      · have h5 := p2 (.inl hb)
        refine hR _ (i + 1) (by show 4 - (i + 1) < 4 - i; ((try clear hR3); (try clear hR2); (try clear hR); (try clear hK); (try simp only [ncCast] at *); (try simp only [castI_eq] at *)); omega) (by show i + 1 ≤ 4; ((try clear hR3); (try clear hR2); (try clear hR); (try clear hK); (try simp only [ncCast] at *); (try simp only [castI_eq] at *)); omega) ?_
        refine ⟨(by cbv), by cbv; repeat' (first | trivial | exact EqX.rfl' | exact EqO.rfl' | apply And.intro | ((try clear hR3); (try clear hR2); (try clear hR); (try clear hK); (try simp only [ncCast] at *); (try simp only [castI_eq] at *); refine EqX.i ?_; (try rw [ho]); (try dsimp only [Ar.real, IX.vo, IX.val, BX.val, IX.toN]); (try simp only [QB7]); (repeat rw [wrap_i64 (by omega) (by omega)]); omega) | (refine EqX.i ?_; rw [h5]) | exact ⟨by rw [h5]⟩), by cbv; repeat' (first | trivial | exact EqO.rfl' | apply And.intro | (refine EqX.i ?_; rw [h5]) | exact ⟨by rw [h5]⟩), by cbv; repeat' (first | trivial | exact EqO.rfl' | apply And.intro | (refine EqX.i ?_; rw [h5]) | exact ⟨by rw [h5]⟩)⟩
      · obtain rfl : i = 4 := by omega
        exact FinX_dom rfl rfl rfl
  · rw [if_neg h0]
    generalize sumsRight s = rs at *
    generalize sumsRight t = rt at *
    obtain ⟨a, b, p, d⟩ := s
    obtain ⟨a', b', p', d'⟩ := t
    (refine XC.of_body ([(3, []), (7, [(1, 7), (2, 7), (4, 7), (5, 7)]), (10, [])]) Try.func34 rfl Try.ntmps34 mixed (T := [(2, ti2), (3, ti3), (4, ti4), (52, ti52), (64, ti64)]) (.cons tok2 (.cons tok3 (.cons tok4 (.cons tok52 (.cons tok64 .nil))))) (by kernel_rfl) (by simp) rfl rfl rfl rfl rfl ?_; rintro o ho P hP c K hK; have hm : P.follows .mixedOrders = true := hP ▸ mixed; have hT : TOk P [(2, ti2), (3, ti3), (4, ti4), (52, ti52), (64, ti64)] := hP ▸ (.cons tok2 (.cons tok3 (.cons tok4 (.cons tok52 (.cons tok64 .nil))))); (try rw [← ho]); cbv; (repeat (refine StopN.mk ?_; cbv)))
    repeat' (first | (refine Br.mk (fun hb => ?_) (fun hb => ?_) <;> ((try rw [ho] at hb); (try dsimp only [Ar.real, IX.vo] at hb); (try simp only [QB7] at hb); (try simp only [QBo, beq_iff_eq, beq_eq_false_iff_ne, ne_eq] at hb))) | (refine StopN.mk ?_; cbv) | (first | refine CallI.pure hP hs fn85 rfl rfl rfl ?_ | refine CallI.pure hP ht fn85 rfl rfl rfl ?_); cbv | ((first | refine CallI.pure hP (x_r02Cmp _ _ _ _ ‹_› ‹_› ‹_› ‹_›) fn36 (by first | rfl | (rw [ho]; done) | (rw [ho]; rfl)) (by rfl) (by first | rfl | (rw [ho]; done) | (rw [ho]; rfl)) ?_ | refine CallN.pure hP (x_r02Cmp _ _ _ _ ‹_› ‹_› ‹_› ‹_›) fn36 (by first | rfl | (rw [ho]; done) | (rw [ho]; rfl)) (by rfl) (by first | rfl | (rw [ho]; done) | (rw [ho]; rfl)) ?_); (try rw [← ho]); generalize hr : rFracCmp _ _ _ _ = r; (try rw [ho] at hr); (try dsimp only [Ar.real, IX.vo] at hr); (try simp only [QB7] at hr); cbv) | ((first | refine CallI.pure hP (x_r06Right _) fn85 (by first | rfl | (rw [ho]; done) | (rw [ho]; rfl)) (by rfl) (by first | rfl | (rw [ho]; done) | (rw [ho]; rfl)) ?_ | refine CallN.pure hP (x_r06Right _) fn85 (by first | rfl | (rw [ho]; done) | (rw [ho]; rfl)) (by rfl) (by first | rfl | (rw [ho]; done) | (rw [ho]; rfl)) ?_); (try rw [← ho]); generalize hr : sumsRight _ = r; (try rw [ho] at hr); (try dsimp only [Ar.real, IX.vo] at hr); (try simp only [QB7] at hr); cbv) | (refine hK _ _ ?_) | (refine NeedT.mk ?_ ?_))
    all_goals first
      | exact FinX_dom rfl rfl rfl
      | (exfalso; simp_all; done)
end Go.Proofs.Ytddgcegimmcbgaa.Sy

/-
  Numbers by digits: what products and comparisons of the document answer. Plain theorems.
-/
set_option linter.unusedSectionVars false
namespace Go.Proofs.Ytddgcegimmcbgaa.Sy
open Go Go.Sy Go.Proofs.Ytddgcegimmcbgaa
set_option maxRecDepth 100000
set_option maxHeartbeats 8000000
set_option linter.unusedVariables false
set_option linter.unusedSimpArgs false

def val : List Int → Int
  | [] => 0
  | d :: l => d + 65536 * val l
def DgOk (l : List Int) : Prop := ∀ j, 0 ≤ l.getD j 0 ∧ l.getD j 0 < 65536
theorem DgOk.tail {d : Int} {l : List Int} (h : DgOk (d :: l)) : DgOk l := fun j => by
  have := h (j + 1)
  simpa using this
theorem DgOk.head {d : Int} {l : List Int} (h : DgOk (d :: l)) : 0 ≤ d ∧ d < 65536 := by
  have := h 0
  simpa using this
theorem getD_set (l : List Int) (j k : Nat) (x : Int) (hj : j < l.length) : (l.set j x).getD k 0 = if j = k then x else l.getD k 0 := by
  rw [List.getD_eq_getElem?_getD, List.getElem?_set, List.getD_eq_getElem?_getD]
  split
  · first | rfl | (rw [if_pos (by omega)]; rfl)
  · rfl
theorem DgOk.set {l : List Int} (h : DgOk l) {j : Nat} {x : Int} (hx : 0 ≤ x ∧ x < 65536) : DgOk (l.set j x) := fun k => by
  by_cases hj : j < l.length
  · rw [getD_set l j k x hj]
    split
    · exact hx
    · exact h k
  · rw [List.set_eq_of_length_le (by omega)]
    exact h k
theorem val_set (l : List Int) : ∀ (j : Nat) (x : Int), j < l.length → val (l.set j x) = val l + (x - l.getD j 0) * 65536 ^ j := by
  induction l with
  | nil => intro j x h; simp at h
  | cons d l ih =>
    intro j x h
    cases j with
    | zero => simp only [List.set_cons_zero, val, List.getD_cons_zero, Int.pow_zero]; omega
    | succ j =>
      have := ih j x (by simpa using h)
      simp only [List.set_cons_succ, val, List.getD_cons_succ, this, Int.pow_succ]
      grind
theorem val_take (l : List Int) : ∀ n, val (l.take (n + 1)) = val (l.take n) + l.getD n 0 * 65536 ^ n := by
  induction l with
  | nil => intro n; simp [val]
  | cons d l ih =>
    intro n
    cases n with
    | zero => simp [val]
    | succ n =>
      simp only [List.take_succ_cons, val, ih n, List.getD_cons_succ, Int.pow_succ]
      grind
theorem val_rep (n : Nat) : val (List.replicate n 0) = 0 := by
  induction n with
  | zero => rfl
  | succ n ih => simp [List.replicate_succ, val, ih]
theorem pow_pos' (n : Nat) : (0 : Int) < 65536 ^ n := Int.pow_pos (by decide)
theorem val_bd {l : List Int} (h : DgOk l) : ∀ n, 0 ≤ val (l.take n) ∧ val (l.take n) < 65536 ^ n
  | 0 => by simp [val]
  | n + 1 => by
    obtain ⟨h1, h2⟩ := val_bd h n
    rw [val_take, Int.pow_succ]
    have h3 := h n
    have h4 := pow_pos' n
    have h5 : 0 ≤ l.getD n 0 * 65536 ^ n := Int.mul_nonneg h3.1 (by omega)
    have h6 : l.getD n 0 * 65536 ^ n ≤ 65535 * 65536 ^ n := Int.mul_le_mul_of_nonneg_right (by omega) (by omega)
    omega
theorem lessTo_val {a b : List Int} (ha : DgOk a) (hb : DgOk b) : ∀ n, lessTo a b n = decide (val (a.take n) < val (b.take n))
  | 0 => by simp [lessTo, val]
  | n + 1 => by
    have ih := lessTo_val ha hb n
    simp only [lessTo, ih, val_take]
    have h1 := val_bd ha n
    have h2 := val_bd hb n
    have h3 := ha n
    have h4 := hb n
    generalize a.getD n 0 = x at *
    generalize b.getD n 0 = y at *
    have hp := pow_pos' n
    generalize (65536 : Int) ^ n = p at *
    split
    · rename_i e
      subst e
      exact decide_eq_decide.2 (by omega)
    · rename_i e
      refine decide_eq_decide.2 ⟨fun h => ?_, fun h => ?_⟩
      · have h5 : (x + 1) * p ≤ y * p := Int.mul_le_mul_of_nonneg_right (by omega) (by omega)
        rw [Int.add_mul] at h5
        omega
      · by_cases hxy : x < y
        · exact hxy
        · have h5 : (y + 1) * p ≤ x * p := Int.mul_le_mul_of_nonneg_right (by omega) (by omega)
          rw [Int.add_mul] at h5
          omega
theorem w64_eq {x : Int} (h : 0 ≤ x) (h' : x < 9223372036854775808) : w64 x = x := wrap_i64 (by omega) (by omega)
theorem dg_eq {x : Int} (h : 0 ≤ x ∧ x < 18446744073709551616) : dg x = x % 65536 := by
  unfold dg
  rw [Int.tmod_eq_emod_of_nonneg h.1, wrap_i64 (by omega) (by omega)]
theorem nq_eq {x : Int} (h : 0 ≤ x ∧ x < 18446744073709551616) : nq x = x / 65536 := by
  unfold nq
  rw [Int.tdiv_eq_ediv_of_nonneg h.1, wrap_u64 (by omega) (by omega)]
theorem digs_val {x : Int} (h : 0 ≤ x ∧ x < 18446744073709551616) : val (digsR 0 x) = x ∧ DgOk (digsR 0 x) := by
  have e0 : dg 0 = 0 := by rw [dg_eq (by omega)]; rfl
  have e1 : nq 0 = 0 := by rw [nq_eq (by omega)]; rfl
  unfold digsR
  rw [e1, e1, e1, e0, nq_eq h, nq_eq (x := x / 65536) (by omega), nq_eq (x := x / 65536 / 65536) (by omega), dg_eq h, dg_eq (x := x / 65536) (by omega), dg_eq (x := x / 65536 / 65536) (by omega), dg_eq (x := x / 65536 / 65536 / 65536) (by omega)]
  refine ⟨by simp only [val]; omega, fun j => ?_⟩
  match j with
  | 0 | 1 | 2 | 3 | 4 | 5 | 6 | 7 => simp only [List.getD_cons_zero, List.getD_cons_succ]; omega
  | n + 8 => simp [List.getD_cons_succ]
/-! ### Products -/
theorem pIn_val {out a b : List Int} {i : Nat} (ho : DgOk out) (ha : DgOk a) (hb : DgOk b) : ∀ k, k ≤ b.length → i + k ≤ out.length →
    DgOk (pIn out a b i k).out ∧ (0 ≤ (pIn out a b i k).over ∧ (pIn out a b i k).over < 65536) ∧
    val (pIn out a b i k).out + (pIn out a b i k).over * 65536 ^ (i + k) = val out + a.getD i 0 * val (b.take k) * 65536 ^ i ∧
    ∀ j, i + k ≤ j → (pIn out a b i k).out.getD j 0 = out.getD j 0
  | 0, _, _ => by simp [pIn, val]; exact ho
  | k + 1, h1, h2 => by
    obtain ⟨i1, i2, i3, i4⟩ := pIn_val (i := i) ho ha hb k (by omega) (by omega)
    have hlen := pIn_len out a b i k
    simp only [pIn]
    generalize pIn out a b i k = st at *
    obtain ⟨k0, o1, ov⟩ := st
    dsimp only at *
    have hx := i1 (i + k)
    have hA := ha i
    have hB := hb k
    have hm : 0 ≤ a.getD i 0 * b.getD k 0 ∧ a.getD i 0 * b.getD k 0 ≤ 65535 * 65535 := ⟨Int.mul_nonneg hA.1 hB.1, Int.mul_le_mul (by omega) (by omega) hB.1 (by decide)⟩
    have hn : pN o1 a b i k ov = o1.getD (i + k) 0 + a.getD i 0 * b.getD k 0 + ov := by
      unfold pN
      rw [w64_eq hm.1 (by omega), w64_eq (x := o1.getD (i + k) 0 + a.getD i 0 * b.getD k 0) (by omega) (by omega), w64_eq (by omega) (by omega)]
    rw [hn]
    obtain ⟨n, hn0⟩ : ∃ n, n = o1.getD (i + k) 0 + a.getD i 0 * b.getD k 0 + ov := ⟨_, rfl⟩
    rw [← hn0]
    have hnb : 0 ≤ n ∧ n < 4294967296 := by omega
    rw [Int.tmod_eq_emod_of_nonneg hnb.1, Int.tdiv_eq_ediv_of_nonneg hnb.1, w64_eq (by omega) (by omega)]
    refine ⟨i1.set (by omega), by omega, ?_, fun j hj => ?_⟩
    · rw [val_set _ _ _ (by omega), val_take]
      have e : n % 65536 + 65536 * (n / 65536) = n := by omega
      generalize n % 65536 = r at *
      generalize n / 65536 = q at *
      have p1 : (65536 : Int) ^ (i + (k + 1)) = 65536 ^ (i + k) * 65536 := by rw [← Nat.add_assoc, Int.pow_succ]
      have p2 : (65536 : Int) ^ (i + k) = 65536 ^ i * 65536 ^ k := Int.pow_add ..
      rw [p1]
      rw [p2] at i3 ⊢
      clear p1 p2 hm hn hx hA hB i1 i2 i4 ho ha hb h1 h2 hlen hnb
      generalize (65536 : Int) ^ i = P at *
      generalize (65536 : Int) ^ k = Q at *
      generalize a.getD i 0 = A at *
      generalize b.getD k 0 = B at *
      generalize o1.getD (i + k) 0 = X at *
      generalize val (List.take k b) = V at *
      generalize val o1 = U at *
      generalize val out = W at *
      subst e
      grind
    · rw [getD_set _ _ _ _ (by omega), if_neg (by omega)]
      exact i4 j (by omega)
theorem pOut_val {a b : List Int} (ha : DgOk a) (hb : DgOk b) : ∀ i, i ≤ a.length →
    DgOk (pOut a b i) ∧ val (pOut a b i) = val (a.take i) * val b ∧ ∀ j, i + b.length ≤ j → (pOut a b i).getD j 0 = 0
  | 0, _ => by
    refine ⟨fun j => ?_, ?_, fun j _ => ?_⟩
    · simp only [pOut, List.getD_eq_getElem?_getD, List.getElem?_replicate]
      split <;> simp
    · simp [pOut, val_rep, val]
    · simp only [pOut, List.getD_eq_getElem?_getD, List.getElem?_replicate]
      split <;> simp
  | i + 1, h => by
    obtain ⟨h1, h2, h3⟩ := pOut_val ha hb i (by omega)
    have hl := pOut_len a b i
    obtain ⟨i1, i2, i3, i4⟩ := pIn_val (i := i) h1 ha hb b.length (Nat.le_refl _) (by omega)
    have hl2 := pIn_len (pOut a b i) a b i b.length
    simp only [pOut]
    generalize pIn (pOut a b i) a b i b.length = st at *
    obtain ⟨k0, o1, ov⟩ := st
    dsimp only at *
    refine ⟨i1.set i2, ?_, fun j hj => ?_⟩
    · rw [val_set _ _ _ (by omega), i4 _ (Nat.le_refl _), h3 _ (Nat.le_refl _), val_take, Int.sub_zero, i3, h2, List.take_length, Int.add_mul]
      congr 1
      grind
    · rw [getD_set _ _ _ _ (by omega), if_neg (by omega), i4 j (by omega), h3 j (by omega)]
theorem prod_val {a b : List Int} (ha : DgOk a) (hb : DgOk b) : val (pOut a b a.length) = val a * val b ∧ DgOk (pOut a b a.length) := by
  obtain ⟨h1, h2, _⟩ := pOut_val ha hb a.length (Nat.le_refl _)
  rw [List.take_length] at h2
  exact ⟨h2, h1⟩
theorem less_val {a b : List Int} (ha : DgOk a) (hb : DgOk b) (hl : a.length = b.length) : lessTo a b a.length = decide (val a < val b) := by
  rw [lessTo_val ha hb, List.take_length, hl, List.take_length]
theorem prodD_val {x y : Int} (hx : 0 ≤ x ∧ x < 18446744073709551616) (hy : 0 ≤ y ∧ y < 18446744073709551616) : val (prodD x y) = x * y ∧ DgOk (prodD x y) := by
  obtain ⟨h1, h2⟩ := digs_val hx
  obtain ⟨h3, h4⟩ := digs_val hy
  have := prod_val h2 h4
  rw [h1, h3] at this
  exact this
theorem rFracCmp_eq {a b u v : Int} (ha : i64B a) (hb : i64B b) (hu : i64B u) (hv : i64B v) : rFracCmp a b u v = fracCmp a b u v := by
  unfold rFracCmp fracCmp
  by_cases h : fracRight a b = true ∧ fracRight u v = true
  · rw [if_pos h, if_pos h]
    simp only [fracRight, Bool.and_eq_true, decide_eq_true_eq] at h
    obtain ⟨h1, h2⟩ := prodD_val (x := a) (y := v) (by unfold i64B at *; omega) (by unfold i64B at *; omega)
    obtain ⟨h3, h4⟩ := prodD_val (x := u) (y := b) (by unfold i64B at *; omega) (by unfold i64B at *; omega)
    rw [less_val h2 h4 (by rw [prodD_len, prodD_len]), less_val h4 h2 (by rw [prodD_len, prodD_len]), h1, h3]
    generalize a * v = p
    generalize u * b = q
    simp only [decide_eq_true_eq]
    repeat' split
    all_goals omega
  · rw [if_neg h, if_neg h]
theorem rDom_eq (s t : S4) : rDom s t = sumsDom s t := by
  unfold rDom sumsDom
  by_cases h : sumsRight s = true ∧ sumsRight t = true
  · rw [if_pos h, if_pos h]
    have key : ∀ k, rDomTo s t k = domTo s t k := by
      intro k
      induction k with
      | zero => rfl
      | succ k ih =>
        have hb := domTo_bd h.1 h.2 k
        have h1 := S4.at_bd h.1 k
        have h2 := S4.at_bd h.2 k
        simp only [rDomTo, domTo, ih]
        unfold rDomStep domStep
        rw [rFracCmp_eq (by unfold i64B; omega) (by unfold i64B; omega) (by unfold i64B; omega) (by unfold i64B; omega)]
        have e : ((domTo s t k).at_ < 0) ↔ ((domTo s t k).at_ = -1) := by omega
        simp only [e]
    exact key 4
  · rw [if_neg h, if_neg h]
end Go.Proofs.Ytddgcegimmcbgaa.Sy

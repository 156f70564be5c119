/-
  Amounts, wide products, fractions, sums: contracts. Plain theorems.
-/
import Derived.Test.YtlblpbahoblihaaGreatK1
import Derived.Test.YtlblpbahoblihaaGreatSyZb
set_option linter.unusedSectionVars false
set_option maxRecDepth 100000
set_option maxHeartbeats 8000000
set_option linter.unusedVariables false
set_option linter.unusedSimpArgs false
namespace Go.Proofs.YtlblpbahoblihaaGreat.Sy
open Go Go.Sy Go.Proofs.YtlblpbahoblihaaGreat
structure Fr where
  num : Int
  den : Int
  deriving DecidableEq
instance : Inhabited Fr := ⟨⟨0, 0⟩⟩
def foldAFr_num (e : Fr) := (by
  have h : PLift (e.num = e.num) := ⟨rfl⟩
  conv at h => arg 1; lhs; delta Fr.num
  exact h)
theorem foldFr_num (e : Fr) : type_of% (foldAFr_num e).down := (foldAFr_num e).down
def foldAFr_den (e : Fr) := (by
  have h : PLift (e.den = e.den) := ⟨rfl⟩
  conv at h => arg 1; lhs; delta Fr.den
  exact h)
theorem foldFr_den (e : Fr) : type_of% (foldAFr_den e).down := (foldAFr_den e).down
theorem foldFr : (⟨0, 0⟩ : Fr) = default := rfl
theorem QB1 : type_of% (And.intro @foldFr (And.intro @foldFr_num (And.intro @foldFr_den (QSyVa)))) := And.intro @foldFr (And.intro @foldFr_num (And.intro @foldFr_den (QSyVa)))
@[reducible] def xu (x : Int) : X := .i .u64 (.s x)
theorem band_low {a : Int} (h0 : 0 ≤ a) (h1 : a < 18446744073709551616) : ((BitVec.ofInt 64 a &&& BitVec.ofInt 64 4294967295).toNat : Int) = a % 4294967296 := by
  obtain ⟨n, rfl⟩ := Int.eq_ofNat_of_zero_le h0
  have hn : n < 18446744073709551616 := by omega
  rw [BitVec.toNat_and]
  have e1 : (BitVec.ofInt 64 (n : Int)).toNat = n := by
    rw [BitVec.toNat_ofInt]
    omega
  have e2 : (BitVec.ofInt 64 4294967295).toNat = 4294967295 := by decide
  rw [e1, e2]
  have e3 : (4294967295 : Nat) = 2 ^ 32 - 1 := by decide
  rw [e3, Nat.and_two_pow_sub_one_eq_mod]
  omega
theorem wrap_u64 {a : Int} (h0 : 0 ≤ a) (h1 : a < 18446744073709551616) : IntKind.u64.wrap a = a := by
  have e : IntKind.u64.wrap a = a % 18446744073709551616 := by
    first | rfl | simp [IntKind.wrap]
  rw [e]; omega
theorem wrap_u64_mod (a : Int) : IntKind.u64.wrap a = a % 18446744073709551616 := by
  first | rfl | simp [IntKind.wrap]
def mulHi (a b : Int) : Int := a * b / 18446744073709551616
def mulLo (a b : Int) : Int := a * b % 18446744073709551616
theorem mul_core {al ah bl bh : Int} (h1 : 0 ≤ al) (h2 : al < 4294967296) (h3 : 0 ≤ ah) (h4 : ah < 4294967296) (h5 : 0 ≤ bl) (h6 : bl < 4294967296) (h7 : 0 ≤ bh) (h8 : bh < 4294967296) {mid side : Int} (hm : mid = ah * bl + al * bl / 4294967296) (hs : side = al * bh + mid % 4294967296) :
    0 ≤ mid ∧ mid < 18446744073709551616 ∧ 0 ≤ side ∧ side < 18446744073709551616 ∧ ah * bh + mid / 4294967296 + side / 4294967296 = (ah * 4294967296 + al) * (bh * 4294967296 + bl) / 18446744073709551616 ∧
    side % 4294967296 * 4294967296 + al * bl % 4294967296 = (ah * 4294967296 + al) * (bh * 4294967296 + bl) % 18446744073709551616 ∧ 0 ≤ ah * bl ∧ ah * bl ≤ 18446744065119617025 ∧ 0 ≤ al * bl ∧ al * bl ≤ 18446744065119617025 ∧ 0 ≤ al * bh ∧ al * bh ≤ 18446744065119617025 ∧ 0 ≤ ah * bh ∧ ah * bh ≤ 18446744065119617025 := by
  have bd : ∀ x y : Int, 0 ≤ x → x < 4294967296 → 0 ≤ y → y < 4294967296 → 0 ≤ x * y ∧ x * y ≤ 18446744065119617025 := fun x y a1 a2 a3 a4 => by
    refine ⟨Int.mul_nonneg a1 a3, ?_⟩
    have : x * y ≤ 4294967295 * 4294967295 := Int.mul_le_mul (by omega) (by omega) a3 (by decide)
    omega
  obtain ⟨p1, p2⟩ := bd al bl h1 h2 h5 h6
  obtain ⟨q1, q2⟩ := bd ah bl h3 h4 h5 h6
  obtain ⟨r1, r2⟩ := bd al bh h1 h2 h7 h8
  obtain ⟨s1, s2⟩ := bd ah bh h3 h4 h7 h8
  have e : (ah * 4294967296 + al) * (bh * 4294967296 + bl) = ah * bh * 18446744073709551616 + (ah * bl + al * bh) * 4294967296 + al * bl := by
    rw [Int.add_mul, Int.mul_add, Int.mul_add]
    have t1 : ah * 4294967296 * (bh * 4294967296) = ah * bh * 18446744073709551616 := by
      rw [Int.mul_assoc, Int.mul_comm 4294967296, Int.mul_assoc bh, ← Int.mul_assoc]; rfl
    have t2 : ah * 4294967296 * bl = ah * bl * 4294967296 := by rw [Int.mul_assoc, Int.mul_comm 4294967296, ← Int.mul_assoc]
    have t3 : al * (bh * 4294967296) = al * bh * 4294967296 := by rw [Int.mul_assoc]
    rw [t1, t2, t3, Int.add_mul]
    omega
  rw [e]
  generalize al * bl = p at *
  generalize ah * bl = q at *
  generalize al * bh = r at *
  generalize ah * bh = s at *
  subst hm hs
  refine ⟨by omega, by omega, by omega, by omega, by omega, by omega, q1, q2, p1, p2, r1, r2, s1, s2⟩
theorem FinX_agg2 {k1 k2 : IntKind} {a b : Int} {x y : IX} (h1 : x.val = a) (h2 : y.val = b) : FinX (.agg [.i k1 (.s a), .i k2 (.s b)]) [] (.agg [.i k1 x, .i k2 y]) [] := .pure fun _ => by simp only [X.toD, X.toDL, h1, h2]; rfl
theorem x_Mul (a b : Int) (ha : 0 ≤ a ∧ a < 18446744073709551616) (hb' : 0 ≤ b ∧ b < 18446744073709551616) : XC Tryz.prog 131 [xu a, xu b] [] (.agg [xu (mulHi a b), xu (mulLo a b)]) [] := by
  obtain ⟨al, hal⟩ : ∃ q, q = a % 4294967296 := ⟨_, rfl⟩
  obtain ⟨ah, hah⟩ : ∃ q, q = a / 4294967296 := ⟨_, rfl⟩
  obtain ⟨bl, hbl⟩ : ∃ q, q = b % 4294967296 := ⟨_, rfl⟩
  obtain ⟨bh, hbh⟩ : ∃ q, q = b / 4294967296 := ⟨_, rfl⟩
  have ea : ah * 4294967296 + al = a := by omega
  have eb : bh * 4294967296 + bl = b := by omega
  have hcore := mul_core (al := al) (ah := ah) (bl := bl) (bh := bh) (by omega) (by omega) (by omega) (by omega) (by omega) (by omega) (by omega) (by omega) rfl rfl
  rw [ea, eb] at hcore
  (refine XC.of_body ([]) Tryz.func131 rfl Tryz.ntmps131 mixed (T := tl131) tk131 (by kernel_rfl) (by simp) rfl rfl rfl rfl rfl ?_; rintro o ho P hP c K hK; have hm : P.follows .mixedOrders = true := hP ▸ mixed; have hT : TOk P tl131 := hP ▸ tk131; (try rw [← ho]); cbv; (repeat (refine StopN.mk ?_; cbv)))
  repeat' (first | (refine Br.mk (fun hb => ?_) (fun hb => ?_) <;> ((try rw [ho] at hb); (try dsimp only [Ar.real, IX.vo] at hb); (try simp only [QB1] at hb); (try simp only [QBo, beq_iff_eq, beq_eq_false_iff_ne, ne_eq] at hb))) | (refine StopN.mk ?_; cbv) | (refine hK _ _ ?_) | (refine NeedT.mk ?_ ?_))
  any_goals (rw [ho]; exact decide_eq_true (by decide))
  obtain ⟨c1, c2, c3, c4, c5, c6, q1, q2, p1, p2, r1, r2, s1, s2⟩ := hcore
  have l1 : ∀ x : Int, 0 ≤ x → x < 18446744073709551616 → ((BitVec.ofInt IntKind.u64.bits x &&& BitVec.ofInt IntKind.u64.bits 4294967295).toNat : Int) = x % 4294967296 := fun x h0 h1 => band_low h0 h1
  have f1 : ∀ x : Int, x.fdiv (2 ^ (min (Int.toNat 32) IntKind.u64.bits)) = x / 4294967296 := fun x => by
    have e : ((2 : Int) ^ (min (Int.toNat 32) IntKind.u64.bits)) = 4294967296 := by decide
    rw [e, Int.fdiv_eq_ediv_of_nonneg _ (by decide)]
  have f2 : ∀ x : Int, x * 2 ^ (min (Int.toNat 32) IntKind.u64.bits) = x * 4294967296 := fun x => by
    have e : ((2 : Int) ^ (min (Int.toNat 32) IntKind.u64.bits)) = 4294967296 := by decide
    rw [e]
  have wa : IntKind.u64.wrap al = al := wrap_u64 (by omega) (by omega)
  have wb : IntKind.u64.wrap bl = bl := wrap_u64 (by omega) (by omega)
  have l2 : ∀ x : Int, ((BitVec.ofInt IntKind.u64.bits (IntKind.u64.wrap x) &&& BitVec.ofInt IntKind.u64.bits 4294967295).toNat : Int) = IntKind.u64.wrap x % 4294967296 := fun x => l1 _ (by rw [wrap_u64_mod]; omega) (by rw [wrap_u64_mod]; omega)
  unfold mulHi mulLo
  refine FinX_agg2 ?_ ?_
  all_goals
    ((try clear hR3); (try clear hR2); (try clear hR); (try clear hK); (try simp only [ncCast] at *); (try simp only [castI_eq] at *); (try rw [ho]); (try dsimp only [Ar.real, IX.vo, IX.val, BX.val, IX.toN]); (try simp only [QB1]))
    simp only [f1, f2, l1 a ha.1 ha.2, l1 b hb'.1 hb'.2, ← hal, ← hbl, ← hah, ← hbh, wa, wb, l2]
    simp only [wrap_u64_mod]
    generalize al * bl = p at *
    generalize ah * bl = q at *
    generalize al * bh = r at *
    generalize ah * bh = s at *
    generalize a * b = z at *
    clear l1 f1 f2 l2 hm hT
    omega
def wideCmp (a b c d : Int) : Int := if a = c ∧ b = d then 0 else if a < c ∨ (a = c ∧ b < d) then -1 else 1
theorem x_WCmp (a b c d : Int) : XC Tryz.prog 132 [.agg [xu a, xu b], .agg [xu c, xu d]] [] (xi (wideCmp a b c d)) [] := by
  (refine XC.of_body ([]) Tryz.func132 rfl Tryz.ntmps132 mixed (T := tl132) tk132 (by kernel_rfl) (by simp) rfl rfl rfl rfl rfl ?_; rintro o ho P hP c K hK; have hm : P.follows .mixedOrders = true := hP ▸ mixed; have hT : TOk P tl132 := hP ▸ tk132; (try rw [← ho]); cbv; (repeat (refine StopN.mk ?_; cbv)))
  repeat' (first | (refine Br.mk (fun hb => ?_) (fun hb => ?_) <;> ((try rw [ho] at hb); (try dsimp only [Ar.real, IX.vo] at hb); (try simp only [QB1] at hb); (try simp only [QBo, beq_iff_eq, beq_eq_false_iff_ne, ne_eq] at hb))) | (refine StopN.mk ?_; cbv) | (refine hK _ _ ?_) | (refine NeedT.mk ?_ ?_))
  all_goals
    refine .i ?_
    ((try clear hR3); (try clear hR2); (try clear hR); (try clear hK); (try simp only [ncCast] at *); (try simp only [castI_eq] at *); (try rw [ho]); (try dsimp only [Ar.real, IX.vo, IX.val, BX.val, IX.toN]); (try simp only [QB1]))
    simp only [Bool.and_eq_true, Bool.and_eq_false_iff, decide_eq_true_eq, decide_eq_false_iff_not] at *
    unfold wideCmp
    repeat' split
    all_goals omega
def fracRight (n d : Int) : Bool := decide (0 ≤ n) && decide (1 ≤ d)
theorem x_fracRight (n d : Int) : XC Tryz.prog 93 [.agg [xi n, xi d]] [] (xb (fracRight n d)) [] := by
  (refine XC.of_body ([]) Tryz.func93 rfl Tryz.ntmps93 mixed (T := tl93) tk93 (by kernel_rfl) (by simp) rfl rfl rfl rfl rfl ?_; rintro o ho P hP c K hK; have hm : P.follows .mixedOrders = true := hP ▸ mixed; have hT : TOk P tl93 := hP ▸ tk93; (try rw [← ho]); cbv; (repeat (refine StopN.mk ?_; cbv)))
  repeat' (first | (refine Br.mk (fun hb => ?_) (fun hb => ?_) <;> ((try rw [ho] at hb); (try dsimp only [Ar.real, IX.vo] at hb); (try simp only [QB1] at hb); (try simp only [QBo, beq_iff_eq, beq_eq_false_iff_ne, ne_eq] at hb))) | (refine StopN.mk ?_; cbv) | (refine hK _ _ ?_) | (refine NeedT.mk ?_ ?_))
  all_goals (refine .b ?_; ((try clear hR3); (try clear hR2); (try clear hR); (try clear hK); (try simp only [ncCast] at *); (try simp only [castI_eq] at *); (try rw [ho]); (try dsimp only [Ar.real, IX.vo, IX.val, BX.val, IX.toN]); (try simp only [QB1])); simp [fracRight, *])
  all_goals omega
def fracCmp (a b c d : Int) : Int := if fracRight a b = true ∧ fracRight c d = true then (if a * d = c * b then 0 else if a * d < c * b then -1 else 1) else 0
theorem wideCmp_mul {x y u v : Int} (h1 : 0 ≤ x * y) (h2 : 0 ≤ u * v) : wideCmp (mulHi x y) (mulLo x y) (mulHi u v) (mulLo u v) = if x * y = u * v then 0 else if x * y < u * v then -1 else 1 := by
  unfold wideCmp mulHi mulLo
  generalize x * y = p at *
  generalize u * v = q at *
  repeat' split
  all_goals omega
def i64B (x : Int) : Prop := -9223372036854775808 ≤ x ∧ x ≤ 9223372036854775807
theorem x_fracCmp (a b u v : Int) (ha : i64B a) (hb' : i64B b) (hc' : i64B u) (hd : i64B v) : XC Tryz.prog 110 [.agg [xi a, xi b], .agg [xi u, xi v]] [] (xi (fracCmp a b u v)) [] := by
  obtain ⟨a1, a2⟩ := ha
  obtain ⟨b1, b2⟩ := hb'
  obtain ⟨c1, c2⟩ := hc'
  obtain ⟨d1, d2⟩ := hd
  by_cases h : fracRight a b = true ∧ fracRight u v = true
  · have hr0 := h
    simp only [fracRight, Bool.and_eq_true, decide_eq_true_eq] at hr0
    obtain ⟨⟨a3, b3⟩, c3, d3⟩ := hr0
    have hm1 := x_Mul a v ⟨by omega, by omega⟩ ⟨by omega, by omega⟩
    have hm2 := x_Mul u b ⟨by omega, by omega⟩ ⟨by omega, by omega⟩
    have hw := wideCmp_mul (x := a) (y := v) (u := u) (v := b) (Int.mul_nonneg a3 (by omega)) (Int.mul_nonneg c3 (by omega))
    have hf : fracCmp a b u v = wideCmp (mulHi a v) (mulLo a v) (mulHi u b) (mulLo u b) := by rw [hw]; exact if_pos h
    have wa : IntKind.u64.wrap a = a := wrap_u64 (by omega) (by omega)
    have wb : IntKind.u64.wrap b = b := wrap_u64 (by omega) (by omega)
    have wu : IntKind.u64.wrap u = u := wrap_u64 (by omega) (by omega)
    have wv : IntKind.u64.wrap v = v := wrap_u64 (by omega) (by omega)
    rw [hf]
    generalize mulHi a v = p1 at *
    generalize mulLo a v = p2 at *
    generalize mulHi u b = p3 at *
    generalize mulLo u b = p4 at *
    have hm3 := x_WCmp p1 p2 p3 p4
    (refine XC.of_body (dt110) Tryz.func110 rfl Tryz.ntmps110 mixed (T := tl110) tk110 (by kernel_rfl) (by simp) rfl rfl rfl rfl rfl ?_; rintro o ho P hP c K hK; have hm : P.follows .mixedOrders = true := hP ▸ mixed; have hT : TOk P tl110 := hP ▸ tk110; (try rw [← ho]); cbv; (repeat (refine StopN.mk ?_; cbv)))
    repeat' (first | (refine Br.mk (fun hb => ?_) (fun hb => ?_) <;> ((try rw [ho] at hb); (try dsimp only [Ar.real, IX.vo] at hb); (try simp only [QB1] at hb); (try simp only [QBo, beq_iff_eq, beq_eq_false_iff_ne, ne_eq] at hb))) | (refine StopN.mk ?_; cbv) | (refine CallN.pure hP hm1 fn131 rfl rfl (by rw [ho]; show X.toDL _ [xu (IntKind.u64.wrap a), xu (IntKind.u64.wrap v)] = _; rw [wa, wv]) ?_; cbv) | (refine CallN.pure hP hm2 fn131 rfl rfl (by rw [ho]; show X.toDL _ [xu (IntKind.u64.wrap u), xu (IntKind.u64.wrap b)] = _; rw [wu, wb]) ?_; cbv) | (refine CallN.pure hP hm3 fn132 rfl rfl rfl ?_; cbv) | ((first | refine CallI.pure hP (x_fracRight _ _) fn93 (by first | rfl | (rw [ho]; try rfl)) (by rfl) (by first | rfl | (rw [ho]; try rfl)) ?_ | refine CallN.pure hP (x_fracRight _ _) fn93 (by first | rfl | (rw [ho]; try rfl)) (by rfl) (by first | rfl | (rw [ho]; try rfl)) ?_); (try rw [← ho]); generalize hr : fracRight _ _ = r; (try rw [ho] at hr); (try dsimp only [Ar.real, IX.vo] at hr); (try simp only [QB1] at hr); cbv) | (refine hK _ _ ?_) | (refine NeedT.mk ?_ ?_))
    all_goals first
      | exact .i rfl
      | (exfalso; simp_all; done)
  · rw [show fracCmp a b u v = 0 from if_neg h]
    (refine XC.of_body (dt110) Tryz.func110 rfl Tryz.ntmps110 mixed (T := tl110) tk110 (by kernel_rfl) (by simp) rfl rfl rfl rfl rfl ?_; rintro o ho P hP c K hK; have hm : P.follows .mixedOrders = true := hP ▸ mixed; have hT : TOk P tl110 := hP ▸ tk110; (try rw [← ho]); cbv; (repeat (refine StopN.mk ?_; cbv)))
    repeat' (first | (refine Br.mk (fun hb => ?_) (fun hb => ?_) <;> ((try rw [ho] at hb); (try dsimp only [Ar.real, IX.vo] at hb); (try simp only [QB1] at hb); (try simp only [QBo, beq_iff_eq, beq_eq_false_iff_ne, ne_eq] at hb))) | (refine StopN.mk ?_; cbv) | ((first | refine CallI.pure hP (x_fracRight _ _) fn93 (by first | rfl | (rw [ho]; try rfl)) (by rfl) (by first | rfl | (rw [ho]; try rfl)) ?_ | refine CallN.pure hP (x_fracRight _ _) fn93 (by first | rfl | (rw [ho]; try rfl)) (by rfl) (by first | rfl | (rw [ho]; try rfl)) ?_); (try rw [← ho]); generalize hr : fracRight _ _ = r; (try rw [ho] at hr); (try dsimp only [Ar.real, IX.vo] at hr); (try simp only [QB1] at hr); cbv) | ((first | refine CallI.pure hP (x_Mul _ _ ‹_› ‹_›) fn131 (by first | rfl | (rw [ho]; try rfl)) (by rfl) (by first | rfl | (rw [ho]; try rfl)) ?_ | refine CallN.pure hP (x_Mul _ _ ‹_› ‹_›) fn131 (by first | rfl | (rw [ho]; try rfl)) (by rfl) (by first | rfl | (rw [ho]; try rfl)) ?_); (try rw [← ho]); generalize hr : mulHi _ _ = r; (try rw [ho] at hr); (try dsimp only [Ar.real, IX.vo] at hr); (try simp only [QB1] at hr); generalize hr : mulLo _ _ = r; (try rw [ho] at hr); (try dsimp only [Ar.real, IX.vo] at hr); (try simp only [QB1] at hr); cbv) | ((first | refine CallI.pure hP (x_WCmp _ _ _ _) fn132 (by first | rfl | (rw [ho]; try rfl)) (by rfl) (by first | rfl | (rw [ho]; try rfl)) ?_ | refine CallN.pure hP (x_WCmp _ _ _ _) fn132 (by first | rfl | (rw [ho]; try rfl)) (by rfl) (by first | rfl | (rw [ho]; try rfl)) ?_); (try rw [← ho]); generalize hr : wideCmp _ _ _ _ = r; (try rw [ho] at hr); (try dsimp only [Ar.real, IX.vo] at hr); (try simp only [QB1] at hr); cbv) | (refine hK _ _ ?_) | (refine NeedT.mk ?_ ?_))
    all_goals first
      | exact .i rfl
      | (exfalso; simp_all; done)
end Go.Proofs.YtlblpbahoblihaaGreat.Sy
namespace Go.Proofs.YtlblpbahoblihaaGreat.Sy
open Go Go.Sy Go.Proofs.YtlblpbahoblihaaGreat
structure DomS where
  num : Int
  den : Int
  at_ : Int
instance : Inhabited DomS := ⟨⟨0, 0, 0⟩⟩
def foldADomS_num (e : DomS) := (by
  have h : PLift (e.num = e.num) := ⟨rfl⟩
  conv at h => arg 1; lhs; delta DomS.num
  exact h)
theorem foldDomS_num (e : DomS) : type_of% (foldADomS_num e).down := (foldADomS_num e).down
def foldADomS_den (e : DomS) := (by
  have h : PLift (e.den = e.den) := ⟨rfl⟩
  conv at h => arg 1; lhs; delta DomS.den
  exact h)
theorem foldDomS_den (e : DomS) : type_of% (foldADomS_den e).down := (foldADomS_den e).down
def foldADomS_at_ (e : DomS) := (by
  have h : PLift (e.at_ = e.at_) := ⟨rfl⟩
  conv at h => arg 1; lhs; delta DomS.at_
  exact h)
theorem foldDomS_at_ (e : DomS) : type_of% (foldADomS_at_ e).down := (foldADomS_at_ e).down
theorem foldDomS : (⟨0, 0, 0⟩ : DomS) = default := rfl
structure S4 where
  a : Int
  b : Int
  c : Int
  d : Int
  deriving DecidableEq
instance : Inhabited S4 := ⟨⟨0, 0, 0, 0⟩⟩
def foldAS4_a (e : S4) := (by
  have h : PLift (e.a = e.a) := ⟨rfl⟩
  conv at h => arg 1; lhs; delta S4.a
  exact h)
theorem foldS4_a (e : S4) : type_of% (foldAS4_a e).down := (foldAS4_a e).down
def foldAS4_b (e : S4) := (by
  have h : PLift (e.b = e.b) := ⟨rfl⟩
  conv at h => arg 1; lhs; delta S4.b
  exact h)
theorem foldS4_b (e : S4) : type_of% (foldAS4_b e).down := (foldAS4_b e).down
def foldAS4_c (e : S4) := (by
  have h : PLift (e.c = e.c) := ⟨rfl⟩
  conv at h => arg 1; lhs; delta S4.c
  exact h)
theorem foldS4_c (e : S4) : type_of% (foldAS4_c e).down := (foldAS4_c e).down
def foldAS4_d (e : S4) := (by
  have h : PLift (e.d = e.d) := ⟨rfl⟩
  conv at h => arg 1; lhs; delta S4.d
  exact h)
theorem foldS4_d (e : S4) : type_of% (foldAS4_d e).down := (foldAS4_d e).down
theorem foldS4 : (⟨0, 0, 0, 0⟩ : S4) = default := rfl
theorem QB2 : type_of% (And.intro @foldDomS (And.intro @foldS4 (And.intro @foldDomS_num (And.intro @foldDomS_den (And.intro @foldDomS_at_ (And.intro @foldS4_a (And.intro @foldS4_b (And.intro @foldS4_c (And.intro @foldS4_d (QB1)))))))))) := And.intro @foldDomS (And.intro @foldS4 (And.intro @foldDomS_num (And.intro @foldDomS_den (And.intro @foldDomS_at_ (And.intro @foldS4_a (And.intro @foldS4_b (And.intro @foldS4_c (And.intro @foldS4_d (QB1)))))))))
def S4.X (_ : Ar) (s : S4) : List X := [xi s.a, xi s.b, xi s.c, xi s.d]
def S4.at_ (s : S4) (k : Nat) : Int := [s.a, s.b, s.c, s.d].getD k 0
def okS (x : Int) : Bool := decide (0 ≤ x) && decide (x ≤ 1152921504606846976)
def sumsRight (s : S4) : Bool := okS s.a && (okS s.b && (okS s.c && okS s.d))
theorem sumsRight_iff (s : S4) : sumsRight s = true ↔ (0 ≤ s.a ∧ s.a ≤ 1152921504606846976) ∧ (0 ≤ s.b ∧ s.b ≤ 1152921504606846976) ∧ (0 ≤ s.c ∧ s.c ≤ 1152921504606846976) ∧ (0 ≤ s.d ∧ s.d ≤ 1152921504606846976) := by
  simp [sumsRight, okS]
theorem x_sumsRight (s : S4) : XC Tryz.prog 68 [.agg (S4.X Ar.real s)] [] (xb (sumsRight s)) [] := by
  obtain ⟨a, b, u, d⟩ := s
  (refine XC.of_body ([]) Tryz.func68 rfl Tryz.ntmps68 mixed (T := tl68) tk68 (by kernel_rfl) (by simp) rfl rfl rfl rfl rfl ?_; rintro o ho P hP c K hK; have hm : P.follows .mixedOrders = true := hP ▸ mixed; have hT : TOk P tl68 := hP ▸ tk68; (try rw [← ho]); cbv; (repeat (refine StopN.mk ?_; cbv)))
  repeat' (first | (refine Br.mk (fun hb => ?_) (fun hb => ?_) <;> ((try rw [ho] at hb); (try dsimp only [Ar.real, IX.vo] at hb); (try simp only [QB2] at hb); (try simp only [QBo, beq_iff_eq, beq_eq_false_iff_ne, ne_eq] at hb))) | (refine StopN.mk ?_; cbv) | (refine hK _ _ ?_) | (refine NeedT.mk ?_ ?_) | (refine LoopN.lay (o := o) (D := []) 5 ho hm hT (by kernel_rfl) ?_; cbv))
  all_goals
    refine .b ?_
    ((try clear hR3); (try clear hR2); (try clear hR); (try clear hK); (try simp only [ncCast] at *); (try simp only [castI_eq] at *); (try rw [ho]); (try dsimp only [Ar.real, IX.vo, IX.val, BX.val, IX.toN]); (try simp only [QB2]))
    rw [Bool.eq_iff_iff, sumsRight_iff]
    simp only [BX.val, reduceCtorEq, true_iff, false_iff, not_and]
    omega
theorem FinX_S4b {a b u d : IX} {s : S4} {y : BX} {r : Bool} (h1 : a.val = s.a) (h2 : b.val = s.b) (h3 : u.val = s.c) (h4 : d.val = s.d) (h5 : y.val = r) : FinX (.tup [.agg (S4.X Ar.real s), xb r]) [] (.tup [.agg [.i .i64 a, .i .i64 b, .i .i64 u, .i .i64 d], .b y]) [] := .pure fun _ => by simp only [S4.X, X.toD, X.toDL, h1, h2, h3, h4, h5]; rfl
def sumsAdd (s t : S4) : S4 × Bool :=
  if sumsRight s = true ∧ sumsRight t = true ∧ sumsRight ⟨s.a + t.a, s.b + t.b, s.c + t.c, s.d + t.d⟩ = true then (⟨s.a + t.a, s.b + t.b, s.c + t.c, s.d + t.d⟩, true) else (⟨0, 0, 0, 0⟩, false)
theorem x_sumsAdd (s t : S4) : XC Tryz.prog 31 [.agg (S4.X Ar.real s), .agg (S4.X Ar.real t)] [] (.tup [.agg (S4.X Ar.real (sumsAdd s t).1), xb (sumsAdd s t).2]) [] := by
  have hs := x_sumsRight s
  have ht := x_sumsRight t
  have hu := x_sumsRight ⟨s.a + t.a, s.b + t.b, s.c + t.c, s.d + t.d⟩
  have is := sumsRight_iff s
  have it := sumsRight_iff t
  unfold sumsAdd
  by_cases h0 : sumsRight s = true ∧ sumsRight t = true
  · have i1 := is.1 h0.1
    have i2 := it.1 h0.2
    rw [h0.1] at hs
    rw [h0.2] at ht
    simp only [h0.1, h0.2, true_and]
    clear is it h0
    obtain ⟨u, hu0⟩ : ∃ q : S4, q = ⟨s.a + t.a, s.b + t.b, s.c + t.c, s.d + t.d⟩ := ⟨_, rfl⟩
    rw [← hu0] at hu ⊢
    generalize sumsRight u = ru at *
    obtain ⟨a, b, p, d⟩ := s
    obtain ⟨a', b', p', d'⟩ := t
    obtain ⟨a2, b2, p2, d2⟩ := u
    simp only [S4.mk.injEq] at hu0
    obtain ⟨e1, e2, e3, e4⟩ := hu0
    dsimp only at i1 i2
    (refine XC.of_body (dt31) Tryz.func31 rfl Tryz.ntmps31 mixed (T := tl31) tk31 (by kernel_rfl) (by simp) rfl rfl rfl rfl rfl ?_; rintro o ho P hP c K hK; have hm : P.follows .mixedOrders = true := hP ▸ mixed; have hT : TOk P tl31 := hP ▸ tk31; (try rw [← ho]); cbv; (repeat (refine StopN.mk ?_; cbv)))
    repeat' (first | (refine Br.mk (fun hb => ?_) (fun hb => ?_) <;> ((try rw [ho] at hb); (try dsimp only [Ar.real, IX.vo] at hb); (try simp only [QB2] at hb); (try simp only [QBo, beq_iff_eq, beq_eq_false_iff_ne, ne_eq] at hb))) | (refine StopN.mk ?_; cbv) | (first | refine CallI.pure hP hs fn68 rfl rfl rfl ?_ | refine CallI.pure hP ht fn68 rfl rfl rfl ?_ | refine CallI.pure hP hu fn68 rfl rfl (by (rw [ho]; (try dsimp only [Ar.real, IX.vo, IX.val]); (try simp only [castI_eq]); (repeat rw [wrap_i64 (by omega) (by omega)])); rw [← e1, ← e2, ← e3, ← e4]; rfl) ?_); cbv | (refine hK _ _ ?_) | (refine NeedT.mk ?_ ?_) | (refine LoopN.lay (o := o) (D := dt31) 5 ho hm hT (by kernel_rfl) ?_; cbv))
    · exact absurd ‹true = false› (by decide)
    · exact absurd ‹true = false› (by decide)
    · rw [‹ru = false›]
      exact FinX_S4b rfl rfl rfl rfl rfl
    · rw [‹ru = true›]
      refine FinX_S4b ?_ ?_ ?_ ?_ rfl <;> ((rw [ho]; (try dsimp only [Ar.real, IX.vo, IX.val]); (try simp only [castI_eq]); (repeat rw [wrap_i64 (by omega) (by omega)])); (first | exact e1.symm | exact e2.symm | exact e3.symm | exact e4.symm))
  · rw [if_neg (fun h => h0 ⟨h.1, h.2.1⟩)]
    generalize sumsRight s = rs at *
    generalize sumsRight t = rt at *
    clear hu
    obtain ⟨a, b, p, d⟩ := s
    obtain ⟨a', b', p', d'⟩ := t
    (refine XC.of_body (dt31) Tryz.func31 rfl Tryz.ntmps31 mixed (T := tl31) tk31 (by kernel_rfl) (by simp) rfl rfl rfl rfl rfl ?_; rintro o ho P hP c K hK; have hm : P.follows .mixedOrders = true := hP ▸ mixed; have hT : TOk P tl31 := hP ▸ tk31; (try rw [← ho]); cbv; (repeat (refine StopN.mk ?_; cbv)))
    repeat' (first | (refine Br.mk (fun hb => ?_) (fun hb => ?_) <;> ((try rw [ho] at hb); (try dsimp only [Ar.real, IX.vo] at hb); (try simp only [QB2] at hb); (try simp only [QBo, beq_iff_eq, beq_eq_false_iff_ne, ne_eq] at hb))) | (refine StopN.mk ?_; cbv) | (first | refine CallI.pure hP hs fn68 rfl rfl rfl ?_ | refine CallI.pure hP ht fn68 rfl rfl rfl ?_); cbv | (refine hK _ _ ?_) | (refine NeedT.mk ?_ ?_))
    all_goals first
      | exact FinX_S4b rfl rfl rfl rfl rfl
      | (exfalso; simp_all; done)
      | trace_state
def domStep (x : DomS) (n d : Int) (k : Nat) : DomS := if 0 < d ∧ (x.at_ = -1 ∨ 0 < fracCmp n d x.num x.den) then ⟨n, d, k⟩ else x
def domTo (s t : S4) : Nat → DomS
  | 0 => ⟨0, 1, -1⟩
  | k + 1 => domStep (domTo s t k) (s.at_ k) (t.at_ k) k
def sumsDom (s t : S4) : DomS := if sumsRight s = true ∧ sumsRight t = true then domTo s t 4 else ⟨0, 1, -1⟩
theorem S4.at_bd {s : S4} (h : sumsRight s = true) (k : Nat) : 0 ≤ s.at_ k ∧ s.at_ k ≤ 1152921504606846976 := by
  have := (sumsRight_iff s).1 h
  match k with
  | 0 => exact this.1
  | 1 => exact this.2.1
  | 2 => exact this.2.2.1
  | 3 => exact this.2.2.2
  | k + 4 => exact (by show (0 : Int) ≤ 0 ∧ (0 : Int) ≤ 1152921504606846976; decide)
theorem domTo_bd {s t : S4} (h : sumsRight s = true) (h' : sumsRight t = true) : ∀ k, (0 ≤ (domTo s t k).num ∧ (domTo s t k).num ≤ 1152921504606846976) ∧ (0 ≤ (domTo s t k).den ∧ (domTo s t k).den ≤ 1152921504606846976) ∧ -1 ≤ (domTo s t k).at_ ∧ (domTo s t k).at_ < k
  | 0 => by simp [domTo]
  | k + 1 => by
    have ih := domTo_bd h h' k
    have h1 := S4.at_bd h k
    have h2 := S4.at_bd h' k
    simp only [domTo, domStep]
    split
    · dsimp only; omega
    · omega
theorem FinX_dom {a n d : IX} {x : DomS} (h1 : a.val = x.at_) (h2 : n.val = x.num) (h3 : d.val = x.den) : FinX (.tup [xi x.at_, .agg [xi x.num, xi x.den]]) [] (.tup [.i .i64 a, .agg [.i .i64 n, .i .i64 d]]) [] := .pure fun _ => by simp only [X.toD, X.toDL, h1, h2, h3]; rfl
theorem x_sumsDom (s t : S4) : XC Tryz.prog 74 [.agg (S4.X Ar.real s), .agg (S4.X Ar.real t)] [] (.tup [xi (sumsDom s t).at_, .agg [xi (sumsDom s t).num, xi (sumsDom s t).den]]) [] := by
  have hs := x_sumsRight s
  have ht := x_sumsRight t
  unfold sumsDom
  by_cases h0 : sumsRight s = true ∧ sumsRight t = true
  · rw [if_pos h0]
    have hbd := domTo_bd h0.1 h0.2
    have h1 := fun k => S4.at_bd h0.1 k
    have h2 := fun k => S4.at_bd h0.2 k
    rw [h0.1] at hs
    rw [h0.2] at ht
    have hm0 : domTo s t 0 = ⟨0, 1, -1⟩ := rfl
    have hm1 : ∀ k, domTo s t (k + 1) = domStep (domTo s t k) (s.at_ k) (t.at_ k) k := fun _ => rfl
    have ha : ∀ k : Nat, s.at_ k = [s.a, s.b, s.c, s.d].getD k 0 ∧ t.at_ k = [t.a, t.b, t.c, t.d].getD k 0 := fun _ => ⟨rfl, rfl⟩
    clear h0
    generalize hM : domTo s t = M at *
    generalize hS : s.at_ = sa at *
    generalize hT2 : t.at_ = ta at *
    clear hM hS hT2
    obtain ⟨a, b, p, d⟩ := s
    obtain ⟨a', b', p', d'⟩ := t
    dsimp only at ha
    (refine XC.of_body (dt74) Tryz.func74 rfl Tryz.ntmps74 mixed (T := tl74) tk74 (by kernel_rfl) (by simp) rfl rfl rfl rfl rfl ?_; rintro o ho P hP c K hK; have hm : P.follows .mixedOrders = true := hP ▸ mixed; have hT : TOk P tl74 := hP ▸ tk74; (try rw [← ho]); cbv; (repeat (refine StopN.mk ?_; cbv)))
    repeat' (first | (refine Br.mk (fun hb => ?_) (fun hb => ?_) <;> ((try rw [ho] at hb); (try dsimp only [Ar.real, IX.vo] at hb); (try simp only [QB2] at hb); (try simp only [QBo, beq_iff_eq, beq_eq_false_iff_ne, ne_eq] at hb))) | (refine StopN.mk ?_; cbv) | (first | refine CallI.pure hP hs fn68 rfl rfl rfl ?_ | refine CallI.pure hP ht fn68 rfl rfl rfl ?_); cbv | ((first | refine CallI.pure hP (x_fracCmp _ _ _ _ ‹_› ‹_› ‹_› ‹_›) fn110 (by first | rfl | (rw [ho]; try rfl)) (by rfl) (by first | rfl | (rw [ho]; try rfl)) ?_ | refine CallN.pure hP (x_fracCmp _ _ _ _ ‹_› ‹_› ‹_› ‹_›) fn110 (by first | rfl | (rw [ho]; try rfl)) (by rfl) (by first | rfl | (rw [ho]; try rfl)) ?_); (try rw [← ho]); generalize hr : fracCmp _ _ _ _ = r; (try rw [ho] at hr); (try dsimp only [Ar.real, IX.vo] at hr); (try simp only [QB2] at hr); cbv) | (refine hK _ _ ?_) | (refine NeedT.mk ?_ ?_))
    · exact absurd ‹true = false› (by decide)
    · exact absurd ‹true = false› (by decide)
    refine LoopN.over (o := o) (D := dt74) ho hm hT (by kernel_rfl) (fun a : Nat => [(21, xn a), (7, xi (M a).at_)]) (fun a => [(3, .var [xi (M a).num, xi (M a).den] 46)]) (fun _ => []) (fun a => a ≤ 4) (fun a => 4 - a) 0 (by omega) ?_ ?_
    · (refine ⟨?_, ?_, ?_, ?_⟩ <;> cbv <;> repeat' (first | trivial | exact EqX.rfl' | exact EqO.rfl' | apply And.intro | ((try clear hR3); (try clear hR2); (try clear hR); (try clear hK); (try simp only [ncCast] at *); (try simp only [castI_eq] at *); refine EqX.i ?_; (try rw [ho]); (try dsimp only [Ar.real, IX.vo, IX.val, BX.val, IX.toN]); (try simp only [QB2]); (repeat rw [wrap_i64 (by omega) (by omega)]); omega) | (refine EqX.i ?_; rw [hm0]; rfl) | exact ⟨by rw [hm0]; rfl⟩))
    · rintro i hi R hR
      have b0 := hbd i
      have b1 := h1 i
      have b2 := h2 i
      have hM1 := hm1 i
      have hq := x_fracCmp (sa i) (ta i) (M i).num (M i).den ⟨by omega, by omega⟩ ⟨by omega, by omega⟩ ⟨by omega, by omega⟩ ⟨by omega, by omega⟩
      unfold domStep at hM1
      generalize fracCmp (sa i) (ta i) (M i).num (M i).den = q at hq hM1
      obtain ⟨e1, e2⟩ := ha i
      generalize sa i = x at *
      generalize ta i = y at *
      have p1 : 0 < [a', b', p', d'].getD ((i : Int).toNat) 0 → ((M i).at_ = -1 ∨ 0 < q) → M (i + 1) = ⟨x, y, i⟩ := fun h h' => by
        rw [Int.toNat_natCast, ← e2] at h
        rw [hM1, if_pos ⟨h, h'⟩]
      have p2 : ([a', b', p', d'].getD ((i : Int).toNat) 0 ≤ 0 ∨ (¬ (M i).at_ = -1 ∧ q ≤ 0)) → M (i + 1) = M i := fun h => by
        rw [Int.toNat_natCast, ← e2] at h
        rw [hM1, if_neg (fun h' => by omega)]
      cbv
      repeat' (first | (refine Br.mk (fun hb => ?_) (fun hb => ?_) <;> ((try rw [ho] at hb); (try dsimp only [Ar.real, IX.vo] at hb); (try simp only [QB2] at hb); (try simp only [QBo, beq_iff_eq, beq_eq_false_iff_ne, ne_eq] at hb))) | (refine StopN.mk ?_; cbv) | (refine CallI.pure hP hq fn110 rfl rfl (by (rw [ho]; (try dsimp only [Ar.real, IX.vo, IX.val]); (try simp only [castI_eq]); (repeat rw [wrap_i64 (by omega) (by omega)])); rw [e1, e2]; rfl) ?_); cbv | ((first | refine CallI.pure hP (x_sumsRight _) fn68 (by first | rfl | (rw [ho]; try rfl)) (by rfl) (by first | rfl | (rw [ho]; try rfl)) ?_ | refine CallN.pure hP (x_sumsRight _) fn68 (by first | rfl | (rw [ho]; try rfl)) (by rfl) (by first | rfl | (rw [ho]; try rfl)) ?_); (try rw [← ho]); generalize hr : sumsRight _ = r; (try rw [ho] at hr); (try dsimp only [Ar.real, IX.vo] at hr); (try simp only [QB2] at hr); cbv) | (refine hK _ _ ?_) | (refine NeedT.mk ?_ ?_))
      any_goals (((try clear hR3); (try clear hR2); (try clear hR); (try clear hK); (try simp only [ncCast] at *); (try simp only [castI_eq] at *); (try rw [ho]); (try dsimp only [Ar.real, IX.vo, IX.val, BX.val, IX.toN]); (try simp only [QB2]); (try simp only [decide_eq_true_eq]); (all_goals (repeat rw [wrap_i64 (by omega) (by omega)])); (all_goals (first | omega | (simp only [Int.ofNat_eq_natCast]; omega)))); done)
      · have h5 := p1 (by assumption) (.inl hb)
        refine hR _ (i + 1) (by show 4 - (i + 1) < 4 - i; ((try clear hR3); (try clear hR2); (try clear hR); (try clear hK); (try simp only [ncCast] at *); (try simp only [castI_eq] at *)); omega) (by show i + 1 ≤ 4; ((try clear hR3); (try clear hR2); (try clear hR); (try clear hK); (try simp only [ncCast] at *); (try simp only [castI_eq] at *)); omega) ?_
        (refine ⟨?_, ?_, ?_, ?_⟩ <;> cbv <;> repeat' (first | trivial | exact EqX.rfl' | exact EqO.rfl' | apply And.intro | ((try clear hR3); (try clear hR2); (try clear hR); (try clear hK); (try simp only [ncCast] at *); (try simp only [castI_eq] at *); refine EqX.i ?_; (try rw [ho]); (try dsimp only [Ar.real, IX.vo, IX.val, BX.val, IX.toN]); (try simp only [QB2]); (repeat rw [wrap_i64 (by omega) (by omega)]); omega) | (refine EqX.i ?_; rw [h5]; rfl) | exact ⟨by rw [h5, ho]; simp only [OX.toOb, X.toDL, X.toD]; rw [e1, e2]; rfl⟩))
      · have h5 := p1 (by assumption) (.inr hb)
        refine hR _ (i + 1) (by show 4 - (i + 1) < 4 - i; ((try clear hR3); (try clear hR2); (try clear hR); (try clear hK); (try simp only [ncCast] at *); (try simp only [castI_eq] at *)); omega) (by show i + 1 ≤ 4; ((try clear hR3); (try clear hR2); (try clear hR); (try clear hK); (try simp only [ncCast] at *); (try simp only [castI_eq] at *)); omega) ?_
        (refine ⟨?_, ?_, ?_, ?_⟩ <;> cbv <;> repeat' (first | trivial | exact EqX.rfl' | exact EqO.rfl' | apply And.intro | ((try clear hR3); (try clear hR2); (try clear hR); (try clear hK); (try simp only [ncCast] at *); (try simp only [castI_eq] at *); refine EqX.i ?_; (try rw [ho]); (try dsimp only [Ar.real, IX.vo, IX.val, BX.val, IX.toN]); (try simp only [QB2]); (repeat rw [wrap_i64 (by omega) (by omega)]); omega) | (refine EqX.i ?_; rw [h5]; rfl) | exact ⟨by rw [h5, ho]; simp only [OX.toOb, X.toDL, X.toD]; rw [e1, e2]; rfl⟩))
      · have h5 := p2 (.inr ⟨by assumption, hb⟩)
        refine hR _ (i + 1) (by show 4 - (i + 1) < 4 - i; ((try clear hR3); (try clear hR2); (try clear hR); (try clear hK); (try simp only [ncCast] at *); (try simp only [castI_eq] at *)); omega) (by show i + 1 ≤ 4; ((try clear hR3); (try clear hR2); (try clear hR); (try clear hK); (try simp only [ncCast] at *); (try simp only [castI_eq] at *)); omega) ?_
        (refine ⟨?_, ?_, ?_, ?_⟩ <;> cbv <;> repeat' (first | trivial | exact EqX.rfl' | exact EqO.rfl' | apply And.intro | ((try clear hR3); (try clear hR2); (try clear hR); (try clear hK); (try simp only [ncCast] at *); (try simp only [castI_eq] at *); refine EqX.i ?_; (try rw [ho]); (try dsimp only [Ar.real, IX.vo, IX.val, BX.val, IX.toN]); (try simp only [QB2]); (repeat rw [wrap_i64 (by omega) (by omega)]); omega) | (refine EqX.i ?_; rw [h5]) | exact ⟨by rw [h5]⟩))
      · have h5 := p2 (.inl hb)
        refine hR _ (i + 1) (by show 4 - (i + 1) < 4 - i; ((try clear hR3); (try clear hR2); (try clear hR); (try clear hK); (try simp only [ncCast] at *); (try simp only [castI_eq] at *)); omega) (by show i + 1 ≤ 4; ((try clear hR3); (try clear hR2); (try clear hR); (try clear hK); (try simp only [ncCast] at *); (try simp only [castI_eq] at *)); omega) ?_
        (refine ⟨?_, ?_, ?_, ?_⟩ <;> cbv <;> repeat' (first | trivial | exact EqX.rfl' | exact EqO.rfl' | apply And.intro | ((try clear hR3); (try clear hR2); (try clear hR); (try clear hK); (try simp only [ncCast] at *); (try simp only [castI_eq] at *); refine EqX.i ?_; (try rw [ho]); (try dsimp only [Ar.real, IX.vo, IX.val, BX.val, IX.toN]); (try simp only [QB2]); (repeat rw [wrap_i64 (by omega) (by omega)]); omega) | (refine EqX.i ?_; rw [h5]) | exact ⟨by rw [h5]⟩))
      · obtain rfl : i = 4 := by omega
        exact FinX_dom rfl rfl rfl
  · rw [if_neg h0]
    generalize sumsRight s = rs at *
    generalize sumsRight t = rt at *
    obtain ⟨a, b, p, d⟩ := s
    obtain ⟨a', b', p', d'⟩ := t
    (refine XC.of_body (dt74) Tryz.func74 rfl Tryz.ntmps74 mixed (T := tl74) tk74 (by kernel_rfl) (by simp) rfl rfl rfl rfl rfl ?_; rintro o ho P hP c K hK; have hm : P.follows .mixedOrders = true := hP ▸ mixed; have hT : TOk P tl74 := hP ▸ tk74; (try rw [← ho]); cbv; (repeat (refine StopN.mk ?_; cbv)))
    repeat' (first | (refine Br.mk (fun hb => ?_) (fun hb => ?_) <;> ((try rw [ho] at hb); (try dsimp only [Ar.real, IX.vo] at hb); (try simp only [QB2] at hb); (try simp only [QBo, beq_iff_eq, beq_eq_false_iff_ne, ne_eq] at hb))) | (refine StopN.mk ?_; cbv) | (first | refine CallI.pure hP hs fn68 rfl rfl rfl ?_ | refine CallI.pure hP ht fn68 rfl rfl rfl ?_); cbv | ((first | refine CallI.pure hP (x_fracCmp _ _ _ _ ‹_› ‹_› ‹_› ‹_›) fn110 (by first | rfl | (rw [ho]; try rfl)) (by rfl) (by first | rfl | (rw [ho]; try rfl)) ?_ | refine CallN.pure hP (x_fracCmp _ _ _ _ ‹_› ‹_› ‹_› ‹_›) fn110 (by first | rfl | (rw [ho]; try rfl)) (by rfl) (by first | rfl | (rw [ho]; try rfl)) ?_); (try rw [← ho]); generalize hr : fracCmp _ _ _ _ = r; (try rw [ho] at hr); (try dsimp only [Ar.real, IX.vo] at hr); (try simp only [QB2] at hr); cbv) | (refine hK _ _ ?_) | (refine NeedT.mk ?_ ?_))
    all_goals first
      | exact FinX_dom rfl rfl rfl
      | (exfalso; simp_all; done)
end Go.Proofs.YtlblpbahoblihaaGreat.Sy
namespace Go.Proofs.YtlblpbahoblihaaGreat.Sy
open Go Go.Sy Go.Proofs.YtlblpbahoblihaaGreat
def idxR (l : List Int) (x : Int) : Int := match nextAt (fun i => decide (x = l.getD i default)) 0 l.length with | some i => i | none => -1
theorem x_Index (l : List Int) (x : Int) (hl : l.length ≤ 1048576) : XC Tryz.prog 139 [.ro (SL Ar.real encI l), xi x] [] (xi (idxR l x)) [] := by
  (refine XC.of_body ([]) Tryz.func139 rfl Tryz.ntmps139 mixed (T := tl139) tk139 (by kernel_rfl) (by simp) rfl rfl rfl rfl rfl ?_; rintro o ho P hP c K hK; have hm : P.follows .mixedOrders = true := hP ▸ mixed; have hT : TOk P tl139 := hP ▸ tk139; (try rw [← ho]); cbv; (repeat (refine StopN.mk ?_; cbv)))
  refine LoopN.over (o := o) (D := []) ho hm hT (by kernel_rfl) (fun i : Nat => [(8, xn i)]) (fun _ => []) (fun _ => []) (fun i => i ≤ l.length ∧ ∀ j, j < i → decide (x = l.getD j default) = false) (fun i => l.length - i) 0 ⟨Nat.zero_le _, fun j hj => by omega⟩ ?_ ?_
  · (refine ⟨?_, ?_, ?_, ?_⟩ <;> cbv <;> repeat' (first | trivial | exact EqX.rfl' | exact EqO.rfl' | apply And.intro | ((try clear hR3); (try clear hR2); (try clear hR); (try clear hK); (try simp only [ncCast] at *); (try simp only [castI_eq] at *); refine EqX.i ?_; (try rw [ho]); (try dsimp only [Ar.real, IX.vo, IX.val, BX.val, IX.toN]); (try simp only [QB2]); (repeat rw [wrap_i64 (by omega) (by omega)]); omega)))
  · rintro i ⟨hi, hno⟩ R hR
    cbv
    repeat' (first | (refine Br.mk (fun hb => ?_) (fun hb => ?_) <;> ((try rw [ho] at hb); (try dsimp only [Ar.real, IX.vo] at hb); (try simp only [QB2] at hb); (try simp only [QBo, beq_iff_eq, beq_eq_false_iff_ne, ne_eq] at hb))) | (refine StopN.mk ?_; cbv) | (refine hK _ _ ?_) | (refine NeedT.mk ?_ ?_))
    any_goals (((try clear hR3); (try clear hR2); (try clear hR); (try clear hK); (try simp only [ncCast] at *); (try simp only [castI_eq] at *); (try rw [ho]); (try dsimp only [Ar.real, IX.vo, IX.val, BX.val, IX.toN]); (try simp only [QB2]); (try simp only [decide_eq_true_eq]); (all_goals (repeat rw [wrap_i64 (by omega) (by omega)])); (all_goals (first | omega | (simp only [Int.ofNat_eq_natCast]; omega)))); done)
    · have hf := nextAt_some (p := fun i => decide (x = l.getD i default)) (a := 0) (n := l.length) (k := i) (Nat.zero_le _) (by assumption) (decide_eq_true hb) (fun j _ h => hno j h)
      refine .i ?_
      rw [idxR, hf]
      rfl
    · refine hR _ (i + 1) (by omega) ⟨by omega, fun j h => ?_⟩ ?_
      · rcases Nat.lt_or_ge j i with h3 | h3
        · exact hno j h3
        · obtain rfl : j = i := by omega
          exact decide_eq_false hb
      · (refine ⟨?_, ?_, ?_, ?_⟩ <;> cbv <;> repeat' (first | trivial | exact EqX.rfl' | exact EqO.rfl' | apply And.intro | ((try clear hR3); (try clear hR2); (try clear hR); (try clear hK); (try simp only [ncCast] at *); (try simp only [castI_eq] at *); refine EqX.i ?_; (try rw [ho]); (try dsimp only [Ar.real, IX.vo, IX.val, BX.val, IX.toN]); (try simp only [QB2]); (repeat rw [wrap_i64 (by omega) (by omega)]); omega)))
    · have hf := nextAt_none (p := fun i => decide (x = l.getD i default)) (a := 0) (n := l.length) (fun j _ h => hno j (by omega))
      refine .i ?_
      rw [idxR, hf]
      rfl
def inR (l : List Int) (x : Int) : Bool := decide (x ∈ l)
theorem idxR_in (l : List Int) (x : Int) : decide (0 ≤ idxR l x) = inR l x := by
  unfold idxR inR
  cases h : nextAt (fun i => decide (x = l.getD i default)) 0 l.length with
  | some i =>
    unfold nextAt at h
    rw [List.find?_range'_eq_some] at h
    have h1 := h.1
    have h2 := h.2.1
    simp at h2
    simp only [decide_eq_true_eq] at h1
    have : x ∈ l := by
      rw [h1, List.getD_eq_getElem?_getD, List.getElem?_eq_getElem h2]
      exact List.getElem_mem h2
    rw [decide_eq_true this]
    exact decide_eq_true (Int.natCast_nonneg i)
  | none =>
    unfold nextAt at h
    rw [List.find?_range'_eq_none] at h
    have : ¬ x ∈ l := fun hm => by
      obtain ⟨i, hi, e⟩ := List.getElem_of_mem hm
      have := h i (Nat.zero_le _) (by omega)
      simp [List.getD_eq_getElem?_getD, hi, e] at this
    rw [decide_eq_false this]
    rfl
theorem x_Contains (l : List Int) (x : Int) (hl : l.length ≤ 1048576) : XC Tryz.prog 133 [.ro (SL Ar.real encI l), xi x] [] (xb (inR l x)) [] := by
  have h := idxR_in l x
  (refine XC.of_body ([]) Tryz.func133 rfl Tryz.ntmps133 mixed (T := tl133) tk133 (by kernel_rfl) (by simp) rfl rfl rfl rfl rfl ?_; rintro o ho P hP c K hK; have hm : P.follows .mixedOrders = true := hP ▸ mixed; have hT : TOk P tl133 := hP ▸ tk133; (try rw [← ho]); cbv; (repeat (refine StopN.mk ?_; cbv)))
  repeat' (first | (refine Br.mk (fun hb => ?_) (fun hb => ?_) <;> ((try rw [ho] at hb); (try dsimp only [Ar.real, IX.vo] at hb); (try simp only [QB2] at hb); (try simp only [QBo, beq_iff_eq, beq_eq_false_iff_ne, ne_eq] at hb))) | (refine StopN.mk ?_; cbv) | (refine CallI.pure hP (x_Index _ _ ‹_›) fn139 (by first | rfl | (rw [ho]; try rfl)) (by rfl) (by first | rfl | (rw [ho]; try rfl)) ?_; (try rw [← ho]); generalize hr : idxR _ _ = r; (try rw [ho] at hr); (try dsimp only [Ar.real, IX.vo] at hr); (try simp only [QB2] at hr); cbv) | (refine hK _ _ ?_) | (refine NeedT.mk ?_ ?_))
  refine .b ?_
  ((try clear hR3); (try clear hR2); (try clear hR); (try clear hK); (try simp only [ncCast] at *); (try simp only [castI_eq] at *); (try rw [ho]); (try dsimp only [Ar.real, IX.vo, IX.val, BX.val, IX.toN]); (try simp only [QB2]))
  rw [← h, hr]
def onlyR (v : List Part) (rs : List Int) : List Part := if vecRight v = true then v.filter fun p => inR rs p.role else []
def onlyTo (v : List Part) (rs : List Int) (b : Bool) (k : Nat) : List Part := if b = true then (v.take k).filter fun p => inR rs p.role else []
theorem onlyTo_succ (v : List Part) (rs : List Int) (b : Bool) {k : Nat} (h : k < v.length) : onlyTo v rs b (k + 1) = onlyTo v rs b k ++ if inR rs (v.getD k default).role = true ∧ b = true then [v.getD k default] else [] := by
  unfold onlyTo
  cases b with
  | false => simp
  | true =>
    have e : v.getD k default = v[k] := by simp [List.getD_eq_getElem?_getD, h]
    simp only [if_true, and_true]
    rw [List.take_succ_eq_append_getElem h, List.filter_append, e]
    congr 1
    by_cases h2 : inR rs v[k].role = true <;> simp [h2]
theorem onlyTo_len (v : List Part) (rs : List Int) (b : Bool) (k : Nat) : (onlyTo v rs b k).length ≤ k := by
  unfold onlyTo
  split
  · exact Nat.le_trans (List.length_filter_le _ _) (by simp; omega)
  · simp
structure StL (α : Type) where
  i : Nat
  rv : Nat
  out : List α
theorem x_Only (v : List Part) (rs : List Int) (hv : v.length ≤ 1048576) (hrs : rs.length ≤ 1024) : XC Tryz.prog 120 [.ro (SL Ar.real Part.X v), .ro (SL Ar.real encI rs)] [] (.ro (SL Ar.real Part.X (onlyR v rs))) [] := by
  have hx := x_vec_Right v (by omega)
  have hend : onlyTo v rs (vecRight v) v.length = onlyR v rs := by
    unfold onlyTo onlyR
    rw [List.take_of_length_le (Nat.le_refl _)]
  obtain ⟨b, hb0⟩ : ∃ q, q = vecRight v := ⟨_, rfl⟩
  rw [← hb0] at hx hend
  clear hb0
  have hC : ∀ x, XC Tryz.prog 133 [.ro (SL Ar.real encI rs), xi x] [] (xb (inR rs x)) [] := fun x => x_Contains rs x (by omega)
  (refine XC.of_body ([]) Tryz.func120 rfl Tryz.ntmps120 mixed (T := tl120) tk120 (by kernel_rfl) (by simp) rfl rfl rfl rfl rfl ?_; rintro o ho P hP c K hK; have hm : P.follows .mixedOrders = true := hP ▸ mixed; have hT : TOk P tl120 := hP ▸ tk120; (try rw [← ho]); cbv; (repeat (refine StopN.mk ?_; cbv)))
  refine LoopN.ghost 5 67 3 rfl ?_
  refine LoopN.over (o := o) (D := []) ho hm hT (by kernel_rfl) (fun a : StL Part => [(10, xn a.i), (5, .own (.loc 0) a.rv)]) (fun a => [(0, .row a.rv 67 3 (SL o Part.X a.out))]) (fun _ => []) (fun a => a.i ≤ v.length ∧ a.out = onlyTo v rs b a.i) (fun a => v.length - a.i) ⟨0, 0, []⟩ ⟨Nat.zero_le _, by unfold onlyTo; split <;> rfl⟩ ?_ ?_
  · (refine ⟨?_, ?_, ?_, ?_⟩ <;> cbv <;> repeat' (first | trivial | exact EqX.rfl' | exact EqO.rfl' | apply And.intro | ((try clear hR3); (try clear hR2); (try clear hR); (try clear hK); (try simp only [ncCast] at *); (try simp only [castI_eq] at *); refine EqX.i ?_; (try rw [ho]); (try dsimp only [Ar.real, IX.vo, IX.val, BX.val, IX.toN]); (try simp only [QB2]); (repeat rw [wrap_i64 (by omega) (by omega)]); omega) | exact EqO.row rfl (rows_nil_SL o ho Part.X)))
  · rintro ⟨i, rv, out⟩ ⟨hi, hout⟩ R hR
    dsimp only at hi hout
    have hol := onlyTo_len v rs b i
    rw [← hout] at hol
    have hsucc : i < v.length → onlyTo v rs b (i + 1) = _ := fun h => onlyTo_succ v rs b h
    rw [← hout] at hsucc
    obtain ⟨out', hout'⟩ : ∃ q, q = onlyTo v rs b (i + 1) := ⟨_, rfl⟩
    rw [← hout'] at hsucc
    cbv
    repeat' (first | (refine Br.mk (fun hb => ?_) (fun hb => ?_) <;> ((try rw [ho] at hb); (try dsimp only [Ar.real, IX.vo] at hb); (try simp only [QB2] at hb); (try simp only [QBo, beq_iff_eq, beq_eq_false_iff_ne, ne_eq] at hb))) | (refine StopN.mk ?_; cbv) | (refine CallI.pure hP (hC _) fn133 rfl rfl (by rw [ho]) ?_; (try rw [← ho]); generalize hr : inR rs _ = r; (try rw [ho] at hr); (try dsimp only [Ar.real] at hr); (try simp only [foldPart_kind, foldPart_role, foldPart_amount, foldPart, castI_eq] at hr); cbv) | (refine CallI.pure hP hx fn69 rfl rfl (by rw [ho]) ?_; cbv) | (refine hK _ _ ?_) | (refine NeedT.mk ?_ ?_))
    any_goals (((try clear hR3); (try clear hR2); (try clear hR); (try clear hK); (try simp only [ncCast] at *); (try simp only [castI_eq] at *); (try rw [ho]); (try dsimp only [Ar.real, IX.vo, IX.val, BX.val, IX.toN]); (try simp only [QB2]); (try simp only [decide_eq_true_eq]); (all_goals (repeat rw [wrap_i64 (by omega) (by omega)])); (all_goals (first | omega | (simp only [Int.ofNat_eq_natCast]; omega)))); done)
    · have hs := hsucc (by assumption)
      rw [if_pos ⟨by rw [hr]; assumption, by assumption⟩] at hs
      refine hR _ ⟨i + 1, rv + 1, out'⟩ (by dsimp only; omega) ⟨by dsimp only; omega, hout'⟩ ?_
      (refine ⟨?_, ?_, ?_, ?_⟩ <;> cbv <;> repeat' (first | trivial | exact EqX.rfl' | exact EqO.rfl' | apply And.intro | ((try clear hR3); (try clear hR2); (try clear hR); (try clear hK); (try simp only [ncCast] at *); (try simp only [castI_eq] at *); refine EqX.i ?_; (try rw [ho]); (try dsimp only [Ar.real, IX.vo, IX.val, BX.val, IX.toN]); (try simp only [QB2]); (repeat rw [wrap_i64 (by omega) (by omega)]); omega) | (refine EqO.snoc ho Part.X _ _ _ _ rfl hs ?_; rw [ho]; rfl)))
    · have hs := hsucc (by assumption)
      rw [if_neg (fun h => by simp_all), List.append_nil] at hs
      refine hR _ ⟨i + 1, rv, out'⟩ (by dsimp only; omega) ⟨by dsimp only; omega, hout'⟩ ?_
      subst hs
      (refine ⟨?_, ?_, ?_, ?_⟩ <;> cbv <;> repeat' (first | trivial | exact EqX.rfl' | exact EqO.rfl' | apply And.intro | ((try clear hR3); (try clear hR2); (try clear hR); (try clear hK); (try simp only [ncCast] at *); (try simp only [castI_eq] at *); refine EqX.i ?_; (try rw [ho]); (try dsimp only [Ar.real, IX.vo, IX.val, BX.val, IX.toN]); (try simp only [QB2]); (repeat rw [wrap_i64 (by omega) (by omega)]); omega)))
    · have hs := hsucc (by assumption)
      rw [if_neg (fun h => by simp_all), List.append_nil] at hs
      refine hR _ ⟨i + 1, rv, out'⟩ (by dsimp only; omega) ⟨by dsimp only; omega, hout'⟩ ?_
      subst hs
      (refine ⟨?_, ?_, ?_, ?_⟩ <;> cbv <;> repeat' (first | trivial | exact EqX.rfl' | exact EqO.rfl' | apply And.intro | ((try clear hR3); (try clear hR2); (try clear hR); (try clear hK); (try simp only [ncCast] at *); (try simp only [castI_eq] at *); refine EqX.i ?_; (try rw [ho]); (try dsimp only [Ar.real, IX.vo, IX.val, BX.val, IX.toN]); (try simp only [QB2]); (repeat rw [wrap_i64 (by omega) (by omega)]); omega)))
    · obtain rfl : i = v.length := by omega
      rw [hend] at hout
      subst hout
      exact .ro (by rw [ho])
theorem fits_Part (o : Ar) (ho : o = Ar.real) (v : List Part) : (SL o Part.X v).fits 3 := by
  intro row hr
  rw [rows_SL o ho] at hr
  obtain ⟨a, _, rfl⟩ := List.mem_map.1 hr
  exact ⟨rfl, rfl⟩
def S4.addAt (s : S4) (k x : Int) : S4 :=
  ⟨if k = 0 then IntKind.i64.wrap (s.at_ k.toNat + x) else s.a, if k = 1 then IntKind.i64.wrap (s.at_ k.toNat + x) else s.b, if k = 2 then IntKind.i64.wrap (s.at_ k.toNat + x) else s.c, if k = 3 then IntKind.i64.wrap (s.at_ k.toNat + x) else s.d⟩
def ofTo (v : List Part) : Nat → S4
  | 0 => ⟨0, 0, 0, 0⟩
  | k + 1 => (ofTo v k).addAt (v.getD k default).kind (v.getD k default).amount
def sumsOf (v : List Part) : S4 := if vecRight v = true then ofTo v v.length else ⟨0, 0, 0, 0⟩
theorem vecRight_at {v : List Part} (h : vecRight v = true) {i : Nat} (hi : i < v.length) : (0 ≤ (v.getD i default).kind ∧ (v.getD i default).kind < 4) ∧ (0 ≤ (v.getD i default).role ∧ (v.getD i default).role ≤ 32) ∧ 1 ≤ (v.getD i default).amount ∧ (v.getD i default).amount ≤ 9007199254740992 := by
  unfold vecRight at h
  rw [Option.isNone_iff_eq_none] at h
  unfold nextAt at h
  rw [List.find?_range'_eq_none] at h
  have := h i (Nat.zero_le _) (by omega)
  simp only [badAt, slotRight, amountRight, Bool.not_eq_true', Bool.or_eq_false_iff, Bool.not_eq_eq_eq_not, Bool.not_false, Bool.not_true, Bool.and_eq_true, decide_eq_true_eq, decide_eq_false_iff_not, Bool.or_eq_true] at this
  omega
theorem FinX_S4 {a b u d : IX} {s : S4} (h1 : a.val = s.a) (h2 : b.val = s.b) (h3 : u.val = s.c) (h4 : d.val = s.d) : FinX (.agg (S4.X Ar.real s)) [] (.agg [.i .i64 a, .i .i64 b, .i .i64 u, .i .i64 d]) [] := .pure fun _ => by simp only [S4.X, X.toD, X.toDL, h1, h2, h3, h4]; rfl
theorem x_sumsOf (v : List Part) (hv : v.length ≤ 1048576) : XC Tryz.prog 32 [.ro (SL Ar.real Part.X v)] [] (.agg (S4.X Ar.real (sumsOf v))) [] := by
  have hx := x_vec_Right v (by omega)
  unfold sumsOf
  by_cases h0 : vecRight v = true
  · rw [if_pos h0]
    have hat := fun i (hi : i < v.length) => vecRight_at h0 hi
    rw [h0] at hx
    clear h0
    have hm0 : ofTo v 0 = ⟨0, 0, 0, 0⟩ := rfl
    have hm1 : ∀ k, ofTo v (k + 1) = (ofTo v k).addAt (v.getD k default).kind (v.getD k default).amount := fun _ => rfl
    generalize ofTo v = M at *
    (refine XC.of_body (dt32) Tryz.func32 rfl Tryz.ntmps32 mixed (T := tl32) tk32 (by kernel_rfl) (by simp) rfl rfl rfl rfl rfl ?_; rintro o ho P hP c K hK; have hm : P.follows .mixedOrders = true := hP ▸ mixed; have hT : TOk P tl32 := hP ▸ tk32; (try rw [← ho]); cbv; (repeat (refine StopN.mk ?_; cbv)))
    repeat' (first | (refine Br.mk (fun hb => ?_) (fun hb => ?_) <;> ((try rw [ho] at hb); (try dsimp only [Ar.real, IX.vo] at hb); (try simp only [QB2] at hb); (try simp only [QBo, beq_iff_eq, beq_eq_false_iff_ne, ne_eq] at hb))) | (refine StopN.mk ?_; cbv) | ((first | refine CallI.pure hP hx fn69 rfl rfl (by rw [ho]) ?_ | refine CallN.pure hP hx fn69 rfl rfl (by rw [ho]) ?_); cbv) | (refine hK _ _ ?_) | (refine NeedT.mk ?_ ?_))
    · exact absurd ‹true = false› (by decide)
    refine LoopN.over (o := o) (D := dt32) ho hm hT (by kernel_rfl) (fun a : Nat => [(12, xn a)]) (fun a => [(1, .var [xi (M a).a, xi (M a).b, xi (M a).c, xi (M a).d] 35)]) (fun _ => []) (fun a => a ≤ v.length) (fun a => v.length - a) 0 (by omega) ?_ ?_
    · (refine ⟨?_, ?_, ?_, ?_⟩ <;> cbv <;> repeat' (first | trivial | exact EqX.rfl' | exact EqO.rfl' | apply And.intro | ((try clear hR3); (try clear hR2); (try clear hR); (try clear hK); (try simp only [ncCast] at *); (try simp only [castI_eq] at *); refine EqX.i ?_; (try rw [ho]); (try dsimp only [Ar.real, IX.vo, IX.val, BX.val, IX.toN]); (try simp only [QB2]); (repeat rw [wrap_i64 (by omega) (by omega)]); omega) | exact ⟨by rw [hm0]; rfl⟩))
    · rintro i hi R hR
      have h1 := hat i
      have h2 := hm1 i
      cbv
      repeat' (first | (refine Br.mk (fun hb => ?_) (fun hb => ?_) <;> ((try rw [ho] at hb); (try dsimp only [Ar.real, IX.vo] at hb); (try simp only [QB2] at hb); (try simp only [QBo, beq_iff_eq, beq_eq_false_iff_ne, ne_eq] at hb))) | (refine StopN.mk ?_; cbv) | ((first | refine CallI.pure hP (x_vec_Right _ ‹_›) fn69 (by first | rfl | (rw [ho]; try rfl)) (by rfl) (by first | rfl | (rw [ho]; try rfl)) ?_ | refine CallN.pure hP (x_vec_Right _ ‹_›) fn69 (by first | rfl | (rw [ho]; try rfl)) (by rfl) (by first | rfl | (rw [ho]; try rfl)) ?_); (try rw [← ho]); generalize hr : vecRight _ = r; (try rw [ho] at hr); (try dsimp only [Ar.real, IX.vo] at hr); (try simp only [QB2] at hr); cbv) | (refine hK _ _ ?_) | (refine NeedT.mk ?_ ?_))
      any_goals (((try clear hR3); (try clear hR2); (try clear hR); (try clear hK); (try simp only [ncCast] at *); (try simp only [castI_eq] at *); (try rw [ho]); (try dsimp only [Ar.real, IX.vo, IX.val, BX.val, IX.toN]); (try simp only [QB2]); (try simp only [decide_eq_true_eq]); (all_goals (repeat rw [wrap_i64 (by omega) (by omega)])); (all_goals (first | omega | (simp only [Int.ofNat_eq_natCast]; omega)))); done)
      · refine hR _ (i + 1) (by show v.length - (i + 1) < v.length - i; omega) (by show i + 1 ≤ v.length; omega) ?_
        (refine ⟨?_, ?_, ?_, ?_⟩ <;> cbv <;> repeat' (first | trivial | exact EqX.rfl' | exact EqO.rfl' | apply And.intro | ((try clear hR3); (try clear hR2); (try clear hR); (try clear hK); (try simp only [ncCast] at *); (try simp only [castI_eq] at *); refine EqX.i ?_; (try rw [ho]); (try dsimp only [Ar.real, IX.vo, IX.val, BX.val, IX.toN]); (try simp only [QB2]); (repeat rw [wrap_i64 (by omega) (by omega)]); omega) | exact ⟨by rw [h2, ho]; simp only [OX.toOb, X.toDL, X.toD]; rfl⟩))
      · obtain rfl : i = v.length := by omega
        exact FinX_S4 rfl rfl rfl rfl
  · rw [if_neg h0]
    generalize vecRight v = b at *
    (refine XC.of_body (dt32) Tryz.func32 rfl Tryz.ntmps32 mixed (T := tl32) tk32 (by kernel_rfl) (by simp) rfl rfl rfl rfl rfl ?_; rintro o ho P hP c K hK; have hm : P.follows .mixedOrders = true := hP ▸ mixed; have hT : TOk P tl32 := hP ▸ tk32; (try rw [← ho]); cbv; (repeat (refine StopN.mk ?_; cbv)))
    repeat' (first | (refine Br.mk (fun hb => ?_) (fun hb => ?_) <;> ((try rw [ho] at hb); (try dsimp only [Ar.real, IX.vo] at hb); (try simp only [QB2] at hb); (try simp only [QBo, beq_iff_eq, beq_eq_false_iff_ne, ne_eq] at hb))) | (refine StopN.mk ?_; cbv) | ((first | refine CallI.pure hP hx fn69 rfl rfl (by rw [ho]) ?_ | refine CallN.pure hP hx fn69 rfl rfl (by rw [ho]) ?_); cbv) | (refine hK _ _ ?_) | (refine NeedT.mk ?_ ?_))
    all_goals first
      | exact FinX_S4 rfl rfl rfl rfl
      | exact absurd hb h0
end Go.Proofs.YtlblpbahoblihaaGreat.Sy
namespace Go.Proofs.YtlblpbahoblihaaGreat.Sy
open Go Go.Sy Go.Proofs.YtlblpbahoblihaaGreat
end Go.Proofs.YtlblpbahoblihaaGreat.Sy
namespace Go.Proofs.YtlblpbahoblihaaGreat.Sy
open Go Go.Sy Go.Proofs.YtlblpbahoblihaaGreat
structure Want where
  weight : Int
  need : List Part
  deriving DecidableEq
instance : Inhabited Want := ⟨⟨0, []⟩⟩
def foldAWant_weight (e : Want) := (by
  have h : PLift (e.weight = e.weight) := ⟨rfl⟩
  conv at h => arg 1; lhs; delta Want.weight
  exact h)
theorem foldWant_weight (e : Want) : type_of% (foldAWant_weight e).down := (foldAWant_weight e).down
def foldAWant_need (e : Want) := (by
  have h : PLift (e.need = e.need) := ⟨rfl⟩
  conv at h => arg 1; lhs; delta Want.need
  exact h)
theorem foldWant_need (e : Want) : type_of% (foldAWant_need e).down := (foldAWant_need e).down
theorem foldWant : (⟨0, []⟩ : Want) = default := rfl
theorem QB5 : type_of% (And.intro @foldWant (And.intro @foldWant_weight (And.intro @foldWant_need (QB2)))) := And.intro @foldWant (And.intro @foldWant_weight (And.intro @foldWant_need (QB2)))
def Want.X (o : Ar) (w : Want) : List X := [xi w.weight, .ro (SL o Part.X w.need)]
def PV.X (o : Ar) (v : List Part) : List X := [.ro (SL o Part.X v)]
structure Prof where
  ags : List (List Part)
  wants : List Want
  lo : S4
def Prof.X (o : Ar) (p : Prof) : List X := [.ro (SL o PV.X p.ags), .ro (SL o Want.X p.wants), xi p.lo.a, xi p.lo.b, xi p.lo.c, xi p.lo.d]
end Go.Proofs.YtlblpbahoblihaaGreat.Sy
namespace Go.Proofs.YtlblpbahoblihaaGreat.Sy
open Go Go.Sy Go.Proofs.YtlblpbahoblihaaGreat
end Go.Proofs.YtlblpbahoblihaaGreat.Sy
namespace Go.Proofs.YtlblpbahoblihaaGreat.Sy
open Go Go.Sy Go.Proofs.YtlblpbahoblihaaGreat
structure Shr where
  num : Int
  den : Int
  weight : Int
  deriving DecidableEq
instance : Inhabited Shr := ⟨⟨0, 0, 0⟩⟩
def foldAShr_num (e : Shr) := (by
  have h : PLift (e.num = e.num) := ⟨rfl⟩
  conv at h => arg 1; lhs; delta Shr.num
  exact h)
theorem foldShr_num (e : Shr) : type_of% (foldAShr_num e).down := (foldAShr_num e).down
def foldAShr_den (e : Shr) := (by
  have h : PLift (e.den = e.den) := ⟨rfl⟩
  conv at h => arg 1; lhs; delta Shr.den
  exact h)
theorem foldShr_den (e : Shr) : type_of% (foldAShr_den e).down := (foldAShr_den e).down
def foldAShr_weight (e : Shr) := (by
  have h : PLift (e.weight = e.weight) := ⟨rfl⟩
  conv at h => arg 1; lhs; delta Shr.weight
  exact h)
theorem foldShr_weight (e : Shr) : type_of% (foldAShr_weight e).down := (foldAShr_weight e).down
theorem foldShr : (⟨0, 0, 0⟩ : Shr) = default := rfl
theorem QB7 : type_of% (And.intro @foldShr (And.intro @foldShr_num (And.intro @foldShr_den (And.intro @foldShr_weight (QB5))))) := And.intro @foldShr (And.intro @foldShr_num (And.intro @foldShr_den (And.intro @foldShr_weight (QB5))))
def Shr.X (_ : Ar) (s : Shr) : List X := [xi s.num, xi s.den, xi s.weight]
def shrOf (a t : S4) (w : Int) : Shr := ⟨(sumsDom a t).num, (sumsDom a t).den, w⟩
theorem FinX_shr {a b u : IX} {s : Shr} (h1 : a.val = s.num) (h2 : b.val = s.den) (h3 : u.val = s.weight) : FinX (.agg (Shr.X Ar.real s)) [] (.agg [.i .i64 a, .i .i64 b, .i .i64 u]) [] := .pure fun _ => by simp only [Shr.X, X.toD, X.toDL, h1, h2, h3]; rfl
theorem x_shrOf (a t : S4) (w : Int) : XC Tryz.prog 41 [.agg (S4.X Ar.real a), .agg (S4.X Ar.real t), xi w] [] (.agg (Shr.X Ar.real (shrOf a t w))) [] := by
  have hd := x_sumsDom a t
  unfold shrOf
  generalize sumsDom a t = d at *
  obtain ⟨a1, a2, a3, a4⟩ := a
  obtain ⟨t1, t2, t3, t4⟩ := t
  (refine XC.of_body ([]) Tryz.func41 rfl Tryz.ntmps41 mixed (T := tl41) tk41 (by kernel_rfl) (by simp) rfl rfl rfl rfl rfl ?_; rintro o ho P hP c K hK; have hm : P.follows .mixedOrders = true := hP ▸ mixed; have hT : TOk P tl41 := hP ▸ tk41; (try rw [← ho]); cbv; (repeat (refine StopN.mk ?_; cbv)))
  rw [← ho] at hd
  repeat' (first | (refine Br.mk (fun hb => ?_) (fun hb => ?_) <;> ((try rw [ho] at hb); (try dsimp only [Ar.real, IX.vo] at hb); (try simp only [QB7] at hb); (try simp only [QBo, beq_iff_eq, beq_eq_false_iff_ne, ne_eq] at hb))) | (refine StopN.mk ?_; cbv) | (refine CallI.pure hP hd fn74 rfl rfl rfl ?_; cbv) | (refine hK _ _ ?_) | (refine NeedT.mk ?_ ?_))
  exact FinX_shr rfl rfl rfl
def shrRight (s : Shr) : Bool := fracRight s.num s.den && decide (s.num ≤ 9007199254740992 ∧ s.den ≤ 9007199254740992 ∧ 1 ≤ s.weight ∧ s.weight ≤ 1000)
theorem x_shrRight (s : Shr) : XC Tryz.prog 61 [.agg (Shr.X Ar.real s)] [] (xb (shrRight s)) [] := by
  obtain ⟨n, d, w⟩ := s
  have hf := x_fracRight n d
  unfold shrRight
  dsimp only
  generalize fracRight n d = F at *
  (refine XC.of_body ([]) Tryz.func61 rfl Tryz.ntmps61 mixed (T := tl61) tk61 (by kernel_rfl) (by simp) rfl rfl rfl rfl rfl ?_; rintro o ho P hP c K hK; have hm : P.follows .mixedOrders = true := hP ▸ mixed; have hT : TOk P tl61 := hP ▸ tk61; (try rw [← ho]); cbv; (repeat (refine StopN.mk ?_; cbv)))
  repeat' (first | (refine Br.mk (fun hb => ?_) (fun hb => ?_) <;> ((try rw [ho] at hb); (try dsimp only [Ar.real, IX.vo] at hb); (try simp only [QB7] at hb); (try simp only [QBo, beq_iff_eq, beq_eq_false_iff_ne, ne_eq] at hb))) | (refine StopN.mk ?_; cbv) | (refine CallI.pure hP hf fn93 rfl rfl rfl ?_; cbv) | (refine hK _ _ ?_) | (refine NeedT.mk ?_ ?_))
  all_goals
    refine .b ?_
    ((try clear hR3); (try clear hR2); (try clear hR); (try clear hK); (try simp only [ncCast] at *); (try simp only [castI_eq] at *); (try rw [ho]); (try dsimp only [Ar.real, IX.vo, IX.val, BX.val, IX.toN]); (try simp only [QB7]))
    simp_all
  all_goals omega
end Go.Proofs.YtlblpbahoblihaaGreat.Sy
namespace Go.Proofs.YtlblpbahoblihaaGreat.Sy
open Go Go.Sy Go.Proofs.YtlblpbahoblihaaGreat
def dg (x : Int) : Int := IntKind.i64.wrap (x.tmod 65536)
def nq (x : Int) : Int := IntKind.u64.wrap (x.tdiv 65536)
def digsR (hi lo : Int) : List Int := [dg lo, dg (nq lo), dg (nq (nq lo)), dg (nq (nq (nq lo))), dg hi, dg (nq hi), dg (nq (nq hi)), dg (nq (nq (nq hi)))]
theorem x_Digits (hi lo : Int) : XC Tryz.prog 113 [xu hi, xu lo] [] (.ro (SL Ar.real encI (digsR hi lo))) [] := by
  have hrows := rows_SL Ar.real rfl encI (digsR hi lo)
  have hd : digsR hi lo = [dg lo, dg (nq lo), dg (nq (nq lo)), dg (nq (nq (nq lo))), dg hi, dg (nq hi), dg (nq (nq hi)), dg (nq (nq (nq hi)))] := rfl
  generalize digsR hi lo = ds at *
  (refine XC.of_body ([]) Tryz.func113 rfl Tryz.ntmps113 mixed (T := tl113) tk113 (by kernel_rfl) (by simp) rfl rfl rfl rfl rfl ?_; rintro o ho P hP c K hK; have hm : P.follows .mixedOrders = true := hP ▸ mixed; have hT : TOk P tl113 := hP ▸ tk113; (try rw [← ho]); cbv; (repeat (refine StopN.mk ?_; cbv)))
  repeat' (first | (refine Br.mk (fun hb => ?_) (fun hb => ?_) <;> ((try rw [ho] at hb); (try dsimp only [Ar.real, IX.vo] at hb); (try simp only [QB7] at hb); (try simp only [QBo, beq_iff_eq, beq_eq_false_iff_ne, ne_eq] at hb))) | (refine StopN.mk ?_; cbv) | (refine hK _ _ ?_) | (refine NeedT.mk ?_ ?_) | (refine LoopN.lay (o := o) (D := []) 5 ho hm hT (by kernel_rfl) ?_; cbv))
  any_goals (((try clear hR3); (try clear hR2); (try clear hR); (try clear hK); (try simp only [ncCast] at *); (try simp only [castI_eq] at *); (try rw [ho]); (try dsimp only [Ar.real, IX.vo, IX.val, BX.val, IX.toN]); (try simp only [QB7]); (try simp only [decide_eq_true_eq]); (all_goals (repeat rw [wrap_i64 (by omega) (by omega)])); (all_goals (first | omega | (simp only [Int.ofNat_eq_natCast]; omega)))); done)
  refine .ro ?_
  have hrows' : (SL Ar.real encI ds).rows = ds.map fun x => X.toCL (encI Ar.real x) := rows_SL Ar.real rfl encI ds
  refine Eq.trans ?_ hrows'.symm
  rw [hd, ho]
  rfl
def lessTo (a b : List Int) : Nat → Bool
  | 0 => false
  | n + 1 => if a.getD n 0 = b.getD n 0 then lessTo a b n else decide (a.getD n 0 < b.getD n 0)
structure StE where
  n : Nat
  i : Int
structure InE (a b : List Int) (s : StE) : Prop where
  n : s.n ≤ a.length
  i : s.i = (s.n : Int) - 1
  to : lessTo a b s.n = lessTo a b a.length
theorem x_Less (a b : List Int) (ha : a.length ≤ 1048576) (hab : a.length = b.length) : XC Tryz.prog 114 [.ro (SL Ar.real encI a), .ro (SL Ar.real encI b)] [] (xb (lessTo a b a.length)) [] := by
  obtain ⟨res, hres⟩ : ∃ q, q = lessTo a b a.length := ⟨_, rfl⟩
  rw [← hres]
  obtain ⟨i0, hi0⟩ : ∃ q, q = (a.length : Int) - 1 := ⟨_, rfl⟩
  have h0 : InE a b ⟨a.length, i0⟩ := ⟨Nat.le_refl _, hi0, rfl⟩
  (refine XC.of_body (dt114) Tryz.func114 rfl Tryz.ntmps114 mixed (T := tl114) tk114 (by kernel_rfl) (by simp) rfl rfl rfl rfl rfl ?_; rintro o ho P hP c K hK; have hm : P.follows .mixedOrders = true := hP ▸ mixed; have hT : TOk P tl114 := hP ▸ tk114; (try rw [← ho]); cbv; (repeat (refine StopN.mk ?_; cbv)))
  refine LoopN.over (o := o) (D := dt114) ho hm hT (by kernel_rfl) (fun s : StE => [(5, xi s.i)]) (fun _ => []) (fun _ => []) (InE a b) (fun s => s.n) ⟨a.length, i0⟩ h0 ?_ ?_
  · (refine ⟨?_, ?_, ?_, ?_⟩ <;> cbv <;> repeat' (first | trivial | exact EqX.rfl' | exact EqO.rfl' | apply And.intro | ((try clear hR3); (try clear hR2); (try clear hR); (try clear hK); (try simp only [ncCast] at *); (try simp only [castI_eq] at *); refine EqX.i ?_; (try rw [ho]); (try dsimp only [Ar.real, IX.vo, IX.val, BX.val, IX.toN]); (try simp only [QB7]); (repeat rw [wrap_i64 (by omega) (by omega)]); omega)))
  · rintro ⟨n, i⟩ ⟨hn, hi, hto⟩ R hR
    dsimp only at hn hi hto
    rw [← hres] at hto
    have h1 : ∀ m, n = m + 1 → res = if a.getD m 0 = b.getD m 0 then lessTo a b m else decide (a.getD m 0 < b.getD m 0) := fun m hm => by rw [← hto, hm]; rfl
    have h2 : n = 0 → res = false := fun h => by rw [← hto, h]; rfl
    obtain ⟨i', hi'⟩ : ∃ q, q = (n : Int) - 2 := ⟨_, rfl⟩
    cbv
    repeat' (first | (refine Br.mk (fun hb => ?_) (fun hb => ?_) <;> ((try rw [ho] at hb); (try dsimp only [Ar.real, IX.vo] at hb); (try simp only [QB7] at hb); (try simp only [QBo, beq_iff_eq, beq_eq_false_iff_ne, ne_eq] at hb))) | (refine StopN.mk ?_; cbv) | (refine hK _ _ ?_) | (refine NeedT.mk ?_ ?_))
    any_goals (((try clear hR3); (try clear hR2); (try clear hR); (try clear hK); (try simp only [ncCast] at *); (try simp only [castI_eq] at *); (try rw [ho]); (try dsimp only [Ar.real, IX.vo, IX.val, BX.val, IX.toN]); (try simp only [QB7]); (try simp only [decide_eq_true_eq]); (all_goals (repeat rw [wrap_i64 (by omega) (by omega)])); (all_goals (first | omega | (simp only [Int.ofNat_eq_natCast]; omega)))); done)
    · have hm1 : n = i.toNat + 1 := by ((try clear hR3); (try clear hR2); (try clear hR); (try clear hK); (try simp only [ncCast] at *); (try simp only [castI_eq] at *)); omega
      rw [h1 _ hm1, if_neg (show ¬ a.getD i.toNat 0 = b.getD i.toNat 0 from hb)]
      refine .b ?_
      rw [ho]
      rfl
    · have hm1 : n = i.toNat + 1 := by ((try clear hR3); (try clear hR2); (try clear hR); (try clear hK); (try simp only [ncCast] at *); (try simp only [castI_eq] at *)); omega
      have e1 : i' = (i.toNat : Int) - 1 := by ((try clear hR3); (try clear hR2); (try clear hR); (try clear hK); (try simp only [ncCast] at *); (try simp only [castI_eq] at *)); omega
      refine hR _ ⟨i.toNat, i'⟩ (by show i.toNat < n; ((try clear hR3); (try clear hR2); (try clear hR); (try clear hK); (try simp only [ncCast] at *); (try simp only [castI_eq] at *)); omega) ⟨by show i.toNat ≤ a.length; ((try clear hR3); (try clear hR2); (try clear hR); (try clear hK); (try simp only [ncCast] at *); (try simp only [castI_eq] at *)); omega, e1, ?_⟩ ?_
      · show lessTo a b i.toNat = _
        rw [← hres, h1 _ hm1, if_pos (show a.getD i.toNat 0 = b.getD i.toNat 0 from hb)]
      · (refine ⟨?_, ?_, ?_, ?_⟩ <;> cbv <;> repeat' (first | trivial | exact EqX.rfl' | exact EqO.rfl' | apply And.intro | ((try clear hR3); (try clear hR2); (try clear hR); (try clear hK); (try simp only [ncCast] at *); (try simp only [castI_eq] at *); refine EqX.i ?_; (try rw [ho]); (try dsimp only [Ar.real, IX.vo, IX.val, BX.val, IX.toN]); (try simp only [QB7]); (repeat rw [wrap_i64 (by omega) (by omega)]); omega)))
    · rw [h2 (by ((try clear hR3); (try clear hR2); (try clear hR); (try clear hK); (try simp only [ncCast] at *); (try simp only [castI_eq] at *)); omega)]
      exact .b rfl
def w64 (x : Int) : Int := IntKind.i64.wrap x
def pN (out a b : List Int) (i k : Nat) (over : Int) : Int := w64 (w64 (out.getD (i + k) 0 + w64 (a.getD i 0 * b.getD k 0)) + over)
structure StP where
  k : Nat
  out : List Int
  over : Int
def pIn (out a b : List Int) (i : Nat) : Nat → StP
  | 0 => ⟨0, out, 0⟩
  | k + 1 => ⟨k + 1, (pIn out a b i k).out.set (i + k) ((pN (pIn out a b i k).out a b i k (pIn out a b i k).over).tmod 65536), w64 ((pN (pIn out a b i k).out a b i k (pIn out a b i k).over).tdiv 65536)⟩
def pOut (a b : List Int) : Nat → List Int
  | 0 => List.replicate (a.length + b.length) 0
  | i + 1 => (pIn (pOut a b i) a b i b.length).out.set (i + b.length) (pIn (pOut a b i) a b i b.length).over
theorem pIn_len (out a b : List Int) (i : Nat) : ∀ k, (pIn out a b i k).out.length = out.length
  | 0 => rfl
  | k + 1 => by simp only [pIn, List.length_set]; exact pIn_len out a b i k
theorem pOut_len (a b : List Int) : ∀ i, (pOut a b i).length = a.length + b.length
  | 0 => by simp [pOut]
  | i + 1 => by simp only [pOut, List.length_set, pIn_len]; exact pOut_len a b i
theorem rows_zero {o : Ar} (ho : o = Ar.real) {l : List Int} {n m : Nat} (hl : l = List.replicate m 0) (hn : n = m) : (RR.fn n fun _ => [X.i .i64 (.lit 0)]).rows = (SL o encI l).rows := by
  subst hn
  refine rows_fn_SL o ho encI _ _ _ (by rw [hl, List.length_replicate]) ?_
  intro j hj
  have e : l.getD j default = 0 := by
    rw [hl, List.getD_eq_getElem?_getD, List.getElem?_replicate]
    split <;> rfl
  rw [e]
  rfl
theorem hval4 {i k : Nat} {n : Nat} (o : Ar) (ho : o = Ar.real) (h : IntKind.i64.wrap ((i : Int) + k) = n) : (IX.s (o.wrap IntKind.i64 (o.add (IX.vo o (IX.nat i)) (IX.vo o (IX.nat k))))).val = n := by
  subst ho
  exact h
theorem x_Product (a b : List Int) (ha : a.length ≤ 1000) (hb' : b.length ≤ 1000) : XC Tryz.prog 112 [.ro (SL Ar.real encI a), .ro (SL Ar.real encI b)] [] (.ro (SL Ar.real encI (pOut a b a.length))) [] := by
  have hM0 : pOut a b 0 = List.replicate (a.length + b.length) 0 := rfl
  have hM1 : ∀ i, pOut a b (i + 1) = (pIn (pOut a b i) a b i b.length).out.set (i + b.length) (pIn (pOut a b i) a b i b.length).over := fun _ => rfl
  have hMl := pOut_len a b
  generalize pOut a b = M at *
  (refine XC.of_body (dt112) Tryz.func112 rfl Tryz.ntmps112 mixed (T := tl112) tk112 (by kernel_rfl) (by simp) rfl rfl rfl rfl rfl ?_; rintro o ho P hP c K hK; have hm : P.follows .mixedOrders = true := hP ▸ mixed; have hT : TOk P tl112 := hP ▸ tk112; (try rw [← ho]); cbv; (repeat (refine StopN.mk ?_; cbv)))
  repeat' (first | (refine Br.mk (fun hb => ?_) (fun hb => ?_) <;> ((try rw [ho] at hb); (try dsimp only [Ar.real, IX.vo] at hb); (try simp only [QB7] at hb); (try simp only [QBo, beq_iff_eq, beq_eq_false_iff_ne, ne_eq] at hb))) | (refine StopN.mk ?_; cbv) | (refine hK _ _ ?_) | (refine NeedT.mk ?_ ?_))
  any_goals (((try clear hR3); (try clear hR2); (try clear hR); (try clear hK); (try simp only [ncCast] at *); (try simp only [castI_eq] at *); (try rw [ho]); (try dsimp only [Ar.real, IX.vo, IX.val, BX.val, IX.toN]); (try simp only [QB7]); (try simp only [decide_eq_true_eq]); (all_goals (repeat rw [wrap_i64 (by omega) (by omega)])); (all_goals (first | omega | (simp only [Int.ofNat_eq_natCast]; omega)))); done)
  obtain ⟨z, hz⟩ : ∃ q, q = List.replicate (a.length + b.length) (0 : Int) := ⟨_, rfl⟩
  rw [← hz] at hM0
  refine LoopN.over (o := o) (D := dt112) ho hm hT (by kernel_rfl) (fun i : Nat => [(6, xn i)]) (fun i => [(0, .row 0 3 1 (SL o encI (M i)))]) (fun _ => []) (fun i => i ≤ a.length) (fun i => a.length - i) 0 (Nat.zero_le _) ?_ ?_
  · have hM0' := hM0.trans hz
    have hlen : (IntKind.i64.wrap ((a.length : Int) + b.length)).toNat = a.length + b.length := by rw [wrap_i64 (by omega) (by omega)]; omega
    (refine ⟨?_, ?_, ?_, ?_⟩ <;> cbv <;> repeat' (first | trivial | exact EqX.rfl' | exact EqO.rfl' | apply And.intro | ((try clear hR3); (try clear hR2); (try clear hR); (try clear hK); (try simp only [ncCast] at *); (try simp only [castI_eq] at *); refine EqX.i ?_; (try rw [ho]); (try dsimp only [Ar.real, IX.vo, IX.val, BX.val, IX.toN]); (try simp only [QB7]); (repeat rw [wrap_i64 (by omega) (by omega)]); omega) | (refine EqO.row rfl (rows_zero ho hM0' ?_); rw [ho]; exact hlen)))
  · rintro i hi R hR
    have e1 := hM1 i
    have hl := hMl i
    have hP0 : (pIn (M i) a b i 0) = ⟨0, M i, 0⟩ := rfl
    have hP1 : ∀ k, pIn (M i) a b i (k + 1) = ⟨k + 1, (pIn (M i) a b i k).out.set (i + k) ((pN (pIn (M i) a b i k).out a b i k (pIn (M i) a b i k).over).tmod 65536), w64 ((pN (pIn (M i) a b i k).out a b i k (pIn (M i) a b i k).over).tdiv 65536)⟩ := fun _ => rfl
    have hPl := pIn_len (M i) a b i
    generalize pIn (M i) a b i = N at *
    obtain ⟨out0, hout0⟩ : ∃ q, q = M i := ⟨_, rfl⟩
    rw [← hout0] at hl hP0 hPl
    cbv
    repeat' (first | (refine Br.mk (fun hb => ?_) (fun hb => ?_) <;> ((try rw [ho] at hb); (try dsimp only [Ar.real, IX.vo] at hb); (try simp only [QB7] at hb); (try simp only [QBo, beq_iff_eq, beq_eq_false_iff_ne, ne_eq] at hb))) | (refine StopN.mk ?_; cbv) | (refine hK _ _ ?_) | (refine NeedT.mk ?_ ?_))
    any_goals (((try clear hR3); (try clear hR2); (try clear hR); (try clear hK); (try simp only [ncCast] at *); (try simp only [castI_eq] at *); (try rw [ho]); (try dsimp only [Ar.real, IX.vo, IX.val, BX.val, IX.toN]); (try simp only [QB7]); (try simp only [decide_eq_true_eq]); (all_goals (repeat rw [wrap_i64 (by omega) (by omega)])); (all_goals (first | omega | (simp only [Int.ofNat_eq_natCast]; omega)))); done)
    · have hN0 : (N 0).out = M i ∧ (N 0).over = 0 := by rw [hP0]; exact ⟨hout0, rfl⟩
      have hrow0 : (SL o encI (M i)).rows = (SL o encI (N 0).out).rows := by rw [hN0.1]
      refine LoopN.over (o := o) (D := dt112) ho hm hT (by kernel_rfl) (fun k : Nat => [(8, xn k), (7, xi (N k).over)]) (fun k => [(0, .row 0 3 1 (SL o encI (N k).out))]) (fun _ => []) (fun k => k ≤ b.length) (fun k => b.length - k) 0 (Nat.zero_le _) ?_ ?_
      · (refine ⟨?_, ?_, ?_, ?_⟩ <;> cbv <;> repeat' (first | trivial | exact EqX.rfl' | exact EqO.rfl' | apply And.intro | ((try clear hR3); (try clear hR2); (try clear hR); (try clear hK); (try simp only [ncCast] at *); (try simp only [castI_eq] at *); refine EqX.i ?_; (try rw [ho]); (try dsimp only [Ar.real, IX.vo, IX.val, BX.val, IX.toN]); (try simp only [QB7]); (repeat rw [wrap_i64 (by omega) (by omega)]); omega) | (refine EqX.i ?_; exact hN0.2.symm) | exact EqO.row rfl hrow0))
      · rintro k hk R' hR'
        have f1 := hP1 k
        have hPk := hPl k
        obtain ⟨N', hN'⟩ : ∃ q, q = N (k + 1) := ⟨_, rfl⟩
        rw [← hN'] at f1
        generalize hNk : N k = Nk at *
        obtain ⟨k0, outk, overk⟩ := Nk
        dsimp only at f1 hPk
        have hidx : i < a.length → k < b.length → (IntKind.i64.wrap ((i : Int) + k)).toNat = i + k := fun h h' => by rw [wrap_i64 (by omega) (by omega)]; omega
        have hidx2 : i < a.length → k < b.length → IntKind.i64.wrap ((i : Int) + k) = ((i + k : Nat) : Int) := fun h h' => by rw [wrap_i64 (by omega) (by omega)]; omega
        have hidx3 : i < a.length → IntKind.i64.wrap ((i : Int) + b.length) = ((i + b.length : Nat) : Int) := fun h => by rw [wrap_i64 (by omega) (by omega)]; omega
        have hp : i < a.length → k < b.length → pN outk a b i k overk = w64 (w64 (outk.getD ((IntKind.i64.wrap ((i : Int) + k)).toNat) 0 + w64 (a.getD i 0 * b.getD k 0)) + overk) := fun h h' => by rw [hidx h h']; rfl
        have g1 : i < a.length → k < b.length → (N (k + 1)).out = outk.set (i + k) ((w64 (w64 (outk.getD ((IntKind.i64.wrap ((i : Int) + k)).toNat) 0 + w64 (a.getD i 0 * b.getD k 0)) + overk)).tmod 65536) := fun h h' => by rw [← hN', f1, hp h h']
        have g2 : i < a.length → k < b.length → (N (k + 1)).over = w64 ((w64 (w64 (outk.getD ((IntKind.i64.wrap ((i : Int) + k)).toNat) 0 + w64 (a.getD i 0 * b.getD k 0)) + overk)).tdiv 65536) := fun h h' => by rw [← hN', f1, hp h h']
        have g3 : k = b.length → M (i + 1) = outk.set (i + b.length) overk := fun h => by rw [e1, ← h, hNk]
        cbv
        repeat' (first | (refine Br.mk (fun hb => ?_) (fun hb => ?_) <;> ((try rw [ho] at hb); (try dsimp only [Ar.real, IX.vo] at hb); (try simp only [QB7] at hb); (try simp only [QBo, beq_iff_eq, beq_eq_false_iff_ne, ne_eq] at hb))) | (refine StopN.mk ?_; cbv) | (refine hK _ _ ?_) | (refine NeedT.mk ?_ ?_))
        any_goals (((try clear hR3); (try clear hR2); (try clear hR); (try clear hK); (try simp only [ncCast] at *); (try simp only [castI_eq] at *); (try rw [ho]); (try dsimp only [Ar.real, IX.vo, IX.val, BX.val, IX.toN]); (try simp only [QB7]); (try simp only [decide_eq_true_eq]); (all_goals (repeat rw [wrap_i64 (by omega) (by omega)])); (all_goals (first | omega | (simp only [Int.ofNat_eq_natCast]; omega)))); done)
        · have g1' := g1 (by assumption) (by assumption)
          have g2' := g2 (by assumption) (by assumption)
          have g4 := hidx2 (by assumption) (by assumption)
          refine hR' _ (k + 1) (by show b.length - (k + 1) < b.length - k; ((try clear hR3); (try clear hR2); (try clear hR); (try clear hK); (try simp only [ncCast] at *); (try simp only [castI_eq] at *)); omega) (by show k + 1 ≤ b.length; ((try clear hR3); (try clear hR2); (try clear hR); (try clear hK); (try simp only [ncCast] at *); (try simp only [castI_eq] at *)); omega) ?_
          (refine ⟨?_, ?_, ?_, ?_⟩ <;> cbv <;> repeat' (first | trivial | exact EqX.rfl' | exact EqO.rfl' | apply And.intro | ((try clear hR3); (try clear hR2); (try clear hR); (try clear hK); (try simp only [ncCast] at *); (try simp only [castI_eq] at *); refine EqX.i ?_; (try rw [ho]); (try dsimp only [Ar.real, IX.vo, IX.val, BX.val, IX.toN]); (try simp only [QB7]); (repeat rw [wrap_i64 (by omega) (by omega)]); omega) | (refine EqX.i ?_; rw [ho]; exact g2'.symm) | (refine EqO.set ho encI outk _ _ (i + k) _ _ rfl g1' (hval4 _ ho g4) ?_; rw [ho]; rfl)))
        · obtain rfl : k = b.length := by ((try clear hR3); (try clear hR2); (try clear hR); (try clear hK); (try simp only [ncCast] at *); (try simp only [castI_eq] at *)); omega
          have g3' := g3 rfl
          have g5 := hidx3 (by assumption)
          have g4 : IntKind.i64.wrap ((i : Int) + ((o.len b : Nat) : Int)) = ((i + b.length : Nat) : Int) := by rw [ho]; exact g5
          refine hR _ (i + 1) (by show a.length - (i + 1) < a.length - i; ((try clear hR3); (try clear hR2); (try clear hR); (try clear hK); (try simp only [ncCast] at *); (try simp only [castI_eq] at *)); omega) (by show i + 1 ≤ a.length; ((try clear hR3); (try clear hR2); (try clear hR); (try clear hK); (try simp only [ncCast] at *); (try simp only [castI_eq] at *)); omega) ?_
          (refine ⟨?_, ?_, ?_, ?_⟩ <;> cbv <;> repeat' (first | trivial | exact EqX.rfl' | exact EqO.rfl' | apply And.intro | ((try clear hR3); (try clear hR2); (try clear hR); (try clear hK); (try simp only [ncCast] at *); (try simp only [castI_eq] at *); refine EqX.i ?_; (try rw [ho]); (try dsimp only [Ar.real, IX.vo, IX.val, BX.val, IX.toN]); (try simp only [QB7]); (repeat rw [wrap_i64 (by omega) (by omega)]); omega) | (exact EqO.set ho encI outk _ _ (i + b.length) _ _ rfl g3' (hval4 _ ho g4) rfl)))
    · obtain rfl : i = a.length := by ((try clear hR3); (try clear hR2); (try clear hR); (try clear hK); (try simp only [ncCast] at *); (try simp only [castI_eq] at *)); omega
      exact .ro (by rw [ho])
end Go.Proofs.YtlblpbahoblihaaGreat.Sy
namespace Go.Proofs.YtlblpbahoblihaaGreat.Sy
open Go Go.Sy Go.Proofs.YtlblpbahoblihaaGreat
theorem x_r02Right (n d : Int) : XC Tryz.prog 111 [.agg [xi n, xi d]] [] (xb (fracRight n d)) [] := by
  (refine XC.of_body ([]) Tryz.func111 rfl Tryz.ntmps111 mixed (T := tl111) tk111 (by kernel_rfl) (by simp) rfl rfl rfl rfl rfl ?_; rintro o ho P hP c K hK; have hm : P.follows .mixedOrders = true := hP ▸ mixed; have hT : TOk P tl111 := hP ▸ tk111; (try rw [← ho]); cbv; (repeat (refine StopN.mk ?_; cbv)))
  repeat' (first | (refine Br.mk (fun hb => ?_) (fun hb => ?_) <;> ((try rw [ho] at hb); (try dsimp only [Ar.real, IX.vo] at hb); (try simp only [QB7] at hb); (try simp only [QBo, beq_iff_eq, beq_eq_false_iff_ne, ne_eq] at hb))) | (refine StopN.mk ?_; cbv) | (refine hK _ _ ?_) | (refine NeedT.mk ?_ ?_))
  all_goals (refine .b ?_; ((try clear hR3); (try clear hR2); (try clear hR); (try clear hK); (try simp only [ncCast] at *); (try simp only [castI_eq] at *); (try rw [ho]); (try dsimp only [Ar.real, IX.vo, IX.val, BX.val, IX.toN]); (try simp only [QB7])); simp [fracRight, *])
  all_goals omega
def prodD (x y : Int) : List Int := pOut (digsR 0 x) (digsR 0 y) (digsR 0 x).length
theorem prodD_len (x y : Int) : (prodD x y).length = 16 := pOut_len _ _ _
def rFracCmp (a b u v : Int) : Int :=
  if fracRight a b = true ∧ fracRight u v = true then
    (if lessTo (prodD a v) (prodD u b) (prodD a v).length = true then -1 else if lessTo (prodD u b) (prodD a v) (prodD u b).length = true then 1 else 0)
  else 0
theorem x_prodD (x y : Int) : XC Tryz.prog 112 [.ro (SL Ar.real encI (digsR 0 x)), .ro (SL Ar.real encI (digsR 0 y))] [] (.ro (SL Ar.real encI (prodD x y))) [] := x_Product _ _ (show (8 : Nat) ≤ 1000 by decide) (show (8 : Nat) ≤ 1000 by decide)
theorem x_r02Cmp (a b u v : Int) (ha : i64B a) (hb' : i64B b) (hc' : i64B u) (hd : i64B v) : XC Tryz.prog 75 [.agg [xi a, xi b], .agg [xi u, xi v]] [] (xi (rFracCmp a b u v)) [] := by
  obtain ⟨a1, a2⟩ := ha
  obtain ⟨b1, b2⟩ := hb'
  obtain ⟨c1, c2⟩ := hc'
  obtain ⟨d1, d2⟩ := hd
  by_cases h : fracRight a b = true ∧ fracRight u v = true
  · have hr0 := h
    simp only [fracRight, Bool.and_eq_true, decide_eq_true_eq] at hr0
    obtain ⟨⟨a3, b3⟩, c3, d3⟩ := hr0
    have hf : rFracCmp a b u v = (if lessTo (prodD a v) (prodD u b) (prodD a v).length = true then -1 else if lessTo (prodD u b) (prodD a v) (prodD u b).length = true then 1 else 0) := if_pos h
    have hD1 := x_Digits 0 a
    have hD2 := x_Digits 0 v
    have hD3 := x_Digits 0 u
    have hD4 := x_Digits 0 b
    have hP1 := x_prodD a v
    have hP2 := x_prodD u b
    have hL1 := x_Less (prodD a v) (prodD u b) (by rw [prodD_len]; decide) (by rw [prodD_len, prodD_len])
    have hL2 := x_Less (prodD u b) (prodD a v) (by rw [prodD_len]; decide) (by rw [prodD_len, prodD_len])
    have wa : IntKind.u64.wrap a = a := wrap_u64 (by omega) (by omega)
    have wb : IntKind.u64.wrap b = b := wrap_u64 (by omega) (by omega)
    have wu : IntKind.u64.wrap u = u := wrap_u64 (by omega) (by omega)
    have wv : IntKind.u64.wrap v = v := wrap_u64 (by omega) (by omega)
    have hr1 := x_r02Right a b
    have hr2 := x_r02Right u v
    rw [h.1] at hr1
    rw [h.2] at hr2
    rw [hf]
    clear hf
    generalize prodD a v = p1 at *
    generalize prodD u b = p2 at *
    generalize lessTo p1 p2 p1.length = l1 at *
    generalize lessTo p2 p1 p2.length = l2 at *
    generalize digsR 0 a = da at *
    generalize digsR 0 b = db at *
    generalize digsR 0 u = du at *
    generalize digsR 0 v = dv at *
    (refine XC.of_body (dt75) Tryz.func75 rfl Tryz.ntmps75 mixed (T := tl75) tk75 (by kernel_rfl) (by simp) rfl rfl rfl rfl rfl ?_; rintro o ho P hP c K hK; have hm : P.follows .mixedOrders = true := hP ▸ mixed; have hT : TOk P tl75 := hP ▸ tk75; (try rw [← ho]); cbv; (repeat (refine StopN.mk ?_; cbv)))
    have ew : ∀ x, o.wrap IntKind.u64 x = IntKind.u64.wrap x := fun x => by rw [ho]; rfl
    rw [← ho] at hD1 hD2 hD3 hD4 hP1 hP2 hL1 hL2
    rw [← wa, ← ew] at hD1
    rw [← wv, ← ew] at hD2
    rw [← wu, ← ew] at hD3
    rw [← wb, ← ew] at hD4
    repeat' (first | (refine Br.mk (fun hb => ?_) (fun hb => ?_) <;> ((try rw [ho] at hb); (try dsimp only [Ar.real, IX.vo] at hb); (try simp only [QB7] at hb); (try simp only [QBo, beq_iff_eq, beq_eq_false_iff_ne, ne_eq] at hb))) | (refine StopN.mk ?_; cbv) | ((first | refine CallI.pure hP hr1 fn111 rfl rfl rfl ?_ | refine CallI.pure hP hr2 fn111 rfl rfl rfl ?_ | refine CallN.pure hP hD1 fn113 rfl rfl rfl ?_ | refine CallN.pure hP hD2 fn113 rfl rfl rfl ?_ | refine CallN.pure hP hD3 fn113 rfl rfl rfl ?_ | refine CallN.pure hP hD4 fn113 rfl rfl rfl ?_ | refine CallN.pure hP hP1 fn112 rfl rfl rfl ?_ | refine CallN.pure hP hP2 fn112 rfl rfl rfl ?_ | refine CallI.pure hP hL1 fn114 rfl rfl rfl ?_ | refine CallI.pure hP hL2 fn114 rfl rfl rfl ?_); cbv) | (refine hK _ _ ?_) | (refine NeedT.mk ?_ ?_))
    · exact absurd ‹true = false› (by decide)
    · exact absurd ‹true = false› (by decide)
    · refine .i ?_
      rw [if_pos (by assumption)]
      rfl
    · refine .i ?_
      rw [if_neg (by rw [‹l1 = false›]; decide), if_pos (by assumption)]
      rfl
    · refine .i ?_
      rw [if_neg (by rw [‹l1 = false›]; decide), if_neg (by rw [‹l2 = false›]; decide)]
      rfl
  · rw [show rFracCmp a b u v = 0 from if_neg h]
    (refine XC.of_body (dt75) Tryz.func75 rfl Tryz.ntmps75 mixed (T := tl75) tk75 (by kernel_rfl) (by simp) rfl rfl rfl rfl rfl ?_; rintro o ho P hP c K hK; have hm : P.follows .mixedOrders = true := hP ▸ mixed; have hT : TOk P tl75 := hP ▸ tk75; (try rw [← ho]); cbv; (repeat (refine StopN.mk ?_; cbv)))
    repeat' (first | (refine Br.mk (fun hb => ?_) (fun hb => ?_) <;> ((try rw [ho] at hb); (try dsimp only [Ar.real, IX.vo] at hb); (try simp only [QB7] at hb); (try simp only [QBo, beq_iff_eq, beq_eq_false_iff_ne, ne_eq] at hb))) | (refine StopN.mk ?_; cbv) | ((first | refine CallI.pure hP (x_r02Right _ _) fn111 (by first | rfl | (rw [ho]; try rfl)) (by rfl) (by first | rfl | (rw [ho]; try rfl)) ?_ | refine CallN.pure hP (x_r02Right _ _) fn111 (by first | rfl | (rw [ho]; try rfl)) (by rfl) (by first | rfl | (rw [ho]; try rfl)) ?_); (try rw [← ho]); generalize hr : fracRight _ _ = r; (try rw [ho] at hr); (try dsimp only [Ar.real, IX.vo] at hr); (try simp only [QB7] at hr); cbv) | ((first | refine CallI.pure hP (x_Digits _ _) fn113 (by first | rfl | (rw [ho]; try rfl)) (by rfl) (by first | rfl | (rw [ho]; try rfl)) ?_ | refine CallN.pure hP (x_Digits _ _) fn113 (by first | rfl | (rw [ho]; try rfl)) (by rfl) (by first | rfl | (rw [ho]; try rfl)) ?_); (try rw [← ho]); generalize hr : digsR _ _ = r; (try rw [ho] at hr); (try dsimp only [Ar.real, IX.vo] at hr); (try simp only [QB7] at hr); cbv) | ((first | refine CallI.pure hP (x_Less _ _ ‹_› ‹_›) fn114 (by first | rfl | (rw [ho]; try rfl)) (by rfl) (by first | rfl | (rw [ho]; try rfl)) ?_ | refine CallN.pure hP (x_Less _ _ ‹_› ‹_›) fn114 (by first | rfl | (rw [ho]; try rfl)) (by rfl) (by first | rfl | (rw [ho]; try rfl)) ?_); (try rw [← ho]); generalize hr : lessTo _ _ _ = r; (try rw [ho] at hr); (try dsimp only [Ar.real, IX.vo] at hr); (try simp only [QB7] at hr); cbv) | (refine hK _ _ ?_) | (refine NeedT.mk ?_ ?_))
    all_goals first
      | exact .i rfl
      | (exfalso; simp_all; done)
end Go.Proofs.YtlblpbahoblihaaGreat.Sy
namespace Go.Proofs.YtlblpbahoblihaaGreat.Sy
open Go Go.Sy Go.Proofs.YtlblpbahoblihaaGreat
theorem x_r04Right (k r : Int) : XC Tryz.prog 76 [.agg [xi k, xi r]] [] (xb (slotRight k r)) [] := by
  (refine XC.of_body ([]) Tryz.func76 rfl Tryz.ntmps76 mixed (T := tl76) tk76 (by kernel_rfl) (by simp) rfl rfl rfl rfl rfl ?_; rintro o ho P hP c K hK; have hm : P.follows .mixedOrders = true := hP ▸ mixed; have hT : TOk P tl76 := hP ▸ tk76; (try rw [← ho]); cbv; (repeat (refine StopN.mk ?_; cbv)))
  repeat' (first | (refine Br.mk (fun hb => ?_) (fun hb => ?_) <;> ((try rw [ho] at hb); (try dsimp only [Ar.real, IX.vo] at hb); (try simp only [QB7] at hb); (try simp only [QBo, beq_iff_eq, beq_eq_false_iff_ne, ne_eq] at hb))) | (refine StopN.mk ?_; cbv) | (refine hK _ _ ?_) | (refine NeedT.mk ?_ ?_))
  all_goals (refine .b ?_; ((try clear hR3); (try clear hR2); (try clear hR); (try clear hK); (try simp only [ncCast] at *); (try simp only [castI_eq] at *); (try rw [ho]); (try dsimp only [Ar.real, IX.vo, IX.val, BX.val, IX.toN]); (try simp only [QB7])); simp [slotRight, *])
  all_goals omega
theorem x_r04Cmp (a b c d : Int) : XC Tryz.prog 78 [.agg [xi a, xi b], .agg [xi c, xi d]] [] (xi (slotCmp a b c d)) [] := by
  (refine XC.of_body ([]) Tryz.func78 rfl Tryz.ntmps78 mixed (T := tl78) tk78 (by kernel_rfl) (by simp) rfl rfl rfl rfl rfl ?_; rintro o ho P hP c K hK; have hm : P.follows .mixedOrders = true := hP ▸ mixed; have hT : TOk P tl78 := hP ▸ tk78; (try rw [← ho]); cbv; (repeat (refine StopN.mk ?_; cbv)))
  repeat' (first | (refine Br.mk (fun hb => ?_) (fun hb => ?_) <;> ((try rw [ho] at hb); (try dsimp only [Ar.real, IX.vo] at hb); (try simp only [QB7] at hb); (try simp only [QBo, beq_iff_eq, beq_eq_false_iff_ne, ne_eq] at hb))) | (refine StopN.mk ?_; cbv) | (refine hK _ _ ?_) | (refine NeedT.mk ?_ ?_))
  all_goals
    refine .i ?_
    ((try clear hR3); (try clear hR2); (try clear hR); (try clear hK); (try simp only [ncCast] at *); (try simp only [castI_eq] at *); (try rw [ho]); (try dsimp only [Ar.real, IX.vo, IX.val, BX.val, IX.toN]); (try simp only [QB7]))
    (try simp only [Bool.and_eq_true, Bool.and_eq_false_iff, decide_eq_true_eq, decide_eq_false_iff_not] at *)
    unfold slotCmp
    repeat' split
    all_goals omega
theorem x_r05slot (k r a : Int) : XC Tryz.prog 77 [.agg [xi k, xi r, xi a]] [] (.agg [xi k, xi r]) [] := by
  (refine XC.of_body ([]) Tryz.func77 rfl Tryz.ntmps77 mixed (T := tl77) tk77 (by kernel_rfl) (by simp) rfl rfl rfl rfl rfl ?_; rintro o ho P hP c K hK; have hm : P.follows .mixedOrders = true := hP ▸ mixed; have hT : TOk P tl77 := hP ▸ tk77; (try rw [← ho]); cbv; (repeat (refine StopN.mk ?_; cbv)))
  repeat' (first | (refine Br.mk (fun hb => ?_) (fun hb => ?_) <;> ((try rw [ho] at hb); (try dsimp only [Ar.real, IX.vo] at hb); (try simp only [QB7] at hb); (try simp only [QBo, beq_iff_eq, beq_eq_false_iff_ne, ne_eq] at hb))) | (refine StopN.mk ?_; cbv) | (refine hK _ _ ?_) | (refine NeedT.mk ?_ ?_))
  all_goals exact .pure fun _ => rfl
theorem x_r05Right (v : List Part) (hv : v.length ≤ 1048576) : XC Tryz.prog 47 [.ro (SL Ar.real Part.X v)] [] (xb (vecRight v)) [] := by
  (refine XC.of_body (dt47) Tryz.func47 rfl Tryz.ntmps47 mixed (T := tl47) tk47 (by kernel_rfl) (by simp) rfl rfl rfl rfl rfl ?_; rintro o ho P hP c K hK; have hm : P.follows .mixedOrders = true := hP ▸ mixed; have hT : TOk P tl47 := hP ▸ tk47; (try rw [← ho]); cbv; (repeat (refine StopN.mk ?_; cbv)))
  refine LoopN.over (o := o) (D := dt47) ho hm hT (by kernel_rfl) (fun i : Nat => [(3, xn i)]) (fun _ => []) (fun _ => []) (fun i => i ≤ v.length ∧ ∀ j, j < i → badAt v j = false) (fun i => v.length - i) 0 ⟨Nat.zero_le _, fun j hj => by omega⟩ ?_ ?_
  · (refine ⟨?_, ?_, ?_, ?_⟩ <;> cbv <;> repeat' (first | trivial | exact EqX.rfl' | exact EqO.rfl' | apply And.intro | ((try clear hR3); (try clear hR2); (try clear hR); (try clear hK); (try simp only [ncCast] at *); (try simp only [castI_eq] at *); refine EqX.i ?_; (try rw [ho]); (try dsimp only [Ar.real, IX.vo, IX.val, BX.val, IX.toN]); (try simp only [QB7]); (repeat rw [wrap_i64 (by omega) (by omega)]); omega)))
  · rintro i ⟨hi, hno⟩ R hR
    cbv
    repeat' (first | (refine Br.mk (fun hb => ?_) (fun hb => ?_) <;> ((try rw [ho] at hb); (try dsimp only [Ar.real, IX.vo] at hb); (try simp only [QB7] at hb); (try simp only [QBo, beq_iff_eq, beq_eq_false_iff_ne, ne_eq] at hb))) | (refine StopN.mk ?_; cbv) | ((first | refine CallI.pure hP (x_r04Right _ _) fn76 (by first | rfl | (rw [ho]; try rfl)) (by rfl) (by first | rfl | (rw [ho]; try rfl)) ?_ | refine CallN.pure hP (x_r04Right _ _) fn76 (by first | rfl | (rw [ho]; try rfl)) (by rfl) (by first | rfl | (rw [ho]; try rfl)) ?_); (try rw [← ho]); generalize hr : slotRight _ _ = r; (try rw [ho] at hr); (try dsimp only [Ar.real, IX.vo] at hr); (try simp only [QB7] at hr); cbv) | ((first | refine CallI.pure hP (x_r05slot _ _ _) fn77 (by first | rfl | (rw [ho]; try rfl)) (by rfl) (by first | rfl | (rw [ho]; try rfl)) ?_ | refine CallN.pure hP (x_r05slot _ _ _) fn77 (by first | rfl | (rw [ho]; try rfl)) (by rfl) (by first | rfl | (rw [ho]; try rfl)) ?_); (try rw [← ho]); cbv) | ((first | refine CallI.pure hP (x_r04Cmp _ _ _ _) fn78 (by first | rfl | (rw [ho]; try rfl)) (by rfl) (by first | rfl | (rw [ho]; try rfl)) ?_ | refine CallN.pure hP (x_r04Cmp _ _ _ _) fn78 (by first | rfl | (rw [ho]; try rfl)) (by rfl) (by first | rfl | (rw [ho]; try rfl)) ?_); (try rw [← ho]); generalize hr : slotCmp _ _ _ _ = r; (try rw [ho] at hr); (try dsimp only [Ar.real, IX.vo] at hr); (try simp only [QB7] at hr); cbv) | (refine hK _ _ ?_) | (refine NeedT.mk ?_ ?_))
    all_goals first
      | ((try clear hR3); (try clear hR2); (try clear hR); (try clear hK); (try simp only [ncCast] at *); (try simp only [castI_eq] at *); (try rw [ho]); (try dsimp only [Ar.real, IX.vo, IX.val, BX.val, IX.toN]); (try simp only [QB7]); (try simp only [decide_eq_true_eq]); (all_goals (repeat rw [wrap_i64 (by omega) (by omega)])); (all_goals (first | omega | (simp only [Int.ofNat_eq_natCast]; omega))))
      | (have hlt : i < v.length := by omega
         refine .b ?_
         ((try clear hR3); (try clear hR2); (try clear hR); (try clear hK); (try simp only [ncCast] at *); (try simp only [castI_eq] at *); (try rw [ho]); (try dsimp only [Ar.real, IX.vo, IX.val, BX.val, IX.toN]); (try simp only [QB7]))
         rw [vecRight, nextAt_some (k := i) (Nat.zero_le _) hlt (by ((try clear hR3); (try clear hR2); (try clear hR); (try clear hK); (try simp only [ncCast] at *); (try simp only [castI_eq] at *)); (try rw [wrap_i64 (by omega) (by omega), show ((i : Int) - 1).toNat = i - 1 by omega] at hr); simp only [badAt, amountRight]; clear hno; first | (simp_all; done) | (simp_all; omega)) (fun j _ h => hno j h)]
         rfl)
      | (refine .b ?_; ((try clear hR3); (try clear hR2); (try clear hR); (try clear hK); (try simp only [ncCast] at *); (try simp only [castI_eq] at *); (try rw [ho]); (try dsimp only [Ar.real, IX.vo, IX.val, BX.val, IX.toN]); (try simp only [QB7])); rw [vecRight, nextAt_none (fun j _ h => hno j (by omega))]; rfl)
      | (refine hR _ (i + 1) (by omega) ⟨by omega, fun j h1 => ?_⟩ ?_
         · rcases Nat.lt_or_ge j i with h3 | h3
           · exact hno j h3
           · obtain rfl : j = i := by omega
             ((try clear hR3); (try clear hR2); (try clear hR); (try clear hK); (try simp only [ncCast] at *); (try simp only [castI_eq] at *))
             (try rw [wrap_i64 (by omega) (by omega), show ((j : Int) - 1).toNat = j - 1 by omega] at hr)
             simp only [badAt, amountRight]
             clear hno
             first | (simp_all; done) | (simp_all; omega)
         · (refine ⟨?_, ?_, ?_, ?_⟩ <;> cbv <;> repeat' (first | trivial | exact EqX.rfl' | exact EqO.rfl' | apply And.intro | ((try clear hR3); (try clear hR2); (try clear hR); (try clear hK); (try simp only [ncCast] at *); (try simp only [castI_eq] at *); refine EqX.i ?_; (try rw [ho]); (try dsimp only [Ar.real, IX.vo, IX.val, BX.val, IX.toN]); (try simp only [QB7]); (repeat rw [wrap_i64 (by omega) (by omega)]); omega))))
end Go.Proofs.YtlblpbahoblihaaGreat.Sy
namespace Go.Proofs.YtlblpbahoblihaaGreat.Sy
open Go Go.Sy Go.Proofs.YtlblpbahoblihaaGreat
theorem upLr' : ∀ l : List OX, upL l l
  | [] => trivial
  | a :: l => ⟨fun c => upO_refl _, upLr' l⟩
theorem up_eqr' {a b : OX} {l r : List OX} (h : ∀ c, EqO c a b) (hr : upL l r) : upL (a :: l) (b :: r) := ⟨fun c => by obtain ⟨e⟩ := h c; rw [e]; exact upO_refl _, hr⟩
def rWith (l : List Part) (k r n : Int) : List Part := if n = 0 then l else l ++ [⟨k, r, n⟩]
def rWv (v : Nat) (n : Int) : Nat := if n = 0 then v else v + 1
theorem x_r05with (o : Ar) (ho : o = Ar.real) (l : List Part) (v : Nat) (k r n : Int) (hl : l.length ≤ 1048576) : XC Tryz.prog 118 [.own (.out 0) v, .agg [xi k, xi r], xi n] [.row v 67 3 (SL o Part.X l)] (.own (.out 0) (rWv v n)) [.row (rWv v n) 67 3 (SL o Part.X (rWith l k r n))] := by
  obtain ⟨l', hl'⟩ : ∃ q, q = rWith l k r n := ⟨_, rfl⟩
  obtain ⟨v', hv'⟩ : ∃ q, q = rWv v n := ⟨_, rfl⟩
  rw [← hl', ← hv']
  unfold rWith at hl'
  unfold rWv at hv'
  (refine XC.of_body ([]) Tryz.func118 rfl Tryz.ntmps118 mixed (T := tl118) tk118 (by kernel_rfl) (by simp) rfl rfl rfl rfl rfl ?_; rintro o2 ho2 P hP c K hK; have hm : P.follows .mixedOrders = true := hP ▸ mixed; have hT : TOk P tl118 := hP ▸ tk118; (try rw [← ho2]); have e2 : o = o2 := ho.trans ho2.symm; subst e2; cbv; (repeat (refine StopN.mk ?_; cbv)))
  repeat' (first | (refine Br.mk (fun hb => ?_) (fun hb => ?_) <;> ((try rw [ho] at hb); (try dsimp only [Ar.real, IX.vo] at hb); (try simp only [QB7] at hb); (try simp only [QBo, beq_iff_eq, beq_eq_false_iff_ne, ne_eq] at hb))) | (refine StopN.mk ?_; cbv) | (refine hK _ _ ?_) | (refine NeedT.mk ?_ ?_))
  any_goals (((try clear hR3); (try clear hR2); (try clear hR); (try clear hK); (try simp only [ncCast] at *); (try simp only [castI_eq] at *); (try rw [ho]); (try dsimp only [Ar.real, IX.vo, IX.val, BX.val, IX.toN]); (try simp only [QB7]); (try simp only [decide_eq_true_eq]); (all_goals (repeat rw [wrap_i64 (by omega) (by omega)])); (all_goals (first | omega | (simp only [Int.ofNat_eq_natCast]; omega)))); done)
  · rw [if_pos hb] at hl' hv'
    subst hl'
    subst hv'
    exact ⟨fun _ => rfl, upLr' _⟩
  · rw [if_neg hb] at hl' hv'
    subst hv'
    exact ⟨fun _ => rfl, up_eqr' (fun c => EqO.snoc ho Part.X l l' _ _ rfl hl' rfl) (upLr' _)⟩
theorem rWith_len (l : List Part) (k r n : Int) : (rWith l k r n).length ≤ l.length + 1 := by
  unfold rWith
  split <;> simp
theorem FinX_rb2 {l : List Part} {r : RR} {s : Bool} {y : BX} (h : r.rows = (SL Ar.real Part.X l).rows) (h' : y.val = s) : FinX (.tup [.ro (SL Ar.real Part.X l), xb s]) [] (.tup [.ro r, .b y]) [] := .pure fun _ => by
  simp only [X.toD, X.toDL, h, h']
  rfl
end Go.Proofs.YtlblpbahoblihaaGreat.Sy
namespace Go.Proofs.YtlblpbahoblihaaGreat.Sy
open Go Go.Sy Go.Proofs.YtlblpbahoblihaaGreat
theorem x_r06Right (s : S4) : XC Tryz.prog 70 [.agg (S4.X Ar.real s)] [] (xb (sumsRight s)) [] := by
  have hi := sumsRight_iff s
  obtain ⟨a, b, u, d⟩ := s
  generalize sumsRight ⟨a, b, u, d⟩ = r at *
  dsimp only at hi
  (refine XC.of_body ([]) Tryz.func70 rfl Tryz.ntmps70 mixed (T := tl70) tk70 (by kernel_rfl) (by simp) rfl rfl rfl rfl rfl ?_; rintro o ho P hP c K hK; have hm : P.follows .mixedOrders = true := hP ▸ mixed; have hT : TOk P tl70 := hP ▸ tk70; (try rw [← ho]); cbv; (repeat (refine StopN.mk ?_; cbv)))
  repeat' (first | (refine Br.mk (fun hb => ?_) (fun hb => ?_) <;> ((try rw [ho] at hb); (try dsimp only [Ar.real, IX.vo] at hb); (try simp only [QB7] at hb); (try simp only [QBo, beq_iff_eq, beq_eq_false_iff_ne, ne_eq] at hb))) | (refine StopN.mk ?_; cbv) | (refine hK _ _ ?_) | (refine NeedT.mk ?_ ?_) | (refine LoopN.lay (o := o) (D := []) 5 ho hm hT (by kernel_rfl) ?_; cbv))
  all_goals
    refine .b ?_
    ((try clear hR3); (try clear hR2); (try clear hR); (try clear hK); (try simp only [ncCast] at *); (try simp only [castI_eq] at *); (try rw [ho]); (try dsimp only [Ar.real, IX.vo, IX.val, BX.val, IX.toN]); (try simp only [QB7]))
    cases r <;> simp only [BX.val, reduceCtorEq, true_iff, false_iff, not_and, Bool.false_eq_true, iff_false, iff_true] at hi ⊢ <;> omega
theorem x_r06Of (v : List Part) (hv : v.length ≤ 1048576) : XC Tryz.prog 33 [.ro (SL Ar.real Part.X v)] [] (.agg (S4.X Ar.real (sumsOf v))) [] := by
  have hx := x_r05Right v hv
  unfold sumsOf
  by_cases h0 : vecRight v = true
  · rw [if_pos h0]
    have hat := fun i (hi : i < v.length) => vecRight_at h0 hi
    rw [h0] at hx
    clear h0
    have hm0 : ofTo v 0 = ⟨0, 0, 0, 0⟩ := rfl
    have hm1 : ∀ k, ofTo v (k + 1) = (ofTo v k).addAt (v.getD k default).kind (v.getD k default).amount := fun _ => rfl
    generalize ofTo v = M at *
    (refine XC.of_body (dt33) Tryz.func33 rfl Tryz.ntmps33 mixed (T := tl33) tk33 (by kernel_rfl) (by simp) rfl rfl rfl rfl rfl ?_; rintro o ho P hP c K hK; have hm : P.follows .mixedOrders = true := hP ▸ mixed; have hT : TOk P tl33 := hP ▸ tk33; (try rw [← ho]); cbv; (repeat (refine StopN.mk ?_; cbv)))
    rw [← ho] at hx
    repeat' (first | (refine Br.mk (fun hb => ?_) (fun hb => ?_) <;> ((try rw [ho] at hb); (try dsimp only [Ar.real, IX.vo] at hb); (try simp only [QB7] at hb); (try simp only [QBo, beq_iff_eq, beq_eq_false_iff_ne, ne_eq] at hb))) | (refine StopN.mk ?_; cbv) | ((first | refine CallI.pure hP hx fn47 rfl rfl rfl ?_ | refine CallN.pure hP hx fn47 rfl rfl rfl ?_); cbv) | (refine hK _ _ ?_) | (refine NeedT.mk ?_ ?_))
    · exact absurd ‹true = false› (by decide)
    refine LoopN.over (o := o) (D := dt33) ho hm hT (by kernel_rfl) (fun a : Nat => [(4, xn a)]) (fun a => [(1, .var [xi (M a).a, xi (M a).b, xi (M a).c, xi (M a).d] 22)]) (fun _ => []) (fun a => a ≤ v.length) (fun a => v.length - a) 0 (by omega) ?_ ?_
    · (refine ⟨?_, ?_, ?_, ?_⟩ <;> cbv <;> repeat' (first | trivial | exact EqX.rfl' | exact EqO.rfl' | apply And.intro | ((try clear hR3); (try clear hR2); (try clear hR); (try clear hK); (try simp only [ncCast] at *); (try simp only [castI_eq] at *); refine EqX.i ?_; (try rw [ho]); (try dsimp only [Ar.real, IX.vo, IX.val, BX.val, IX.toN]); (try simp only [QB7]); (repeat rw [wrap_i64 (by omega) (by omega)]); omega) | exact ⟨by rw [hm0]; rfl⟩))
    · rintro i hi R hR
      have h1 := hat i
      have h2 := hm1 i
      cbv
      repeat' (first | (refine Br.mk (fun hb => ?_) (fun hb => ?_) <;> ((try rw [ho] at hb); (try dsimp only [Ar.real, IX.vo] at hb); (try simp only [QB7] at hb); (try simp only [QBo, beq_iff_eq, beq_eq_false_iff_ne, ne_eq] at hb))) | (refine StopN.mk ?_; cbv) | ((first | refine CallI.pure hP (x_r05Right _ ‹_›) fn47 (by first | rfl | (rw [ho]; try rfl)) (by rfl) (by first | rfl | (rw [ho]; try rfl)) ?_ | refine CallN.pure hP (x_r05Right _ ‹_›) fn47 (by first | rfl | (rw [ho]; try rfl)) (by rfl) (by first | rfl | (rw [ho]; try rfl)) ?_); (try rw [← ho]); generalize hr : vecRight _ = r; (try rw [ho] at hr); (try dsimp only [Ar.real, IX.vo] at hr); (try simp only [QB7] at hr); cbv) | (refine hK _ _ ?_) | (refine NeedT.mk ?_ ?_))
      any_goals (((try clear hR3); (try clear hR2); (try clear hR); (try clear hK); (try simp only [ncCast] at *); (try simp only [castI_eq] at *); (try rw [ho]); (try dsimp only [Ar.real, IX.vo, IX.val, BX.val, IX.toN]); (try simp only [QB7]); (try simp only [decide_eq_true_eq]); (all_goals (repeat rw [wrap_i64 (by omega) (by omega)])); (all_goals (first | omega | (simp only [Int.ofNat_eq_natCast]; omega)))); done)
      · refine hR _ (i + 1) (by show v.length - (i + 1) < v.length - i; ((try clear hR3); (try clear hR2); (try clear hR); (try clear hK); (try simp only [ncCast] at *); (try simp only [castI_eq] at *)); omega) (by show i + 1 ≤ v.length; ((try clear hR3); (try clear hR2); (try clear hR); (try clear hK); (try simp only [ncCast] at *); (try simp only [castI_eq] at *)); omega) ?_
        (refine ⟨?_, ?_, ?_, ?_⟩ <;> cbv <;> repeat' (first | trivial | exact EqX.rfl' | exact EqO.rfl' | apply And.intro | ((try clear hR3); (try clear hR2); (try clear hR); (try clear hK); (try simp only [ncCast] at *); (try simp only [castI_eq] at *); refine EqX.i ?_; (try rw [ho]); (try dsimp only [Ar.real, IX.vo, IX.val, BX.val, IX.toN]); (try simp only [QB7]); (repeat rw [wrap_i64 (by omega) (by omega)]); omega) | exact ⟨by rw [h2, ho]; simp only [OX.toOb, X.toDL, X.toD]; rfl⟩))
      · obtain rfl : i = v.length := by ((try clear hR3); (try clear hR2); (try clear hR); (try clear hK); (try simp only [ncCast] at *); (try simp only [castI_eq] at *)); omega
        exact FinX_S4 rfl rfl rfl rfl
  · rw [if_neg h0]
    generalize vecRight v = b at *
    (refine XC.of_body (dt33) Tryz.func33 rfl Tryz.ntmps33 mixed (T := tl33) tk33 (by kernel_rfl) (by simp) rfl rfl rfl rfl rfl ?_; rintro o ho P hP c K hK; have hm : P.follows .mixedOrders = true := hP ▸ mixed; have hT : TOk P tl33 := hP ▸ tk33; (try rw [← ho]); cbv; (repeat (refine StopN.mk ?_; cbv)))
    rw [← ho] at hx
    repeat' (first | (refine Br.mk (fun hb => ?_) (fun hb => ?_) <;> ((try rw [ho] at hb); (try dsimp only [Ar.real, IX.vo] at hb); (try simp only [QB7] at hb); (try simp only [QBo, beq_iff_eq, beq_eq_false_iff_ne, ne_eq] at hb))) | (refine StopN.mk ?_; cbv) | ((first | refine CallI.pure hP hx fn47 rfl rfl rfl ?_ | refine CallN.pure hP hx fn47 rfl rfl rfl ?_); cbv) | (refine hK _ _ ?_) | (refine NeedT.mk ?_ ?_))
    all_goals first
      | exact FinX_S4 rfl rfl rfl rfl
      | exact absurd hb h0
end Go.Proofs.YtlblpbahoblihaaGreat.Sy
namespace Go.Proofs.YtlblpbahoblihaaGreat.Sy
open Go Go.Sy Go.Proofs.YtlblpbahoblihaaGreat
def rDomStep (x : DomS) (n d : Int) (k : Nat) : DomS := if 0 < d ∧ (x.at_ < 0 ∨ 0 < rFracCmp n d x.num x.den) then ⟨n, d, k⟩ else x
def rDomTo (s t : S4) : Nat → DomS
  | 0 => ⟨0, 1, -1⟩
  | k + 1 => rDomStep (rDomTo s t k) (s.at_ k) (t.at_ k) k
def rDom (s t : S4) : DomS := if sumsRight s = true ∧ sumsRight t = true then rDomTo s t 4 else ⟨0, 1, -1⟩
theorem rDomTo_bd {s t : S4} (h : sumsRight s = true) (h' : sumsRight t = true) : ∀ k, (0 ≤ (rDomTo s t k).num ∧ (rDomTo s t k).num ≤ 1152921504606846976) ∧ (0 ≤ (rDomTo s t k).den ∧ (rDomTo s t k).den ≤ 1152921504606846976) ∧ -1 ≤ (rDomTo s t k).at_ ∧ (rDomTo s t k).at_ < k
  | 0 => by simp [rDomTo]
  | k + 1 => by
    have ih := rDomTo_bd h h' k
    have h1 := S4.at_bd h k
    have h2 := S4.at_bd h' k
    simp only [rDomTo, rDomStep]
    split
    · dsimp only; omega
    · omega
theorem x_rDom (s t : S4) : XC Tryz.prog 44 [.agg (S4.X Ar.real s), .agg (S4.X Ar.real t)] [] (.tup [xi (rDom s t).at_, .agg [xi (rDom s t).num, xi (rDom s t).den]]) [] := by
  have hs := x_r06Right s
  have ht := x_r06Right t
  unfold rDom
  by_cases h0 : sumsRight s = true ∧ sumsRight t = true
  · rw [if_pos h0]
    have hbd := rDomTo_bd h0.1 h0.2
    have h1 := fun k => S4.at_bd h0.1 k
    have h2 := fun k => S4.at_bd h0.2 k
    rw [h0.1] at hs
    rw [h0.2] at ht
    have hm0 : rDomTo s t 0 = ⟨0, 1, -1⟩ := rfl
    have hm1 : ∀ k, rDomTo s t (k + 1) = rDomStep (rDomTo s t k) (s.at_ k) (t.at_ k) k := fun _ => rfl
    have ha : ∀ k : Nat, s.at_ k = [s.a, s.b, s.c, s.d].getD k 0 ∧ t.at_ k = [t.a, t.b, t.c, t.d].getD k 0 := fun _ => ⟨rfl, rfl⟩
    clear h0
    generalize hM : rDomTo s t = M at *
    generalize hS : s.at_ = sa at *
    generalize hT2 : t.at_ = ta at *
    clear hM hS hT2
    obtain ⟨a, b, p, d⟩ := s
    obtain ⟨a', b', p', d'⟩ := t
    dsimp only at ha
    (refine XC.of_body (dt44) Tryz.func44 rfl Tryz.ntmps44 mixed (T := tl44) tk44 (by kernel_rfl) (by simp) rfl rfl rfl rfl rfl ?_; rintro o ho P hP c K hK; have hm : P.follows .mixedOrders = true := hP ▸ mixed; have hT : TOk P tl44 := hP ▸ tk44; (try rw [← ho]); cbv; (repeat (refine StopN.mk ?_; cbv)))
    repeat' (first | (refine Br.mk (fun hb => ?_) (fun hb => ?_) <;> ((try rw [ho] at hb); (try dsimp only [Ar.real, IX.vo] at hb); (try simp only [QB7] at hb); (try simp only [QBo, beq_iff_eq, beq_eq_false_iff_ne, ne_eq] at hb))) | (refine StopN.mk ?_; cbv) | (first | refine CallI.pure hP hs fn70 rfl rfl rfl ?_ | refine CallI.pure hP ht fn70 rfl rfl rfl ?_); cbv | ((first | refine CallI.pure hP (x_r02Cmp _ _ _ _ ‹_› ‹_› ‹_› ‹_›) fn75 (by first | rfl | (rw [ho]; try rfl)) (by rfl) (by first | rfl | (rw [ho]; try rfl)) ?_ | refine CallN.pure hP (x_r02Cmp _ _ _ _ ‹_› ‹_› ‹_› ‹_›) fn75 (by first | rfl | (rw [ho]; try rfl)) (by rfl) (by first | rfl | (rw [ho]; try rfl)) ?_); (try rw [← ho]); generalize hr : rFracCmp _ _ _ _ = r; (try rw [ho] at hr); (try dsimp only [Ar.real, IX.vo] at hr); (try simp only [QB7] at hr); cbv) | (refine hK _ _ ?_) | (refine NeedT.mk ?_ ?_))
    · exact absurd ‹true = false› (by decide)
    · exact absurd ‹true = false› (by decide)
    refine LoopN.over (o := o) (D := dt44) ho hm hT (by kernel_rfl) (fun a : Nat => [(8, xn a), (7, xi (M a).at_)]) (fun a => [(3, .var [xi (M a).num, xi (M a).den] 46)]) (fun _ => []) (fun a => a ≤ 4) (fun a => 4 - a) 0 (by omega) ?_ ?_
    · (refine ⟨?_, ?_, ?_, ?_⟩ <;> cbv <;> repeat' (first | trivial | exact EqX.rfl' | exact EqO.rfl' | apply And.intro | ((try clear hR3); (try clear hR2); (try clear hR); (try clear hK); (try simp only [ncCast] at *); (try simp only [castI_eq] at *); refine EqX.i ?_; (try rw [ho]); (try dsimp only [Ar.real, IX.vo, IX.val, BX.val, IX.toN]); (try simp only [QB7]); (repeat rw [wrap_i64 (by omega) (by omega)]); omega) | (refine EqX.i ?_; rw [hm0]; rfl) | exact ⟨by rw [hm0]; rfl⟩))
    · rintro i hi R hR
      have b0 := hbd i
      have b1 := h1 i
      have b2 := h2 i
      have hM1 := hm1 i
      have hq := x_r02Cmp (sa i) (ta i) (M i).num (M i).den ⟨by omega, by omega⟩ ⟨by omega, by omega⟩ ⟨by omega, by omega⟩ ⟨by omega, by omega⟩
      unfold rDomStep at hM1
      generalize rFracCmp (sa i) (ta i) (M i).num (M i).den = q at hq hM1
      obtain ⟨e1, e2⟩ := ha i
      generalize sa i = x at *
      generalize ta i = y at *
      have p1 : 0 < [a', b', p', d'].getD ((i : Int).toNat) 0 → ((M i).at_ < 0 ∨ 0 < q) → M (i + 1) = ⟨x, y, i⟩ := fun h h' => by
        rw [Int.toNat_natCast, ← e2] at h
        rw [hM1, if_pos ⟨h, h'⟩]
      have p2 : ([a', b', p', d'].getD ((i : Int).toNat) 0 ≤ 0 ∨ (0 ≤ (M i).at_ ∧ q ≤ 0)) → M (i + 1) = M i := fun h => by
        rw [Int.toNat_natCast, ← e2] at h
        rw [hM1, if_neg (fun h' => by omega)]
      cbv
      repeat' (first | (refine Br.mk (fun hb => ?_) (fun hb => ?_) <;> ((try rw [ho] at hb); (try dsimp only [Ar.real, IX.vo] at hb); (try simp only [QB7] at hb); (try simp only [QBo, beq_iff_eq, beq_eq_false_iff_ne, ne_eq] at hb))) | (refine StopN.mk ?_; cbv) | (refine CallI.pure hP hq fn75 rfl rfl (by (rw [ho]; (try dsimp only [Ar.real, IX.vo, IX.val]); (try simp only [castI_eq]); (repeat rw [wrap_i64 (by omega) (by omega)])); rw [e1, e2]; rfl) ?_); cbv | ((first | refine CallI.pure hP (x_r06Right _) fn70 (by first | rfl | (rw [ho]; try rfl)) (by rfl) (by first | rfl | (rw [ho]; try rfl)) ?_ | refine CallN.pure hP (x_r06Right _) fn70 (by first | rfl | (rw [ho]; try rfl)) (by rfl) (by first | rfl | (rw [ho]; try rfl)) ?_); (try rw [← ho]); generalize hr : sumsRight _ = r; (try rw [ho] at hr); (try dsimp only [Ar.real, IX.vo] at hr); (try simp only [QB7] at hr); cbv) | (refine hK _ _ ?_) | (refine NeedT.mk ?_ ?_))
      any_goals (((try clear hR3); (try clear hR2); (try clear hR); (try clear hK); (try simp only [ncCast] at *); (try simp only [castI_eq] at *); (try rw [ho]); (try dsimp only [Ar.real, IX.vo, IX.val, BX.val, IX.toN]); (try simp only [QB7]); (try simp only [decide_eq_true_eq]); (all_goals (repeat rw [wrap_i64 (by omega) (by omega)])); (all_goals (first | omega | (simp only [Int.ofNat_eq_natCast]; omega)))); done)
      · have h5 := p1 (by assumption) (.inl hb)
        refine hR _ (i + 1) (by show 4 - (i + 1) < 4 - i; ((try clear hR3); (try clear hR2); (try clear hR); (try clear hK); (try simp only [ncCast] at *); (try simp only [castI_eq] at *)); omega) (by show i + 1 ≤ 4; ((try clear hR3); (try clear hR2); (try clear hR); (try clear hK); (try simp only [ncCast] at *); (try simp only [castI_eq] at *)); omega) ?_
        (refine ⟨?_, ?_, ?_, ?_⟩ <;> cbv <;> repeat' (first | trivial | exact EqX.rfl' | exact EqO.rfl' | apply And.intro | ((try clear hR3); (try clear hR2); (try clear hR); (try clear hK); (try simp only [ncCast] at *); (try simp only [castI_eq] at *); refine EqX.i ?_; (try rw [ho]); (try dsimp only [Ar.real, IX.vo, IX.val, BX.val, IX.toN]); (try simp only [QB7]); (repeat rw [wrap_i64 (by omega) (by omega)]); omega) | (refine EqX.i ?_; rw [h5]; rfl) | exact ⟨by rw [h5, ho]; simp only [OX.toOb, X.toDL, X.toD]; rw [e1, e2]; rfl⟩))
      · have h5 := p1 (by assumption) (.inr hb)
        refine hR _ (i + 1) (by show 4 - (i + 1) < 4 - i; ((try clear hR3); (try clear hR2); (try clear hR); (try clear hK); (try simp only [ncCast] at *); (try simp only [castI_eq] at *)); omega) (by show i + 1 ≤ 4; ((try clear hR3); (try clear hR2); (try clear hR); (try clear hK); (try simp only [ncCast] at *); (try simp only [castI_eq] at *)); omega) ?_
        (refine ⟨?_, ?_, ?_, ?_⟩ <;> cbv <;> repeat' (first | trivial | exact EqX.rfl' | exact EqO.rfl' | apply And.intro | ((try clear hR3); (try clear hR2); (try clear hR); (try clear hK); (try simp only [ncCast] at *); (try simp only [castI_eq] at *); refine EqX.i ?_; (try rw [ho]); (try dsimp only [Ar.real, IX.vo, IX.val, BX.val, IX.toN]); (try simp only [QB7]); (repeat rw [wrap_i64 (by omega) (by omega)]); omega) | (refine EqX.i ?_; rw [h5]; rfl) | exact ⟨by rw [h5, ho]; simp only [OX.toOb, X.toDL, X.toD]; rw [e1, e2]; rfl⟩))
      · have h5 := p2 (.inr ⟨by assumption, hb⟩)
        refine hR _ (i + 1) (by show 4 - (i + 1) < 4 - i; ((try clear hR3); (try clear hR2); (try clear hR); (try clear hK); (try simp only [ncCast] at *); (try simp only [castI_eq] at *)); omega) (by show i + 1 ≤ 4; ((try clear hR3); (try clear hR2); (try clear hR); (try clear hK); (try simp only [ncCast] at *); (try simp only [castI_eq] at *)); omega) ?_
        (refine ⟨?_, ?_, ?_, ?_⟩ <;> cbv <;> repeat' (first | trivial | exact EqX.rfl' | exact EqO.rfl' | apply And.intro | ((try clear hR3); (try clear hR2); (try clear hR); (try clear hK); (try simp only [ncCast] at *); (try simp only [castI_eq] at *); refine EqX.i ?_; (try rw [ho]); (try dsimp only [Ar.real, IX.vo, IX.val, BX.val, IX.toN]); (try simp only [QB7]); (repeat rw [wrap_i64 (by omega) (by omega)]); omega) | (refine EqX.i ?_; rw [h5]) | exact ⟨by rw [h5]⟩))
      · have h5 := p2 (.inl hb)
        refine hR _ (i + 1) (by show 4 - (i + 1) < 4 - i; ((try clear hR3); (try clear hR2); (try clear hR); (try clear hK); (try simp only [ncCast] at *); (try simp only [castI_eq] at *)); omega) (by show i + 1 ≤ 4; ((try clear hR3); (try clear hR2); (try clear hR); (try clear hK); (try simp only [ncCast] at *); (try simp only [castI_eq] at *)); omega) ?_
        (refine ⟨?_, ?_, ?_, ?_⟩ <;> cbv <;> repeat' (first | trivial | exact EqX.rfl' | exact EqO.rfl' | apply And.intro | ((try clear hR3); (try clear hR2); (try clear hR); (try clear hK); (try simp only [ncCast] at *); (try simp only [castI_eq] at *); refine EqX.i ?_; (try rw [ho]); (try dsimp only [Ar.real, IX.vo, IX.val, BX.val, IX.toN]); (try simp only [QB7]); (repeat rw [wrap_i64 (by omega) (by omega)]); omega) | (refine EqX.i ?_; rw [h5]) | exact ⟨by rw [h5]⟩))
      · obtain rfl : i = 4 := by omega
        exact FinX_dom rfl rfl rfl
  · rw [if_neg h0]
    generalize sumsRight s = rs at *
    generalize sumsRight t = rt at *
    obtain ⟨a, b, p, d⟩ := s
    obtain ⟨a', b', p', d'⟩ := t
    (refine XC.of_body (dt44) Tryz.func44 rfl Tryz.ntmps44 mixed (T := tl44) tk44 (by kernel_rfl) (by simp) rfl rfl rfl rfl rfl ?_; rintro o ho P hP c K hK; have hm : P.follows .mixedOrders = true := hP ▸ mixed; have hT : TOk P tl44 := hP ▸ tk44; (try rw [← ho]); cbv; (repeat (refine StopN.mk ?_; cbv)))
    repeat' (first | (refine Br.mk (fun hb => ?_) (fun hb => ?_) <;> ((try rw [ho] at hb); (try dsimp only [Ar.real, IX.vo] at hb); (try simp only [QB7] at hb); (try simp only [QBo, beq_iff_eq, beq_eq_false_iff_ne, ne_eq] at hb))) | (refine StopN.mk ?_; cbv) | (first | refine CallI.pure hP hs fn70 rfl rfl rfl ?_ | refine CallI.pure hP ht fn70 rfl rfl rfl ?_); cbv | ((first | refine CallI.pure hP (x_r02Cmp _ _ _ _ ‹_› ‹_› ‹_› ‹_›) fn75 (by first | rfl | (rw [ho]; try rfl)) (by rfl) (by first | rfl | (rw [ho]; try rfl)) ?_ | refine CallN.pure hP (x_r02Cmp _ _ _ _ ‹_› ‹_› ‹_› ‹_›) fn75 (by first | rfl | (rw [ho]; try rfl)) (by rfl) (by first | rfl | (rw [ho]; try rfl)) ?_); (try rw [← ho]); generalize hr : rFracCmp _ _ _ _ = r; (try rw [ho] at hr); (try dsimp only [Ar.real, IX.vo] at hr); (try simp only [QB7] at hr); cbv) | (refine hK _ _ ?_) | (refine NeedT.mk ?_ ?_))
    all_goals first
      | exact FinX_dom rfl rfl rfl
      | (exfalso; simp_all; done)
end Go.Proofs.YtlblpbahoblihaaGreat.Sy
namespace Go.Proofs.YtlblpbahoblihaaGreat.Sy
open Go Go.Sy Go.Proofs.YtlblpbahoblihaaGreat
def val : List Int → Int
  | [] => 0
  | d :: l => d + 65536 * val l
def DgOk (l : List Int) : Prop := ∀ j, 0 ≤ l.getD j 0 ∧ l.getD j 0 < 65536
theorem DgOk.tail {d : Int} {l : List Int} (h : DgOk (d :: l)) : DgOk l := fun j => by
  have := h (j + 1)
  simpa using this
theorem DgOk.head {d : Int} {l : List Int} (h : DgOk (d :: l)) : 0 ≤ d ∧ d < 65536 := by
  have := h 0
  simpa using this
theorem getD_set (l : List Int) (j k : Nat) (x : Int) (hj : j < l.length) : (l.set j x).getD k 0 = if j = k then x else l.getD k 0 := by
  rw [List.getD_eq_getElem?_getD, List.getElem?_set, List.getD_eq_getElem?_getD]
  split
  · first | rfl | (rw [if_pos (by omega)]; rfl)
  · rfl
theorem DgOk.set {l : List Int} (h : DgOk l) {j : Nat} {x : Int} (hx : 0 ≤ x ∧ x < 65536) : DgOk (l.set j x) := fun k => by
  by_cases hj : j < l.length
  · rw [getD_set l j k x hj]
    split
    · exact hx
    · exact h k
  · rw [List.set_eq_of_length_le (by omega)]
    exact h k
theorem val_set (l : List Int) : ∀ (j : Nat) (x : Int), j < l.length → val (l.set j x) = val l + (x - l.getD j 0) * 65536 ^ j := by
  induction l with
  | nil => intro j x h; simp at h
  | cons d l ih =>
    intro j x h
    cases j with
    | zero => simp only [List.set_cons_zero, val, List.getD_cons_zero, Int.pow_zero]; omega
    | succ j =>
      have := ih j x (by simpa using h)
      simp only [List.set_cons_succ, val, List.getD_cons_succ, this, Int.pow_succ]
      grind
theorem val_take (l : List Int) : ∀ n, val (l.take (n + 1)) = val (l.take n) + l.getD n 0 * 65536 ^ n := by
  induction l with
  | nil => intro n; simp [val]
  | cons d l ih =>
    intro n
    cases n with
    | zero => simp [val]
    | succ n =>
      simp only [List.take_succ_cons, val, ih n, List.getD_cons_succ, Int.pow_succ]
      grind
theorem val_rep (n : Nat) : val (List.replicate n 0) = 0 := by
  induction n with
  | zero => rfl
  | succ n ih => simp [List.replicate_succ, val, ih]
theorem pow_pos' (n : Nat) : (0 : Int) < 65536 ^ n := Int.pow_pos (by decide)
theorem val_bd {l : List Int} (h : DgOk l) : ∀ n, 0 ≤ val (l.take n) ∧ val (l.take n) < 65536 ^ n
  | 0 => by simp [val]
  | n + 1 => by
    obtain ⟨h1, h2⟩ := val_bd h n
    rw [val_take, Int.pow_succ]
    have h3 := h n
    have h4 := pow_pos' n
    have h5 : 0 ≤ l.getD n 0 * 65536 ^ n := Int.mul_nonneg h3.1 (by omega)
    have h6 : l.getD n 0 * 65536 ^ n ≤ 65535 * 65536 ^ n := Int.mul_le_mul_of_nonneg_right (by omega) (by omega)
    omega
theorem lessTo_val {a b : List Int} (ha : DgOk a) (hb : DgOk b) : ∀ n, lessTo a b n = decide (val (a.take n) < val (b.take n))
  | 0 => by simp [lessTo, val]
  | n + 1 => by
    have ih := lessTo_val ha hb n
    simp only [lessTo, ih, val_take]
    have h1 := val_bd ha n
    have h2 := val_bd hb n
    have h3 := ha n
    have h4 := hb n
    generalize a.getD n 0 = x at *
    generalize b.getD n 0 = y at *
    have hp := pow_pos' n
    generalize (65536 : Int) ^ n = p at *
    split
    · rename_i e
      subst e
      exact decide_eq_decide.2 (by omega)
    · rename_i e
      refine decide_eq_decide.2 ⟨fun h => ?_, fun h => ?_⟩
      · have h5 : (x + 1) * p ≤ y * p := Int.mul_le_mul_of_nonneg_right (by omega) (by omega)
        rw [Int.add_mul] at h5
        omega
      · by_cases hxy : x < y
        · exact hxy
        · have h5 : (y + 1) * p ≤ x * p := Int.mul_le_mul_of_nonneg_right (by omega) (by omega)
          rw [Int.add_mul] at h5
          omega
theorem w64_eq {x : Int} (h : 0 ≤ x) (h' : x < 9223372036854775808) : w64 x = x := wrap_i64 (by omega) (by omega)
theorem dg_eq {x : Int} (h : 0 ≤ x ∧ x < 18446744073709551616) : dg x = x % 65536 := by
  unfold dg
  rw [Int.tmod_eq_emod_of_nonneg h.1, wrap_i64 (by omega) (by omega)]
theorem nq_eq {x : Int} (h : 0 ≤ x ∧ x < 18446744073709551616) : nq x = x / 65536 := by
  unfold nq
  rw [Int.tdiv_eq_ediv_of_nonneg h.1, wrap_u64 (by omega) (by omega)]
theorem digs_val {x : Int} (h : 0 ≤ x ∧ x < 18446744073709551616) : val (digsR 0 x) = x ∧ DgOk (digsR 0 x) := by
  have e0 : dg 0 = 0 := by rw [dg_eq (by omega)]; rfl
  have e1 : nq 0 = 0 := by rw [nq_eq (by omega)]; rfl
  unfold digsR
  rw [e1, e1, e1, e0, nq_eq h, nq_eq (x := x / 65536) (by omega), nq_eq (x := x / 65536 / 65536) (by omega), dg_eq h, dg_eq (x := x / 65536) (by omega), dg_eq (x := x / 65536 / 65536) (by omega), dg_eq (x := x / 65536 / 65536 / 65536) (by omega)]
  refine ⟨by simp only [val]; omega, fun j => ?_⟩
  match j with
  | 0 | 1 | 2 | 3 | 4 | 5 | 6 | 7 => simp only [List.getD_cons_zero, List.getD_cons_succ]; omega
  | n + 8 => simp [List.getD_cons_succ]
theorem pIn_val {out a b : List Int} {i : Nat} (ho : DgOk out) (ha : DgOk a) (hb : DgOk b) : ∀ k, k ≤ b.length → i + k ≤ out.length →
    DgOk (pIn out a b i k).out ∧ (0 ≤ (pIn out a b i k).over ∧ (pIn out a b i k).over < 65536) ∧
    val (pIn out a b i k).out + (pIn out a b i k).over * 65536 ^ (i + k) = val out + a.getD i 0 * val (b.take k) * 65536 ^ i ∧
    ∀ j, i + k ≤ j → (pIn out a b i k).out.getD j 0 = out.getD j 0
  | 0, _, _ => by simp [pIn, val]; exact ho
  | k + 1, h1, h2 => by
    obtain ⟨i1, i2, i3, i4⟩ := pIn_val (i := i) ho ha hb k (by omega) (by omega)
    have hlen := pIn_len out a b i k
    simp only [pIn]
    generalize pIn out a b i k = st at *
    obtain ⟨k0, o1, ov⟩ := st
    dsimp only at *
    have hx := i1 (i + k)
    have hA := ha i
    have hB := hb k
    have hm : 0 ≤ a.getD i 0 * b.getD k 0 ∧ a.getD i 0 * b.getD k 0 ≤ 65535 * 65535 := ⟨Int.mul_nonneg hA.1 hB.1, Int.mul_le_mul (by omega) (by omega) hB.1 (by decide)⟩
    have hn : pN o1 a b i k ov = o1.getD (i + k) 0 + a.getD i 0 * b.getD k 0 + ov := by
      unfold pN
      rw [w64_eq hm.1 (by omega), w64_eq (x := o1.getD (i + k) 0 + a.getD i 0 * b.getD k 0) (by omega) (by omega), w64_eq (by omega) (by omega)]
    rw [hn]
    obtain ⟨n, hn0⟩ : ∃ n, n = o1.getD (i + k) 0 + a.getD i 0 * b.getD k 0 + ov := ⟨_, rfl⟩
    rw [← hn0]
    have hnb : 0 ≤ n ∧ n < 4294967296 := by omega
    rw [Int.tmod_eq_emod_of_nonneg hnb.1, Int.tdiv_eq_ediv_of_nonneg hnb.1, w64_eq (by omega) (by omega)]
    refine ⟨i1.set (by omega), by omega, ?_, fun j hj => ?_⟩
    · rw [val_set _ _ _ (by omega), val_take]
      have e : n % 65536 + 65536 * (n / 65536) = n := by omega
      generalize n % 65536 = r at *
      generalize n / 65536 = q at *
      have p1 : (65536 : Int) ^ (i + (k + 1)) = 65536 ^ (i + k) * 65536 := by rw [← Nat.add_assoc, Int.pow_succ]
      have p2 : (65536 : Int) ^ (i + k) = 65536 ^ i * 65536 ^ k := Int.pow_add ..
      rw [p1]
      rw [p2] at i3 ⊢
      clear p1 p2 hm hn hx hA hB i1 i2 i4 ho ha hb h1 h2 hlen hnb
      generalize (65536 : Int) ^ i = P at *
      generalize (65536 : Int) ^ k = Q at *
      generalize a.getD i 0 = A at *
      generalize b.getD k 0 = B at *
      generalize o1.getD (i + k) 0 = X at *
      generalize val (List.take k b) = V at *
      generalize val o1 = U at *
      generalize val out = W at *
      subst e
      grind
    · rw [getD_set _ _ _ _ (by omega), if_neg (by omega)]
      exact i4 j (by omega)
theorem pOut_val {a b : List Int} (ha : DgOk a) (hb : DgOk b) : ∀ i, i ≤ a.length →
    DgOk (pOut a b i) ∧ val (pOut a b i) = val (a.take i) * val b ∧ ∀ j, i + b.length ≤ j → (pOut a b i).getD j 0 = 0
  | 0, _ => by
    refine ⟨fun j => ?_, ?_, fun j _ => ?_⟩
    · simp only [pOut, List.getD_eq_getElem?_getD, List.getElem?_replicate]
      split <;> simp
    · simp [pOut, val_rep, val]
    · simp only [pOut, List.getD_eq_getElem?_getD, List.getElem?_replicate]
      split <;> simp
  | i + 1, h => by
    obtain ⟨h1, h2, h3⟩ := pOut_val ha hb i (by omega)
    have hl := pOut_len a b i
    obtain ⟨i1, i2, i3, i4⟩ := pIn_val (i := i) h1 ha hb b.length (Nat.le_refl _) (by omega)
    have hl2 := pIn_len (pOut a b i) a b i b.length
    simp only [pOut]
    generalize pIn (pOut a b i) a b i b.length = st at *
    obtain ⟨k0, o1, ov⟩ := st
    dsimp only at *
    refine ⟨i1.set i2, ?_, fun j hj => ?_⟩
    · rw [val_set _ _ _ (by omega), i4 _ (Nat.le_refl _), h3 _ (Nat.le_refl _), val_take, Int.sub_zero, i3, h2, List.take_length, Int.add_mul]
      congr 1
      grind
    · rw [getD_set _ _ _ _ (by omega), if_neg (by omega), i4 j (by omega), h3 j (by omega)]
theorem prod_val {a b : List Int} (ha : DgOk a) (hb : DgOk b) : val (pOut a b a.length) = val a * val b ∧ DgOk (pOut a b a.length) := by
  obtain ⟨h1, h2, _⟩ := pOut_val ha hb a.length (Nat.le_refl _)
  rw [List.take_length] at h2
  exact ⟨h2, h1⟩
theorem less_val {a b : List Int} (ha : DgOk a) (hb : DgOk b) (hl : a.length = b.length) : lessTo a b a.length = decide (val a < val b) := by
  rw [lessTo_val ha hb, List.take_length, hl, List.take_length]
theorem prodD_val {x y : Int} (hx : 0 ≤ x ∧ x < 18446744073709551616) (hy : 0 ≤ y ∧ y < 18446744073709551616) : val (prodD x y) = x * y ∧ DgOk (prodD x y) := by
  obtain ⟨h1, h2⟩ := digs_val hx
  obtain ⟨h3, h4⟩ := digs_val hy
  have := prod_val h2 h4
  rw [h1, h3] at this
  exact this
theorem rFracCmp_eq {a b u v : Int} (ha : i64B a) (hb : i64B b) (hu : i64B u) (hv : i64B v) : rFracCmp a b u v = fracCmp a b u v := by
  unfold rFracCmp fracCmp
  by_cases h : fracRight a b = true ∧ fracRight u v = true
  · rw [if_pos h, if_pos h]
    simp only [fracRight, Bool.and_eq_true, decide_eq_true_eq] at h
    obtain ⟨h1, h2⟩ := prodD_val (x := a) (y := v) (by unfold i64B at *; omega) (by unfold i64B at *; omega)
    obtain ⟨h3, h4⟩ := prodD_val (x := u) (y := b) (by unfold i64B at *; omega) (by unfold i64B at *; omega)
    rw [less_val h2 h4 (by rw [prodD_len, prodD_len]), less_val h4 h2 (by rw [prodD_len, prodD_len]), h1, h3]
    generalize a * v = p
    generalize u * b = q
    simp only [decide_eq_true_eq]
    repeat' split
    all_goals omega
  · rw [if_neg h, if_neg h]
theorem rDom_eq (s t : S4) : rDom s t = sumsDom s t := by
  unfold rDom sumsDom
  by_cases h : sumsRight s = true ∧ sumsRight t = true
  · rw [if_pos h, if_pos h]
    have key : ∀ k, rDomTo s t k = domTo s t k := by
      intro k
      induction k with
      | zero => rfl
      | succ k ih =>
        have hb := domTo_bd h.1 h.2 k
        have h1 := S4.at_bd h.1 k
        have h2 := S4.at_bd h.2 k
        simp only [rDomTo, domTo, ih]
        unfold rDomStep domStep
        rw [rFracCmp_eq (by unfold i64B; omega) (by unfold i64B; omega) (by unfold i64B; omega) (by unfold i64B; omega)]
        have e : ((domTo s t k).at_ < 0) ↔ ((domTo s t k).at_ = -1) := by omega
        simp only [e]
    exact key 4
  · rw [if_neg h, if_neg h]
end Go.Proofs.YtlblpbahoblihaaGreat.Sy

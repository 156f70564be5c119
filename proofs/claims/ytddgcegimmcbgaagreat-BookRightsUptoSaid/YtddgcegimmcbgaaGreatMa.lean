/-
  Amounts, wide products, fractions, sums: contracts. Plain theorems.
-/
import Derived.Test.YtddgcegimmcbgaaGreatK1
import Derived.Test.YtddgcegimmcbgaaGreatSyZb
set_option linter.unusedSectionVars false
set_option maxRecDepth 100000
set_option maxHeartbeats 8000000
set_option linter.unusedVariables false
set_option linter.unusedSimpArgs false
namespace Go.Proofs.YtddgcegimmcbgaaGreat.Sy
open Go Go.Sy Go.Proofs.YtddgcegimmcbgaaGreat
structure Fr where
  num : Int
  den : Int
  deriving DecidableEq
instance : Inhabited Fr := ⟨⟨0, 0⟩⟩
def foldAFr_num (e : Fr) := (by
  have h : PLift (e.num = e.num) := ⟨rfl⟩
  conv at h => arg 1; lhs; delta Fr.num
  exact h)
theorem foldFr_num (e : Fr) : type_of% (foldAFr_num e).down := (foldAFr_num e).down
def foldAFr_den (e : Fr) := (by
  have h : PLift (e.den = e.den) := ⟨rfl⟩
  conv at h => arg 1; lhs; delta Fr.den
  exact h)
theorem foldFr_den (e : Fr) : type_of% (foldAFr_den e).down := (foldAFr_den e).down
theorem foldFr : (⟨0, 0⟩ : Fr) = default := rfl
theorem QB1 : type_of% (And.intro @foldFr (And.intro @foldFr_num (And.intro @foldFr_den (QSyVa)))) := And.intro @foldFr (And.intro @foldFr_num (And.intro @foldFr_den (QSyVa)))
@[reducible] def xu (x : Int) : X := .i .u64 (.s x)
theorem FinX_ib {k : IntKind} {r : Int} {s : Bool} {x : IX} {y : BX} (h : x.val = r) (h' : y.val = s) : FinX (.tup [.i k (.s r), xb s]) [] (.tup [.i k x, .b y]) [] := .pure fun _ => by simp only [X.toD, X.toDL, h, h']; rfl
theorem band_low {a : Int} (h0 : 0 ≤ a) (h1 : a < 18446744073709551616) : ((BitVec.ofInt 64 a &&& BitVec.ofInt 64 4294967295).toNat : Int) = a % 4294967296 := by
  obtain ⟨n, rfl⟩ := Int.eq_ofNat_of_zero_le h0
  have hn : n < 18446744073709551616 := by omega
  rw [BitVec.toNat_and]
  have e1 : (BitVec.ofInt 64 (n : Int)).toNat = n := by
    rw [BitVec.toNat_ofInt]
    omega
  have e2 : (BitVec.ofInt 64 4294967295).toNat = 4294967295 := by decide
  rw [e1, e2]
  have e3 : (4294967295 : Nat) = 2 ^ 32 - 1 := by decide
  rw [e3, Nat.and_two_pow_sub_one_eq_mod]
  omega
theorem wrap_u64 {a : Int} (h0 : 0 ≤ a) (h1 : a < 18446744073709551616) : IntKind.u64.wrap a = a := by
  have e : IntKind.u64.wrap a = a % 18446744073709551616 := by
    first | rfl | simp [IntKind.wrap]
  rw [e]; omega
theorem wrap_u64_mod (a : Int) : IntKind.u64.wrap a = a % 18446744073709551616 := by
  first | rfl | simp [IntKind.wrap]
def mulHi (a b : Int) : Int := a * b / 18446744073709551616
def mulLo (a b : Int) : Int := a * b % 18446744073709551616
theorem mul_core {al ah bl bh : Int} (h1 : 0 ≤ al) (h2 : al < 4294967296) (h3 : 0 ≤ ah) (h4 : ah < 4294967296) (h5 : 0 ≤ bl) (h6 : bl < 4294967296) (h7 : 0 ≤ bh) (h8 : bh < 4294967296) {mid side : Int} (hm : mid = ah * bl + al * bl / 4294967296) (hs : side = al * bh + mid % 4294967296) :
    0 ≤ mid ∧ mid < 18446744073709551616 ∧ 0 ≤ side ∧ side < 18446744073709551616 ∧ ah * bh + mid / 4294967296 + side / 4294967296 = (ah * 4294967296 + al) * (bh * 4294967296 + bl) / 18446744073709551616 ∧
    side % 4294967296 * 4294967296 + al * bl % 4294967296 = (ah * 4294967296 + al) * (bh * 4294967296 + bl) % 18446744073709551616 ∧ 0 ≤ ah * bl ∧ ah * bl ≤ 18446744065119617025 ∧ 0 ≤ al * bl ∧ al * bl ≤ 18446744065119617025 ∧ 0 ≤ al * bh ∧ al * bh ≤ 18446744065119617025 ∧ 0 ≤ ah * bh ∧ ah * bh ≤ 18446744065119617025 := by
  have bd : ∀ x y : Int, 0 ≤ x → x < 4294967296 → 0 ≤ y → y < 4294967296 → 0 ≤ x * y ∧ x * y ≤ 18446744065119617025 := fun x y a1 a2 a3 a4 => by
    refine ⟨Int.mul_nonneg a1 a3, ?_⟩
    have : x * y ≤ 4294967295 * 4294967295 := Int.mul_le_mul (by omega) (by omega) a3 (by decide)
    omega
  obtain ⟨p1, p2⟩ := bd al bl h1 h2 h5 h6
  obtain ⟨q1, q2⟩ := bd ah bl h3 h4 h5 h6
  obtain ⟨r1, r2⟩ := bd al bh h1 h2 h7 h8
  obtain ⟨s1, s2⟩ := bd ah bh h3 h4 h7 h8
  have e : (ah * 4294967296 + al) * (bh * 4294967296 + bl) = ah * bh * 18446744073709551616 + (ah * bl + al * bh) * 4294967296 + al * bl := by
    rw [Int.add_mul, Int.mul_add, Int.mul_add]
    have t1 : ah * 4294967296 * (bh * 4294967296) = ah * bh * 18446744073709551616 := by
      rw [Int.mul_assoc, Int.mul_comm 4294967296, Int.mul_assoc bh, ← Int.mul_assoc]; rfl
    have t2 : ah * 4294967296 * bl = ah * bl * 4294967296 := by rw [Int.mul_assoc, Int.mul_comm 4294967296, ← Int.mul_assoc]
    have t3 : al * (bh * 4294967296) = al * bh * 4294967296 := by rw [Int.mul_assoc]
    rw [t1, t2, t3, Int.add_mul]
    omega
  rw [e]
  generalize al * bl = p at *
  generalize ah * bl = q at *
  generalize al * bh = r at *
  generalize ah * bh = s at *
  subst hm hs
  refine ⟨by omega, by omega, by omega, by omega, by omega, by omega, q1, q2, p1, p2, r1, r2, s1, s2⟩
theorem FinX_agg2 {k1 k2 : IntKind} {a b : Int} {x y : IX} (h1 : x.val = a) (h2 : y.val = b) : FinX (.agg [.i k1 (.s a), .i k2 (.s b)]) [] (.agg [.i k1 x, .i k2 y]) [] := .pure fun _ => by simp only [X.toD, X.toDL, h1, h2]; rfl
theorem x_Mul (a b : Int) (ha : 0 ≤ a ∧ a < 18446744073709551616) (hb' : 0 ≤ b ∧ b < 18446744073709551616) : XC Tryz.prog 114 [xu a, xu b] [] (.agg [xu (mulHi a b), xu (mulLo a b)]) [] := by
  obtain ⟨al, hal⟩ : ∃ q, q = a % 4294967296 := ⟨_, rfl⟩
  obtain ⟨ah, hah⟩ : ∃ q, q = a / 4294967296 := ⟨_, rfl⟩
  obtain ⟨bl, hbl⟩ : ∃ q, q = b % 4294967296 := ⟨_, rfl⟩
  obtain ⟨bh, hbh⟩ : ∃ q, q = b / 4294967296 := ⟨_, rfl⟩
  have ea : ah * 4294967296 + al = a := by omega
  have eb : bh * 4294967296 + bl = b := by omega
  have hcore := mul_core (al := al) (ah := ah) (bl := bl) (bh := bh) (by omega) (by omega) (by omega) (by omega) (by omega) (by omega) (by omega) (by omega) rfl rfl
  rw [ea, eb] at hcore
  (refine XC.of_body ([]) Tryz.func114 rfl Tryz.ntmps114 mixed (T := tl114) tk114 (by kernel_rfl) (by simp) rfl rfl rfl rfl rfl ?_; rintro o ho P hP c K hK; have hm : P.follows .mixedOrders = true := hP ▸ mixed; have hT : TOk P tl114 := hP ▸ tk114; (try rw [← ho]); cbv; (repeat (refine StopN.mk ?_; cbv)))
  repeat' (first | (refine Br.mk (fun hb => ?_) (fun hb => ?_) <;> ((try rw [ho] at hb); (try dsimp only [Ar.real, IX.vo] at hb); (try simp only [QB1] at hb); (try simp only [QBo, beq_iff_eq, beq_eq_false_iff_ne, ne_eq] at hb))) | (refine StopN.mk ?_; cbv) | (refine hK _ _ ?_) | (refine NeedT.mk ?_ ?_))
  any_goals (rw [ho]; exact decide_eq_true (by decide))
  obtain ⟨c1, c2, c3, c4, c5, c6, q1, q2, p1, p2, r1, r2, s1, s2⟩ := hcore
  have l1 : ∀ x : Int, 0 ≤ x → x < 18446744073709551616 → ((BitVec.ofInt IntKind.u64.bits x &&& BitVec.ofInt IntKind.u64.bits 4294967295).toNat : Int) = x % 4294967296 := fun x h0 h1 => band_low h0 h1
  have f1 : ∀ x : Int, x.fdiv (2 ^ (min (Int.toNat 32) IntKind.u64.bits)) = x / 4294967296 := fun x => by
    have e : ((2 : Int) ^ (min (Int.toNat 32) IntKind.u64.bits)) = 4294967296 := by decide
    rw [e, Int.fdiv_eq_ediv_of_nonneg _ (by decide)]
  have f2 : ∀ x : Int, x * 2 ^ (min (Int.toNat 32) IntKind.u64.bits) = x * 4294967296 := fun x => by
    have e : ((2 : Int) ^ (min (Int.toNat 32) IntKind.u64.bits)) = 4294967296 := by decide
    rw [e]
  have wa : IntKind.u64.wrap al = al := wrap_u64 (by omega) (by omega)
  have wb : IntKind.u64.wrap bl = bl := wrap_u64 (by omega) (by omega)
  have l2 : ∀ x : Int, ((BitVec.ofInt IntKind.u64.bits (IntKind.u64.wrap x) &&& BitVec.ofInt IntKind.u64.bits 4294967295).toNat : Int) = IntKind.u64.wrap x % 4294967296 := fun x => l1 _ (by rw [wrap_u64_mod]; omega) (by rw [wrap_u64_mod]; omega)
  unfold mulHi mulLo
  refine FinX_agg2 ?_ ?_
  all_goals
    ((try clear hR3); (try clear hR2); (try clear hR); (try clear hK); (try simp only [ncCast] at *); (try simp only [castI_eq] at *); (try rw [ho]); (try dsimp only [Ar.real, IX.vo, IX.val, BX.val, IX.toN]); (try simp only [QB1]))
    simp only [f1, f2, l1 a ha.1 ha.2, l1 b hb'.1 hb'.2, ← hal, ← hbl, ← hah, ← hbh, wa, wb, l2]
    simp only [wrap_u64_mod]
    generalize al * bl = p at *
    generalize ah * bl = q at *
    generalize al * bh = r at *
    generalize ah * bh = s at *
    generalize a * b = z at *
    clear l1 f1 f2 l2 hm hT
    omega
def wideCmp (a b c d : Int) : Int := if a = c ∧ b = d then 0 else if a < c ∨ (a = c ∧ b < d) then -1 else 1
theorem x_WCmp (a b c d : Int) : XC Tryz.prog 115 [.agg [xu a, xu b], .agg [xu c, xu d]] [] (xi (wideCmp a b c d)) [] := by
  (refine XC.of_body ([]) Tryz.func115 rfl Tryz.ntmps115 mixed (T := tl115) tk115 (by kernel_rfl) (by simp) rfl rfl rfl rfl rfl ?_; rintro o ho P hP c K hK; have hm : P.follows .mixedOrders = true := hP ▸ mixed; have hT : TOk P tl115 := hP ▸ tk115; (try rw [← ho]); cbv; (repeat (refine StopN.mk ?_; cbv)))
  repeat' (first | (refine Br.mk (fun hb => ?_) (fun hb => ?_) <;> ((try rw [ho] at hb); (try dsimp only [Ar.real, IX.vo] at hb); (try simp only [QB1] at hb); (try simp only [QBo, beq_iff_eq, beq_eq_false_iff_ne, ne_eq] at hb))) | (refine StopN.mk ?_; cbv) | (refine hK _ _ ?_) | (refine NeedT.mk ?_ ?_))
  all_goals
    refine .i ?_
    ((try clear hR3); (try clear hR2); (try clear hR); (try clear hK); (try simp only [ncCast] at *); (try simp only [castI_eq] at *); (try rw [ho]); (try dsimp only [Ar.real, IX.vo, IX.val, BX.val, IX.toN]); (try simp only [QB1]))
    simp only [Bool.and_eq_true, Bool.and_eq_false_iff, decide_eq_true_eq, decide_eq_false_iff_not] at *
    unfold wideCmp
    repeat' split
    all_goals omega
def fracRight (n d : Int) : Bool := decide (0 ≤ n) && decide (1 ≤ d)
theorem x_fracRight (n d : Int) : XC Tryz.prog 103 [.agg [xi n, xi d]] [] (xb (fracRight n d)) [] := by
  (refine XC.of_body ([]) Tryz.func103 rfl Tryz.ntmps103 mixed (T := tl103) tk103 (by kernel_rfl) (by simp) rfl rfl rfl rfl rfl ?_; rintro o ho P hP c K hK; have hm : P.follows .mixedOrders = true := hP ▸ mixed; have hT : TOk P tl103 := hP ▸ tk103; (try rw [← ho]); cbv; (repeat (refine StopN.mk ?_; cbv)))
  repeat' (first | (refine Br.mk (fun hb => ?_) (fun hb => ?_) <;> ((try rw [ho] at hb); (try dsimp only [Ar.real, IX.vo] at hb); (try simp only [QB1] at hb); (try simp only [QBo, beq_iff_eq, beq_eq_false_iff_ne, ne_eq] at hb))) | (refine StopN.mk ?_; cbv) | (refine hK _ _ ?_) | (refine NeedT.mk ?_ ?_))
  all_goals (refine .b ?_; ((try clear hR3); (try clear hR2); (try clear hR); (try clear hK); (try simp only [ncCast] at *); (try simp only [castI_eq] at *); (try rw [ho]); (try dsimp only [Ar.real, IX.vo, IX.val, BX.val, IX.toN]); (try simp only [QB1])); simp [fracRight, *])
  all_goals omega
def fracCmp (a b c d : Int) : Int := if fracRight a b = true ∧ fracRight c d = true then (if a * d = c * b then 0 else if a * d < c * b then -1 else 1) else 0
theorem wideCmp_mul {x y u v : Int} (h1 : 0 ≤ x * y) (h2 : 0 ≤ u * v) : wideCmp (mulHi x y) (mulLo x y) (mulHi u v) (mulLo u v) = if x * y = u * v then 0 else if x * y < u * v then -1 else 1 := by
  unfold wideCmp mulHi mulLo
  generalize x * y = p at *
  generalize u * v = q at *
  repeat' split
  all_goals omega
def i64B (x : Int) : Prop := -9223372036854775808 ≤ x ∧ x ≤ 9223372036854775807
theorem x_fracCmp (a b u v : Int) (ha : i64B a) (hb' : i64B b) (hc' : i64B u) (hd : i64B v) : XC Tryz.prog 112 [.agg [xi a, xi b], .agg [xi u, xi v]] [] (xi (fracCmp a b u v)) [] := by
  obtain ⟨a1, a2⟩ := ha
  obtain ⟨b1, b2⟩ := hb'
  obtain ⟨c1, c2⟩ := hc'
  obtain ⟨d1, d2⟩ := hd
  by_cases h : fracRight a b = true ∧ fracRight u v = true
  · have hr0 := h
    simp only [fracRight, Bool.and_eq_true, decide_eq_true_eq] at hr0
    obtain ⟨⟨a3, b3⟩, c3, d3⟩ := hr0
    have hm1 := x_Mul a v ⟨by omega, by omega⟩ ⟨by omega, by omega⟩
    have hm2 := x_Mul u b ⟨by omega, by omega⟩ ⟨by omega, by omega⟩
    have hw := wideCmp_mul (x := a) (y := v) (u := u) (v := b) (Int.mul_nonneg a3 (by omega)) (Int.mul_nonneg c3 (by omega))
    have hf : fracCmp a b u v = wideCmp (mulHi a v) (mulLo a v) (mulHi u b) (mulLo u b) := by rw [hw]; exact if_pos h
    have wa : IntKind.u64.wrap a = a := wrap_u64 (by omega) (by omega)
    have wb : IntKind.u64.wrap b = b := wrap_u64 (by omega) (by omega)
    have wu : IntKind.u64.wrap u = u := wrap_u64 (by omega) (by omega)
    have wv : IntKind.u64.wrap v = v := wrap_u64 (by omega) (by omega)
    rw [hf]
    generalize mulHi a v = p1 at *
    generalize mulLo a v = p2 at *
    generalize mulHi u b = p3 at *
    generalize mulLo u b = p4 at *
    have hm3 := x_WCmp p1 p2 p3 p4
    (refine XC.of_body (dt112) Tryz.func112 rfl Tryz.ntmps112 mixed (T := tl112) tk112 (by kernel_rfl) (by simp) rfl rfl rfl rfl rfl ?_; rintro o ho P hP c K hK; have hm : P.follows .mixedOrders = true := hP ▸ mixed; have hT : TOk P tl112 := hP ▸ tk112; (try rw [← ho]); cbv; (repeat (refine StopN.mk ?_; cbv)))
    repeat' (first | (refine Br.mk (fun hb => ?_) (fun hb => ?_) <;> ((try rw [ho] at hb); (try dsimp only [Ar.real, IX.vo] at hb); (try simp only [QB1] at hb); (try simp only [QBo, beq_iff_eq, beq_eq_false_iff_ne, ne_eq] at hb))) | (refine StopN.mk ?_; cbv) | (refine CallN.pure hP hm1 fn114 rfl rfl (by rw [ho]; show X.toDL _ [xu (IntKind.u64.wrap a), xu (IntKind.u64.wrap v)] = _; rw [wa, wv]) ?_; cbv) | (refine CallN.pure hP hm2 fn114 rfl rfl (by rw [ho]; show X.toDL _ [xu (IntKind.u64.wrap u), xu (IntKind.u64.wrap b)] = _; rw [wu, wb]) ?_; cbv) | (refine CallN.pure hP hm3 fn115 rfl rfl rfl ?_; cbv) | ((first | refine CallI.pure hP (x_fracRight _ _) fn103 (by first | rfl | (rw [ho]; try rfl)) (by rfl) (by first | rfl | (rw [ho]; try rfl)) ?_ | refine CallN.pure hP (x_fracRight _ _) fn103 (by first | rfl | (rw [ho]; try rfl)) (by rfl) (by first | rfl | (rw [ho]; try rfl)) ?_); (try rw [← ho]); generalize hr : fracRight _ _ = r; (try rw [ho] at hr); (try dsimp only [Ar.real, IX.vo] at hr); (try simp only [QB1] at hr); cbv) | (refine hK _ _ ?_) | (refine NeedT.mk ?_ ?_))
    all_goals first
      | exact .i rfl
      | (exfalso; simp_all; done)
  · rw [show fracCmp a b u v = 0 from if_neg h]
    (refine XC.of_body (dt112) Tryz.func112 rfl Tryz.ntmps112 mixed (T := tl112) tk112 (by kernel_rfl) (by simp) rfl rfl rfl rfl rfl ?_; rintro o ho P hP c K hK; have hm : P.follows .mixedOrders = true := hP ▸ mixed; have hT : TOk P tl112 := hP ▸ tk112; (try rw [← ho]); cbv; (repeat (refine StopN.mk ?_; cbv)))
    repeat' (first | (refine Br.mk (fun hb => ?_) (fun hb => ?_) <;> ((try rw [ho] at hb); (try dsimp only [Ar.real, IX.vo] at hb); (try simp only [QB1] at hb); (try simp only [QBo, beq_iff_eq, beq_eq_false_iff_ne, ne_eq] at hb))) | (refine StopN.mk ?_; cbv) | ((first | refine CallI.pure hP (x_fracRight _ _) fn103 (by first | rfl | (rw [ho]; try rfl)) (by rfl) (by first | rfl | (rw [ho]; try rfl)) ?_ | refine CallN.pure hP (x_fracRight _ _) fn103 (by first | rfl | (rw [ho]; try rfl)) (by rfl) (by first | rfl | (rw [ho]; try rfl)) ?_); (try rw [← ho]); generalize hr : fracRight _ _ = r; (try rw [ho] at hr); (try dsimp only [Ar.real, IX.vo] at hr); (try simp only [QB1] at hr); cbv) | ((first | refine CallI.pure hP (x_Mul _ _ ‹_› ‹_›) fn114 (by first | rfl | (rw [ho]; try rfl)) (by rfl) (by first | rfl | (rw [ho]; try rfl)) ?_ | refine CallN.pure hP (x_Mul _ _ ‹_› ‹_›) fn114 (by first | rfl | (rw [ho]; try rfl)) (by rfl) (by first | rfl | (rw [ho]; try rfl)) ?_); (try rw [← ho]); generalize hr : mulHi _ _ = r; (try rw [ho] at hr); (try dsimp only [Ar.real, IX.vo] at hr); (try simp only [QB1] at hr); generalize hr : mulLo _ _ = r; (try rw [ho] at hr); (try dsimp only [Ar.real, IX.vo] at hr); (try simp only [QB1] at hr); cbv) | ((first | refine CallI.pure hP (x_WCmp _ _ _ _) fn115 (by first | rfl | (rw [ho]; try rfl)) (by rfl) (by first | rfl | (rw [ho]; try rfl)) ?_ | refine CallN.pure hP (x_WCmp _ _ _ _) fn115 (by first | rfl | (rw [ho]; try rfl)) (by rfl) (by first | rfl | (rw [ho]; try rfl)) ?_); (try rw [← ho]); generalize hr : wideCmp _ _ _ _ = r; (try rw [ho] at hr); (try dsimp only [Ar.real, IX.vo] at hr); (try simp only [QB1] at hr); cbv) | (refine hK _ _ ?_) | (refine NeedT.mk ?_ ?_))
    all_goals first
      | exact .i rfl
      | (exfalso; simp_all; done)
end Go.Proofs.YtddgcegimmcbgaaGreat.Sy
namespace Go.Proofs.YtddgcegimmcbgaaGreat.Sy
open Go Go.Sy Go.Proofs.YtddgcegimmcbgaaGreat
structure DomS where
  num : Int
  den : Int
  at_ : Int
instance : Inhabited DomS := ⟨⟨0, 0, 0⟩⟩
def foldADomS_num (e : DomS) := (by
  have h : PLift (e.num = e.num) := ⟨rfl⟩
  conv at h => arg 1; lhs; delta DomS.num
  exact h)
theorem foldDomS_num (e : DomS) : type_of% (foldADomS_num e).down := (foldADomS_num e).down
def foldADomS_den (e : DomS) := (by
  have h : PLift (e.den = e.den) := ⟨rfl⟩
  conv at h => arg 1; lhs; delta DomS.den
  exact h)
theorem foldDomS_den (e : DomS) : type_of% (foldADomS_den e).down := (foldADomS_den e).down
def foldADomS_at_ (e : DomS) := (by
  have h : PLift (e.at_ = e.at_) := ⟨rfl⟩
  conv at h => arg 1; lhs; delta DomS.at_
  exact h)
theorem foldDomS_at_ (e : DomS) : type_of% (foldADomS_at_ e).down := (foldADomS_at_ e).down
theorem foldDomS : (⟨0, 0, 0⟩ : DomS) = default := rfl
structure S4 where
  a : Int
  b : Int
  c : Int
  d : Int
  deriving DecidableEq
instance : Inhabited S4 := ⟨⟨0, 0, 0, 0⟩⟩
def foldAS4_a (e : S4) := (by
  have h : PLift (e.a = e.a) := ⟨rfl⟩
  conv at h => arg 1; lhs; delta S4.a
  exact h)
theorem foldS4_a (e : S4) : type_of% (foldAS4_a e).down := (foldAS4_a e).down
def foldAS4_b (e : S4) := (by
  have h : PLift (e.b = e.b) := ⟨rfl⟩
  conv at h => arg 1; lhs; delta S4.b
  exact h)
theorem foldS4_b (e : S4) : type_of% (foldAS4_b e).down := (foldAS4_b e).down
def foldAS4_c (e : S4) := (by
  have h : PLift (e.c = e.c) := ⟨rfl⟩
  conv at h => arg 1; lhs; delta S4.c
  exact h)
theorem foldS4_c (e : S4) : type_of% (foldAS4_c e).down := (foldAS4_c e).down
def foldAS4_d (e : S4) := (by
  have h : PLift (e.d = e.d) := ⟨rfl⟩
  conv at h => arg 1; lhs; delta S4.d
  exact h)
theorem foldS4_d (e : S4) : type_of% (foldAS4_d e).down := (foldAS4_d e).down
theorem foldS4 : (⟨0, 0, 0, 0⟩ : S4) = default := rfl
theorem QB2 : type_of% (And.intro @foldDomS (And.intro @foldS4 (And.intro @foldDomS_num (And.intro @foldDomS_den (And.intro @foldDomS_at_ (And.intro @foldS4_a (And.intro @foldS4_b (And.intro @foldS4_c (And.intro @foldS4_d (QB1)))))))))) := And.intro @foldDomS (And.intro @foldS4 (And.intro @foldDomS_num (And.intro @foldDomS_den (And.intro @foldDomS_at_ (And.intro @foldS4_a (And.intro @foldS4_b (And.intro @foldS4_c (And.intro @foldS4_d (QB1)))))))))
def S4.X (_ : Ar) (s : S4) : List X := [xi s.a, xi s.b, xi s.c, xi s.d]
def S4.at_ (s : S4) (k : Nat) : Int := [s.a, s.b, s.c, s.d].getD k 0
def okS (x : Int) : Bool := decide (0 ≤ x) && decide (x ≤ 1152921504606846976)
def sumsRight (s : S4) : Bool := okS s.a && (okS s.b && (okS s.c && okS s.d))
theorem sumsRight_iff (s : S4) : sumsRight s = true ↔ (0 ≤ s.a ∧ s.a ≤ 1152921504606846976) ∧ (0 ≤ s.b ∧ s.b ≤ 1152921504606846976) ∧ (0 ≤ s.c ∧ s.c ≤ 1152921504606846976) ∧ (0 ≤ s.d ∧ s.d ≤ 1152921504606846976) := by
  simp [sumsRight, okS]
theorem x_sumsRight (s : S4) : XC Tryz.prog 87 [.agg (S4.X Ar.real s)] [] (xb (sumsRight s)) [] := by
  obtain ⟨a, b, u, d⟩ := s
  (refine XC.of_body ([]) Tryz.func87 rfl Tryz.ntmps87 mixed (T := tl87) tk87 (by kernel_rfl) (by simp) rfl rfl rfl rfl rfl ?_; rintro o ho P hP c K hK; have hm : P.follows .mixedOrders = true := hP ▸ mixed; have hT : TOk P tl87 := hP ▸ tk87; (try rw [← ho]); cbv; (repeat (refine StopN.mk ?_; cbv)))
  repeat' (first | (refine Br.mk (fun hb => ?_) (fun hb => ?_) <;> ((try rw [ho] at hb); (try dsimp only [Ar.real, IX.vo] at hb); (try simp only [QB2] at hb); (try simp only [QBo, beq_iff_eq, beq_eq_false_iff_ne, ne_eq] at hb))) | (refine StopN.mk ?_; cbv) | (refine hK _ _ ?_) | (refine NeedT.mk ?_ ?_) | (refine LoopN.lay (o := o) (D := []) 5 ho hm hT (by kernel_rfl) ?_; cbv))
  all_goals
    refine .b ?_
    ((try clear hR3); (try clear hR2); (try clear hR); (try clear hK); (try simp only [ncCast] at *); (try simp only [castI_eq] at *); (try rw [ho]); (try dsimp only [Ar.real, IX.vo, IX.val, BX.val, IX.toN]); (try simp only [QB2]))
    rw [Bool.eq_iff_iff, sumsRight_iff]
    simp only [BX.val, reduceCtorEq, true_iff, false_iff, not_and]
    omega
theorem FinX_S4b {a b u d : IX} {s : S4} {y : BX} {r : Bool} (h1 : a.val = s.a) (h2 : b.val = s.b) (h3 : u.val = s.c) (h4 : d.val = s.d) (h5 : y.val = r) : FinX (.tup [.agg (S4.X Ar.real s), xb r]) [] (.tup [.agg [.i .i64 a, .i .i64 b, .i .i64 u, .i .i64 d], .b y]) [] := .pure fun _ => by simp only [S4.X, X.toD, X.toDL, h1, h2, h3, h4, h5]; rfl
def sumsAdd (s t : S4) : S4 × Bool :=
  if sumsRight s = true ∧ sumsRight t = true ∧ sumsRight ⟨s.a + t.a, s.b + t.b, s.c + t.c, s.d + t.d⟩ = true then (⟨s.a + t.a, s.b + t.b, s.c + t.c, s.d + t.d⟩, true) else (⟨0, 0, 0, 0⟩, false)
theorem x_sumsAdd (s t : S4) : XC Tryz.prog 48 [.agg (S4.X Ar.real s), .agg (S4.X Ar.real t)] [] (.tup [.agg (S4.X Ar.real (sumsAdd s t).1), xb (sumsAdd s t).2]) [] := by
  have hs := x_sumsRight s
  have ht := x_sumsRight t
  have hu := x_sumsRight ⟨s.a + t.a, s.b + t.b, s.c + t.c, s.d + t.d⟩
  have is := sumsRight_iff s
  have it := sumsRight_iff t
  unfold sumsAdd
  by_cases h0 : sumsRight s = true ∧ sumsRight t = true
  · have i1 := is.1 h0.1
    have i2 := it.1 h0.2
    rw [h0.1] at hs
    rw [h0.2] at ht
    simp only [h0.1, h0.2, true_and]
    clear is it h0
    obtain ⟨u, hu0⟩ : ∃ q : S4, q = ⟨s.a + t.a, s.b + t.b, s.c + t.c, s.d + t.d⟩ := ⟨_, rfl⟩
    rw [← hu0] at hu ⊢
    generalize sumsRight u = ru at *
    obtain ⟨a, b, p, d⟩ := s
    obtain ⟨a', b', p', d'⟩ := t
    obtain ⟨a2, b2, p2, d2⟩ := u
    simp only [S4.mk.injEq] at hu0
    obtain ⟨e1, e2, e3, e4⟩ := hu0
    dsimp only at i1 i2
    (refine XC.of_body (dt48) Tryz.func48 rfl Tryz.ntmps48 mixed (T := tl48) tk48 (by kernel_rfl) (by simp) rfl rfl rfl rfl rfl ?_; rintro o ho P hP c K hK; have hm : P.follows .mixedOrders = true := hP ▸ mixed; have hT : TOk P tl48 := hP ▸ tk48; (try rw [← ho]); cbv; (repeat (refine StopN.mk ?_; cbv)))
    repeat' (first | (refine Br.mk (fun hb => ?_) (fun hb => ?_) <;> ((try rw [ho] at hb); (try dsimp only [Ar.real, IX.vo] at hb); (try simp only [QB2] at hb); (try simp only [QBo, beq_iff_eq, beq_eq_false_iff_ne, ne_eq] at hb))) | (refine StopN.mk ?_; cbv) | (first | refine CallI.pure hP hs fn87 rfl rfl rfl ?_ | refine CallI.pure hP ht fn87 rfl rfl rfl ?_ | refine CallI.pure hP hu fn87 rfl rfl (by (rw [ho]; (try dsimp only [Ar.real, IX.vo, IX.val]); (try simp only [castI_eq]); (repeat rw [wrap_i64 (by omega) (by omega)])); rw [← e1, ← e2, ← e3, ← e4]; rfl) ?_); cbv | (refine hK _ _ ?_) | (refine NeedT.mk ?_ ?_) | (refine LoopN.lay (o := o) (D := dt48) 5 ho hm hT (by kernel_rfl) ?_; cbv))
    · exact absurd ‹true = false› (by decide)
    · exact absurd ‹true = false› (by decide)
    · rw [‹ru = false›]
      exact FinX_S4b rfl rfl rfl rfl rfl
    · rw [‹ru = true›]
      refine FinX_S4b ?_ ?_ ?_ ?_ rfl <;> ((rw [ho]; (try dsimp only [Ar.real, IX.vo, IX.val]); (try simp only [castI_eq]); (repeat rw [wrap_i64 (by omega) (by omega)])); (first | exact e1.symm | exact e2.symm | exact e3.symm | exact e4.symm))
  · rw [if_neg (fun h => h0 ⟨h.1, h.2.1⟩)]
    generalize sumsRight s = rs at *
    generalize sumsRight t = rt at *
    clear hu
    obtain ⟨a, b, p, d⟩ := s
    obtain ⟨a', b', p', d'⟩ := t
    (refine XC.of_body (dt48) Tryz.func48 rfl Tryz.ntmps48 mixed (T := tl48) tk48 (by kernel_rfl) (by simp) rfl rfl rfl rfl rfl ?_; rintro o ho P hP c K hK; have hm : P.follows .mixedOrders = true := hP ▸ mixed; have hT : TOk P tl48 := hP ▸ tk48; (try rw [← ho]); cbv; (repeat (refine StopN.mk ?_; cbv)))
    repeat' (first | (refine Br.mk (fun hb => ?_) (fun hb => ?_) <;> ((try rw [ho] at hb); (try dsimp only [Ar.real, IX.vo] at hb); (try simp only [QB2] at hb); (try simp only [QBo, beq_iff_eq, beq_eq_false_iff_ne, ne_eq] at hb))) | (refine StopN.mk ?_; cbv) | (first | refine CallI.pure hP hs fn87 rfl rfl rfl ?_ | refine CallI.pure hP ht fn87 rfl rfl rfl ?_); cbv | (refine hK _ _ ?_) | (refine NeedT.mk ?_ ?_))
    all_goals first
      | exact FinX_S4b rfl rfl rfl rfl rfl
      | (exfalso; simp_all; done)
      | trace_state
def domStep (x : DomS) (n d : Int) (k : Nat) : DomS := if 0 < d ∧ (x.at_ = -1 ∨ 0 < fracCmp n d x.num x.den) then ⟨n, d, k⟩ else x
def domTo (s t : S4) : Nat → DomS
  | 0 => ⟨0, 1, -1⟩
  | k + 1 => domStep (domTo s t k) (s.at_ k) (t.at_ k) k
def sumsDom (s t : S4) : DomS := if sumsRight s = true ∧ sumsRight t = true then domTo s t 4 else ⟨0, 1, -1⟩
theorem S4.at_bd {s : S4} (h : sumsRight s = true) (k : Nat) : 0 ≤ s.at_ k ∧ s.at_ k ≤ 1152921504606846976 := by
  have := (sumsRight_iff s).1 h
  match k with
  | 0 => exact this.1
  | 1 => exact this.2.1
  | 2 => exact this.2.2.1
  | 3 => exact this.2.2.2
  | k + 4 => exact (by show (0 : Int) ≤ 0 ∧ (0 : Int) ≤ 1152921504606846976; decide)
theorem domTo_bd {s t : S4} (h : sumsRight s = true) (h' : sumsRight t = true) : ∀ k, (0 ≤ (domTo s t k).num ∧ (domTo s t k).num ≤ 1152921504606846976) ∧ (0 ≤ (domTo s t k).den ∧ (domTo s t k).den ≤ 1152921504606846976) ∧ -1 ≤ (domTo s t k).at_ ∧ (domTo s t k).at_ < k
  | 0 => by simp [domTo]
  | k + 1 => by
    have ih := domTo_bd h h' k
    have h1 := S4.at_bd h k
    have h2 := S4.at_bd h' k
    simp only [domTo, domStep]
    split
    · dsimp only; omega
    · omega
theorem FinX_dom {a n d : IX} {x : DomS} (h1 : a.val = x.at_) (h2 : n.val = x.num) (h3 : d.val = x.den) : FinX (.tup [xi x.at_, .agg [xi x.num, xi x.den]]) [] (.tup [.i .i64 a, .agg [.i .i64 n, .i .i64 d]]) [] := .pure fun _ => by simp only [X.toD, X.toDL, h1, h2, h3]; rfl
theorem x_sumsDom (s t : S4) : XC Tryz.prog 100 [.agg (S4.X Ar.real s), .agg (S4.X Ar.real t)] [] (.tup [xi (sumsDom s t).at_, .agg [xi (sumsDom s t).num, xi (sumsDom s t).den]]) [] := by
  have hs := x_sumsRight s
  have ht := x_sumsRight t
  unfold sumsDom
  by_cases h0 : sumsRight s = true ∧ sumsRight t = true
  · rw [if_pos h0]
    have hbd := domTo_bd h0.1 h0.2
    have h1 := fun k => S4.at_bd h0.1 k
    have h2 := fun k => S4.at_bd h0.2 k
    rw [h0.1] at hs
    rw [h0.2] at ht
    have hm0 : domTo s t 0 = ⟨0, 1, -1⟩ := rfl
    have hm1 : ∀ k, domTo s t (k + 1) = domStep (domTo s t k) (s.at_ k) (t.at_ k) k := fun _ => rfl
    have ha : ∀ k : Nat, s.at_ k = [s.a, s.b, s.c, s.d].getD k 0 ∧ t.at_ k = [t.a, t.b, t.c, t.d].getD k 0 := fun _ => ⟨rfl, rfl⟩
    clear h0
    generalize hM : domTo s t = M at *
    generalize hS : s.at_ = sa at *
    generalize hT2 : t.at_ = ta at *
    clear hM hS hT2
    obtain ⟨a, b, p, d⟩ := s
    obtain ⟨a', b', p', d'⟩ := t
    dsimp only at ha
    (refine XC.of_body (dt100) Tryz.func100 rfl Tryz.ntmps100 mixed (T := tl100) tk100 (by kernel_rfl) (by simp) rfl rfl rfl rfl rfl ?_; rintro o ho P hP c K hK; have hm : P.follows .mixedOrders = true := hP ▸ mixed; have hT : TOk P tl100 := hP ▸ tk100; (try rw [← ho]); cbv; (repeat (refine StopN.mk ?_; cbv)))
    repeat' (first | (refine Br.mk (fun hb => ?_) (fun hb => ?_) <;> ((try rw [ho] at hb); (try dsimp only [Ar.real, IX.vo] at hb); (try simp only [QB2] at hb); (try simp only [QBo, beq_iff_eq, beq_eq_false_iff_ne, ne_eq] at hb))) | (refine StopN.mk ?_; cbv) | (first | refine CallI.pure hP hs fn87 rfl rfl rfl ?_ | refine CallI.pure hP ht fn87 rfl rfl rfl ?_); cbv | ((first | refine CallI.pure hP (x_fracCmp _ _ _ _ ‹_› ‹_› ‹_› ‹_›) fn112 (by first | rfl | (rw [ho]; try rfl)) (by rfl) (by first | rfl | (rw [ho]; try rfl)) ?_ | refine CallN.pure hP (x_fracCmp _ _ _ _ ‹_› ‹_› ‹_› ‹_›) fn112 (by first | rfl | (rw [ho]; try rfl)) (by rfl) (by first | rfl | (rw [ho]; try rfl)) ?_); (try rw [← ho]); generalize hr : fracCmp _ _ _ _ = r; (try rw [ho] at hr); (try dsimp only [Ar.real, IX.vo] at hr); (try simp only [QB2] at hr); cbv) | (refine hK _ _ ?_) | (refine NeedT.mk ?_ ?_))
    · exact absurd ‹true = false› (by decide)
    · exact absurd ‹true = false› (by decide)
    refine LoopN.over (o := o) (D := dt100) ho hm hT (by kernel_rfl) (fun a : Nat => [(21, xn a), (7, xi (M a).at_)]) (fun a => [(3, .var [xi (M a).num, xi (M a).den] 71)]) (fun _ => []) (fun a => a ≤ 4) (fun a => 4 - a) 0 (by omega) ?_ ?_
    · (refine ⟨?_, ?_, ?_, ?_⟩ <;> cbv <;> repeat' (first | trivial | exact EqX.rfl' | exact EqO.rfl' | apply And.intro | ((try clear hR3); (try clear hR2); (try clear hR); (try clear hK); (try simp only [ncCast] at *); (try simp only [castI_eq] at *); refine EqX.i ?_; (try rw [ho]); (try dsimp only [Ar.real, IX.vo, IX.val, BX.val, IX.toN]); (try simp only [QB2]); (repeat rw [wrap_i64 (by omega) (by omega)]); omega) | (refine EqX.i ?_; rw [hm0]; rfl) | exact ⟨by rw [hm0]; rfl⟩))
    · rintro i hi R hR
      have b0 := hbd i
      have b1 := h1 i
      have b2 := h2 i
      have hM1 := hm1 i
      have hq := x_fracCmp (sa i) (ta i) (M i).num (M i).den ⟨by omega, by omega⟩ ⟨by omega, by omega⟩ ⟨by omega, by omega⟩ ⟨by omega, by omega⟩
      unfold domStep at hM1
      generalize fracCmp (sa i) (ta i) (M i).num (M i).den = q at hq hM1
      obtain ⟨e1, e2⟩ := ha i
      generalize sa i = x at *
      generalize ta i = y at *
      have p1 : 0 < [a', b', p', d'].getD ((i : Int).toNat) 0 → ((M i).at_ = -1 ∨ 0 < q) → M (i + 1) = ⟨x, y, i⟩ := fun h h' => by
        rw [Int.toNat_natCast, ← e2] at h
        rw [hM1, if_pos ⟨h, h'⟩]
      have p2 : ([a', b', p', d'].getD ((i : Int).toNat) 0 ≤ 0 ∨ (¬ (M i).at_ = -1 ∧ q ≤ 0)) → M (i + 1) = M i := fun h => by
        rw [Int.toNat_natCast, ← e2] at h
        rw [hM1, if_neg (fun h' => by omega)]
      cbv
      repeat' (first | (refine Br.mk (fun hb => ?_) (fun hb => ?_) <;> ((try rw [ho] at hb); (try dsimp only [Ar.real, IX.vo] at hb); (try simp only [QB2] at hb); (try simp only [QBo, beq_iff_eq, beq_eq_false_iff_ne, ne_eq] at hb))) | (refine StopN.mk ?_; cbv) | (refine CallI.pure hP hq fn112 rfl rfl (by (rw [ho]; (try dsimp only [Ar.real, IX.vo, IX.val]); (try simp only [castI_eq]); (repeat rw [wrap_i64 (by omega) (by omega)])); rw [e1, e2]; rfl) ?_); cbv | ((first | refine CallI.pure hP (x_sumsRight _) fn87 (by first | rfl | (rw [ho]; try rfl)) (by rfl) (by first | rfl | (rw [ho]; try rfl)) ?_ | refine CallN.pure hP (x_sumsRight _) fn87 (by first | rfl | (rw [ho]; try rfl)) (by rfl) (by first | rfl | (rw [ho]; try rfl)) ?_); (try rw [← ho]); generalize hr : sumsRight _ = r; (try rw [ho] at hr); (try dsimp only [Ar.real, IX.vo] at hr); (try simp only [QB2] at hr); cbv) | (refine hK _ _ ?_) | (refine NeedT.mk ?_ ?_))
      any_goals (((try clear hR3); (try clear hR2); (try clear hR); (try clear hK); (try simp only [ncCast] at *); (try simp only [castI_eq] at *); (try rw [ho]); (try dsimp only [Ar.real, IX.vo, IX.val, BX.val, IX.toN]); (try simp only [QB2]); (try simp only [decide_eq_true_eq]); (all_goals (repeat rw [wrap_i64 (by omega) (by omega)])); (all_goals (first | omega | (simp only [Int.ofNat_eq_natCast]; omega)))); done)
      · have h5 := p1 (by assumption) (.inl hb)
        refine hR _ (i + 1) (by show 4 - (i + 1) < 4 - i; ((try clear hR3); (try clear hR2); (try clear hR); (try clear hK); (try simp only [ncCast] at *); (try simp only [castI_eq] at *)); omega) (by show i + 1 ≤ 4; ((try clear hR3); (try clear hR2); (try clear hR); (try clear hK); (try simp only [ncCast] at *); (try simp only [castI_eq] at *)); omega) ?_
        (refine ⟨?_, ?_, ?_, ?_⟩ <;> cbv <;> repeat' (first | trivial | exact EqX.rfl' | exact EqO.rfl' | apply And.intro | ((try clear hR3); (try clear hR2); (try clear hR); (try clear hK); (try simp only [ncCast] at *); (try simp only [castI_eq] at *); refine EqX.i ?_; (try rw [ho]); (try dsimp only [Ar.real, IX.vo, IX.val, BX.val, IX.toN]); (try simp only [QB2]); (repeat rw [wrap_i64 (by omega) (by omega)]); omega) | (refine EqX.i ?_; rw [h5]; rfl) | exact ⟨by rw [h5, ho]; simp only [OX.toOb, X.toDL, X.toD]; rw [e1, e2]; rfl⟩))
      · have h5 := p1 (by assumption) (.inr hb)
        refine hR _ (i + 1) (by show 4 - (i + 1) < 4 - i; ((try clear hR3); (try clear hR2); (try clear hR); (try clear hK); (try simp only [ncCast] at *); (try simp only [castI_eq] at *)); omega) (by show i + 1 ≤ 4; ((try clear hR3); (try clear hR2); (try clear hR); (try clear hK); (try simp only [ncCast] at *); (try simp only [castI_eq] at *)); omega) ?_
        (refine ⟨?_, ?_, ?_, ?_⟩ <;> cbv <;> repeat' (first | trivial | exact EqX.rfl' | exact EqO.rfl' | apply And.intro | ((try clear hR3); (try clear hR2); (try clear hR); (try clear hK); (try simp only [ncCast] at *); (try simp only [castI_eq] at *); refine EqX.i ?_; (try rw [ho]); (try dsimp only [Ar.real, IX.vo, IX.val, BX.val, IX.toN]); (try simp only [QB2]); (repeat rw [wrap_i64 (by omega) (by omega)]); omega) | (refine EqX.i ?_; rw [h5]; rfl) | exact ⟨by rw [h5, ho]; simp only [OX.toOb, X.toDL, X.toD]; rw [e1, e2]; rfl⟩))
      · have h5 := p2 (.inr ⟨by assumption, hb⟩)
        refine hR _ (i + 1) (by show 4 - (i + 1) < 4 - i; ((try clear hR3); (try clear hR2); (try clear hR); (try clear hK); (try simp only [ncCast] at *); (try simp only [castI_eq] at *)); omega) (by show i + 1 ≤ 4; ((try clear hR3); (try clear hR2); (try clear hR); (try clear hK); (try simp only [ncCast] at *); (try simp only [castI_eq] at *)); omega) ?_
        (refine ⟨?_, ?_, ?_, ?_⟩ <;> cbv <;> repeat' (first | trivial | exact EqX.rfl' | exact EqO.rfl' | apply And.intro | ((try clear hR3); (try clear hR2); (try clear hR); (try clear hK); (try simp only [ncCast] at *); (try simp only [castI_eq] at *); refine EqX.i ?_; (try rw [ho]); (try dsimp only [Ar.real, IX.vo, IX.val, BX.val, IX.toN]); (try simp only [QB2]); (repeat rw [wrap_i64 (by omega) (by omega)]); omega) | (refine EqX.i ?_; rw [h5]) | exact ⟨by rw [h5]⟩))
      · have h5 := p2 (.inl hb)
        refine hR _ (i + 1) (by show 4 - (i + 1) < 4 - i; ((try clear hR3); (try clear hR2); (try clear hR); (try clear hK); (try simp only [ncCast] at *); (try simp only [castI_eq] at *)); omega) (by show i + 1 ≤ 4; ((try clear hR3); (try clear hR2); (try clear hR); (try clear hK); (try simp only [ncCast] at *); (try simp only [castI_eq] at *)); omega) ?_
        (refine ⟨?_, ?_, ?_, ?_⟩ <;> cbv <;> repeat' (first | trivial | exact EqX.rfl' | exact EqO.rfl' | apply And.intro | ((try clear hR3); (try clear hR2); (try clear hR); (try clear hK); (try simp only [ncCast] at *); (try simp only [castI_eq] at *); refine EqX.i ?_; (try rw [ho]); (try dsimp only [Ar.real, IX.vo, IX.val, BX.val, IX.toN]); (try simp only [QB2]); (repeat rw [wrap_i64 (by omega) (by omega)]); omega) | (refine EqX.i ?_; rw [h5]) | exact ⟨by rw [h5]⟩))
      · obtain rfl : i = 4 := by omega
        exact FinX_dom rfl rfl rfl
  · rw [if_neg h0]
    generalize sumsRight s = rs at *
    generalize sumsRight t = rt at *
    obtain ⟨a, b, p, d⟩ := s
    obtain ⟨a', b', p', d'⟩ := t
    (refine XC.of_body (dt100) Tryz.func100 rfl Tryz.ntmps100 mixed (T := tl100) tk100 (by kernel_rfl) (by simp) rfl rfl rfl rfl rfl ?_; rintro o ho P hP c K hK; have hm : P.follows .mixedOrders = true := hP ▸ mixed; have hT : TOk P tl100 := hP ▸ tk100; (try rw [← ho]); cbv; (repeat (refine StopN.mk ?_; cbv)))
    repeat' (first | (refine Br.mk (fun hb => ?_) (fun hb => ?_) <;> ((try rw [ho] at hb); (try dsimp only [Ar.real, IX.vo] at hb); (try simp only [QB2] at hb); (try simp only [QBo, beq_iff_eq, beq_eq_false_iff_ne, ne_eq] at hb))) | (refine StopN.mk ?_; cbv) | (first | refine CallI.pure hP hs fn87 rfl rfl rfl ?_ | refine CallI.pure hP ht fn87 rfl rfl rfl ?_); cbv | ((first | refine CallI.pure hP (x_fracCmp _ _ _ _ ‹_› ‹_› ‹_› ‹_›) fn112 (by first | rfl | (rw [ho]; try rfl)) (by rfl) (by first | rfl | (rw [ho]; try rfl)) ?_ | refine CallN.pure hP (x_fracCmp _ _ _ _ ‹_› ‹_› ‹_› ‹_›) fn112 (by first | rfl | (rw [ho]; try rfl)) (by rfl) (by first | rfl | (rw [ho]; try rfl)) ?_); (try rw [← ho]); generalize hr : fracCmp _ _ _ _ = r; (try rw [ho] at hr); (try dsimp only [Ar.real, IX.vo] at hr); (try simp only [QB2] at hr); cbv) | (refine hK _ _ ?_) | (refine NeedT.mk ?_ ?_))
    all_goals first
      | exact FinX_dom rfl rfl rfl
      | (exfalso; simp_all; done)
end Go.Proofs.YtddgcegimmcbgaaGreat.Sy
namespace Go.Proofs.YtddgcegimmcbgaaGreat.Sy
open Go Go.Sy Go.Proofs.YtddgcegimmcbgaaGreat
def idxR (l : List Int) (x : Int) : Int := match nextAt (fun i => decide (x = l.getD i default)) 0 l.length with | some i => i | none => -1
theorem x_Index (l : List Int) (x : Int) (hl : l.length ≤ 1048576) : XC Tryz.prog 113 [.ro (SL Ar.real encI l), xi x] [] (xi (idxR l x)) [] := by
  (refine XC.of_body ([]) Tryz.func113 rfl Tryz.ntmps113 mixed (T := tl113) tk113 (by kernel_rfl) (by simp) rfl rfl rfl rfl rfl ?_; rintro o ho P hP c K hK; have hm : P.follows .mixedOrders = true := hP ▸ mixed; have hT : TOk P tl113 := hP ▸ tk113; (try rw [← ho]); cbv; (repeat (refine StopN.mk ?_; cbv)))
  refine LoopN.over (o := o) (D := []) ho hm hT (by kernel_rfl) (fun i : Nat => [(8, xn i)]) (fun _ => []) (fun _ => []) (fun i => i ≤ l.length ∧ ∀ j, j < i → decide (x = l.getD j default) = false) (fun i => l.length - i) 0 ⟨Nat.zero_le _, fun j hj => by omega⟩ ?_ ?_
  · (refine ⟨?_, ?_, ?_, ?_⟩ <;> cbv <;> repeat' (first | trivial | exact EqX.rfl' | exact EqO.rfl' | apply And.intro | ((try clear hR3); (try clear hR2); (try clear hR); (try clear hK); (try simp only [ncCast] at *); (try simp only [castI_eq] at *); refine EqX.i ?_; (try rw [ho]); (try dsimp only [Ar.real, IX.vo, IX.val, BX.val, IX.toN]); (try simp only [QB2]); (repeat rw [wrap_i64 (by omega) (by omega)]); omega)))
  · rintro i ⟨hi, hno⟩ R hR
    cbv
    repeat' (first | (refine Br.mk (fun hb => ?_) (fun hb => ?_) <;> ((try rw [ho] at hb); (try dsimp only [Ar.real, IX.vo] at hb); (try simp only [QB2] at hb); (try simp only [QBo, beq_iff_eq, beq_eq_false_iff_ne, ne_eq] at hb))) | (refine StopN.mk ?_; cbv) | (refine hK _ _ ?_) | (refine NeedT.mk ?_ ?_))
    any_goals (((try clear hR3); (try clear hR2); (try clear hR); (try clear hK); (try simp only [ncCast] at *); (try simp only [castI_eq] at *); (try rw [ho]); (try dsimp only [Ar.real, IX.vo, IX.val, BX.val, IX.toN]); (try simp only [QB2]); (try simp only [decide_eq_true_eq]); (all_goals (repeat rw [wrap_i64 (by omega) (by omega)])); (all_goals (first | omega | (simp only [Int.ofNat_eq_natCast]; omega)))); done)
    · have hf := nextAt_some (p := fun i => decide (x = l.getD i default)) (a := 0) (n := l.length) (k := i) (Nat.zero_le _) (by assumption) (decide_eq_true hb) (fun j _ h => hno j h)
      refine .i ?_
      rw [idxR, hf]
      rfl
    · refine hR _ (i + 1) (by omega) ⟨by omega, fun j h => ?_⟩ ?_
      · rcases Nat.lt_or_ge j i with h3 | h3
        · exact hno j h3
        · obtain rfl : j = i := by omega
          exact decide_eq_false hb
      · (refine ⟨?_, ?_, ?_, ?_⟩ <;> cbv <;> repeat' (first | trivial | exact EqX.rfl' | exact EqO.rfl' | apply And.intro | ((try clear hR3); (try clear hR2); (try clear hR); (try clear hK); (try simp only [ncCast] at *); (try simp only [castI_eq] at *); refine EqX.i ?_; (try rw [ho]); (try dsimp only [Ar.real, IX.vo, IX.val, BX.val, IX.toN]); (try simp only [QB2]); (repeat rw [wrap_i64 (by omega) (by omega)]); omega)))
    · have hf := nextAt_none (p := fun i => decide (x = l.getD i default)) (a := 0) (n := l.length) (fun j _ h => hno j (by omega))
      refine .i ?_
      rw [idxR, hf]
      rfl
def inR (l : List Int) (x : Int) : Bool := decide (x ∈ l)
theorem idxR_in (l : List Int) (x : Int) : decide (0 ≤ idxR l x) = inR l x := by
  unfold idxR inR
  cases h : nextAt (fun i => decide (x = l.getD i default)) 0 l.length with
  | some i =>
    unfold nextAt at h
    rw [List.find?_range'_eq_some] at h
    have h1 := h.1
    have h2 := h.2.1
    simp at h2
    simp only [decide_eq_true_eq] at h1
    have : x ∈ l := by
      rw [h1, List.getD_eq_getElem?_getD, List.getElem?_eq_getElem h2]
      exact List.getElem_mem h2
    rw [decide_eq_true this]
    exact decide_eq_true (Int.natCast_nonneg i)
  | none =>
    unfold nextAt at h
    rw [List.find?_range'_eq_none] at h
    have : ¬ x ∈ l := fun hm => by
      obtain ⟨i, hi, e⟩ := List.getElem_of_mem hm
      have := h i (Nat.zero_le _) (by omega)
      simp [List.getD_eq_getElem?_getD, hi, e] at this
    rw [decide_eq_false this]
    rfl
theorem x_Contains (l : List Int) (x : Int) (hl : l.length ≤ 1048576) : XC Tryz.prog 105 [.ro (SL Ar.real encI l), xi x] [] (xb (inR l x)) [] := by
  have h := idxR_in l x
  (refine XC.of_body ([]) Tryz.func105 rfl Tryz.ntmps105 mixed (T := tl105) tk105 (by kernel_rfl) (by simp) rfl rfl rfl rfl rfl ?_; rintro o ho P hP c K hK; have hm : P.follows .mixedOrders = true := hP ▸ mixed; have hT : TOk P tl105 := hP ▸ tk105; (try rw [← ho]); cbv; (repeat (refine StopN.mk ?_; cbv)))
  repeat' (first | (refine Br.mk (fun hb => ?_) (fun hb => ?_) <;> ((try rw [ho] at hb); (try dsimp only [Ar.real, IX.vo] at hb); (try simp only [QB2] at hb); (try simp only [QBo, beq_iff_eq, beq_eq_false_iff_ne, ne_eq] at hb))) | (refine StopN.mk ?_; cbv) | (refine CallI.pure hP (x_Index _ _ ‹_›) fn113 (by first | rfl | (rw [ho]; try rfl)) (by rfl) (by first | rfl | (rw [ho]; try rfl)) ?_; (try rw [← ho]); generalize hr : idxR _ _ = r; (try rw [ho] at hr); (try dsimp only [Ar.real, IX.vo] at hr); (try simp only [QB2] at hr); cbv) | (refine hK _ _ ?_) | (refine NeedT.mk ?_ ?_))
  refine .b ?_
  ((try clear hR3); (try clear hR2); (try clear hR); (try clear hK); (try simp only [ncCast] at *); (try simp only [castI_eq] at *); (try rw [ho]); (try dsimp only [Ar.real, IX.vo, IX.val, BX.val, IX.toN]); (try simp only [QB2]))
  rw [← h, hr]
def onlyR (v : List Part) (rs : List Int) : List Part := if vecRight v = true then v.filter fun p => inR rs p.role else []
def onlyTo (v : List Part) (rs : List Int) (b : Bool) (k : Nat) : List Part := if b = true then (v.take k).filter fun p => inR rs p.role else []
theorem onlyTo_succ (v : List Part) (rs : List Int) (b : Bool) {k : Nat} (h : k < v.length) : onlyTo v rs b (k + 1) = onlyTo v rs b k ++ if inR rs (v.getD k default).role = true ∧ b = true then [v.getD k default] else [] := by
  unfold onlyTo
  cases b with
  | false => simp
  | true =>
    have e : v.getD k default = v[k] := by simp [List.getD_eq_getElem?_getD, h]
    simp only [if_true, and_true]
    rw [List.take_succ_eq_append_getElem h, List.filter_append, e]
    congr 1
    by_cases h2 : inR rs v[k].role = true <;> simp [h2]
theorem onlyTo_len (v : List Part) (rs : List Int) (b : Bool) (k : Nat) : (onlyTo v rs b k).length ≤ k := by
  unfold onlyTo
  split
  · exact Nat.le_trans (List.length_filter_le _ _) (by simp; omega)
  · simp
structure StL (α : Type) where
  i : Nat
  rv : Nat
  out : List α
theorem x_Only (v : List Part) (rs : List Int) (hv : v.length ≤ 1048576) (hrs : rs.length ≤ 1024) : XC Tryz.prog 88 [.ro (SL Ar.real Part.X v), .ro (SL Ar.real encI rs)] [] (.ro (SL Ar.real Part.X (onlyR v rs))) [] := by
  have hx := x_vec_Right v (by omega)
  have hend : onlyTo v rs (vecRight v) v.length = onlyR v rs := by
    unfold onlyTo onlyR
    rw [List.take_of_length_le (Nat.le_refl _)]
  obtain ⟨b, hb0⟩ : ∃ q, q = vecRight v := ⟨_, rfl⟩
  rw [← hb0] at hx hend
  clear hb0
  have hC : ∀ x, XC Tryz.prog 105 [.ro (SL Ar.real encI rs), xi x] [] (xb (inR rs x)) [] := fun x => x_Contains rs x (by omega)
  (refine XC.of_body ([]) Tryz.func88 rfl Tryz.ntmps88 mixed (T := tl88) tk88 (by kernel_rfl) (by simp) rfl rfl rfl rfl rfl ?_; rintro o ho P hP c K hK; have hm : P.follows .mixedOrders = true := hP ▸ mixed; have hT : TOk P tl88 := hP ▸ tk88; (try rw [← ho]); cbv; (repeat (refine StopN.mk ?_; cbv)))
  refine LoopN.ghost 5 69 3 rfl ?_
  refine LoopN.over (o := o) (D := []) ho hm hT (by kernel_rfl) (fun a : StL Part => [(10, xn a.i), (5, .own (.loc 0) a.rv)]) (fun a => [(0, .row a.rv 69 3 (SL o Part.X a.out))]) (fun _ => []) (fun a => a.i ≤ v.length ∧ a.out = onlyTo v rs b a.i) (fun a => v.length - a.i) ⟨0, 0, []⟩ ⟨Nat.zero_le _, by unfold onlyTo; split <;> rfl⟩ ?_ ?_
  · (refine ⟨?_, ?_, ?_, ?_⟩ <;> cbv <;> repeat' (first | trivial | exact EqX.rfl' | exact EqO.rfl' | apply And.intro | ((try clear hR3); (try clear hR2); (try clear hR); (try clear hK); (try simp only [ncCast] at *); (try simp only [castI_eq] at *); refine EqX.i ?_; (try rw [ho]); (try dsimp only [Ar.real, IX.vo, IX.val, BX.val, IX.toN]); (try simp only [QB2]); (repeat rw [wrap_i64 (by omega) (by omega)]); omega) | exact EqO.row rfl (rows_nil_SL o ho Part.X)))
  · rintro ⟨i, rv, out⟩ ⟨hi, hout⟩ R hR
    dsimp only at hi hout
    have hol := onlyTo_len v rs b i
    rw [← hout] at hol
    have hsucc : i < v.length → onlyTo v rs b (i + 1) = _ := fun h => onlyTo_succ v rs b h
    rw [← hout] at hsucc
    obtain ⟨out', hout'⟩ : ∃ q, q = onlyTo v rs b (i + 1) := ⟨_, rfl⟩
    rw [← hout'] at hsucc
    cbv
    repeat' (first | (refine Br.mk (fun hb => ?_) (fun hb => ?_) <;> ((try rw [ho] at hb); (try dsimp only [Ar.real, IX.vo] at hb); (try simp only [QB2] at hb); (try simp only [QBo, beq_iff_eq, beq_eq_false_iff_ne, ne_eq] at hb))) | (refine StopN.mk ?_; cbv) | (refine CallI.pure hP (hC _) fn105 rfl rfl (by rw [ho]) ?_; (try rw [← ho]); generalize hr : inR rs _ = r; (try rw [ho] at hr); (try dsimp only [Ar.real] at hr); (try simp only [foldPart_kind, foldPart_role, foldPart_amount, foldPart, castI_eq] at hr); cbv) | (refine CallI.pure hP hx fn47 rfl rfl (by rw [ho]) ?_; cbv) | (refine hK _ _ ?_) | (refine NeedT.mk ?_ ?_))
    any_goals (((try clear hR3); (try clear hR2); (try clear hR); (try clear hK); (try simp only [ncCast] at *); (try simp only [castI_eq] at *); (try rw [ho]); (try dsimp only [Ar.real, IX.vo, IX.val, BX.val, IX.toN]); (try simp only [QB2]); (try simp only [decide_eq_true_eq]); (all_goals (repeat rw [wrap_i64 (by omega) (by omega)])); (all_goals (first | omega | (simp only [Int.ofNat_eq_natCast]; omega)))); done)
    · have hs := hsucc (by assumption)
      rw [if_pos ⟨by rw [hr]; assumption, by assumption⟩] at hs
      refine hR _ ⟨i + 1, rv + 1, out'⟩ (by dsimp only; omega) ⟨by dsimp only; omega, hout'⟩ ?_
      (refine ⟨?_, ?_, ?_, ?_⟩ <;> cbv <;> repeat' (first | trivial | exact EqX.rfl' | exact EqO.rfl' | apply And.intro | ((try clear hR3); (try clear hR2); (try clear hR); (try clear hK); (try simp only [ncCast] at *); (try simp only [castI_eq] at *); refine EqX.i ?_; (try rw [ho]); (try dsimp only [Ar.real, IX.vo, IX.val, BX.val, IX.toN]); (try simp only [QB2]); (repeat rw [wrap_i64 (by omega) (by omega)]); omega) | (refine EqO.snoc ho Part.X _ _ _ _ rfl hs ?_; rw [ho]; rfl)))
    · have hs := hsucc (by assumption)
      rw [if_neg (fun h => by simp_all), List.append_nil] at hs
      refine hR _ ⟨i + 1, rv, out'⟩ (by dsimp only; omega) ⟨by dsimp only; omega, hout'⟩ ?_
      subst hs
      (refine ⟨?_, ?_, ?_, ?_⟩ <;> cbv <;> repeat' (first | trivial | exact EqX.rfl' | exact EqO.rfl' | apply And.intro | ((try clear hR3); (try clear hR2); (try clear hR); (try clear hK); (try simp only [ncCast] at *); (try simp only [castI_eq] at *); refine EqX.i ?_; (try rw [ho]); (try dsimp only [Ar.real, IX.vo, IX.val, BX.val, IX.toN]); (try simp only [QB2]); (repeat rw [wrap_i64 (by omega) (by omega)]); omega)))
    · have hs := hsucc (by assumption)
      rw [if_neg (fun h => by simp_all), List.append_nil] at hs
      refine hR _ ⟨i + 1, rv, out'⟩ (by dsimp only; omega) ⟨by dsimp only; omega, hout'⟩ ?_
      subst hs
      (refine ⟨?_, ?_, ?_, ?_⟩ <;> cbv <;> repeat' (first | trivial | exact EqX.rfl' | exact EqO.rfl' | apply And.intro | ((try clear hR3); (try clear hR2); (try clear hR); (try clear hK); (try simp only [ncCast] at *); (try simp only [castI_eq] at *); refine EqX.i ?_; (try rw [ho]); (try dsimp only [Ar.real, IX.vo, IX.val, BX.val, IX.toN]); (try simp only [QB2]); (repeat rw [wrap_i64 (by omega) (by omega)]); omega)))
    · obtain rfl : i = v.length := by omega
      rw [hend] at hout
      subst hout
      exact .ro (by rw [ho])
theorem fits_Part (o : Ar) (ho : o = Ar.real) (v : List Part) : (SL o Part.X v).fits 3 := by
  intro row hr
  rw [rows_SL o ho] at hr
  obtain ⟨a, _, rfl⟩ := List.mem_map.1 hr
  exact ⟨rfl, rfl⟩
theorem x_Copy (v : List Part) (hv : v.length ≤ 1048576) : XC Tryz.prog 40 [.ro (SL Ar.real Part.X v)] [] (.ro (SL Ar.real Part.X v)) [] := by
  (refine XC.of_body ([]) Tryz.func40 rfl Tryz.ntmps40 mixed (T := tl40) tk40 (by kernel_rfl) (by simp) rfl rfl rfl rfl rfl ?_; rintro o ho P hP c K hK; have hm : P.follows .mixedOrders = true := hP ▸ mixed; have hT : TOk P tl40 := hP ▸ tk40; (try rw [← ho]); cbv; (repeat (refine StopN.mk ?_; cbv)))
  repeat' (first | (refine Br.mk (fun hb => ?_) (fun hb => ?_) <;> ((try rw [ho] at hb); (try dsimp only [Ar.real, IX.vo] at hb); (try simp only [QB2] at hb); (try simp only [QBo, beq_iff_eq, beq_eq_false_iff_ne, ne_eq] at hb))) | (refine StopN.mk ?_; cbv) | (refine hK _ _ ?_) | (refine NeedT.mk ?_ ?_) | (refine NeedP.mk (fits_Part o ho v) ?_))
  any_goals (((try clear hR3); (try clear hR2); (try clear hR); (try clear hK); (try simp only [ncCast] at *); (try simp only [castI_eq] at *); (try rw [ho]); (try dsimp only [Ar.real, IX.vo, IX.val, BX.val, IX.toN]); (try simp only [QB2]); (try simp only [decide_eq_true_eq]); (all_goals (repeat rw [wrap_i64 (by omega) (by omega)])); (all_goals (first | omega | (simp only [Int.ofNat_eq_natCast]; omega)))); done)
  exact .ro (by rw [ho])
def S4.addAt (s : S4) (k x : Int) : S4 :=
  ⟨if k = 0 then IntKind.i64.wrap (s.at_ k.toNat + x) else s.a, if k = 1 then IntKind.i64.wrap (s.at_ k.toNat + x) else s.b, if k = 2 then IntKind.i64.wrap (s.at_ k.toNat + x) else s.c, if k = 3 then IntKind.i64.wrap (s.at_ k.toNat + x) else s.d⟩
def ofTo (v : List Part) : Nat → S4
  | 0 => ⟨0, 0, 0, 0⟩
  | k + 1 => (ofTo v k).addAt (v.getD k default).kind (v.getD k default).amount
def sumsOf (v : List Part) : S4 := if vecRight v = true then ofTo v v.length else ⟨0, 0, 0, 0⟩
theorem vecRight_at {v : List Part} (h : vecRight v = true) {i : Nat} (hi : i < v.length) : (0 ≤ (v.getD i default).kind ∧ (v.getD i default).kind < 4) ∧ (0 ≤ (v.getD i default).role ∧ (v.getD i default).role ≤ 32) ∧ 1 ≤ (v.getD i default).amount ∧ (v.getD i default).amount ≤ 9007199254740992 := by
  unfold vecRight at h
  rw [Option.isNone_iff_eq_none] at h
  unfold nextAt at h
  rw [List.find?_range'_eq_none] at h
  have := h i (Nat.zero_le _) (by omega)
  simp only [badAt, slotRight, amountRight, Bool.not_eq_true', Bool.or_eq_false_iff, Bool.not_eq_eq_eq_not, Bool.not_false, Bool.not_true, Bool.and_eq_true, decide_eq_true_eq, decide_eq_false_iff_not, Bool.or_eq_true] at this
  omega
theorem FinX_S4 {a b u d : IX} {s : S4} (h1 : a.val = s.a) (h2 : b.val = s.b) (h3 : u.val = s.c) (h4 : d.val = s.d) : FinX (.agg (S4.X Ar.real s)) [] (.agg [.i .i64 a, .i .i64 b, .i .i64 u, .i .i64 d]) [] := .pure fun _ => by simp only [S4.X, X.toD, X.toDL, h1, h2, h3, h4]; rfl
theorem x_sumsOf (v : List Part) (hv : v.length ≤ 1048576) : XC Tryz.prog 49 [.ro (SL Ar.real Part.X v)] [] (.agg (S4.X Ar.real (sumsOf v))) [] := by
  have hx := x_vec_Right v (by omega)
  unfold sumsOf
  by_cases h0 : vecRight v = true
  · rw [if_pos h0]
    have hat := fun i (hi : i < v.length) => vecRight_at h0 hi
    rw [h0] at hx
    clear h0
    have hm0 : ofTo v 0 = ⟨0, 0, 0, 0⟩ := rfl
    have hm1 : ∀ k, ofTo v (k + 1) = (ofTo v k).addAt (v.getD k default).kind (v.getD k default).amount := fun _ => rfl
    generalize ofTo v = M at *
    (refine XC.of_body (dt49) Tryz.func49 rfl Tryz.ntmps49 mixed (T := tl49) tk49 (by kernel_rfl) (by simp) rfl rfl rfl rfl rfl ?_; rintro o ho P hP c K hK; have hm : P.follows .mixedOrders = true := hP ▸ mixed; have hT : TOk P tl49 := hP ▸ tk49; (try rw [← ho]); cbv; (repeat (refine StopN.mk ?_; cbv)))
    repeat' (first | (refine Br.mk (fun hb => ?_) (fun hb => ?_) <;> ((try rw [ho] at hb); (try dsimp only [Ar.real, IX.vo] at hb); (try simp only [QB2] at hb); (try simp only [QBo, beq_iff_eq, beq_eq_false_iff_ne, ne_eq] at hb))) | (refine StopN.mk ?_; cbv) | ((first | refine CallI.pure hP hx fn47 rfl rfl (by rw [ho]) ?_ | refine CallN.pure hP hx fn47 rfl rfl (by rw [ho]) ?_); cbv) | (refine hK _ _ ?_) | (refine NeedT.mk ?_ ?_))
    · exact absurd ‹true = false› (by decide)
    refine LoopN.over (o := o) (D := dt49) ho hm hT (by kernel_rfl) (fun a : Nat => [(12, xn a)]) (fun a => [(1, .var [xi (M a).a, xi (M a).b, xi (M a).c, xi (M a).d] 84)]) (fun _ => []) (fun a => a ≤ v.length) (fun a => v.length - a) 0 (by omega) ?_ ?_
    · (refine ⟨?_, ?_, ?_, ?_⟩ <;> cbv <;> repeat' (first | trivial | exact EqX.rfl' | exact EqO.rfl' | apply And.intro | ((try clear hR3); (try clear hR2); (try clear hR); (try clear hK); (try simp only [ncCast] at *); (try simp only [castI_eq] at *); refine EqX.i ?_; (try rw [ho]); (try dsimp only [Ar.real, IX.vo, IX.val, BX.val, IX.toN]); (try simp only [QB2]); (repeat rw [wrap_i64 (by omega) (by omega)]); omega) | exact ⟨by rw [hm0]; rfl⟩))
    · rintro i hi R hR
      have h1 := hat i
      have h2 := hm1 i
      cbv
      repeat' (first | (refine Br.mk (fun hb => ?_) (fun hb => ?_) <;> ((try rw [ho] at hb); (try dsimp only [Ar.real, IX.vo] at hb); (try simp only [QB2] at hb); (try simp only [QBo, beq_iff_eq, beq_eq_false_iff_ne, ne_eq] at hb))) | (refine StopN.mk ?_; cbv) | ((first | refine CallI.pure hP (x_vec_Right _ ‹_›) fn47 (by first | rfl | (rw [ho]; try rfl)) (by rfl) (by first | rfl | (rw [ho]; try rfl)) ?_ | refine CallN.pure hP (x_vec_Right _ ‹_›) fn47 (by first | rfl | (rw [ho]; try rfl)) (by rfl) (by first | rfl | (rw [ho]; try rfl)) ?_); (try rw [← ho]); generalize hr : vecRight _ = r; (try rw [ho] at hr); (try dsimp only [Ar.real, IX.vo] at hr); (try simp only [QB2] at hr); cbv) | (refine hK _ _ ?_) | (refine NeedT.mk ?_ ?_))
      any_goals (((try clear hR3); (try clear hR2); (try clear hR); (try clear hK); (try simp only [ncCast] at *); (try simp only [castI_eq] at *); (try rw [ho]); (try dsimp only [Ar.real, IX.vo, IX.val, BX.val, IX.toN]); (try simp only [QB2]); (try simp only [decide_eq_true_eq]); (all_goals (repeat rw [wrap_i64 (by omega) (by omega)])); (all_goals (first | omega | (simp only [Int.ofNat_eq_natCast]; omega)))); done)
      · refine hR _ (i + 1) (by show v.length - (i + 1) < v.length - i; omega) (by show i + 1 ≤ v.length; omega) ?_
        (refine ⟨?_, ?_, ?_, ?_⟩ <;> cbv <;> repeat' (first | trivial | exact EqX.rfl' | exact EqO.rfl' | apply And.intro | ((try clear hR3); (try clear hR2); (try clear hR); (try clear hK); (try simp only [ncCast] at *); (try simp only [castI_eq] at *); refine EqX.i ?_; (try rw [ho]); (try dsimp only [Ar.real, IX.vo, IX.val, BX.val, IX.toN]); (try simp only [QB2]); (repeat rw [wrap_i64 (by omega) (by omega)]); omega) | exact ⟨by rw [h2, ho]; simp only [OX.toOb, X.toDL, X.toD]; rfl⟩))
      · obtain rfl : i = v.length := by omega
        exact FinX_S4 rfl rfl rfl rfl
  · rw [if_neg h0]
    generalize vecRight v = b at *
    (refine XC.of_body (dt49) Tryz.func49 rfl Tryz.ntmps49 mixed (T := tl49) tk49 (by kernel_rfl) (by simp) rfl rfl rfl rfl rfl ?_; rintro o ho P hP c K hK; have hm : P.follows .mixedOrders = true := hP ▸ mixed; have hT : TOk P tl49 := hP ▸ tk49; (try rw [← ho]); cbv; (repeat (refine StopN.mk ?_; cbv)))
    repeat' (first | (refine Br.mk (fun hb => ?_) (fun hb => ?_) <;> ((try rw [ho] at hb); (try dsimp only [Ar.real, IX.vo] at hb); (try simp only [QB2] at hb); (try simp only [QBo, beq_iff_eq, beq_eq_false_iff_ne, ne_eq] at hb))) | (refine StopN.mk ?_; cbv) | ((first | refine CallI.pure hP hx fn47 rfl rfl (by rw [ho]) ?_ | refine CallN.pure hP hx fn47 rfl rfl (by rw [ho]) ?_); cbv) | (refine hK _ _ ?_) | (refine NeedT.mk ?_ ?_))
    all_goals first
      | exact FinX_S4 rfl rfl rfl rfl
      | exact absurd hb h0
end Go.Proofs.YtddgcegimmcbgaaGreat.Sy
namespace Go.Proofs.YtddgcegimmcbgaaGreat.Sy
open Go Go.Sy Go.Proofs.YtddgcegimmcbgaaGreat
theorem FinX_rb {r : RR} {l : List Part} {y : BX} {s : Bool} (h : r.rows = (SL Ar.real Part.X l).rows) (h' : y.val = s) : FinX (.tup [.ro (SL Ar.real Part.X l), xb s]) [] (.tup [.ro r, .b y]) [] := .pure fun _ => by
  simp only [X.toD, X.toDL, h, h']
  rfl
theorem rows_nil_Part : (RR.lits []).rows = (SL Ar.real Part.X ([] : List Part)).rows := rows_nil_SL Ar.real rfl Part.X
theorem rows_tail {o : Ar} (ho : o = Ar.real) {bs bs' : List Part} (h : bs' = bs.tail) : (RR.fn (o.subN (o.len bs) 1) fun i => Part.X o (o.nth bs (o.addN 1 i))).rows = (SL o Part.X bs').rows := by
  subst ho
  subst h
  refine rows_fn_SL _ rfl Part.X _ _ _ (by show bs.length - 1 = _; simp) ?_
  intro i hi
  have e : bs.getD (1 + i) default = bs.tail.getD i default := by
    cases bs with
    | nil => rfl
    | cons x xs => rw [Nat.add_comm]; simp
  show X.toCL (Part.X Ar.real (bs.getD (1 + i) default)) = _
  rw [e]
end Go.Proofs.YtddgcegimmcbgaaGreat.Sy
namespace Go.Proofs.YtddgcegimmcbgaaGreat.Sy
open Go Go.Sy Go.Proofs.YtddgcegimmcbgaaGreat
structure Want where
  weight : Int
  need : List Part
  deriving DecidableEq
instance : Inhabited Want := ⟨⟨0, []⟩⟩
def foldAWant_weight (e : Want) := (by
  have h : PLift (e.weight = e.weight) := ⟨rfl⟩
  conv at h => arg 1; lhs; delta Want.weight
  exact h)
theorem foldWant_weight (e : Want) : type_of% (foldAWant_weight e).down := (foldAWant_weight e).down
def foldAWant_need (e : Want) := (by
  have h : PLift (e.need = e.need) := ⟨rfl⟩
  conv at h => arg 1; lhs; delta Want.need
  exact h)
theorem foldWant_need (e : Want) : type_of% (foldAWant_need e).down := (foldAWant_need e).down
theorem foldWant : (⟨0, []⟩ : Want) = default := rfl
theorem QB5 : type_of% (And.intro @foldWant (And.intro @foldWant_weight (And.intro @foldWant_need (QB2)))) := And.intro @foldWant (And.intro @foldWant_weight (And.intro @foldWant_need (QB2)))
def Want.X (o : Ar) (w : Want) : List X := [xi w.weight, .ro (SL o Part.X w.need)]
def PV.X (o : Ar) (v : List Part) : List X := [.ro (SL o Part.X v)]
structure Prof where
  ags : List (List Part)
  wants : List Want
  lo : S4
def Prof.X (o : Ar) (p : Prof) : List X := [.ro (SL o PV.X p.ags), .ro (SL o Want.X p.wants), xi p.lo.a, xi p.lo.b, xi p.lo.c, xi p.lo.d]
end Go.Proofs.YtddgcegimmcbgaaGreat.Sy
namespace Go.Proofs.YtddgcegimmcbgaaGreat.Sy
open Go Go.Sy Go.Proofs.YtddgcegimmcbgaaGreat
end Go.Proofs.YtddgcegimmcbgaaGreat.Sy
namespace Go.Proofs.YtddgcegimmcbgaaGreat.Sy
open Go Go.Sy Go.Proofs.YtddgcegimmcbgaaGreat
structure Shr where
  num : Int
  den : Int
  weight : Int
  deriving DecidableEq
instance : Inhabited Shr := ⟨⟨0, 0, 0⟩⟩
def foldAShr_num (e : Shr) := (by
  have h : PLift (e.num = e.num) := ⟨rfl⟩
  conv at h => arg 1; lhs; delta Shr.num
  exact h)
theorem foldShr_num (e : Shr) : type_of% (foldAShr_num e).down := (foldAShr_num e).down
def foldAShr_den (e : Shr) := (by
  have h : PLift (e.den = e.den) := ⟨rfl⟩
  conv at h => arg 1; lhs; delta Shr.den
  exact h)
theorem foldShr_den (e : Shr) : type_of% (foldAShr_den e).down := (foldAShr_den e).down
def foldAShr_weight (e : Shr) := (by
  have h : PLift (e.weight = e.weight) := ⟨rfl⟩
  conv at h => arg 1; lhs; delta Shr.weight
  exact h)
theorem foldShr_weight (e : Shr) : type_of% (foldAShr_weight e).down := (foldAShr_weight e).down
theorem foldShr : (⟨0, 0, 0⟩ : Shr) = default := rfl
theorem QB7 : type_of% (And.intro @foldShr (And.intro @foldShr_num (And.intro @foldShr_den (And.intro @foldShr_weight (QB5))))) := And.intro @foldShr (And.intro @foldShr_num (And.intro @foldShr_den (And.intro @foldShr_weight (QB5))))
def Shr.X (_ : Ar) (s : Shr) : List X := [xi s.num, xi s.den, xi s.weight]
def shrOf (a t : S4) (w : Int) : Shr := ⟨(sumsDom a t).num, (sumsDom a t).den, w⟩
theorem FinX_shr {a b u : IX} {s : Shr} (h1 : a.val = s.num) (h2 : b.val = s.den) (h3 : u.val = s.weight) : FinX (.agg (Shr.X Ar.real s)) [] (.agg [.i .i64 a, .i .i64 b, .i .i64 u]) [] := .pure fun _ => by simp only [Shr.X, X.toD, X.toDL, h1, h2, h3]; rfl
theorem x_shrOf (a t : S4) (w : Int) : XC Tryz.prog 72 [.agg (S4.X Ar.real a), .agg (S4.X Ar.real t), xi w] [] (.agg (Shr.X Ar.real (shrOf a t w))) [] := by
  have hd := x_sumsDom a t
  unfold shrOf
  generalize sumsDom a t = d at *
  obtain ⟨a1, a2, a3, a4⟩ := a
  obtain ⟨t1, t2, t3, t4⟩ := t
  (refine XC.of_body ([]) Tryz.func72 rfl Tryz.ntmps72 mixed (T := tl72) tk72 (by kernel_rfl) (by simp) rfl rfl rfl rfl rfl ?_; rintro o ho P hP c K hK; have hm : P.follows .mixedOrders = true := hP ▸ mixed; have hT : TOk P tl72 := hP ▸ tk72; (try rw [← ho]); cbv; (repeat (refine StopN.mk ?_; cbv)))
  rw [← ho] at hd
  repeat' (first | (refine Br.mk (fun hb => ?_) (fun hb => ?_) <;> ((try rw [ho] at hb); (try dsimp only [Ar.real, IX.vo] at hb); (try simp only [QB7] at hb); (try simp only [QBo, beq_iff_eq, beq_eq_false_iff_ne, ne_eq] at hb))) | (refine StopN.mk ?_; cbv) | (refine CallI.pure hP hd fn100 rfl rfl rfl ?_; cbv) | (refine hK _ _ ?_) | (refine NeedT.mk ?_ ?_))
  exact FinX_shr rfl rfl rfl
def shrRight (s : Shr) : Bool := fracRight s.num s.den && decide (s.num ≤ 9007199254740992 ∧ s.den ≤ 9007199254740992 ∧ 1 ≤ s.weight ∧ s.weight ≤ 1000)
theorem x_shrRight (s : Shr) : XC Tryz.prog 75 [.agg (Shr.X Ar.real s)] [] (xb (shrRight s)) [] := by
  obtain ⟨n, d, w⟩ := s
  have hf := x_fracRight n d
  unfold shrRight
  dsimp only
  generalize fracRight n d = F at *
  (refine XC.of_body ([]) Tryz.func75 rfl Tryz.ntmps75 mixed (T := tl75) tk75 (by kernel_rfl) (by simp) rfl rfl rfl rfl rfl ?_; rintro o ho P hP c K hK; have hm : P.follows .mixedOrders = true := hP ▸ mixed; have hT : TOk P tl75 := hP ▸ tk75; (try rw [← ho]); cbv; (repeat (refine StopN.mk ?_; cbv)))
  repeat' (first | (refine Br.mk (fun hb => ?_) (fun hb => ?_) <;> ((try rw [ho] at hb); (try dsimp only [Ar.real, IX.vo] at hb); (try simp only [QB7] at hb); (try simp only [QBo, beq_iff_eq, beq_eq_false_iff_ne, ne_eq] at hb))) | (refine StopN.mk ?_; cbv) | (refine CallI.pure hP hf fn103 rfl rfl rfl ?_; cbv) | (refine hK _ _ ?_) | (refine NeedT.mk ?_ ?_))
  all_goals
    refine .b ?_
    ((try clear hR3); (try clear hR2); (try clear hR); (try clear hK); (try simp only [ncCast] at *); (try simp only [castI_eq] at *); (try rw [ho]); (try dsimp only [Ar.real, IX.vo, IX.val, BX.val, IX.toN]); (try simp only [QB7]))
    simp_all
  all_goals omega
end Go.Proofs.YtddgcegimmcbgaaGreat.Sy
namespace Go.Proofs.YtddgcegimmcbgaaGreat.Sy
open Go Go.Sy Go.Proofs.YtddgcegimmcbgaaGreat
end Go.Proofs.YtddgcegimmcbgaaGreat.Sy
namespace Go.Proofs.YtddgcegimmcbgaaGreat.Sy
open Go Go.Sy Go.Proofs.YtddgcegimmcbgaaGreat
end Go.Proofs.YtddgcegimmcbgaaGreat.Sy
namespace Go.Proofs.YtddgcegimmcbgaaGreat.Sy
open Go Go.Sy Go.Proofs.YtddgcegimmcbgaaGreat
theorem x_r04Right (k r : Int) : XC Tryz.prog 92 [.agg [xi k, xi r]] [] (xb (slotRight k r)) [] := by
  (refine XC.of_body ([]) Tryz.func92 rfl Tryz.ntmps92 mixed (T := tl92) tk92 (by kernel_rfl) (by simp) rfl rfl rfl rfl rfl ?_; rintro o ho P hP c K hK; have hm : P.follows .mixedOrders = true := hP ▸ mixed; have hT : TOk P tl92 := hP ▸ tk92; (try rw [← ho]); cbv; (repeat (refine StopN.mk ?_; cbv)))
  repeat' (first | (refine Br.mk (fun hb => ?_) (fun hb => ?_) <;> ((try rw [ho] at hb); (try dsimp only [Ar.real, IX.vo] at hb); (try simp only [QB7] at hb); (try simp only [QBo, beq_iff_eq, beq_eq_false_iff_ne, ne_eq] at hb))) | (refine StopN.mk ?_; cbv) | (refine hK _ _ ?_) | (refine NeedT.mk ?_ ?_))
  all_goals (refine .b ?_; ((try clear hR3); (try clear hR2); (try clear hR); (try clear hK); (try simp only [ncCast] at *); (try simp only [castI_eq] at *); (try rw [ho]); (try dsimp only [Ar.real, IX.vo, IX.val, BX.val, IX.toN]); (try simp only [QB7])); simp [slotRight, *])
  all_goals omega
theorem x_r04Cmp (a b c d : Int) : XC Tryz.prog 94 [.agg [xi a, xi b], .agg [xi c, xi d]] [] (xi (slotCmp a b c d)) [] := by
  (refine XC.of_body ([]) Tryz.func94 rfl Tryz.ntmps94 mixed (T := tl94) tk94 (by kernel_rfl) (by simp) rfl rfl rfl rfl rfl ?_; rintro o ho P hP c K hK; have hm : P.follows .mixedOrders = true := hP ▸ mixed; have hT : TOk P tl94 := hP ▸ tk94; (try rw [← ho]); cbv; (repeat (refine StopN.mk ?_; cbv)))
  repeat' (first | (refine Br.mk (fun hb => ?_) (fun hb => ?_) <;> ((try rw [ho] at hb); (try dsimp only [Ar.real, IX.vo] at hb); (try simp only [QB7] at hb); (try simp only [QBo, beq_iff_eq, beq_eq_false_iff_ne, ne_eq] at hb))) | (refine StopN.mk ?_; cbv) | (refine hK _ _ ?_) | (refine NeedT.mk ?_ ?_))
  all_goals
    refine .i ?_
    ((try clear hR3); (try clear hR2); (try clear hR); (try clear hK); (try simp only [ncCast] at *); (try simp only [castI_eq] at *); (try rw [ho]); (try dsimp only [Ar.real, IX.vo, IX.val, BX.val, IX.toN]); (try simp only [QB7]))
    (try simp only [Bool.and_eq_true, Bool.and_eq_false_iff, decide_eq_true_eq, decide_eq_false_iff_not] at *)
    unfold slotCmp
    repeat' split
    all_goals omega
theorem x_r05slot (k r a : Int) : XC Tryz.prog 93 [.agg [xi k, xi r, xi a]] [] (.agg [xi k, xi r]) [] := by
  (refine XC.of_body ([]) Tryz.func93 rfl Tryz.ntmps93 mixed (T := tl93) tk93 (by kernel_rfl) (by simp) rfl rfl rfl rfl rfl ?_; rintro o ho P hP c K hK; have hm : P.follows .mixedOrders = true := hP ▸ mixed; have hT : TOk P tl93 := hP ▸ tk93; (try rw [← ho]); cbv; (repeat (refine StopN.mk ?_; cbv)))
  repeat' (first | (refine Br.mk (fun hb => ?_) (fun hb => ?_) <;> ((try rw [ho] at hb); (try dsimp only [Ar.real, IX.vo] at hb); (try simp only [QB7] at hb); (try simp only [QBo, beq_iff_eq, beq_eq_false_iff_ne, ne_eq] at hb))) | (refine StopN.mk ?_; cbv) | (refine hK _ _ ?_) | (refine NeedT.mk ?_ ?_))
  all_goals exact .pure fun _ => rfl
theorem x_r05Right (v : List Part) (hv : v.length ≤ 1048576) : XC Tryz.prog 61 [.ro (SL Ar.real Part.X v)] [] (xb (vecRight v)) [] := by
  (refine XC.of_body (dt61) Tryz.func61 rfl Tryz.ntmps61 mixed (T := tl61) tk61 (by kernel_rfl) (by simp) rfl rfl rfl rfl rfl ?_; rintro o ho P hP c K hK; have hm : P.follows .mixedOrders = true := hP ▸ mixed; have hT : TOk P tl61 := hP ▸ tk61; (try rw [← ho]); cbv; (repeat (refine StopN.mk ?_; cbv)))
  refine LoopN.over (o := o) (D := dt61) ho hm hT (by kernel_rfl) (fun i : Nat => [(3, xn i)]) (fun _ => []) (fun _ => []) (fun i => i ≤ v.length ∧ ∀ j, j < i → badAt v j = false) (fun i => v.length - i) 0 ⟨Nat.zero_le _, fun j hj => by omega⟩ ?_ ?_
  · (refine ⟨?_, ?_, ?_, ?_⟩ <;> cbv <;> repeat' (first | trivial | exact EqX.rfl' | exact EqO.rfl' | apply And.intro | ((try clear hR3); (try clear hR2); (try clear hR); (try clear hK); (try simp only [ncCast] at *); (try simp only [castI_eq] at *); refine EqX.i ?_; (try rw [ho]); (try dsimp only [Ar.real, IX.vo, IX.val, BX.val, IX.toN]); (try simp only [QB7]); (repeat rw [wrap_i64 (by omega) (by omega)]); omega)))
  · rintro i ⟨hi, hno⟩ R hR
    cbv
    repeat' (first | (refine Br.mk (fun hb => ?_) (fun hb => ?_) <;> ((try rw [ho] at hb); (try dsimp only [Ar.real, IX.vo] at hb); (try simp only [QB7] at hb); (try simp only [QBo, beq_iff_eq, beq_eq_false_iff_ne, ne_eq] at hb))) | (refine StopN.mk ?_; cbv) | ((first | refine CallI.pure hP (x_r04Right _ _) fn92 (by first | rfl | (rw [ho]; try rfl)) (by rfl) (by first | rfl | (rw [ho]; try rfl)) ?_ | refine CallN.pure hP (x_r04Right _ _) fn92 (by first | rfl | (rw [ho]; try rfl)) (by rfl) (by first | rfl | (rw [ho]; try rfl)) ?_); (try rw [← ho]); generalize hr : slotRight _ _ = r; (try rw [ho] at hr); (try dsimp only [Ar.real, IX.vo] at hr); (try simp only [QB7] at hr); cbv) | ((first | refine CallI.pure hP (x_r05slot _ _ _) fn93 (by first | rfl | (rw [ho]; try rfl)) (by rfl) (by first | rfl | (rw [ho]; try rfl)) ?_ | refine CallN.pure hP (x_r05slot _ _ _) fn93 (by first | rfl | (rw [ho]; try rfl)) (by rfl) (by first | rfl | (rw [ho]; try rfl)) ?_); (try rw [← ho]); cbv) | ((first | refine CallI.pure hP (x_r04Cmp _ _ _ _) fn94 (by first | rfl | (rw [ho]; try rfl)) (by rfl) (by first | rfl | (rw [ho]; try rfl)) ?_ | refine CallN.pure hP (x_r04Cmp _ _ _ _) fn94 (by first | rfl | (rw [ho]; try rfl)) (by rfl) (by first | rfl | (rw [ho]; try rfl)) ?_); (try rw [← ho]); generalize hr : slotCmp _ _ _ _ = r; (try rw [ho] at hr); (try dsimp only [Ar.real, IX.vo] at hr); (try simp only [QB7] at hr); cbv) | (refine hK _ _ ?_) | (refine NeedT.mk ?_ ?_))
    all_goals first
      | ((try clear hR3); (try clear hR2); (try clear hR); (try clear hK); (try simp only [ncCast] at *); (try simp only [castI_eq] at *); (try rw [ho]); (try dsimp only [Ar.real, IX.vo, IX.val, BX.val, IX.toN]); (try simp only [QB7]); (try simp only [decide_eq_true_eq]); (all_goals (repeat rw [wrap_i64 (by omega) (by omega)])); (all_goals (first | omega | (simp only [Int.ofNat_eq_natCast]; omega))))
      | (have hlt : i < v.length := by omega
         refine .b ?_
         ((try clear hR3); (try clear hR2); (try clear hR); (try clear hK); (try simp only [ncCast] at *); (try simp only [castI_eq] at *); (try rw [ho]); (try dsimp only [Ar.real, IX.vo, IX.val, BX.val, IX.toN]); (try simp only [QB7]))
         rw [vecRight, nextAt_some (k := i) (Nat.zero_le _) hlt (by ((try clear hR3); (try clear hR2); (try clear hR); (try clear hK); (try simp only [ncCast] at *); (try simp only [castI_eq] at *)); (try rw [wrap_i64 (by omega) (by omega), show ((i : Int) - 1).toNat = i - 1 by omega] at hr); simp only [badAt, amountRight]; clear hno; first | (simp_all; done) | (simp_all; omega)) (fun j _ h => hno j h)]
         rfl)
      | (refine .b ?_; ((try clear hR3); (try clear hR2); (try clear hR); (try clear hK); (try simp only [ncCast] at *); (try simp only [castI_eq] at *); (try rw [ho]); (try dsimp only [Ar.real, IX.vo, IX.val, BX.val, IX.toN]); (try simp only [QB7])); rw [vecRight, nextAt_none (fun j _ h => hno j (by omega))]; rfl)
      | (refine hR _ (i + 1) (by omega) ⟨by omega, fun j h1 => ?_⟩ ?_
         · rcases Nat.lt_or_ge j i with h3 | h3
           · exact hno j h3
           · obtain rfl : j = i := by omega
             ((try clear hR3); (try clear hR2); (try clear hR); (try clear hK); (try simp only [ncCast] at *); (try simp only [castI_eq] at *))
             (try rw [wrap_i64 (by omega) (by omega), show ((j : Int) - 1).toNat = j - 1 by omega] at hr)
             simp only [badAt, amountRight]
             clear hno
             first | (simp_all; done) | (simp_all; omega)
         · (refine ⟨?_, ?_, ?_, ?_⟩ <;> cbv <;> repeat' (first | trivial | exact EqX.rfl' | exact EqO.rfl' | apply And.intro | ((try clear hR3); (try clear hR2); (try clear hR); (try clear hK); (try simp only [ncCast] at *); (try simp only [castI_eq] at *); refine EqX.i ?_; (try rw [ho]); (try dsimp only [Ar.real, IX.vo, IX.val, BX.val, IX.toN]); (try simp only [QB7]); (repeat rw [wrap_i64 (by omega) (by omega)]); omega))))
end Go.Proofs.YtddgcegimmcbgaaGreat.Sy
namespace Go.Proofs.YtddgcegimmcbgaaGreat.Sy
open Go Go.Sy Go.Proofs.YtddgcegimmcbgaaGreat
theorem upLr' : ∀ l : List OX, upL l l
  | [] => trivial
  | a :: l => ⟨fun c => upO_refl _, upLr' l⟩
theorem up_eqr' {a b : OX} {l r : List OX} (h : ∀ c, EqO c a b) (hr : upL l r) : upL (a :: l) (b :: r) := ⟨fun c => by obtain ⟨e⟩ := h c; rw [e]; exact upO_refl _, hr⟩
def rWith (l : List Part) (k r n : Int) : List Part := if n = 0 then l else l ++ [⟨k, r, n⟩]
def rWv (v : Nat) (n : Int) : Nat := if n = 0 then v else v + 1
theorem x_r05with (o : Ar) (ho : o = Ar.real) (l : List Part) (v : Nat) (k r n : Int) (hl : l.length ≤ 1048576) : XC Tryz.prog 110 [.own (.out 0) v, .agg [xi k, xi r], xi n] [.row v 69 3 (SL o Part.X l)] (.own (.out 0) (rWv v n)) [.row (rWv v n) 69 3 (SL o Part.X (rWith l k r n))] := by
  obtain ⟨l', hl'⟩ : ∃ q, q = rWith l k r n := ⟨_, rfl⟩
  obtain ⟨v', hv'⟩ : ∃ q, q = rWv v n := ⟨_, rfl⟩
  rw [← hl', ← hv']
  unfold rWith at hl'
  unfold rWv at hv'
  (refine XC.of_body ([]) Tryz.func110 rfl Tryz.ntmps110 mixed (T := tl110) tk110 (by kernel_rfl) (by simp) rfl rfl rfl rfl rfl ?_; rintro o2 ho2 P hP c K hK; have hm : P.follows .mixedOrders = true := hP ▸ mixed; have hT : TOk P tl110 := hP ▸ tk110; (try rw [← ho2]); have e2 : o = o2 := ho.trans ho2.symm; subst e2; cbv; (repeat (refine StopN.mk ?_; cbv)))
  repeat' (first | (refine Br.mk (fun hb => ?_) (fun hb => ?_) <;> ((try rw [ho] at hb); (try dsimp only [Ar.real, IX.vo] at hb); (try simp only [QB7] at hb); (try simp only [QBo, beq_iff_eq, beq_eq_false_iff_ne, ne_eq] at hb))) | (refine StopN.mk ?_; cbv) | (refine hK _ _ ?_) | (refine NeedT.mk ?_ ?_))
  any_goals (((try clear hR3); (try clear hR2); (try clear hR); (try clear hK); (try simp only [ncCast] at *); (try simp only [castI_eq] at *); (try rw [ho]); (try dsimp only [Ar.real, IX.vo, IX.val, BX.val, IX.toN]); (try simp only [QB7]); (try simp only [decide_eq_true_eq]); (all_goals (repeat rw [wrap_i64 (by omega) (by omega)])); (all_goals (first | omega | (simp only [Int.ofNat_eq_natCast]; omega)))); done)
  · rw [if_pos hb] at hl' hv'
    subst hl'
    subst hv'
    exact ⟨fun _ => rfl, upLr' _⟩
  · rw [if_neg hb] at hl' hv'
    subst hv'
    exact ⟨fun _ => rfl, up_eqr' (fun c => EqO.snoc ho Part.X l l' _ _ rfl hl' rfl) (upLr' _)⟩
theorem rWith_len (l : List Part) (k r n : Int) : (rWith l k r n).length ≤ l.length + 1 := by
  unfold rWith
  split <;> simp
theorem FinX_rb2 {l : List Part} {r : RR} {s : Bool} {y : BX} (h : r.rows = (SL Ar.real Part.X l).rows) (h' : y.val = s) : FinX (.tup [.ro (SL Ar.real Part.X l), xb s]) [] (.tup [.ro r, .b y]) [] := .pure fun _ => by
  simp only [X.toD, X.toDL, h, h']
  rfl
end Go.Proofs.YtddgcegimmcbgaaGreat.Sy
namespace Go.Proofs.YtddgcegimmcbgaaGreat.Sy
open Go Go.Sy Go.Proofs.YtddgcegimmcbgaaGreat
theorem x_r06Of (v : List Part) (hv : v.length ≤ 1048576) : XC Tryz.prog 62 [.ro (SL Ar.real Part.X v)] [] (.agg (S4.X Ar.real (sumsOf v))) [] := by
  have hx := x_r05Right v hv
  unfold sumsOf
  by_cases h0 : vecRight v = true
  · rw [if_pos h0]
    have hat := fun i (hi : i < v.length) => vecRight_at h0 hi
    rw [h0] at hx
    clear h0
    have hm0 : ofTo v 0 = ⟨0, 0, 0, 0⟩ := rfl
    have hm1 : ∀ k, ofTo v (k + 1) = (ofTo v k).addAt (v.getD k default).kind (v.getD k default).amount := fun _ => rfl
    generalize ofTo v = M at *
    (refine XC.of_body (dt62) Tryz.func62 rfl Tryz.ntmps62 mixed (T := tl62) tk62 (by kernel_rfl) (by simp) rfl rfl rfl rfl rfl ?_; rintro o ho P hP c K hK; have hm : P.follows .mixedOrders = true := hP ▸ mixed; have hT : TOk P tl62 := hP ▸ tk62; (try rw [← ho]); cbv; (repeat (refine StopN.mk ?_; cbv)))
    rw [← ho] at hx
    repeat' (first | (refine Br.mk (fun hb => ?_) (fun hb => ?_) <;> ((try rw [ho] at hb); (try dsimp only [Ar.real, IX.vo] at hb); (try simp only [QB7] at hb); (try simp only [QBo, beq_iff_eq, beq_eq_false_iff_ne, ne_eq] at hb))) | (refine StopN.mk ?_; cbv) | ((first | refine CallI.pure hP hx fn61 rfl rfl rfl ?_ | refine CallN.pure hP hx fn61 rfl rfl rfl ?_); cbv) | (refine hK _ _ ?_) | (refine NeedT.mk ?_ ?_))
    · exact absurd ‹true = false› (by decide)
    refine LoopN.over (o := o) (D := dt62) ho hm hT (by kernel_rfl) (fun a : Nat => [(4, xn a)]) (fun a => [(1, .var [xi (M a).a, xi (M a).b, xi (M a).c, xi (M a).d] 22)]) (fun _ => []) (fun a => a ≤ v.length) (fun a => v.length - a) 0 (by omega) ?_ ?_
    · (refine ⟨?_, ?_, ?_, ?_⟩ <;> cbv <;> repeat' (first | trivial | exact EqX.rfl' | exact EqO.rfl' | apply And.intro | ((try clear hR3); (try clear hR2); (try clear hR); (try clear hK); (try simp only [ncCast] at *); (try simp only [castI_eq] at *); refine EqX.i ?_; (try rw [ho]); (try dsimp only [Ar.real, IX.vo, IX.val, BX.val, IX.toN]); (try simp only [QB7]); (repeat rw [wrap_i64 (by omega) (by omega)]); omega) | exact ⟨by rw [hm0]; rfl⟩))
    · rintro i hi R hR
      have h1 := hat i
      have h2 := hm1 i
      cbv
      repeat' (first | (refine Br.mk (fun hb => ?_) (fun hb => ?_) <;> ((try rw [ho] at hb); (try dsimp only [Ar.real, IX.vo] at hb); (try simp only [QB7] at hb); (try simp only [QBo, beq_iff_eq, beq_eq_false_iff_ne, ne_eq] at hb))) | (refine StopN.mk ?_; cbv) | ((first | refine CallI.pure hP (x_r05Right _ ‹_›) fn61 (by first | rfl | (rw [ho]; try rfl)) (by rfl) (by first | rfl | (rw [ho]; try rfl)) ?_ | refine CallN.pure hP (x_r05Right _ ‹_›) fn61 (by first | rfl | (rw [ho]; try rfl)) (by rfl) (by first | rfl | (rw [ho]; try rfl)) ?_); (try rw [← ho]); generalize hr : vecRight _ = r; (try rw [ho] at hr); (try dsimp only [Ar.real, IX.vo] at hr); (try simp only [QB7] at hr); cbv) | (refine hK _ _ ?_) | (refine NeedT.mk ?_ ?_))
      any_goals (((try clear hR3); (try clear hR2); (try clear hR); (try clear hK); (try simp only [ncCast] at *); (try simp only [castI_eq] at *); (try rw [ho]); (try dsimp only [Ar.real, IX.vo, IX.val, BX.val, IX.toN]); (try simp only [QB7]); (try simp only [decide_eq_true_eq]); (all_goals (repeat rw [wrap_i64 (by omega) (by omega)])); (all_goals (first | omega | (simp only [Int.ofNat_eq_natCast]; omega)))); done)
      · refine hR _ (i + 1) (by show v.length - (i + 1) < v.length - i; ((try clear hR3); (try clear hR2); (try clear hR); (try clear hK); (try simp only [ncCast] at *); (try simp only [castI_eq] at *)); omega) (by show i + 1 ≤ v.length; ((try clear hR3); (try clear hR2); (try clear hR); (try clear hK); (try simp only [ncCast] at *); (try simp only [castI_eq] at *)); omega) ?_
        (refine ⟨?_, ?_, ?_, ?_⟩ <;> cbv <;> repeat' (first | trivial | exact EqX.rfl' | exact EqO.rfl' | apply And.intro | ((try clear hR3); (try clear hR2); (try clear hR); (try clear hK); (try simp only [ncCast] at *); (try simp only [castI_eq] at *); refine EqX.i ?_; (try rw [ho]); (try dsimp only [Ar.real, IX.vo, IX.val, BX.val, IX.toN]); (try simp only [QB7]); (repeat rw [wrap_i64 (by omega) (by omega)]); omega) | exact ⟨by rw [h2, ho]; simp only [OX.toOb, X.toDL, X.toD]; rfl⟩))
      · obtain rfl : i = v.length := by ((try clear hR3); (try clear hR2); (try clear hR); (try clear hK); (try simp only [ncCast] at *); (try simp only [castI_eq] at *)); omega
        exact FinX_S4 rfl rfl rfl rfl
  · rw [if_neg h0]
    generalize vecRight v = b at *
    (refine XC.of_body (dt62) Tryz.func62 rfl Tryz.ntmps62 mixed (T := tl62) tk62 (by kernel_rfl) (by simp) rfl rfl rfl rfl rfl ?_; rintro o ho P hP c K hK; have hm : P.follows .mixedOrders = true := hP ▸ mixed; have hT : TOk P tl62 := hP ▸ tk62; (try rw [← ho]); cbv; (repeat (refine StopN.mk ?_; cbv)))
    rw [← ho] at hx
    repeat' (first | (refine Br.mk (fun hb => ?_) (fun hb => ?_) <;> ((try rw [ho] at hb); (try dsimp only [Ar.real, IX.vo] at hb); (try simp only [QB7] at hb); (try simp only [QBo, beq_iff_eq, beq_eq_false_iff_ne, ne_eq] at hb))) | (refine StopN.mk ?_; cbv) | ((first | refine CallI.pure hP hx fn61 rfl rfl rfl ?_ | refine CallN.pure hP hx fn61 rfl rfl rfl ?_); cbv) | (refine hK _ _ ?_) | (refine NeedT.mk ?_ ?_))
    all_goals first
      | exact FinX_S4 rfl rfl rfl rfl
      | exact absurd hb h0
end Go.Proofs.YtddgcegimmcbgaaGreat.Sy
namespace Go.Proofs.YtddgcegimmcbgaaGreat.Sy
open Go Go.Sy Go.Proofs.YtddgcegimmcbgaaGreat
end Go.Proofs.YtddgcegimmcbgaaGreat.Sy
namespace Go.Proofs.YtddgcegimmcbgaaGreat.Sy
open Go Go.Sy Go.Proofs.YtddgcegimmcbgaaGreat
def val : List Int → Int
  | [] => 0
  | d :: l => d + 65536 * val l
def DgOk (l : List Int) : Prop := ∀ j, 0 ≤ l.getD j 0 ∧ l.getD j 0 < 65536
theorem DgOk.tail {d : Int} {l : List Int} (h : DgOk (d :: l)) : DgOk l := fun j => by
  have := h (j + 1)
  simpa using this
theorem DgOk.head {d : Int} {l : List Int} (h : DgOk (d :: l)) : 0 ≤ d ∧ d < 65536 := by
  have := h 0
  simpa using this
theorem getD_set (l : List Int) (j k : Nat) (x : Int) (hj : j < l.length) : (l.set j x).getD k 0 = if j = k then x else l.getD k 0 := by
  rw [List.getD_eq_getElem?_getD, List.getElem?_set, List.getD_eq_getElem?_getD]
  split
  · first | rfl | (rw [if_pos (by omega)]; rfl)
  · rfl
theorem DgOk.set {l : List Int} (h : DgOk l) {j : Nat} {x : Int} (hx : 0 ≤ x ∧ x < 65536) : DgOk (l.set j x) := fun k => by
  by_cases hj : j < l.length
  · rw [getD_set l j k x hj]
    split
    · exact hx
    · exact h k
  · rw [List.set_eq_of_length_le (by omega)]
    exact h k
end Go.Proofs.YtddgcegimmcbgaaGreat.Sy

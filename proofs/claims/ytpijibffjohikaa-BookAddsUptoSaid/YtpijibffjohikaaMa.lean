/-
  Amounts, wide products, fractions, sums: contracts. Plain theorems.
-/
import Derived.Test.YtpijibffjohikaaK1
import Derived.Test.YtpijibffjohikaaSyZb
set_option linter.unusedSectionVars false
set_option maxRecDepth 100000
set_option maxHeartbeats 8000000
set_option linter.unusedVariables false
set_option linter.unusedSimpArgs false
namespace Go.Proofs.Ytpijibffjohikaa.Sy
open Go Go.Sy Go.Proofs.Ytpijibffjohikaa
structure Fr where
  num : Int
  den : Int
  deriving DecidableEq
instance : Inhabited Fr := ⟨⟨0, 0⟩⟩
def foldAFr_num (e : Fr) := (by
  have h : PLift (e.num = e.num) := ⟨rfl⟩
  conv at h => arg 1; lhs; delta Fr.num
  exact h)
theorem foldFr_num (e : Fr) : type_of% (foldAFr_num e).down := (foldAFr_num e).down
def foldAFr_den (e : Fr) := (by
  have h : PLift (e.den = e.den) := ⟨rfl⟩
  conv at h => arg 1; lhs; delta Fr.den
  exact h)
theorem foldFr_den (e : Fr) : type_of% (foldAFr_den e).down := (foldAFr_den e).down
theorem foldFr : (⟨0, 0⟩ : Fr) = default := rfl
theorem QB1 : type_of% (And.intro @foldFr (And.intro @foldFr_num (And.intro @foldFr_den (QSyVa)))) := And.intro @foldFr (And.intro @foldFr_num (And.intro @foldFr_den (QSyVa)))
@[reducible] def xu (x : Int) : X := .i .u64 (.s x)
def quantSub (a b : Int) : Int × Bool := if b < 0 ∨ a < b then (0, false) else (IntKind.i64.wrap (a - b), true)
theorem FinX_ib {k : IntKind} {r : Int} {s : Bool} {x : IX} {y : BX} (h : x.val = r) (h' : y.val = s) : FinX (.tup [.i k (.s r), xb s]) [] (.tup [.i k x, .b y]) [] := .pure fun _ => by simp only [X.toD, X.toDL, h, h']; rfl
theorem x_quant_Sub (a b : Int) : XC Try.prog 64 [xi a, xi b] [] (.tup [xi (quantSub a b).1, xb (quantSub a b).2]) [] := by
  (refine XC.of_body ([]) Try.func64 rfl Try.ntmps64 mixed (T := tl64) tk64 (by kernel_rfl) (by simp) rfl rfl rfl rfl rfl ?_; rintro o ho P hP c K hK; have hm : P.follows .mixedOrders = true := hP ▸ mixed; have hT : TOk P tl64 := hP ▸ tk64; (try rw [← ho]); cbv; (repeat (refine StopN.mk ?_; cbv)))
  repeat' (first | (refine Br.mk (fun hb => ?_) (fun hb => ?_) <;> ((try rw [ho] at hb); (try dsimp only [Ar.real, IX.vo] at hb); (try simp only [QB1] at hb); (try simp only [QBo, beq_iff_eq, beq_eq_false_iff_ne, ne_eq] at hb))) | (refine StopN.mk ?_; cbv) | (refine hK _ _ ?_) | (refine NeedT.mk ?_ ?_))
  all_goals
    unfold quantSub
    split
    all_goals first
      | exact FinX_ib rfl rfl
      | (refine FinX_ib ?_ rfl; ((try clear hR3); (try clear hR2); (try clear hR); (try clear hK); (try simp only [ncCast] at *); (try simp only [castI_eq] at *); (try rw [ho]); (try dsimp only [Ar.real, IX.vo, IX.val, BX.val, IX.toN]); (try simp only [QB1])); done)
      | (exfalso; omega)
theorem band_low {a : Int} (h0 : 0 ≤ a) (h1 : a < 18446744073709551616) : ((BitVec.ofInt 64 a &&& BitVec.ofInt 64 4294967295).toNat : Int) = a % 4294967296 := by
  obtain ⟨n, rfl⟩ := Int.eq_ofNat_of_zero_le h0
  have hn : n < 18446744073709551616 := by omega
  rw [BitVec.toNat_and]
  have e1 : (BitVec.ofInt 64 (n : Int)).toNat = n := by
    rw [BitVec.toNat_ofInt]
    omega
  have e2 : (BitVec.ofInt 64 4294967295).toNat = 4294967295 := by decide
  rw [e1, e2]
  have e3 : (4294967295 : Nat) = 2 ^ 32 - 1 := by decide
  rw [e3, Nat.and_two_pow_sub_one_eq_mod]
  omega
theorem wrap_u64 {a : Int} (h0 : 0 ≤ a) (h1 : a < 18446744073709551616) : IntKind.u64.wrap a = a := by
  have e : IntKind.u64.wrap a = a % 18446744073709551616 := by
    first | rfl | simp [IntKind.wrap]
  rw [e]; omega
theorem wrap_u64_mod (a : Int) : IntKind.u64.wrap a = a % 18446744073709551616 := by
  first | rfl | simp [IntKind.wrap]
def mulHi (a b : Int) : Int := a * b / 18446744073709551616
def mulLo (a b : Int) : Int := a * b % 18446744073709551616
theorem mul_core {al ah bl bh : Int} (h1 : 0 ≤ al) (h2 : al < 4294967296) (h3 : 0 ≤ ah) (h4 : ah < 4294967296) (h5 : 0 ≤ bl) (h6 : bl < 4294967296) (h7 : 0 ≤ bh) (h8 : bh < 4294967296) {mid side : Int} (hm : mid = ah * bl + al * bl / 4294967296) (hs : side = al * bh + mid % 4294967296) :
    0 ≤ mid ∧ mid < 18446744073709551616 ∧ 0 ≤ side ∧ side < 18446744073709551616 ∧ ah * bh + mid / 4294967296 + side / 4294967296 = (ah * 4294967296 + al) * (bh * 4294967296 + bl) / 18446744073709551616 ∧
    side % 4294967296 * 4294967296 + al * bl % 4294967296 = (ah * 4294967296 + al) * (bh * 4294967296 + bl) % 18446744073709551616 ∧ 0 ≤ ah * bl ∧ ah * bl ≤ 18446744065119617025 ∧ 0 ≤ al * bl ∧ al * bl ≤ 18446744065119617025 ∧ 0 ≤ al * bh ∧ al * bh ≤ 18446744065119617025 ∧ 0 ≤ ah * bh ∧ ah * bh ≤ 18446744065119617025 := by
  have bd : ∀ x y : Int, 0 ≤ x → x < 4294967296 → 0 ≤ y → y < 4294967296 → 0 ≤ x * y ∧ x * y ≤ 18446744065119617025 := fun x y a1 a2 a3 a4 => by
    refine ⟨Int.mul_nonneg a1 a3, ?_⟩
    have : x * y ≤ 4294967295 * 4294967295 := Int.mul_le_mul (by omega) (by omega) a3 (by decide)
    omega
  obtain ⟨p1, p2⟩ := bd al bl h1 h2 h5 h6
  obtain ⟨q1, q2⟩ := bd ah bl h3 h4 h5 h6
  obtain ⟨r1, r2⟩ := bd al bh h1 h2 h7 h8
  obtain ⟨s1, s2⟩ := bd ah bh h3 h4 h7 h8
  have e : (ah * 4294967296 + al) * (bh * 4294967296 + bl) = ah * bh * 18446744073709551616 + (ah * bl + al * bh) * 4294967296 + al * bl := by
    rw [Int.add_mul, Int.mul_add, Int.mul_add]
    have t1 : ah * 4294967296 * (bh * 4294967296) = ah * bh * 18446744073709551616 := by
      rw [Int.mul_assoc, Int.mul_comm 4294967296, Int.mul_assoc bh, ← Int.mul_assoc]; rfl
    have t2 : ah * 4294967296 * bl = ah * bl * 4294967296 := by rw [Int.mul_assoc, Int.mul_comm 4294967296, ← Int.mul_assoc]
    have t3 : al * (bh * 4294967296) = al * bh * 4294967296 := by rw [Int.mul_assoc]
    rw [t1, t2, t3, Int.add_mul]
    omega
  rw [e]
  generalize al * bl = p at *
  generalize ah * bl = q at *
  generalize al * bh = r at *
  generalize ah * bh = s at *
  subst hm hs
  refine ⟨by omega, by omega, by omega, by omega, by omega, by omega, q1, q2, p1, p2, r1, r2, s1, s2⟩
theorem FinX_agg2 {k1 k2 : IntKind} {a b : Int} {x y : IX} (h1 : x.val = a) (h2 : y.val = b) : FinX (.agg [.i k1 (.s a), .i k2 (.s b)]) [] (.agg [.i k1 x, .i k2 y]) [] := .pure fun _ => by simp only [X.toD, X.toDL, h1, h2]; rfl
theorem x_Mul (a b : Int) (ha : 0 ≤ a ∧ a < 18446744073709551616) (hb' : 0 ≤ b ∧ b < 18446744073709551616) : XC Try.prog 98 [xu a, xu b] [] (.agg [xu (mulHi a b), xu (mulLo a b)]) [] := by
  obtain ⟨al, hal⟩ : ∃ q, q = a % 4294967296 := ⟨_, rfl⟩
  obtain ⟨ah, hah⟩ : ∃ q, q = a / 4294967296 := ⟨_, rfl⟩
  obtain ⟨bl, hbl⟩ : ∃ q, q = b % 4294967296 := ⟨_, rfl⟩
  obtain ⟨bh, hbh⟩ : ∃ q, q = b / 4294967296 := ⟨_, rfl⟩
  have ea : ah * 4294967296 + al = a := by omega
  have eb : bh * 4294967296 + bl = b := by omega
  have hcore := mul_core (al := al) (ah := ah) (bl := bl) (bh := bh) (by omega) (by omega) (by omega) (by omega) (by omega) (by omega) (by omega) (by omega) rfl rfl
  rw [ea, eb] at hcore
  (refine XC.of_body ([]) Try.func98 rfl Try.ntmps98 mixed (T := tl98) tk98 (by kernel_rfl) (by simp) rfl rfl rfl rfl rfl ?_; rintro o ho P hP c K hK; have hm : P.follows .mixedOrders = true := hP ▸ mixed; have hT : TOk P tl98 := hP ▸ tk98; (try rw [← ho]); cbv; (repeat (refine StopN.mk ?_; cbv)))
  repeat' (first | (refine Br.mk (fun hb => ?_) (fun hb => ?_) <;> ((try rw [ho] at hb); (try dsimp only [Ar.real, IX.vo] at hb); (try simp only [QB1] at hb); (try simp only [QBo, beq_iff_eq, beq_eq_false_iff_ne, ne_eq] at hb))) | (refine StopN.mk ?_; cbv) | (refine hK _ _ ?_) | (refine NeedT.mk ?_ ?_))
  any_goals (rw [ho]; exact decide_eq_true (by decide))
  obtain ⟨c1, c2, c3, c4, c5, c6, q1, q2, p1, p2, r1, r2, s1, s2⟩ := hcore
  have l1 : ∀ x : Int, 0 ≤ x → x < 18446744073709551616 → ((BitVec.ofInt IntKind.u64.bits x &&& BitVec.ofInt IntKind.u64.bits 4294967295).toNat : Int) = x % 4294967296 := fun x h0 h1 => band_low h0 h1
  have f1 : ∀ x : Int, x.fdiv (2 ^ (min (Int.toNat 32) IntKind.u64.bits)) = x / 4294967296 := fun x => by
    have e : ((2 : Int) ^ (min (Int.toNat 32) IntKind.u64.bits)) = 4294967296 := by decide
    rw [e, Int.fdiv_eq_ediv_of_nonneg _ (by decide)]
  have f2 : ∀ x : Int, x * 2 ^ (min (Int.toNat 32) IntKind.u64.bits) = x * 4294967296 := fun x => by
    have e : ((2 : Int) ^ (min (Int.toNat 32) IntKind.u64.bits)) = 4294967296 := by decide
    rw [e]
  have wa : IntKind.u64.wrap al = al := wrap_u64 (by omega) (by omega)
  have wb : IntKind.u64.wrap bl = bl := wrap_u64 (by omega) (by omega)
  have l2 : ∀ x : Int, ((BitVec.ofInt IntKind.u64.bits (IntKind.u64.wrap x) &&& BitVec.ofInt IntKind.u64.bits 4294967295).toNat : Int) = IntKind.u64.wrap x % 4294967296 := fun x => l1 _ (by rw [wrap_u64_mod]; omega) (by rw [wrap_u64_mod]; omega)
  unfold mulHi mulLo
  refine FinX_agg2 ?_ ?_
  all_goals
    ((try clear hR3); (try clear hR2); (try clear hR); (try clear hK); (try simp only [ncCast] at *); (try simp only [castI_eq] at *); (try rw [ho]); (try dsimp only [Ar.real, IX.vo, IX.val, BX.val, IX.toN]); (try simp only [QB1]))
    simp only [f1, f2, l1 a ha.1 ha.2, l1 b hb'.1 hb'.2, ← hal, ← hbl, ← hah, ← hbh, wa, wb, l2]
    simp only [wrap_u64_mod]
    generalize al * bl = p at *
    generalize ah * bl = q at *
    generalize al * bh = r at *
    generalize ah * bh = s at *
    generalize a * b = z at *
    clear l1 f1 f2 l2 hm hT
    omega
def wideCmp (a b c d : Int) : Int := if a = c ∧ b = d then 0 else if a < c ∨ (a = c ∧ b < d) then -1 else 1
theorem x_WCmp (a b c d : Int) : XC Try.prog 99 [.agg [xu a, xu b], .agg [xu c, xu d]] [] (xi (wideCmp a b c d)) [] := by
  (refine XC.of_body ([]) Try.func99 rfl Try.ntmps99 mixed (T := tl99) tk99 (by kernel_rfl) (by simp) rfl rfl rfl rfl rfl ?_; rintro o ho P hP c K hK; have hm : P.follows .mixedOrders = true := hP ▸ mixed; have hT : TOk P tl99 := hP ▸ tk99; (try rw [← ho]); cbv; (repeat (refine StopN.mk ?_; cbv)))
  repeat' (first | (refine Br.mk (fun hb => ?_) (fun hb => ?_) <;> ((try rw [ho] at hb); (try dsimp only [Ar.real, IX.vo] at hb); (try simp only [QB1] at hb); (try simp only [QBo, beq_iff_eq, beq_eq_false_iff_ne, ne_eq] at hb))) | (refine StopN.mk ?_; cbv) | (refine hK _ _ ?_) | (refine NeedT.mk ?_ ?_))
  all_goals
    refine .i ?_
    ((try clear hR3); (try clear hR2); (try clear hR); (try clear hK); (try simp only [ncCast] at *); (try simp only [castI_eq] at *); (try rw [ho]); (try dsimp only [Ar.real, IX.vo, IX.val, BX.val, IX.toN]); (try simp only [QB1]))
    simp only [Bool.and_eq_true, Bool.and_eq_false_iff, decide_eq_true_eq, decide_eq_false_iff_not] at *
    unfold wideCmp
    repeat' split
    all_goals omega
def fracRight (n d : Int) : Bool := decide (0 ≤ n) && decide (1 ≤ d)
theorem x_fracRight (n d : Int) : XC Try.prog 72 [.agg [xi n, xi d]] [] (xb (fracRight n d)) [] := by
  (refine XC.of_body ([]) Try.func72 rfl Try.ntmps72 mixed (T := tl72) tk72 (by kernel_rfl) (by simp) rfl rfl rfl rfl rfl ?_; rintro o ho P hP c K hK; have hm : P.follows .mixedOrders = true := hP ▸ mixed; have hT : TOk P tl72 := hP ▸ tk72; (try rw [← ho]); cbv; (repeat (refine StopN.mk ?_; cbv)))
  repeat' (first | (refine Br.mk (fun hb => ?_) (fun hb => ?_) <;> ((try rw [ho] at hb); (try dsimp only [Ar.real, IX.vo] at hb); (try simp only [QB1] at hb); (try simp only [QBo, beq_iff_eq, beq_eq_false_iff_ne, ne_eq] at hb))) | (refine StopN.mk ?_; cbv) | (refine hK _ _ ?_) | (refine NeedT.mk ?_ ?_))
  all_goals (refine .b ?_; ((try clear hR3); (try clear hR2); (try clear hR); (try clear hK); (try simp only [ncCast] at *); (try simp only [castI_eq] at *); (try rw [ho]); (try dsimp only [Ar.real, IX.vo, IX.val, BX.val, IX.toN]); (try simp only [QB1])); simp [fracRight, *])
  all_goals omega
def fracCmp (a b c d : Int) : Int := if fracRight a b = true ∧ fracRight c d = true then (if a * d = c * b then 0 else if a * d < c * b then -1 else 1) else 0
theorem wideCmp_mul {x y u v : Int} (h1 : 0 ≤ x * y) (h2 : 0 ≤ u * v) : wideCmp (mulHi x y) (mulLo x y) (mulHi u v) (mulLo u v) = if x * y = u * v then 0 else if x * y < u * v then -1 else 1 := by
  unfold wideCmp mulHi mulLo
  generalize x * y = p at *
  generalize u * v = q at *
  repeat' split
  all_goals omega
def i64B (x : Int) : Prop := -9223372036854775808 ≤ x ∧ x ≤ 9223372036854775807
theorem x_fracCmp (a b u v : Int) (ha : i64B a) (hb' : i64B b) (hc' : i64B u) (hd : i64B v) : XC Try.prog 90 [.agg [xi a, xi b], .agg [xi u, xi v]] [] (xi (fracCmp a b u v)) [] := by
  obtain ⟨a1, a2⟩ := ha
  obtain ⟨b1, b2⟩ := hb'
  obtain ⟨c1, c2⟩ := hc'
  obtain ⟨d1, d2⟩ := hd
  by_cases h : fracRight a b = true ∧ fracRight u v = true
  · have hr0 := h
    simp only [fracRight, Bool.and_eq_true, decide_eq_true_eq] at hr0
    obtain ⟨⟨a3, b3⟩, c3, d3⟩ := hr0
    have hm1 := x_Mul a v ⟨by omega, by omega⟩ ⟨by omega, by omega⟩
    have hm2 := x_Mul u b ⟨by omega, by omega⟩ ⟨by omega, by omega⟩
    have hw := wideCmp_mul (x := a) (y := v) (u := u) (v := b) (Int.mul_nonneg a3 (by omega)) (Int.mul_nonneg c3 (by omega))
    have hf : fracCmp a b u v = wideCmp (mulHi a v) (mulLo a v) (mulHi u b) (mulLo u b) := by rw [hw]; exact if_pos h
    have wa : IntKind.u64.wrap a = a := wrap_u64 (by omega) (by omega)
    have wb : IntKind.u64.wrap b = b := wrap_u64 (by omega) (by omega)
    have wu : IntKind.u64.wrap u = u := wrap_u64 (by omega) (by omega)
    have wv : IntKind.u64.wrap v = v := wrap_u64 (by omega) (by omega)
    rw [hf]
    generalize mulHi a v = p1 at *
    generalize mulLo a v = p2 at *
    generalize mulHi u b = p3 at *
    generalize mulLo u b = p4 at *
    have hm3 := x_WCmp p1 p2 p3 p4
    (refine XC.of_body (dt90) Try.func90 rfl Try.ntmps90 mixed (T := tl90) tk90 (by kernel_rfl) (by simp) rfl rfl rfl rfl rfl ?_; rintro o ho P hP c K hK; have hm : P.follows .mixedOrders = true := hP ▸ mixed; have hT : TOk P tl90 := hP ▸ tk90; (try rw [← ho]); cbv; (repeat (refine StopN.mk ?_; cbv)))
    repeat' (first | (refine Br.mk (fun hb => ?_) (fun hb => ?_) <;> ((try rw [ho] at hb); (try dsimp only [Ar.real, IX.vo] at hb); (try simp only [QB1] at hb); (try simp only [QBo, beq_iff_eq, beq_eq_false_iff_ne, ne_eq] at hb))) | (refine StopN.mk ?_; cbv) | (refine CallN.pure hP hm1 fn98 rfl rfl (by rw [ho]; show X.toDL _ [xu (IntKind.u64.wrap a), xu (IntKind.u64.wrap v)] = _; rw [wa, wv]) ?_; cbv) | (refine CallN.pure hP hm2 fn98 rfl rfl (by rw [ho]; show X.toDL _ [xu (IntKind.u64.wrap u), xu (IntKind.u64.wrap b)] = _; rw [wu, wb]) ?_; cbv) | (refine CallN.pure hP hm3 fn99 rfl rfl rfl ?_; cbv) | ((first | refine CallI.pure hP (x_fracRight _ _) fn72 (by first | rfl | (rw [ho]; try rfl)) (by rfl) (by first | rfl | (rw [ho]; try rfl)) ?_ | refine CallN.pure hP (x_fracRight _ _) fn72 (by first | rfl | (rw [ho]; try rfl)) (by rfl) (by first | rfl | (rw [ho]; try rfl)) ?_); (try rw [← ho]); generalize hr : fracRight _ _ = r; (try rw [ho] at hr); (try dsimp only [Ar.real, IX.vo] at hr); (try simp only [QB1] at hr); cbv) | (refine hK _ _ ?_) | (refine NeedT.mk ?_ ?_))
    all_goals first
      | exact .i rfl
      | (exfalso; simp_all; done)
  · rw [show fracCmp a b u v = 0 from if_neg h]
    (refine XC.of_body (dt90) Try.func90 rfl Try.ntmps90 mixed (T := tl90) tk90 (by kernel_rfl) (by simp) rfl rfl rfl rfl rfl ?_; rintro o ho P hP c K hK; have hm : P.follows .mixedOrders = true := hP ▸ mixed; have hT : TOk P tl90 := hP ▸ tk90; (try rw [← ho]); cbv; (repeat (refine StopN.mk ?_; cbv)))
    repeat' (first | (refine Br.mk (fun hb => ?_) (fun hb => ?_) <;> ((try rw [ho] at hb); (try dsimp only [Ar.real, IX.vo] at hb); (try simp only [QB1] at hb); (try simp only [QBo, beq_iff_eq, beq_eq_false_iff_ne, ne_eq] at hb))) | (refine StopN.mk ?_; cbv) | ((first | refine CallI.pure hP (x_fracRight _ _) fn72 (by first | rfl | (rw [ho]; try rfl)) (by rfl) (by first | rfl | (rw [ho]; try rfl)) ?_ | refine CallN.pure hP (x_fracRight _ _) fn72 (by first | rfl | (rw [ho]; try rfl)) (by rfl) (by first | rfl | (rw [ho]; try rfl)) ?_); (try rw [← ho]); generalize hr : fracRight _ _ = r; (try rw [ho] at hr); (try dsimp only [Ar.real, IX.vo] at hr); (try simp only [QB1] at hr); cbv) | ((first | refine CallI.pure hP (x_Mul _ _ ‹_› ‹_›) fn98 (by first | rfl | (rw [ho]; try rfl)) (by rfl) (by first | rfl | (rw [ho]; try rfl)) ?_ | refine CallN.pure hP (x_Mul _ _ ‹_› ‹_›) fn98 (by first | rfl | (rw [ho]; try rfl)) (by rfl) (by first | rfl | (rw [ho]; try rfl)) ?_); (try rw [← ho]); generalize hr : mulHi _ _ = r; (try rw [ho] at hr); (try dsimp only [Ar.real, IX.vo] at hr); (try simp only [QB1] at hr); generalize hr : mulLo _ _ = r; (try rw [ho] at hr); (try dsimp only [Ar.real, IX.vo] at hr); (try simp only [QB1] at hr); cbv) | ((first | refine CallI.pure hP (x_WCmp _ _ _ _) fn99 (by first | rfl | (rw [ho]; try rfl)) (by rfl) (by first | rfl | (rw [ho]; try rfl)) ?_ | refine CallN.pure hP (x_WCmp _ _ _ _) fn99 (by first | rfl | (rw [ho]; try rfl)) (by rfl) (by first | rfl | (rw [ho]; try rfl)) ?_); (try rw [← ho]); generalize hr : wideCmp _ _ _ _ = r; (try rw [ho] at hr); (try dsimp only [Ar.real, IX.vo] at hr); (try simp only [QB1] at hr); cbv) | (refine hK _ _ ?_) | (refine NeedT.mk ?_ ?_))
    all_goals first
      | exact .i rfl
      | (exfalso; simp_all; done)
end Go.Proofs.Ytpijibffjohikaa.Sy
namespace Go.Proofs.Ytpijibffjohikaa.Sy
open Go Go.Sy Go.Proofs.Ytpijibffjohikaa
structure DomS where
  num : Int
  den : Int
  at_ : Int
instance : Inhabited DomS := ⟨⟨0, 0, 0⟩⟩
def foldADomS_num (e : DomS) := (by
  have h : PLift (e.num = e.num) := ⟨rfl⟩
  conv at h => arg 1; lhs; delta DomS.num
  exact h)
theorem foldDomS_num (e : DomS) : type_of% (foldADomS_num e).down := (foldADomS_num e).down
def foldADomS_den (e : DomS) := (by
  have h : PLift (e.den = e.den) := ⟨rfl⟩
  conv at h => arg 1; lhs; delta DomS.den
  exact h)
theorem foldDomS_den (e : DomS) : type_of% (foldADomS_den e).down := (foldADomS_den e).down
def foldADomS_at_ (e : DomS) := (by
  have h : PLift (e.at_ = e.at_) := ⟨rfl⟩
  conv at h => arg 1; lhs; delta DomS.at_
  exact h)
theorem foldDomS_at_ (e : DomS) : type_of% (foldADomS_at_ e).down := (foldADomS_at_ e).down
theorem foldDomS : (⟨0, 0, 0⟩ : DomS) = default := rfl
structure S4 where
  a : Int
  b : Int
  c : Int
  d : Int
  deriving DecidableEq
instance : Inhabited S4 := ⟨⟨0, 0, 0, 0⟩⟩
def foldAS4_a (e : S4) := (by
  have h : PLift (e.a = e.a) := ⟨rfl⟩
  conv at h => arg 1; lhs; delta S4.a
  exact h)
theorem foldS4_a (e : S4) : type_of% (foldAS4_a e).down := (foldAS4_a e).down
def foldAS4_b (e : S4) := (by
  have h : PLift (e.b = e.b) := ⟨rfl⟩
  conv at h => arg 1; lhs; delta S4.b
  exact h)
theorem foldS4_b (e : S4) : type_of% (foldAS4_b e).down := (foldAS4_b e).down
def foldAS4_c (e : S4) := (by
  have h : PLift (e.c = e.c) := ⟨rfl⟩
  conv at h => arg 1; lhs; delta S4.c
  exact h)
theorem foldS4_c (e : S4) : type_of% (foldAS4_c e).down := (foldAS4_c e).down
def foldAS4_d (e : S4) := (by
  have h : PLift (e.d = e.d) := ⟨rfl⟩
  conv at h => arg 1; lhs; delta S4.d
  exact h)
theorem foldS4_d (e : S4) : type_of% (foldAS4_d e).down := (foldAS4_d e).down
theorem foldS4 : (⟨0, 0, 0, 0⟩ : S4) = default := rfl
theorem QB2 : type_of% (And.intro @foldDomS (And.intro @foldS4 (And.intro @foldDomS_num (And.intro @foldDomS_den (And.intro @foldDomS_at_ (And.intro @foldS4_a (And.intro @foldS4_b (And.intro @foldS4_c (And.intro @foldS4_d (QB1)))))))))) := And.intro @foldDomS (And.intro @foldS4 (And.intro @foldDomS_num (And.intro @foldDomS_den (And.intro @foldDomS_at_ (And.intro @foldS4_a (And.intro @foldS4_b (And.intro @foldS4_c (And.intro @foldS4_d (QB1)))))))))
def S4.X (_ : Ar) (s : S4) : List X := [xi s.a, xi s.b, xi s.c, xi s.d]
def S4.at_ (s : S4) (k : Nat) : Int := [s.a, s.b, s.c, s.d].getD k 0
def okS (x : Int) : Bool := decide (0 ≤ x) && decide (x ≤ 1152921504606846976)
def sumsRight (s : S4) : Bool := okS s.a && (okS s.b && (okS s.c && okS s.d))
theorem sumsRight_iff (s : S4) : sumsRight s = true ↔ (0 ≤ s.a ∧ s.a ≤ 1152921504606846976) ∧ (0 ≤ s.b ∧ s.b ≤ 1152921504606846976) ∧ (0 ≤ s.c ∧ s.c ≤ 1152921504606846976) ∧ (0 ≤ s.d ∧ s.d ≤ 1152921504606846976) := by
  simp [sumsRight, okS]
theorem x_sumsRight (s : S4) : XC Try.prog 28 [.agg (S4.X Ar.real s)] [] (xb (sumsRight s)) [] := by
  obtain ⟨a, b, u, d⟩ := s
  (refine XC.of_body ([]) Try.func28 rfl Try.ntmps28 mixed (T := tl28) tk28 (by kernel_rfl) (by simp) rfl rfl rfl rfl rfl ?_; rintro o ho P hP c K hK; have hm : P.follows .mixedOrders = true := hP ▸ mixed; have hT : TOk P tl28 := hP ▸ tk28; (try rw [← ho]); cbv; (repeat (refine StopN.mk ?_; cbv)))
  repeat' (first | (refine Br.mk (fun hb => ?_) (fun hb => ?_) <;> ((try rw [ho] at hb); (try dsimp only [Ar.real, IX.vo] at hb); (try simp only [QB2] at hb); (try simp only [QBo, beq_iff_eq, beq_eq_false_iff_ne, ne_eq] at hb))) | (refine StopN.mk ?_; cbv) | (refine hK _ _ ?_) | (refine NeedT.mk ?_ ?_) | (refine LoopN.lay (o := o) (D := []) 5 ho hm hT (by kernel_rfl) ?_; cbv))
  all_goals
    refine .b ?_
    ((try clear hR3); (try clear hR2); (try clear hR); (try clear hK); (try simp only [ncCast] at *); (try simp only [castI_eq] at *); (try rw [ho]); (try dsimp only [Ar.real, IX.vo, IX.val, BX.val, IX.toN]); (try simp only [QB2]))
    rw [Bool.eq_iff_iff, sumsRight_iff]
    simp only [BX.val, reduceCtorEq, true_iff, false_iff, not_and]
    omega
theorem FinX_S4b {a b u d : IX} {s : S4} {y : BX} {r : Bool} (h1 : a.val = s.a) (h2 : b.val = s.b) (h3 : u.val = s.c) (h4 : d.val = s.d) (h5 : y.val = r) : FinX (.tup [.agg (S4.X Ar.real s), xb r]) [] (.tup [.agg [.i .i64 a, .i .i64 b, .i .i64 u, .i .i64 d], .b y]) [] := .pure fun _ => by simp only [S4.X, X.toD, X.toDL, h1, h2, h3, h4, h5]; rfl
def sumsAdd (s t : S4) : S4 × Bool :=
  if sumsRight s = true ∧ sumsRight t = true ∧ sumsRight ⟨s.a + t.a, s.b + t.b, s.c + t.c, s.d + t.d⟩ = true then (⟨s.a + t.a, s.b + t.b, s.c + t.c, s.d + t.d⟩, true) else (⟨0, 0, 0, 0⟩, false)
theorem x_sumsAdd (s t : S4) : XC Try.prog 7 [.agg (S4.X Ar.real s), .agg (S4.X Ar.real t)] [] (.tup [.agg (S4.X Ar.real (sumsAdd s t).1), xb (sumsAdd s t).2]) [] := by
  have hs := x_sumsRight s
  have ht := x_sumsRight t
  have hu := x_sumsRight ⟨s.a + t.a, s.b + t.b, s.c + t.c, s.d + t.d⟩
  have is := sumsRight_iff s
  have it := sumsRight_iff t
  unfold sumsAdd
  by_cases h0 : sumsRight s = true ∧ sumsRight t = true
  · have i1 := is.1 h0.1
    have i2 := it.1 h0.2
    rw [h0.1] at hs
    rw [h0.2] at ht
    simp only [h0.1, h0.2, true_and]
    clear is it h0
    obtain ⟨u, hu0⟩ : ∃ q : S4, q = ⟨s.a + t.a, s.b + t.b, s.c + t.c, s.d + t.d⟩ := ⟨_, rfl⟩
    rw [← hu0] at hu ⊢
    generalize sumsRight u = ru at *
    obtain ⟨a, b, p, d⟩ := s
    obtain ⟨a', b', p', d'⟩ := t
    obtain ⟨a2, b2, p2, d2⟩ := u
    simp only [S4.mk.injEq] at hu0
    obtain ⟨e1, e2, e3, e4⟩ := hu0
    dsimp only at i1 i2
    (refine XC.of_body (dt7) Try.func7 rfl Try.ntmps7 mixed (T := tl7) tk7 (by kernel_rfl) (by simp) rfl rfl rfl rfl rfl ?_; rintro o ho P hP c K hK; have hm : P.follows .mixedOrders = true := hP ▸ mixed; have hT : TOk P tl7 := hP ▸ tk7; (try rw [← ho]); cbv; (repeat (refine StopN.mk ?_; cbv)))
    repeat' (first | (refine Br.mk (fun hb => ?_) (fun hb => ?_) <;> ((try rw [ho] at hb); (try dsimp only [Ar.real, IX.vo] at hb); (try simp only [QB2] at hb); (try simp only [QBo, beq_iff_eq, beq_eq_false_iff_ne, ne_eq] at hb))) | (refine StopN.mk ?_; cbv) | (first | refine CallI.pure hP hs fn28 rfl rfl rfl ?_ | refine CallI.pure hP ht fn28 rfl rfl rfl ?_ | refine CallI.pure hP hu fn28 rfl rfl (by (rw [ho]; (try dsimp only [Ar.real, IX.vo, IX.val]); (try simp only [castI_eq]); (repeat rw [wrap_i64 (by omega) (by omega)])); rw [← e1, ← e2, ← e3, ← e4]; rfl) ?_); cbv | (refine hK _ _ ?_) | (refine NeedT.mk ?_ ?_) | (refine LoopN.lay (o := o) (D := dt7) 5 ho hm hT (by kernel_rfl) ?_; cbv))
    · exact absurd ‹true = false› (by decide)
    · exact absurd ‹true = false› (by decide)
    · rw [‹ru = false›]
      exact FinX_S4b rfl rfl rfl rfl rfl
    · rw [‹ru = true›]
      refine FinX_S4b ?_ ?_ ?_ ?_ rfl <;> ((rw [ho]; (try dsimp only [Ar.real, IX.vo, IX.val]); (try simp only [castI_eq]); (repeat rw [wrap_i64 (by omega) (by omega)])); (first | exact e1.symm | exact e2.symm | exact e3.symm | exact e4.symm))
  · rw [if_neg (fun h => h0 ⟨h.1, h.2.1⟩)]
    generalize sumsRight s = rs at *
    generalize sumsRight t = rt at *
    clear hu
    obtain ⟨a, b, p, d⟩ := s
    obtain ⟨a', b', p', d'⟩ := t
    (refine XC.of_body (dt7) Try.func7 rfl Try.ntmps7 mixed (T := tl7) tk7 (by kernel_rfl) (by simp) rfl rfl rfl rfl rfl ?_; rintro o ho P hP c K hK; have hm : P.follows .mixedOrders = true := hP ▸ mixed; have hT : TOk P tl7 := hP ▸ tk7; (try rw [← ho]); cbv; (repeat (refine StopN.mk ?_; cbv)))
    repeat' (first | (refine Br.mk (fun hb => ?_) (fun hb => ?_) <;> ((try rw [ho] at hb); (try dsimp only [Ar.real, IX.vo] at hb); (try simp only [QB2] at hb); (try simp only [QBo, beq_iff_eq, beq_eq_false_iff_ne, ne_eq] at hb))) | (refine StopN.mk ?_; cbv) | (first | refine CallI.pure hP hs fn28 rfl rfl rfl ?_ | refine CallI.pure hP ht fn28 rfl rfl rfl ?_); cbv | (refine hK _ _ ?_) | (refine NeedT.mk ?_ ?_))
    all_goals first
      | exact FinX_S4b rfl rfl rfl rfl rfl
      | (exfalso; simp_all; done)
      | trace_state
def sumsHolds (s t : S4) : Bool := decide (t.a ≤ s.a ∧ t.b ≤ s.b ∧ t.c ≤ s.c ∧ t.d ≤ s.d) && (sumsRight s && sumsRight t)
theorem x_sumsHolds (s t : S4) : XC Try.prog 9 [.agg (S4.X Ar.real s), .agg (S4.X Ar.real t)] [] (xb (sumsHolds s t)) [] := by
  have hs := x_sumsRight s
  have ht := x_sumsRight t
  unfold sumsHolds
  generalize sumsRight s = rs at *
  generalize sumsRight t = rt at *
  obtain ⟨a, b, p, d⟩ := s
  obtain ⟨a', b', p', d'⟩ := t
  (refine XC.of_body (dt9) Try.func9 rfl Try.ntmps9 mixed (T := tl9) tk9 (by kernel_rfl) (by simp) rfl rfl rfl rfl rfl ?_; rintro o ho P hP c K hK; have hm : P.follows .mixedOrders = true := hP ▸ mixed; have hT : TOk P tl9 := hP ▸ tk9; (try rw [← ho]); cbv; (repeat (refine StopN.mk ?_; cbv)))
  repeat' (first | (refine Br.mk (fun hb => ?_) (fun hb => ?_) <;> ((try rw [ho] at hb); (try dsimp only [Ar.real, IX.vo] at hb); (try simp only [QB2] at hb); (try simp only [QBo, beq_iff_eq, beq_eq_false_iff_ne, ne_eq] at hb))) | (refine StopN.mk ?_; cbv) | (first | refine CallI.pure hP hs fn28 rfl rfl rfl ?_ | refine CallI.pure hP ht fn28 rfl rfl rfl ?_); cbv | (refine hK _ _ ?_) | (refine NeedT.mk ?_ ?_) | (refine LoopN.lay (o := o) (D := dt9) 5 ho hm hT (by kernel_rfl) ?_; cbv))
  all_goals
    refine .b ?_
    ((try clear hR3); (try clear hR2); (try clear hR); (try clear hK); (try simp only [ncCast] at *); (try simp only [castI_eq] at *); (try rw [ho]); (try dsimp only [Ar.real, IX.vo, IX.val, BX.val, IX.toN]); (try simp only [QB2]))
    first
      | (rw [decide_eq_true ⟨by assumption, by assumption, by assumption, by assumption⟩]; simp_all; done)
      | (rw [decide_eq_false (fun h => by omega)]; rfl)
def domStep (x : DomS) (n d : Int) (k : Nat) : DomS := if 0 < d ∧ (x.at_ = -1 ∨ 0 < fracCmp n d x.num x.den) then ⟨n, d, k⟩ else x
def domTo (s t : S4) : Nat → DomS
  | 0 => ⟨0, 1, -1⟩
  | k + 1 => domStep (domTo s t k) (s.at_ k) (t.at_ k) k
def sumsDom (s t : S4) : DomS := if sumsRight s = true ∧ sumsRight t = true then domTo s t 4 else ⟨0, 1, -1⟩
theorem S4.at_bd {s : S4} (h : sumsRight s = true) (k : Nat) : 0 ≤ s.at_ k ∧ s.at_ k ≤ 1152921504606846976 := by
  have := (sumsRight_iff s).1 h
  match k with
  | 0 => exact this.1
  | 1 => exact this.2.1
  | 2 => exact this.2.2.1
  | 3 => exact this.2.2.2
  | k + 4 => exact (by show (0 : Int) ≤ 0 ∧ (0 : Int) ≤ 1152921504606846976; decide)
theorem domTo_bd {s t : S4} (h : sumsRight s = true) (h' : sumsRight t = true) : ∀ k, (0 ≤ (domTo s t k).num ∧ (domTo s t k).num ≤ 1152921504606846976) ∧ (0 ≤ (domTo s t k).den ∧ (domTo s t k).den ≤ 1152921504606846976) ∧ -1 ≤ (domTo s t k).at_ ∧ (domTo s t k).at_ < k
  | 0 => by simp [domTo]
  | k + 1 => by
    have ih := domTo_bd h h' k
    have h1 := S4.at_bd h k
    have h2 := S4.at_bd h' k
    simp only [domTo, domStep]
    split
    · dsimp only; omega
    · omega
theorem FinX_dom {a n d : IX} {x : DomS} (h1 : a.val = x.at_) (h2 : n.val = x.num) (h3 : d.val = x.den) : FinX (.tup [xi x.at_, .agg [xi x.num, xi x.den]]) [] (.tup [.i .i64 a, .agg [.i .i64 n, .i .i64 d]]) [] := .pure fun _ => by simp only [X.toD, X.toDL, h1, h2, h3]; rfl
theorem x_sumsDom (s t : S4) : XC Try.prog 71 [.agg (S4.X Ar.real s), .agg (S4.X Ar.real t)] [] (.tup [xi (sumsDom s t).at_, .agg [xi (sumsDom s t).num, xi (sumsDom s t).den]]) [] := by
  have hs := x_sumsRight s
  have ht := x_sumsRight t
  unfold sumsDom
  by_cases h0 : sumsRight s = true ∧ sumsRight t = true
  · rw [if_pos h0]
    have hbd := domTo_bd h0.1 h0.2
    have h1 := fun k => S4.at_bd h0.1 k
    have h2 := fun k => S4.at_bd h0.2 k
    rw [h0.1] at hs
    rw [h0.2] at ht
    have hm0 : domTo s t 0 = ⟨0, 1, -1⟩ := rfl
    have hm1 : ∀ k, domTo s t (k + 1) = domStep (domTo s t k) (s.at_ k) (t.at_ k) k := fun _ => rfl
    have ha : ∀ k : Nat, s.at_ k = [s.a, s.b, s.c, s.d].getD k 0 ∧ t.at_ k = [t.a, t.b, t.c, t.d].getD k 0 := fun _ => ⟨rfl, rfl⟩
    clear h0
    generalize hM : domTo s t = M at *
    generalize hS : s.at_ = sa at *
    generalize hT2 : t.at_ = ta at *
    clear hM hS hT2
    obtain ⟨a, b, p, d⟩ := s
    obtain ⟨a', b', p', d'⟩ := t
    dsimp only at ha
    (refine XC.of_body (dt71) Try.func71 rfl Try.ntmps71 mixed (T := tl71) tk71 (by kernel_rfl) (by simp) rfl rfl rfl rfl rfl ?_; rintro o ho P hP c K hK; have hm : P.follows .mixedOrders = true := hP ▸ mixed; have hT : TOk P tl71 := hP ▸ tk71; (try rw [← ho]); cbv; (repeat (refine StopN.mk ?_; cbv)))
    repeat' (first | (refine Br.mk (fun hb => ?_) (fun hb => ?_) <;> ((try rw [ho] at hb); (try dsimp only [Ar.real, IX.vo] at hb); (try simp only [QB2] at hb); (try simp only [QBo, beq_iff_eq, beq_eq_false_iff_ne, ne_eq] at hb))) | (refine StopN.mk ?_; cbv) | (first | refine CallI.pure hP hs fn28 rfl rfl rfl ?_ | refine CallI.pure hP ht fn28 rfl rfl rfl ?_); cbv | ((first | refine CallI.pure hP (x_fracCmp _ _ _ _ ‹_› ‹_› ‹_› ‹_›) fn90 (by first | rfl | (rw [ho]; try rfl)) (by rfl) (by first | rfl | (rw [ho]; try rfl)) ?_ | refine CallN.pure hP (x_fracCmp _ _ _ _ ‹_› ‹_› ‹_› ‹_›) fn90 (by first | rfl | (rw [ho]; try rfl)) (by rfl) (by first | rfl | (rw [ho]; try rfl)) ?_); (try rw [← ho]); generalize hr : fracCmp _ _ _ _ = r; (try rw [ho] at hr); (try dsimp only [Ar.real, IX.vo] at hr); (try simp only [QB2] at hr); cbv) | (refine hK _ _ ?_) | (refine NeedT.mk ?_ ?_))
    · exact absurd ‹true = false› (by decide)
    · exact absurd ‹true = false› (by decide)
    refine LoopN.over (o := o) (D := dt71) ho hm hT (by kernel_rfl) (fun a : Nat => [(21, xn a), (7, xi (M a).at_)]) (fun a => [(3, .var [xi (M a).num, xi (M a).den] 60)]) (fun _ => []) (fun a => a ≤ 4) (fun a => 4 - a) 0 (by omega) ?_ ?_
    · (refine ⟨?_, ?_, ?_, ?_⟩ <;> cbv <;> repeat' (first | trivial | exact EqX.rfl' | exact EqO.rfl' | apply And.intro | ((try clear hR3); (try clear hR2); (try clear hR); (try clear hK); (try simp only [ncCast] at *); (try simp only [castI_eq] at *); refine EqX.i ?_; (try rw [ho]); (try dsimp only [Ar.real, IX.vo, IX.val, BX.val, IX.toN]); (try simp only [QB2]); (repeat rw [wrap_i64 (by omega) (by omega)]); omega) | (refine EqX.i ?_; rw [hm0]; rfl) | exact ⟨by rw [hm0]; rfl⟩))
    · rintro i hi R hR
      have b0 := hbd i
      have b1 := h1 i
      have b2 := h2 i
      have hM1 := hm1 i
      have hq := x_fracCmp (sa i) (ta i) (M i).num (M i).den ⟨by omega, by omega⟩ ⟨by omega, by omega⟩ ⟨by omega, by omega⟩ ⟨by omega, by omega⟩
      unfold domStep at hM1
      generalize fracCmp (sa i) (ta i) (M i).num (M i).den = q at hq hM1
      obtain ⟨e1, e2⟩ := ha i
      generalize sa i = x at *
      generalize ta i = y at *
      have p1 : 0 < [a', b', p', d'].getD ((i : Int).toNat) 0 → ((M i).at_ = -1 ∨ 0 < q) → M (i + 1) = ⟨x, y, i⟩ := fun h h' => by
        rw [Int.toNat_natCast, ← e2] at h
        rw [hM1, if_pos ⟨h, h'⟩]
      have p2 : ([a', b', p', d'].getD ((i : Int).toNat) 0 ≤ 0 ∨ (¬ (M i).at_ = -1 ∧ q ≤ 0)) → M (i + 1) = M i := fun h => by
        rw [Int.toNat_natCast, ← e2] at h
        rw [hM1, if_neg (fun h' => by omega)]
      cbv
      repeat' (first | (refine Br.mk (fun hb => ?_) (fun hb => ?_) <;> ((try rw [ho] at hb); (try dsimp only [Ar.real, IX.vo] at hb); (try simp only [QB2] at hb); (try simp only [QBo, beq_iff_eq, beq_eq_false_iff_ne, ne_eq] at hb))) | (refine StopN.mk ?_; cbv) | (refine CallI.pure hP hq fn90 rfl rfl (by (rw [ho]; (try dsimp only [Ar.real, IX.vo, IX.val]); (try simp only [castI_eq]); (repeat rw [wrap_i64 (by omega) (by omega)])); rw [e1, e2]; rfl) ?_); cbv | ((first | refine CallI.pure hP (x_sumsRight _) fn28 (by first | rfl | (rw [ho]; try rfl)) (by rfl) (by first | rfl | (rw [ho]; try rfl)) ?_ | refine CallN.pure hP (x_sumsRight _) fn28 (by first | rfl | (rw [ho]; try rfl)) (by rfl) (by first | rfl | (rw [ho]; try rfl)) ?_); (try rw [← ho]); generalize hr : sumsRight _ = r; (try rw [ho] at hr); (try dsimp only [Ar.real, IX.vo] at hr); (try simp only [QB2] at hr); cbv) | (refine hK _ _ ?_) | (refine NeedT.mk ?_ ?_))
      any_goals (((try clear hR3); (try clear hR2); (try clear hR); (try clear hK); (try simp only [ncCast] at *); (try simp only [castI_eq] at *); (try rw [ho]); (try dsimp only [Ar.real, IX.vo, IX.val, BX.val, IX.toN]); (try simp only [QB2]); (try simp only [decide_eq_true_eq]); (all_goals (repeat rw [wrap_i64 (by omega) (by omega)])); (all_goals (first | omega | (simp only [Int.ofNat_eq_natCast]; omega)))); done)
      · have h5 := p1 (by assumption) (.inl hb)
        refine hR _ (i + 1) (by show 4 - (i + 1) < 4 - i; ((try clear hR3); (try clear hR2); (try clear hR); (try clear hK); (try simp only [ncCast] at *); (try simp only [castI_eq] at *)); omega) (by show i + 1 ≤ 4; ((try clear hR3); (try clear hR2); (try clear hR); (try clear hK); (try simp only [ncCast] at *); (try simp only [castI_eq] at *)); omega) ?_
        (refine ⟨?_, ?_, ?_, ?_⟩ <;> cbv <;> repeat' (first | trivial | exact EqX.rfl' | exact EqO.rfl' | apply And.intro | ((try clear hR3); (try clear hR2); (try clear hR); (try clear hK); (try simp only [ncCast] at *); (try simp only [castI_eq] at *); refine EqX.i ?_; (try rw [ho]); (try dsimp only [Ar.real, IX.vo, IX.val, BX.val, IX.toN]); (try simp only [QB2]); (repeat rw [wrap_i64 (by omega) (by omega)]); omega) | (refine EqX.i ?_; rw [h5]; rfl) | exact ⟨by rw [h5, ho]; simp only [OX.toOb, X.toDL, X.toD]; rw [e1, e2]; rfl⟩))
      · have h5 := p1 (by assumption) (.inr hb)
        refine hR _ (i + 1) (by show 4 - (i + 1) < 4 - i; ((try clear hR3); (try clear hR2); (try clear hR); (try clear hK); (try simp only [ncCast] at *); (try simp only [castI_eq] at *)); omega) (by show i + 1 ≤ 4; ((try clear hR3); (try clear hR2); (try clear hR); (try clear hK); (try simp only [ncCast] at *); (try simp only [castI_eq] at *)); omega) ?_
        (refine ⟨?_, ?_, ?_, ?_⟩ <;> cbv <;> repeat' (first | trivial | exact EqX.rfl' | exact EqO.rfl' | apply And.intro | ((try clear hR3); (try clear hR2); (try clear hR); (try clear hK); (try simp only [ncCast] at *); (try simp only [castI_eq] at *); refine EqX.i ?_; (try rw [ho]); (try dsimp only [Ar.real, IX.vo, IX.val, BX.val, IX.toN]); (try simp only [QB2]); (repeat rw [wrap_i64 (by omega) (by omega)]); omega) | (refine EqX.i ?_; rw [h5]; rfl) | exact ⟨by rw [h5, ho]; simp only [OX.toOb, X.toDL, X.toD]; rw [e1, e2]; rfl⟩))
      · have h5 := p2 (.inr ⟨by assumption, hb⟩)
        refine hR _ (i + 1) (by show 4 - (i + 1) < 4 - i; ((try clear hR3); (try clear hR2); (try clear hR); (try clear hK); (try simp only [ncCast] at *); (try simp only [castI_eq] at *)); omega) (by show i + 1 ≤ 4; ((try clear hR3); (try clear hR2); (try clear hR); (try clear hK); (try simp only [ncCast] at *); (try simp only [castI_eq] at *)); omega) ?_
        (refine ⟨?_, ?_, ?_, ?_⟩ <;> cbv <;> repeat' (first | trivial | exact EqX.rfl' | exact EqO.rfl' | apply And.intro | ((try clear hR3); (try clear hR2); (try clear hR); (try clear hK); (try simp only [ncCast] at *); (try simp only [castI_eq] at *); refine EqX.i ?_; (try rw [ho]); (try dsimp only [Ar.real, IX.vo, IX.val, BX.val, IX.toN]); (try simp only [QB2]); (repeat rw [wrap_i64 (by omega) (by omega)]); omega) | (refine EqX.i ?_; rw [h5]) | exact ⟨by rw [h5]⟩))
      · have h5 := p2 (.inl hb)
        refine hR _ (i + 1) (by show 4 - (i + 1) < 4 - i; ((try clear hR3); (try clear hR2); (try clear hR); (try clear hK); (try simp only [ncCast] at *); (try simp only [castI_eq] at *)); omega) (by show i + 1 ≤ 4; ((try clear hR3); (try clear hR2); (try clear hR); (try clear hK); (try simp only [ncCast] at *); (try simp only [castI_eq] at *)); omega) ?_
        (refine ⟨?_, ?_, ?_, ?_⟩ <;> cbv <;> repeat' (first | trivial | exact EqX.rfl' | exact EqO.rfl' | apply And.intro | ((try clear hR3); (try clear hR2); (try clear hR); (try clear hK); (try simp only [ncCast] at *); (try simp only [castI_eq] at *); refine EqX.i ?_; (try rw [ho]); (try dsimp only [Ar.real, IX.vo, IX.val, BX.val, IX.toN]); (try simp only [QB2]); (repeat rw [wrap_i64 (by omega) (by omega)]); omega) | (refine EqX.i ?_; rw [h5]) | exact ⟨by rw [h5]⟩))
      · obtain rfl : i = 4 := by omega
        exact FinX_dom rfl rfl rfl
  · rw [if_neg h0]
    generalize sumsRight s = rs at *
    generalize sumsRight t = rt at *
    obtain ⟨a, b, p, d⟩ := s
    obtain ⟨a', b', p', d'⟩ := t
    (refine XC.of_body (dt71) Try.func71 rfl Try.ntmps71 mixed (T := tl71) tk71 (by kernel_rfl) (by simp) rfl rfl rfl rfl rfl ?_; rintro o ho P hP c K hK; have hm : P.follows .mixedOrders = true := hP ▸ mixed; have hT : TOk P tl71 := hP ▸ tk71; (try rw [← ho]); cbv; (repeat (refine StopN.mk ?_; cbv)))
    repeat' (first | (refine Br.mk (fun hb => ?_) (fun hb => ?_) <;> ((try rw [ho] at hb); (try dsimp only [Ar.real, IX.vo] at hb); (try simp only [QB2] at hb); (try simp only [QBo, beq_iff_eq, beq_eq_false_iff_ne, ne_eq] at hb))) | (refine StopN.mk ?_; cbv) | (first | refine CallI.pure hP hs fn28 rfl rfl rfl ?_ | refine CallI.pure hP ht fn28 rfl rfl rfl ?_); cbv | ((first | refine CallI.pure hP (x_fracCmp _ _ _ _ ‹_› ‹_› ‹_› ‹_›) fn90 (by first | rfl | (rw [ho]; try rfl)) (by rfl) (by first | rfl | (rw [ho]; try rfl)) ?_ | refine CallN.pure hP (x_fracCmp _ _ _ _ ‹_› ‹_› ‹_› ‹_›) fn90 (by first | rfl | (rw [ho]; try rfl)) (by rfl) (by first | rfl | (rw [ho]; try rfl)) ?_); (try rw [← ho]); generalize hr : fracCmp _ _ _ _ = r; (try rw [ho] at hr); (try dsimp only [Ar.real, IX.vo] at hr); (try simp only [QB2] at hr); cbv) | (refine hK _ _ ?_) | (refine NeedT.mk ?_ ?_))
    all_goals first
      | exact FinX_dom rfl rfl rfl
      | (exfalso; simp_all; done)
end Go.Proofs.Ytpijibffjohikaa.Sy
namespace Go.Proofs.Ytpijibffjohikaa.Sy
open Go Go.Sy Go.Proofs.Ytpijibffjohikaa
def idxR (l : List Int) (x : Int) : Int := match nextAt (fun i => decide (x = l.getD i default)) 0 l.length with | some i => i | none => -1
theorem x_Index (l : List Int) (x : Int) (hl : l.length ≤ 1048576) : XC Try.prog 97 [.ro (SL Ar.real encI l), xi x] [] (xi (idxR l x)) [] := by
  (refine XC.of_body ([]) Try.func97 rfl Try.ntmps97 mixed (T := tl97) tk97 (by kernel_rfl) (by simp) rfl rfl rfl rfl rfl ?_; rintro o ho P hP c K hK; have hm : P.follows .mixedOrders = true := hP ▸ mixed; have hT : TOk P tl97 := hP ▸ tk97; (try rw [← ho]); cbv; (repeat (refine StopN.mk ?_; cbv)))
  refine LoopN.over (o := o) (D := []) ho hm hT (by kernel_rfl) (fun i : Nat => [(8, xn i)]) (fun _ => []) (fun _ => []) (fun i => i ≤ l.length ∧ ∀ j, j < i → decide (x = l.getD j default) = false) (fun i => l.length - i) 0 ⟨Nat.zero_le _, fun j hj => by omega⟩ ?_ ?_
  · (refine ⟨?_, ?_, ?_, ?_⟩ <;> cbv <;> repeat' (first | trivial | exact EqX.rfl' | exact EqO.rfl' | apply And.intro | ((try clear hR3); (try clear hR2); (try clear hR); (try clear hK); (try simp only [ncCast] at *); (try simp only [castI_eq] at *); refine EqX.i ?_; (try rw [ho]); (try dsimp only [Ar.real, IX.vo, IX.val, BX.val, IX.toN]); (try simp only [QB2]); (repeat rw [wrap_i64 (by omega) (by omega)]); omega)))
  · rintro i ⟨hi, hno⟩ R hR
    cbv
    repeat' (first | (refine Br.mk (fun hb => ?_) (fun hb => ?_) <;> ((try rw [ho] at hb); (try dsimp only [Ar.real, IX.vo] at hb); (try simp only [QB2] at hb); (try simp only [QBo, beq_iff_eq, beq_eq_false_iff_ne, ne_eq] at hb))) | (refine StopN.mk ?_; cbv) | (refine hK _ _ ?_) | (refine NeedT.mk ?_ ?_))
    any_goals (((try clear hR3); (try clear hR2); (try clear hR); (try clear hK); (try simp only [ncCast] at *); (try simp only [castI_eq] at *); (try rw [ho]); (try dsimp only [Ar.real, IX.vo, IX.val, BX.val, IX.toN]); (try simp only [QB2]); (try simp only [decide_eq_true_eq]); (all_goals (repeat rw [wrap_i64 (by omega) (by omega)])); (all_goals (first | omega | (simp only [Int.ofNat_eq_natCast]; omega)))); done)
    · have hf := nextAt_some (p := fun i => decide (x = l.getD i default)) (a := 0) (n := l.length) (k := i) (Nat.zero_le _) (by assumption) (decide_eq_true hb) (fun j _ h => hno j h)
      refine .i ?_
      rw [idxR, hf]
      rfl
    · refine hR _ (i + 1) (by omega) ⟨by omega, fun j h => ?_⟩ ?_
      · rcases Nat.lt_or_ge j i with h3 | h3
        · exact hno j h3
        · obtain rfl : j = i := by omega
          exact decide_eq_false hb
      · (refine ⟨?_, ?_, ?_, ?_⟩ <;> cbv <;> repeat' (first | trivial | exact EqX.rfl' | exact EqO.rfl' | apply And.intro | ((try clear hR3); (try clear hR2); (try clear hR); (try clear hK); (try simp only [ncCast] at *); (try simp only [castI_eq] at *); refine EqX.i ?_; (try rw [ho]); (try dsimp only [Ar.real, IX.vo, IX.val, BX.val, IX.toN]); (try simp only [QB2]); (repeat rw [wrap_i64 (by omega) (by omega)]); omega)))
    · have hf := nextAt_none (p := fun i => decide (x = l.getD i default)) (a := 0) (n := l.length) (fun j _ h => hno j (by omega))
      refine .i ?_
      rw [idxR, hf]
      rfl
def inR (l : List Int) (x : Int) : Bool := decide (x ∈ l)
theorem idxR_in (l : List Int) (x : Int) : decide (0 ≤ idxR l x) = inR l x := by
  unfold idxR inR
  cases h : nextAt (fun i => decide (x = l.getD i default)) 0 l.length with
  | some i =>
    unfold nextAt at h
    rw [List.find?_range'_eq_some] at h
    have h1 := h.1
    have h2 := h.2.1
    simp at h2
    simp only [decide_eq_true_eq] at h1
    have : x ∈ l := by
      rw [h1, List.getD_eq_getElem?_getD, List.getElem?_eq_getElem h2]
      exact List.getElem_mem h2
    rw [decide_eq_true this]
    exact decide_eq_true (Int.natCast_nonneg i)
  | none =>
    unfold nextAt at h
    rw [List.find?_range'_eq_none] at h
    have : ¬ x ∈ l := fun hm => by
      obtain ⟨i, hi, e⟩ := List.getElem_of_mem hm
      have := h i (Nat.zero_le _) (by omega)
      simp [List.getD_eq_getElem?_getD, hi, e] at this
    rw [decide_eq_false this]
    rfl
theorem x_Contains (l : List Int) (x : Int) (hl : l.length ≤ 1048576) : XC Try.prog 85 [.ro (SL Ar.real encI l), xi x] [] (xb (inR l x)) [] := by
  have h := idxR_in l x
  (refine XC.of_body ([]) Try.func85 rfl Try.ntmps85 mixed (T := tl85) tk85 (by kernel_rfl) (by simp) rfl rfl rfl rfl rfl ?_; rintro o ho P hP c K hK; have hm : P.follows .mixedOrders = true := hP ▸ mixed; have hT : TOk P tl85 := hP ▸ tk85; (try rw [← ho]); cbv; (repeat (refine StopN.mk ?_; cbv)))
  repeat' (first | (refine Br.mk (fun hb => ?_) (fun hb => ?_) <;> ((try rw [ho] at hb); (try dsimp only [Ar.real, IX.vo] at hb); (try simp only [QB2] at hb); (try simp only [QBo, beq_iff_eq, beq_eq_false_iff_ne, ne_eq] at hb))) | (refine StopN.mk ?_; cbv) | (refine CallI.pure hP (x_Index _ _ ‹_›) fn97 (by first | rfl | (rw [ho]; try rfl)) (by rfl) (by first | rfl | (rw [ho]; try rfl)) ?_; (try rw [← ho]); generalize hr : idxR _ _ = r; (try rw [ho] at hr); (try dsimp only [Ar.real, IX.vo] at hr); (try simp only [QB2] at hr); cbv) | (refine hK _ _ ?_) | (refine NeedT.mk ?_ ?_))
  refine .b ?_
  ((try clear hR3); (try clear hR2); (try clear hR); (try clear hK); (try simp only [ncCast] at *); (try simp only [castI_eq] at *); (try rw [ho]); (try dsimp only [Ar.real, IX.vo, IX.val, BX.val, IX.toN]); (try simp only [QB2]))
  rw [← h, hr]
def onlyR (v : List Part) (rs : List Int) : List Part := if vecRight v = true then v.filter fun p => inR rs p.role else []
def onlyTo (v : List Part) (rs : List Int) (b : Bool) (k : Nat) : List Part := if b = true then (v.take k).filter fun p => inR rs p.role else []
theorem onlyTo_succ (v : List Part) (rs : List Int) (b : Bool) {k : Nat} (h : k < v.length) : onlyTo v rs b (k + 1) = onlyTo v rs b k ++ if inR rs (v.getD k default).role = true ∧ b = true then [v.getD k default] else [] := by
  unfold onlyTo
  cases b with
  | false => simp
  | true =>
    have e : v.getD k default = v[k] := by simp [List.getD_eq_getElem?_getD, h]
    simp only [if_true, and_true]
    rw [List.take_succ_eq_append_getElem h, List.filter_append, e]
    congr 1
    by_cases h2 : inR rs v[k].role = true <;> simp [h2]
theorem onlyTo_len (v : List Part) (rs : List Int) (b : Bool) (k : Nat) : (onlyTo v rs b k).length ≤ k := by
  unfold onlyTo
  split
  · exact Nat.le_trans (List.length_filter_le _ _) (by simp; omega)
  · simp
structure StL (α : Type) where
  i : Nat
  rv : Nat
  out : List α
theorem x_Only (v : List Part) (rs : List Int) (hv : v.length ≤ 1048576) (hrs : rs.length ≤ 1024) : XC Try.prog 66 [.ro (SL Ar.real Part.X v), .ro (SL Ar.real encI rs)] [] (.ro (SL Ar.real Part.X (onlyR v rs))) [] := by
  have hx := x_vec_Right v (by omega)
  have hend : onlyTo v rs (vecRight v) v.length = onlyR v rs := by
    unfold onlyTo onlyR
    rw [List.take_of_length_le (Nat.le_refl _)]
  obtain ⟨b, hb0⟩ : ∃ q, q = vecRight v := ⟨_, rfl⟩
  rw [← hb0] at hx hend
  clear hb0
  have hC : ∀ x, XC Try.prog 85 [.ro (SL Ar.real encI rs), xi x] [] (xb (inR rs x)) [] := fun x => x_Contains rs x (by omega)
  (refine XC.of_body ([]) Try.func66 rfl Try.ntmps66 mixed (T := tl66) tk66 (by kernel_rfl) (by simp) rfl rfl rfl rfl rfl ?_; rintro o ho P hP c K hK; have hm : P.follows .mixedOrders = true := hP ▸ mixed; have hT : TOk P tl66 := hP ▸ tk66; (try rw [← ho]); cbv; (repeat (refine StopN.mk ?_; cbv)))
  refine LoopN.ghost 5 56 3 rfl ?_
  refine LoopN.over (o := o) (D := []) ho hm hT (by kernel_rfl) (fun a : StL Part => [(10, xn a.i), (5, .own (.loc 0) a.rv)]) (fun a => [(0, .row a.rv 56 3 (SL o Part.X a.out))]) (fun _ => []) (fun a => a.i ≤ v.length ∧ a.out = onlyTo v rs b a.i) (fun a => v.length - a.i) ⟨0, 0, []⟩ ⟨Nat.zero_le _, by unfold onlyTo; split <;> rfl⟩ ?_ ?_
  · (refine ⟨?_, ?_, ?_, ?_⟩ <;> cbv <;> repeat' (first | trivial | exact EqX.rfl' | exact EqO.rfl' | apply And.intro | ((try clear hR3); (try clear hR2); (try clear hR); (try clear hK); (try simp only [ncCast] at *); (try simp only [castI_eq] at *); refine EqX.i ?_; (try rw [ho]); (try dsimp only [Ar.real, IX.vo, IX.val, BX.val, IX.toN]); (try simp only [QB2]); (repeat rw [wrap_i64 (by omega) (by omega)]); omega) | exact EqO.row rfl (rows_nil_SL o ho Part.X)))
  · rintro ⟨i, rv, out⟩ ⟨hi, hout⟩ R hR
    dsimp only at hi hout
    have hol := onlyTo_len v rs b i
    rw [← hout] at hol
    have hsucc : i < v.length → onlyTo v rs b (i + 1) = _ := fun h => onlyTo_succ v rs b h
    rw [← hout] at hsucc
    obtain ⟨out', hout'⟩ : ∃ q, q = onlyTo v rs b (i + 1) := ⟨_, rfl⟩
    rw [← hout'] at hsucc
    cbv
    repeat' (first | (refine Br.mk (fun hb => ?_) (fun hb => ?_) <;> ((try rw [ho] at hb); (try dsimp only [Ar.real, IX.vo] at hb); (try simp only [QB2] at hb); (try simp only [QBo, beq_iff_eq, beq_eq_false_iff_ne, ne_eq] at hb))) | (refine StopN.mk ?_; cbv) | (refine CallI.pure hP (hC _) fn85 rfl rfl (by rw [ho]) ?_; (try rw [← ho]); generalize hr : inR rs _ = r; (try rw [ho] at hr); (try dsimp only [Ar.real] at hr); (try simp only [foldPart_kind, foldPart_role, foldPart_amount, foldPart, castI_eq] at hr); cbv) | (refine CallI.pure hP hx fn33 rfl rfl (by rw [ho]) ?_; cbv) | (refine hK _ _ ?_) | (refine NeedT.mk ?_ ?_))
    any_goals (((try clear hR3); (try clear hR2); (try clear hR); (try clear hK); (try simp only [ncCast] at *); (try simp only [castI_eq] at *); (try rw [ho]); (try dsimp only [Ar.real, IX.vo, IX.val, BX.val, IX.toN]); (try simp only [QB2]); (try simp only [decide_eq_true_eq]); (all_goals (repeat rw [wrap_i64 (by omega) (by omega)])); (all_goals (first | omega | (simp only [Int.ofNat_eq_natCast]; omega)))); done)
    · have hs := hsucc (by assumption)
      rw [if_pos ⟨by rw [hr]; assumption, by assumption⟩] at hs
      refine hR _ ⟨i + 1, rv + 1, out'⟩ (by dsimp only; omega) ⟨by dsimp only; omega, hout'⟩ ?_
      (refine ⟨?_, ?_, ?_, ?_⟩ <;> cbv <;> repeat' (first | trivial | exact EqX.rfl' | exact EqO.rfl' | apply And.intro | ((try clear hR3); (try clear hR2); (try clear hR); (try clear hK); (try simp only [ncCast] at *); (try simp only [castI_eq] at *); refine EqX.i ?_; (try rw [ho]); (try dsimp only [Ar.real, IX.vo, IX.val, BX.val, IX.toN]); (try simp only [QB2]); (repeat rw [wrap_i64 (by omega) (by omega)]); omega) | (refine EqO.snoc ho Part.X _ _ _ _ rfl hs ?_; rw [ho]; rfl)))
    · have hs := hsucc (by assumption)
      rw [if_neg (fun h => by simp_all), List.append_nil] at hs
      refine hR _ ⟨i + 1, rv, out'⟩ (by dsimp only; omega) ⟨by dsimp only; omega, hout'⟩ ?_
      subst hs
      (refine ⟨?_, ?_, ?_, ?_⟩ <;> cbv <;> repeat' (first | trivial | exact EqX.rfl' | exact EqO.rfl' | apply And.intro | ((try clear hR3); (try clear hR2); (try clear hR); (try clear hK); (try simp only [ncCast] at *); (try simp only [castI_eq] at *); refine EqX.i ?_; (try rw [ho]); (try dsimp only [Ar.real, IX.vo, IX.val, BX.val, IX.toN]); (try simp only [QB2]); (repeat rw [wrap_i64 (by omega) (by omega)]); omega)))
    · have hs := hsucc (by assumption)
      rw [if_neg (fun h => by simp_all), List.append_nil] at hs
      refine hR _ ⟨i + 1, rv, out'⟩ (by dsimp only; omega) ⟨by dsimp only; omega, hout'⟩ ?_
      subst hs
      (refine ⟨?_, ?_, ?_, ?_⟩ <;> cbv <;> repeat' (first | trivial | exact EqX.rfl' | exact EqO.rfl' | apply And.intro | ((try clear hR3); (try clear hR2); (try clear hR); (try clear hK); (try simp only [ncCast] at *); (try simp only [castI_eq] at *); refine EqX.i ?_; (try rw [ho]); (try dsimp only [Ar.real, IX.vo, IX.val, BX.val, IX.toN]); (try simp only [QB2]); (repeat rw [wrap_i64 (by omega) (by omega)]); omega)))
    · obtain rfl : i = v.length := by omega
      rw [hend] at hout
      subst hout
      exact .ro (by rw [ho])
theorem fits_Part (o : Ar) (ho : o = Ar.real) (v : List Part) : (SL o Part.X v).fits 3 := by
  intro row hr
  rw [rows_SL o ho] at hr
  obtain ⟨a, _, rfl⟩ := List.mem_map.1 hr
  exact ⟨rfl, rfl⟩
def S4.addAt (s : S4) (k x : Int) : S4 :=
  ⟨if k = 0 then IntKind.i64.wrap (s.at_ k.toNat + x) else s.a, if k = 1 then IntKind.i64.wrap (s.at_ k.toNat + x) else s.b, if k = 2 then IntKind.i64.wrap (s.at_ k.toNat + x) else s.c, if k = 3 then IntKind.i64.wrap (s.at_ k.toNat + x) else s.d⟩
def ofTo (v : List Part) : Nat → S4
  | 0 => ⟨0, 0, 0, 0⟩
  | k + 1 => (ofTo v k).addAt (v.getD k default).kind (v.getD k default).amount
def sumsOf (v : List Part) : S4 := if vecRight v = true then ofTo v v.length else ⟨0, 0, 0, 0⟩
theorem vecRight_at {v : List Part} (h : vecRight v = true) {i : Nat} (hi : i < v.length) : (0 ≤ (v.getD i default).kind ∧ (v.getD i default).kind < 4) ∧ (0 ≤ (v.getD i default).role ∧ (v.getD i default).role ≤ 32) ∧ 1 ≤ (v.getD i default).amount ∧ (v.getD i default).amount ≤ 9007199254740992 := by
  unfold vecRight at h
  rw [Option.isNone_iff_eq_none] at h
  unfold nextAt at h
  rw [List.find?_range'_eq_none] at h
  have := h i (Nat.zero_le _) (by omega)
  simp only [badAt, slotRight, amountRight, Bool.not_eq_true', Bool.or_eq_false_iff, Bool.not_eq_eq_eq_not, Bool.not_false, Bool.not_true, Bool.and_eq_true, decide_eq_true_eq, decide_eq_false_iff_not, Bool.or_eq_true] at this
  omega
theorem FinX_S4 {a b u d : IX} {s : S4} (h1 : a.val = s.a) (h2 : b.val = s.b) (h3 : u.val = s.c) (h4 : d.val = s.d) : FinX (.agg (S4.X Ar.real s)) [] (.agg [.i .i64 a, .i .i64 b, .i .i64 u, .i .i64 d]) [] := .pure fun _ => by simp only [S4.X, X.toD, X.toDL, h1, h2, h3, h4]; rfl
theorem x_sumsOf (v : List Part) (hv : v.length ≤ 1048576) : XC Try.prog 11 [.ro (SL Ar.real Part.X v)] [] (.agg (S4.X Ar.real (sumsOf v))) [] := by
  have hx := x_vec_Right v (by omega)
  unfold sumsOf
  by_cases h0 : vecRight v = true
  · rw [if_pos h0]
    have hat := fun i (hi : i < v.length) => vecRight_at h0 hi
    rw [h0] at hx
    clear h0
    have hm0 : ofTo v 0 = ⟨0, 0, 0, 0⟩ := rfl
    have hm1 : ∀ k, ofTo v (k + 1) = (ofTo v k).addAt (v.getD k default).kind (v.getD k default).amount := fun _ => rfl
    generalize ofTo v = M at *
    (refine XC.of_body (dt11) Try.func11 rfl Try.ntmps11 mixed (T := tl11) tk11 (by kernel_rfl) (by simp) rfl rfl rfl rfl rfl ?_; rintro o ho P hP c K hK; have hm : P.follows .mixedOrders = true := hP ▸ mixed; have hT : TOk P tl11 := hP ▸ tk11; (try rw [← ho]); cbv; (repeat (refine StopN.mk ?_; cbv)))
    repeat' (first | (refine Br.mk (fun hb => ?_) (fun hb => ?_) <;> ((try rw [ho] at hb); (try dsimp only [Ar.real, IX.vo] at hb); (try simp only [QB2] at hb); (try simp only [QBo, beq_iff_eq, beq_eq_false_iff_ne, ne_eq] at hb))) | (refine StopN.mk ?_; cbv) | ((first | refine CallI.pure hP hx fn33 rfl rfl (by rw [ho]) ?_ | refine CallN.pure hP hx fn33 rfl rfl (by rw [ho]) ?_); cbv) | (refine hK _ _ ?_) | (refine NeedT.mk ?_ ?_))
    · exact absurd ‹true = false› (by decide)
    refine LoopN.over (o := o) (D := dt11) ho hm hT (by kernel_rfl) (fun a : Nat => [(12, xn a)]) (fun a => [(1, .var [xi (M a).a, xi (M a).b, xi (M a).c, xi (M a).d] 35)]) (fun _ => []) (fun a => a ≤ v.length) (fun a => v.length - a) 0 (by omega) ?_ ?_
    · (refine ⟨?_, ?_, ?_, ?_⟩ <;> cbv <;> repeat' (first | trivial | exact EqX.rfl' | exact EqO.rfl' | apply And.intro | ((try clear hR3); (try clear hR2); (try clear hR); (try clear hK); (try simp only [ncCast] at *); (try simp only [castI_eq] at *); refine EqX.i ?_; (try rw [ho]); (try dsimp only [Ar.real, IX.vo, IX.val, BX.val, IX.toN]); (try simp only [QB2]); (repeat rw [wrap_i64 (by omega) (by omega)]); omega) | exact ⟨by rw [hm0]; rfl⟩))
    · rintro i hi R hR
      have h1 := hat i
      have h2 := hm1 i
      cbv
      repeat' (first | (refine Br.mk (fun hb => ?_) (fun hb => ?_) <;> ((try rw [ho] at hb); (try dsimp only [Ar.real, IX.vo] at hb); (try simp only [QB2] at hb); (try simp only [QBo, beq_iff_eq, beq_eq_false_iff_ne, ne_eq] at hb))) | (refine StopN.mk ?_; cbv) | ((first | refine CallI.pure hP (x_vec_Right _ ‹_›) fn33 (by first | rfl | (rw [ho]; try rfl)) (by rfl) (by first | rfl | (rw [ho]; try rfl)) ?_ | refine CallN.pure hP (x_vec_Right _ ‹_›) fn33 (by first | rfl | (rw [ho]; try rfl)) (by rfl) (by first | rfl | (rw [ho]; try rfl)) ?_); (try rw [← ho]); generalize hr : vecRight _ = r; (try rw [ho] at hr); (try dsimp only [Ar.real, IX.vo] at hr); (try simp only [QB2] at hr); cbv) | (refine hK _ _ ?_) | (refine NeedT.mk ?_ ?_))
      any_goals (((try clear hR3); (try clear hR2); (try clear hR); (try clear hK); (try simp only [ncCast] at *); (try simp only [castI_eq] at *); (try rw [ho]); (try dsimp only [Ar.real, IX.vo, IX.val, BX.val, IX.toN]); (try simp only [QB2]); (try simp only [decide_eq_true_eq]); (all_goals (repeat rw [wrap_i64 (by omega) (by omega)])); (all_goals (first | omega | (simp only [Int.ofNat_eq_natCast]; omega)))); done)
      · refine hR _ (i + 1) (by show v.length - (i + 1) < v.length - i; omega) (by show i + 1 ≤ v.length; omega) ?_
        (refine ⟨?_, ?_, ?_, ?_⟩ <;> cbv <;> repeat' (first | trivial | exact EqX.rfl' | exact EqO.rfl' | apply And.intro | ((try clear hR3); (try clear hR2); (try clear hR); (try clear hK); (try simp only [ncCast] at *); (try simp only [castI_eq] at *); refine EqX.i ?_; (try rw [ho]); (try dsimp only [Ar.real, IX.vo, IX.val, BX.val, IX.toN]); (try simp only [QB2]); (repeat rw [wrap_i64 (by omega) (by omega)]); omega) | exact ⟨by rw [h2, ho]; simp only [OX.toOb, X.toDL, X.toD]; rfl⟩))
      · obtain rfl : i = v.length := by omega
        exact FinX_S4 rfl rfl rfl rfl
  · rw [if_neg h0]
    generalize vecRight v = b at *
    (refine XC.of_body (dt11) Try.func11 rfl Try.ntmps11 mixed (T := tl11) tk11 (by kernel_rfl) (by simp) rfl rfl rfl rfl rfl ?_; rintro o ho P hP c K hK; have hm : P.follows .mixedOrders = true := hP ▸ mixed; have hT : TOk P tl11 := hP ▸ tk11; (try rw [← ho]); cbv; (repeat (refine StopN.mk ?_; cbv)))
    repeat' (first | (refine Br.mk (fun hb => ?_) (fun hb => ?_) <;> ((try rw [ho] at hb); (try dsimp only [Ar.real, IX.vo] at hb); (try simp only [QB2] at hb); (try simp only [QBo, beq_iff_eq, beq_eq_false_iff_ne, ne_eq] at hb))) | (refine StopN.mk ?_; cbv) | ((first | refine CallI.pure hP hx fn33 rfl rfl (by rw [ho]) ?_ | refine CallN.pure hP hx fn33 rfl rfl (by rw [ho]) ?_); cbv) | (refine hK _ _ ?_) | (refine NeedT.mk ?_ ?_))
    all_goals first
      | exact FinX_S4 rfl rfl rfl rfl
      | exact absurd hb h0
end Go.Proofs.Ytpijibffjohikaa.Sy
namespace Go.Proofs.Ytpijibffjohikaa.Sy
open Go Go.Sy Go.Proofs.Ytpijibffjohikaa
def pushP (out : List Part) (p : Part) : List Part := if 0 < p.amount then out ++ [p] else out
def hitP (bs : List Part) (p : Part) : Bool := decide (0 < bs.length) && (decide ((bs.getD 0 default).kind = p.kind) && decide ((bs.getD 0 default).role = p.role))
def subStep (st : List Part × List Part) (p : Part) : Option (List Part × List Part) :=
  if hitP st.2 p = true then
    if (quantSub p.amount (st.2.getD 0 default).amount).2 = true then some (pushP st.1 ⟨p.kind, p.role, (quantSub p.amount (st.2.getD 0 default).amount).1⟩, st.2.tail) else none
  else some (pushP st.1 p, st.2)
def subTo (a b : List Part) : Nat → Option (List Part × List Part)
  | 0 => some ([], b)
  | k + 1 => (subTo a b k).bind fun st => subStep st (a.getD k default)
theorem subTo_none {a b : List Part} {k : Nat} (h : subTo a b k = none) : ∀ {n}, k ≤ n → subTo a b n = none := by
  intro n hn
  induction n with
  | zero => obtain rfl : k = 0 := by omega
            exact h
  | succ n ih =>
    rcases Nat.lt_or_ge n k with h1 | h1
    · obtain rfl : k = n + 1 := by omega
      exact h
    · simp only [subTo, ih h1, Option.bind_none]
def subV (a b : List Part) : List Part × Bool :=
  if vecRight a = true ∧ vecRight b = true then
    match subTo a b a.length with
    | some (out, []) => (out, true)
    | _ => ([], false)
  else ([], false)
theorem pushP_len (out : List Part) (p : Part) : (pushP out p).length ≤ out.length + 1 := by
  unfold pushP
  split <;> simp
theorem subTo_len {a b : List Part} : ∀ {k : Nat} {out bs : List Part}, subTo a b k = some (out, bs) → out.length ≤ k ∧ bs.length ≤ b.length
  | 0, out, bs, h => by
    simp only [subTo, Option.some.injEq, Prod.mk.injEq] at h
    obtain ⟨rfl, rfl⟩ := h
    simp
  | k + 1, out, bs, h => by
    simp only [subTo] at h
    obtain ⟨⟨o1, b1⟩, h1, h2⟩ := Option.bind_eq_some_iff.1 h
    obtain ⟨l1, l2⟩ := subTo_len h1
    unfold subStep at h2
    split at h2
    · split at h2
      · simp only [Option.some.injEq, Prod.mk.injEq] at h2
        obtain ⟨rfl, rfl⟩ := h2
        have := pushP_len o1 ⟨(a.getD k default).kind, (a.getD k default).role, (quantSub (a.getD k default).amount (b1.getD 0 default).amount).1⟩
        simp only [List.length_tail]
        omega
      · cases h2
    · simp only [Option.some.injEq, Prod.mk.injEq] at h2
      obtain ⟨rfl, rfl⟩ := h2
      have := pushP_len o1 (a.getD k default)
      omega
structure StS where
  i : Nat
  rv : Nat
  out : List Part
  bs : List Part
structure InS (a b : List Part) (s : StS) : Prop where
  i : s.i ≤ a.length
  to : subTo a b s.i = some (s.out, s.bs)
theorem FinX_rb {r : RR} {l : List Part} {y : BX} {s : Bool} (h : r.rows = (SL Ar.real Part.X l).rows) (h' : y.val = s) : FinX (.tup [.ro (SL Ar.real Part.X l), xb s]) [] (.tup [.ro r, .b y]) [] := .pure fun _ => by
  simp only [X.toD, X.toDL, h, h']
  rfl
theorem rows_nil_Part : (RR.lits []).rows = (SL Ar.real Part.X ([] : List Part)).rows := rows_nil_SL Ar.real rfl Part.X
theorem rows_tail {o : Ar} (ho : o = Ar.real) {bs bs' : List Part} (h : bs' = bs.tail) : (RR.fn (o.subN (o.len bs) 1) fun i => Part.X o (o.nth bs (o.addN 1 i))).rows = (SL o Part.X bs').rows := by
  subst ho
  subst h
  refine rows_fn_SL _ rfl Part.X _ _ _ (by show bs.length - 1 = _; simp) ?_
  intro i hi
  have e : bs.getD (1 + i) default = bs.tail.getD i default := by
    cases bs with
    | nil => rfl
    | cons x xs => rw [Nat.add_comm]; simp
  show X.toCL (Part.X Ar.real (bs.getD (1 + i) default)) = _
  rw [e]
theorem x_vecSub (a b : List Part) (ha : a.length ≤ 1048576) (hb' : b.length ≤ 1048576) : XC Try.prog 34 [.ro (SL Ar.real Part.X a), .ro (SL Ar.real Part.X b)] [] (.tup [.ro (SL Ar.real Part.X (subV a b).1), xb (subV a b).2]) [] := by
  have hxa := x_vec_Right a (by omega)
  have hxb := x_vec_Right b (by omega)
  unfold subV
  by_cases h0 : vecRight a = true ∧ vecRight b = true
  · rw [if_pos h0]
    rw [h0.1] at hxa
    rw [h0.2] at hxb
    clear h0
    (refine XC.of_body (dt34) Try.func34 rfl Try.ntmps34 mixed (T := tl34) tk34 (by kernel_rfl) (by simp) rfl rfl rfl rfl rfl ?_; rintro o ho P hP c K hK; have hm : P.follows .mixedOrders = true := hP ▸ mixed; have hT : TOk P tl34 := hP ▸ tk34; (try rw [← ho]); cbv; (repeat (refine StopN.mk ?_; cbv)))
    rw [← ho] at hxa hxb
    repeat' (first | (refine Br.mk (fun hb => ?_) (fun hb => ?_) <;> ((try rw [ho] at hb); (try dsimp only [Ar.real, IX.vo] at hb); (try simp only [QB2] at hb); (try simp only [QBo, beq_iff_eq, beq_eq_false_iff_ne, ne_eq] at hb))) | (refine StopN.mk ?_; cbv) | ((first | refine CallI.pure hP hxa fn33 rfl rfl rfl ?_ | refine CallI.pure hP hxb fn33 rfl rfl rfl ?_); cbv) | ((first | refine CallI.pure hP (x_vec_of _ _ _) fn61 (by first | rfl | (rw [ho]; try rfl)) (by rfl) (by first | rfl | (rw [ho]; try rfl)) ?_ | refine CallN.pure hP (x_vec_of _ _ _) fn61 (by first | rfl | (rw [ho]; try rfl)) (by rfl) (by first | rfl | (rw [ho]; try rfl)) ?_); (try rw [← ho]); cbv) | ((first | refine CallI.pure hP (x_quant_Sub _ _) fn64 (by first | rfl | (rw [ho]; try rfl)) (by rfl) (by first | rfl | (rw [ho]; try rfl)) ?_ | refine CallN.pure hP (x_quant_Sub _ _) fn64 (by first | rfl | (rw [ho]; try rfl)) (by rfl) (by first | rfl | (rw [ho]; try rfl)) ?_); (try rw [← ho]); generalize hr : (quantSub _ _).1 = r; (try rw [ho] at hr); (try dsimp only [Ar.real, IX.vo] at hr); (try simp only [QB2] at hr); generalize hr : (quantSub _ _).2 = r; (try rw [ho] at hr); (try dsimp only [Ar.real, IX.vo] at hr); (try simp only [QB2] at hr); cbv) | (refine hK _ _ ?_) | (refine NeedT.mk ?_ ?_))
    · exact absurd ‹true = false› (by decide)
    · exact absurd ‹true = false› (by decide)
    refine LoopN.ghost 6 56 3 rfl ?_
    refine LoopN.over (o := o) (D := dt34) ho hm hT (by kernel_rfl) (fun s : StS => [(21, xn s.i), (6, .own (.loc 0) s.rv), (1, .ro (SL o Part.X s.bs))]) (fun s => [(0, .row s.rv 56 3 (SL o Part.X s.out))]) (fun _ => []) (InS a b) (fun s => a.length - s.i) ⟨0, 0, [], b⟩ ⟨Nat.zero_le _, rfl⟩ ?_ ?_
    · (refine ⟨?_, ?_, ?_, ?_⟩ <;> cbv <;> repeat' (first | trivial | exact EqX.rfl' | exact EqO.rfl' | apply And.intro | ((try clear hR3); (try clear hR2); (try clear hR); (try clear hK); (try simp only [ncCast] at *); (try simp only [castI_eq] at *); refine EqX.i ?_; (try rw [ho]); (try dsimp only [Ar.real, IX.vo, IX.val, BX.val, IX.toN]); (try simp only [QB2]); (repeat rw [wrap_i64 (by omega) (by omega)]); omega) | exact EqO.row rfl (rows_nil_SL o ho Part.X)))
    · rintro ⟨i, rv, out, bs⟩ ⟨hi, hto⟩ R hR
      dsimp only at hi hto
      obtain ⟨hol, hbl⟩ := subTo_len hto
      have hst : subTo a b (i + 1) = subStep (out, bs) (a.getD i default) := by simp only [subTo, hto, Option.bind_some]
      have hnone : subTo a b (i + 1) = none → i < a.length → subTo a b a.length = none := fun h h' => subTo_none h h'
      have hq := x_quant_Sub (a.getD i default).amount (bs.getD 0 default).amount
      unfold subStep hitP at hst
      dsimp only at hst
      generalize quantSub (a.getD i default).amount (bs.getD 0 default).amount = q at hq hst
      obtain ⟨qn, qb⟩ := q
      dsimp only at hq hst
      have hp1 : 0 < (bs.length : Int) → (decide ((bs.getD 0 default).kind = (a.getD i default).kind) && decide ((bs.getD 0 default).role = (a.getD i default).role)) = true → qb = false → subTo a b (i + 1) = none := by
        intro h1 h2 h3
        rw [hst, if_pos (by rw [Bool.and_eq_true]; exact ⟨decide_eq_true (by omega), h2⟩), if_neg (by rw [h3]; decide)]
      have hp2 : 0 < (bs.length : Int) → (decide ((bs.getD 0 default).kind = (a.getD i default).kind) && decide ((bs.getD 0 default).role = (a.getD i default).role)) = true → qb = true → subTo a b (i + 1) = some (pushP out ⟨(a.getD i default).kind, (a.getD i default).role, qn⟩, bs.tail) := by
        intro h1 h2 h3
        rw [hst, if_pos (by rw [Bool.and_eq_true]; exact ⟨decide_eq_true (by omega), h2⟩), if_pos h3]
      have hp3 : ((bs.length : Int) ≤ 0 ∨ (decide ((bs.getD 0 default).kind = (a.getD i default).kind) && decide ((bs.getD 0 default).role = (a.getD i default).role)) = false) → subTo a b (i + 1) = some (pushP out (a.getD i default), bs) := by
        intro h1
        rw [hst, if_neg (by
          rw [Bool.and_eq_true]
          rintro ⟨h2, h3⟩
          rcases h1 with h1 | h1
          · have := of_decide_eq_true h2
            omega
          · rw [h1] at h3
            cases h3)]
      have hn1 : o.nth a i = a.getD i default := by rw [ho, real_nth]
      have hn2 : o.nth bs 0 = bs.getD 0 default := by rw [ho, real_nth]
      rw [← hn1, ← hn2] at hq
      cbv
      repeat' (first | (refine Br.mk (fun hb => ?_) (fun hb => ?_) <;> ((try rw [ho] at hb); (try dsimp only [Ar.real, IX.vo] at hb); (try simp only [QB2] at hb); (try simp only [QBo, beq_iff_eq, beq_eq_false_iff_ne, ne_eq] at hb))) | (refine StopN.mk ?_; cbv) | ((first | refine CallI.pure hP hq fn64 rfl rfl rfl ?_ | refine CallN.pure hP hq fn64 rfl rfl rfl ?_); cbv) | (refine NeedP.mk (fits_Part o ho bs) ?_) | ((first | refine CallI.pure hP (x_vec_Right _ ‹_›) fn33 (by first | rfl | (rw [ho]; try rfl)) (by rfl) (by first | rfl | (rw [ho]; try rfl)) ?_ | refine CallN.pure hP (x_vec_Right _ ‹_›) fn33 (by first | rfl | (rw [ho]; try rfl)) (by rfl) (by first | rfl | (rw [ho]; try rfl)) ?_); (try rw [← ho]); generalize hr : vecRight _ = r; (try rw [ho] at hr); (try dsimp only [Ar.real, IX.vo] at hr); (try simp only [QB2] at hr); cbv) | ((first | refine CallI.pure hP (x_vec_of _ _ _) fn61 (by first | rfl | (rw [ho]; try rfl)) (by rfl) (by first | rfl | (rw [ho]; try rfl)) ?_ | refine CallN.pure hP (x_vec_of _ _ _) fn61 (by first | rfl | (rw [ho]; try rfl)) (by rfl) (by first | rfl | (rw [ho]; try rfl)) ?_); (try rw [← ho]); cbv) | (refine hK _ _ ?_) | (refine NeedT.mk ?_ ?_))
      any_goals (((try clear hR3); (try clear hR2); (try clear hR); (try clear hK); (try simp only [ncCast] at *); (try simp only [castI_eq] at *); (try rw [ho]); (try dsimp only [Ar.real, IX.vo, IX.val, BX.val, IX.toN]); (try simp only [QB2]); (try simp only [decide_eq_true_eq]); (all_goals (repeat rw [wrap_i64 (by omega) (by omega)])); (all_goals (first | omega | (simp only [Int.ofNat_eq_natCast]; omega)))); done)
      · rw [hnone (hp1 (by assumption) (by assumption) (by assumption)) (by omega)]
        exact FinX_rb rows_nil_Part rfl
      · ((try clear hR3); (try clear hR2); (try clear hR); (try clear hK); (try simp only [ncCast] at *); (try simp only [castI_eq] at *); (try rw [ho]); (try dsimp only [Ar.real, IX.vo, IX.val, BX.val, IX.toN]); (try simp only [QB2]))
        simp
        omega
      · have hs := hp2 (by assumption) (by assumption) (by assumption)
        unfold pushP at hs
        rw [if_pos (by assumption)] at hs
        obtain ⟨out', ho'⟩ : ∃ q, q = out ++ [(⟨(a.getD i default).kind, (a.getD i default).role, qn⟩ : Part)] := ⟨_, rfl⟩
        obtain ⟨bs', hb'⟩ : ∃ q, q = bs.tail := ⟨_, rfl⟩
        rw [← ho', ← hb'] at hs
        refine hR _ ⟨i + 1, rv + 1, out', bs'⟩ (by dsimp only; omega) ⟨by dsimp only; omega, hs⟩ ?_
        (refine ⟨?_, ?_, ?_, ?_⟩ <;> cbv <;> repeat' (first | trivial | exact EqX.rfl' | exact EqO.rfl' | apply And.intro | ((try clear hR3); (try clear hR2); (try clear hR); (try clear hK); (try simp only [ncCast] at *); (try simp only [castI_eq] at *); refine EqX.i ?_; (try rw [ho]); (try dsimp only [Ar.real, IX.vo, IX.val, BX.val, IX.toN]); (try simp only [QB2]); (repeat rw [wrap_i64 (by omega) (by omega)]); omega) | (refine EqO.snoc ho Part.X _ _ _ _ rfl ho' ?_; rw [ho]; rfl) | (exact EqX.ro (rows_tail ho hb'))))
      · have hs := hp2 (by assumption) (by assumption) (by assumption)
        unfold pushP at hs
        rw [if_neg (by dsimp only; omega)] at hs
        obtain ⟨bs', hb'⟩ : ∃ q, q = bs.tail := ⟨_, rfl⟩
        rw [← hb'] at hs
        refine hR _ ⟨i + 1, rv, out, bs'⟩ (by dsimp only; omega) ⟨by dsimp only; omega, hs⟩ ?_
        (refine ⟨?_, ?_, ?_, ?_⟩ <;> cbv <;> repeat' (first | trivial | exact EqX.rfl' | exact EqO.rfl' | apply And.intro | ((try clear hR3); (try clear hR2); (try clear hR); (try clear hK); (try simp only [ncCast] at *); (try simp only [castI_eq] at *); refine EqX.i ?_; (try rw [ho]); (try dsimp only [Ar.real, IX.vo, IX.val, BX.val, IX.toN]); (try simp only [QB2]); (repeat rw [wrap_i64 (by omega) (by omega)]); omega) | (exact EqX.ro (rows_tail ho hb'))))
      iterate 2
        · have hs := hp3 (by first | exact .inl (by assumption) | exact .inr (by assumption))
          unfold pushP at hs
          rw [if_pos (by assumption)] at hs
          obtain ⟨out', ho'⟩ : ∃ q, q = out ++ [a.getD i default] := ⟨_, rfl⟩
          rw [← ho'] at hs
          refine hR _ ⟨i + 1, rv + 1, out', bs⟩ (by dsimp only; omega) ⟨by dsimp only; omega, hs⟩ ?_
          (refine ⟨?_, ?_, ?_, ?_⟩ <;> cbv <;> repeat' (first | trivial | exact EqX.rfl' | exact EqO.rfl' | apply And.intro | ((try clear hR3); (try clear hR2); (try clear hR); (try clear hK); (try simp only [ncCast] at *); (try simp only [castI_eq] at *); refine EqX.i ?_; (try rw [ho]); (try dsimp only [Ar.real, IX.vo, IX.val, BX.val, IX.toN]); (try simp only [QB2]); (repeat rw [wrap_i64 (by omega) (by omega)]); omega) | (refine EqO.snoc ho Part.X _ _ _ _ rfl ho' ?_; rw [ho]; rfl)))
        · have hs := hp3 (by first | exact .inl (by assumption) | exact .inr (by assumption))
          unfold pushP at hs
          rw [if_neg (by omega)] at hs
          refine hR _ ⟨i + 1, rv, out, bs⟩ (by dsimp only; omega) ⟨by dsimp only; omega, hs⟩ ?_
          (refine ⟨?_, ?_, ?_, ?_⟩ <;> cbv <;> repeat' (first | trivial | exact EqX.rfl' | exact EqO.rfl' | apply And.intro | ((try clear hR3); (try clear hR2); (try clear hR); (try clear hK); (try simp only [ncCast] at *); (try simp only [castI_eq] at *); refine EqX.i ?_; (try rw [ho]); (try dsimp only [Ar.real, IX.vo, IX.val, BX.val, IX.toN]); (try simp only [QB2]); (repeat rw [wrap_i64 (by omega) (by omega)]); omega)))
      · obtain rfl : i = a.length := by omega
        rw [hto]
        cases bs with
        | nil => exact absurd hb (by simp)
        | cons x xs => exact FinX_rb rows_nil_Part rfl
      · obtain rfl : i = a.length := by omega
        rw [hto]
        cases bs with
        | nil => exact FinX_rb (by rw [ho]) rfl
        | cons x xs => exact absurd hb (by simp)
  · rw [if_neg h0]
    generalize vecRight a = ra at *
    generalize vecRight b = rb at *
    (refine XC.of_body (dt34) Try.func34 rfl Try.ntmps34 mixed (T := tl34) tk34 (by kernel_rfl) (by simp) rfl rfl rfl rfl rfl ?_; rintro o ho P hP c K hK; have hm : P.follows .mixedOrders = true := hP ▸ mixed; have hT : TOk P tl34 := hP ▸ tk34; (try rw [← ho]); cbv; (repeat (refine StopN.mk ?_; cbv)))
    rw [← ho] at hxa hxb
    repeat' (first | (refine Br.mk (fun hb => ?_) (fun hb => ?_) <;> ((try rw [ho] at hb); (try dsimp only [Ar.real, IX.vo] at hb); (try simp only [QB2] at hb); (try simp only [QBo, beq_iff_eq, beq_eq_false_iff_ne, ne_eq] at hb))) | (refine StopN.mk ?_; cbv) | ((first | refine CallI.pure hP hxa fn33 rfl rfl rfl ?_ | refine CallI.pure hP hxb fn33 rfl rfl rfl ?_); cbv) | ((first | refine CallI.pure hP (x_vec_of _ _ _) fn61 (by first | rfl | (rw [ho]; try rfl)) (by rfl) (by first | rfl | (rw [ho]; try rfl)) ?_ | refine CallN.pure hP (x_vec_of _ _ _) fn61 (by first | rfl | (rw [ho]; try rfl)) (by rfl) (by first | rfl | (rw [ho]; try rfl)) ?_); (try rw [← ho]); cbv) | ((first | refine CallI.pure hP (x_quant_Sub _ _) fn64 (by first | rfl | (rw [ho]; try rfl)) (by rfl) (by first | rfl | (rw [ho]; try rfl)) ?_ | refine CallN.pure hP (x_quant_Sub _ _) fn64 (by first | rfl | (rw [ho]; try rfl)) (by rfl) (by first | rfl | (rw [ho]; try rfl)) ?_); (try rw [← ho]); generalize hr : (quantSub _ _).1 = r; (try rw [ho] at hr); (try dsimp only [Ar.real, IX.vo] at hr); (try simp only [QB2] at hr); generalize hr : (quantSub _ _).2 = r; (try rw [ho] at hr); (try dsimp only [Ar.real, IX.vo] at hr); (try simp only [QB2] at hr); cbv) | (refine hK _ _ ?_) | (refine NeedT.mk ?_ ?_))
    all_goals first
      | exact FinX_rb rows_nil_Part rfl
      | (exfalso; simp_all; done)
end Go.Proofs.Ytpijibffjohikaa.Sy
namespace Go.Proofs.Ytpijibffjohikaa.Sy
open Go Go.Sy Go.Proofs.Ytpijibffjohikaa
structure Want where
  weight : Int
  need : List Part
  deriving DecidableEq
instance : Inhabited Want := ⟨⟨0, []⟩⟩
def foldAWant_weight (e : Want) := (by
  have h : PLift (e.weight = e.weight) := ⟨rfl⟩
  conv at h => arg 1; lhs; delta Want.weight
  exact h)
theorem foldWant_weight (e : Want) : type_of% (foldAWant_weight e).down := (foldAWant_weight e).down
def foldAWant_need (e : Want) := (by
  have h : PLift (e.need = e.need) := ⟨rfl⟩
  conv at h => arg 1; lhs; delta Want.need
  exact h)
theorem foldWant_need (e : Want) : type_of% (foldAWant_need e).down := (foldAWant_need e).down
theorem foldWant : (⟨0, []⟩ : Want) = default := rfl
theorem QB5 : type_of% (And.intro @foldWant (And.intro @foldWant_weight (And.intro @foldWant_need (QB2)))) := And.intro @foldWant (And.intro @foldWant_weight (And.intro @foldWant_need (QB2)))
def Want.X (o : Ar) (w : Want) : List X := [xi w.weight, .ro (SL o Part.X w.need)]
def PV.X (o : Ar) (v : List Part) : List X := [.ro (SL o Part.X v)]
theorem x_vecHolds (a b : List Part) (ha : a.length ≤ 1048576) (hb' : b.length ≤ 1048576) : XC Try.prog 12 [.ro (SL Ar.real Part.X a), .ro (SL Ar.real Part.X b)] [] (xb (subV a b).2) [] := by
  have hx := x_vecSub a b ha hb'
  generalize subV a b = q at hx
  obtain ⟨out, ok⟩ := q
  (refine XC.of_body ([]) Try.func12 rfl Try.ntmps12 mixed (T := tl12) tk12 (by kernel_rfl) (by simp) rfl rfl rfl rfl rfl ?_; rintro o ho P hP c K hK; have hm : P.follows .mixedOrders = true := hP ▸ mixed; have hT : TOk P tl12 := hP ▸ tk12; (try rw [← ho]); cbv; (repeat (refine StopN.mk ?_; cbv)))
  rw [← ho] at hx
  repeat' (first | (refine Br.mk (fun hb => ?_) (fun hb => ?_) <;> ((try rw [ho] at hb); (try dsimp only [Ar.real, IX.vo] at hb); (try simp only [QB5] at hb); (try simp only [QBo, beq_iff_eq, beq_eq_false_iff_ne, ne_eq] at hb))) | (refine StopN.mk ?_; cbv) | (refine CallI.pure hP hx fn34 rfl rfl rfl ?_; cbv) | (refine hK _ _ ?_) | (refine NeedT.mk ?_ ?_))
  exact .b rfl
structure Prof where
  ags : List (List Part)
  wants : List Want
  lo : S4
def Prof.X (o : Ar) (p : Prof) : List X := [.ro (SL o PV.X p.ags), .ro (SL o Want.X p.wants), xi p.lo.a, xi p.lo.b, xi p.lo.c, xi p.lo.d]
end Go.Proofs.Ytpijibffjohikaa.Sy
namespace Go.Proofs.Ytpijibffjohikaa.Sy
open Go Go.Sy Go.Proofs.Ytpijibffjohikaa
end Go.Proofs.Ytpijibffjohikaa.Sy
namespace Go.Proofs.Ytpijibffjohikaa.Sy
open Go Go.Sy Go.Proofs.Ytpijibffjohikaa
structure Shr where
  num : Int
  den : Int
  weight : Int
  deriving DecidableEq
instance : Inhabited Shr := ⟨⟨0, 0, 0⟩⟩
def foldAShr_num (e : Shr) := (by
  have h : PLift (e.num = e.num) := ⟨rfl⟩
  conv at h => arg 1; lhs; delta Shr.num
  exact h)
theorem foldShr_num (e : Shr) : type_of% (foldAShr_num e).down := (foldAShr_num e).down
def foldAShr_den (e : Shr) := (by
  have h : PLift (e.den = e.den) := ⟨rfl⟩
  conv at h => arg 1; lhs; delta Shr.den
  exact h)
theorem foldShr_den (e : Shr) : type_of% (foldAShr_den e).down := (foldAShr_den e).down
def foldAShr_weight (e : Shr) := (by
  have h : PLift (e.weight = e.weight) := ⟨rfl⟩
  conv at h => arg 1; lhs; delta Shr.weight
  exact h)
theorem foldShr_weight (e : Shr) : type_of% (foldAShr_weight e).down := (foldAShr_weight e).down
theorem foldShr : (⟨0, 0, 0⟩ : Shr) = default := rfl
theorem QB7 : type_of% (And.intro @foldShr (And.intro @foldShr_num (And.intro @foldShr_den (And.intro @foldShr_weight (QB5))))) := And.intro @foldShr (And.intro @foldShr_num (And.intro @foldShr_den (And.intro @foldShr_weight (QB5))))
def Shr.X (_ : Ar) (s : Shr) : List X := [xi s.num, xi s.den, xi s.weight]
def shrOf (a t : S4) (w : Int) : Shr := ⟨(sumsDom a t).num, (sumsDom a t).den, w⟩
theorem FinX_shr {a b u : IX} {s : Shr} (h1 : a.val = s.num) (h2 : b.val = s.den) (h3 : u.val = s.weight) : FinX (.agg (Shr.X Ar.real s)) [] (.agg [.i .i64 a, .i .i64 b, .i .i64 u]) [] := .pure fun _ => by simp only [Shr.X, X.toD, X.toDL, h1, h2, h3]; rfl
theorem x_shrOf (a t : S4) (w : Int) : XC Try.prog 49 [.agg (S4.X Ar.real a), .agg (S4.X Ar.real t), xi w] [] (.agg (Shr.X Ar.real (shrOf a t w))) [] := by
  have hd := x_sumsDom a t
  unfold shrOf
  generalize sumsDom a t = d at *
  obtain ⟨a1, a2, a3, a4⟩ := a
  obtain ⟨t1, t2, t3, t4⟩ := t
  (refine XC.of_body ([]) Try.func49 rfl Try.ntmps49 mixed (T := tl49) tk49 (by kernel_rfl) (by simp) rfl rfl rfl rfl rfl ?_; rintro o ho P hP c K hK; have hm : P.follows .mixedOrders = true := hP ▸ mixed; have hT : TOk P tl49 := hP ▸ tk49; (try rw [← ho]); cbv; (repeat (refine StopN.mk ?_; cbv)))
  rw [← ho] at hd
  repeat' (first | (refine Br.mk (fun hb => ?_) (fun hb => ?_) <;> ((try rw [ho] at hb); (try dsimp only [Ar.real, IX.vo] at hb); (try simp only [QB7] at hb); (try simp only [QBo, beq_iff_eq, beq_eq_false_iff_ne, ne_eq] at hb))) | (refine StopN.mk ?_; cbv) | (refine CallI.pure hP hd fn71 rfl rfl rfl ?_; cbv) | (refine hK _ _ ?_) | (refine NeedT.mk ?_ ?_))
  exact FinX_shr rfl rfl rfl
def shrRight (s : Shr) : Bool := fracRight s.num s.den && decide (s.num ≤ 9007199254740992 ∧ s.den ≤ 9007199254740992 ∧ 1 ≤ s.weight ∧ s.weight ≤ 1000)
theorem x_shrRight (s : Shr) : XC Try.prog 50 [.agg (Shr.X Ar.real s)] [] (xb (shrRight s)) [] := by
  obtain ⟨n, d, w⟩ := s
  have hf := x_fracRight n d
  unfold shrRight
  dsimp only
  generalize fracRight n d = F at *
  (refine XC.of_body ([]) Try.func50 rfl Try.ntmps50 mixed (T := tl50) tk50 (by kernel_rfl) (by simp) rfl rfl rfl rfl rfl ?_; rintro o ho P hP c K hK; have hm : P.follows .mixedOrders = true := hP ▸ mixed; have hT : TOk P tl50 := hP ▸ tk50; (try rw [← ho]); cbv; (repeat (refine StopN.mk ?_; cbv)))
  repeat' (first | (refine Br.mk (fun hb => ?_) (fun hb => ?_) <;> ((try rw [ho] at hb); (try dsimp only [Ar.real, IX.vo] at hb); (try simp only [QB7] at hb); (try simp only [QBo, beq_iff_eq, beq_eq_false_iff_ne, ne_eq] at hb))) | (refine StopN.mk ?_; cbv) | (refine CallI.pure hP hf fn72 rfl rfl rfl ?_; cbv) | (refine hK _ _ ?_) | (refine NeedT.mk ?_ ?_))
  all_goals
    refine .b ?_
    ((try clear hR3); (try clear hR2); (try clear hR); (try clear hK); (try simp only [ncCast] at *); (try simp only [castI_eq] at *); (try rw [ho]); (try dsimp only [Ar.real, IX.vo, IX.val, BX.val, IX.toN]); (try simp only [QB7]))
    simp_all
  all_goals omega
end Go.Proofs.Ytpijibffjohikaa.Sy
namespace Go.Proofs.Ytpijibffjohikaa.Sy
open Go Go.Sy Go.Proofs.Ytpijibffjohikaa
end Go.Proofs.Ytpijibffjohikaa.Sy
namespace Go.Proofs.Ytpijibffjohikaa.Sy
open Go Go.Sy Go.Proofs.Ytpijibffjohikaa
end Go.Proofs.Ytpijibffjohikaa.Sy
namespace Go.Proofs.Ytpijibffjohikaa.Sy
open Go Go.Sy Go.Proofs.Ytpijibffjohikaa
end Go.Proofs.Ytpijibffjohikaa.Sy
namespace Go.Proofs.Ytpijibffjohikaa.Sy
open Go Go.Sy Go.Proofs.Ytpijibffjohikaa
end Go.Proofs.Ytpijibffjohikaa.Sy
namespace Go.Proofs.Ytpijibffjohikaa.Sy
open Go Go.Sy Go.Proofs.Ytpijibffjohikaa
end Go.Proofs.Ytpijibffjohikaa.Sy
namespace Go.Proofs.Ytpijibffjohikaa.Sy
open Go Go.Sy Go.Proofs.Ytpijibffjohikaa
end Go.Proofs.Ytpijibffjohikaa.Sy
namespace Go.Proofs.Ytpijibffjohikaa.Sy
open Go Go.Sy Go.Proofs.Ytpijibffjohikaa
def val : List Int → Int
  | [] => 0
  | d :: l => d + 65536 * val l
def DgOk (l : List Int) : Prop := ∀ j, 0 ≤ l.getD j 0 ∧ l.getD j 0 < 65536
theorem DgOk.tail {d : Int} {l : List Int} (h : DgOk (d :: l)) : DgOk l := fun j => by
  have := h (j + 1)
  simpa using this
theorem DgOk.head {d : Int} {l : List Int} (h : DgOk (d :: l)) : 0 ≤ d ∧ d < 65536 := by
  have := h 0
  simpa using this
theorem getD_set (l : List Int) (j k : Nat) (x : Int) (hj : j < l.length) : (l.set j x).getD k 0 = if j = k then x else l.getD k 0 := by
  rw [List.getD_eq_getElem?_getD, List.getElem?_set, List.getD_eq_getElem?_getD]
  split
  · first | rfl | (rw [if_pos (by omega)]; rfl)
  · rfl
theorem DgOk.set {l : List Int} (h : DgOk l) {j : Nat} {x : Int} (hx : 0 ≤ x ∧ x < 65536) : DgOk (l.set j x) := fun k => by
  by_cases hj : j < l.length
  · rw [getD_set l j k x hj]
    split
    · exact hx
    · exact h k
  · rw [List.set_eq_of_length_le (by omega)]
    exact h k
end Go.Proofs.Ytpijibffjohikaa.Sy

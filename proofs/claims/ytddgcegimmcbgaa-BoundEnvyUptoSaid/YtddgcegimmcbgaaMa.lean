/-
  Amounts, wide products, fractions, sums: contracts. Plain theorems.
-/
import Derived.Test.YtddgcegimmcbgaaK1
import Derived.Test.YtddgcegimmcbgaaSyZb
set_option linter.unusedSectionVars false
set_option maxRecDepth 100000
set_option maxHeartbeats 8000000
set_option linter.unusedVariables false
set_option linter.unusedSimpArgs false
namespace Go.Proofs.Ytddgcegimmcbgaa.Sy
open Go Go.Sy Go.Proofs.Ytddgcegimmcbgaa
structure Fr where
  num : Int
  den : Int
  deriving DecidableEq
instance : Inhabited Fr := ⟨⟨0, 0⟩⟩
def foldAFr_num (e : Fr) := (by
  have h : PLift (e.num = e.num) := ⟨rfl⟩
  conv at h => arg 1; lhs; delta Fr.num
  exact h)
theorem foldFr_num (e : Fr) : type_of% (foldAFr_num e).down := (foldAFr_num e).down
def foldAFr_den (e : Fr) := (by
  have h : PLift (e.den = e.den) := ⟨rfl⟩
  conv at h => arg 1; lhs; delta Fr.den
  exact h)
theorem foldFr_den (e : Fr) : type_of% (foldAFr_den e).down := (foldAFr_den e).down
theorem foldFr : (⟨0, 0⟩ : Fr) = default := rfl
theorem QB1 : type_of% (And.intro @foldFr (And.intro @foldFr_num (And.intro @foldFr_den (QSyVa)))) := And.intro @foldFr (And.intro @foldFr_num (And.intro @foldFr_den (QSyVa)))
@[reducible] def xu (x : Int) : X := .i .u64 (.s x)
def quantSub (a b : Int) : Int × Bool := if b < 0 ∨ a < b then (0, false) else (IntKind.i64.wrap (a - b), true)
theorem FinX_ib {k : IntKind} {r : Int} {s : Bool} {x : IX} {y : BX} (h : x.val = r) (h' : y.val = s) : FinX (.tup [.i k (.s r), xb s]) [] (.tup [.i k x, .b y]) [] := .pure fun _ => by simp only [X.toD, X.toDL, h, h']; rfl
theorem x_quant_Sub (a b : Int) : XC Try.prog 183 [xi a, xi b] [] (.tup [xi (quantSub a b).1, xb (quantSub a b).2]) [] := by
  (refine XC.of_body ([]) Try.func183 rfl Try.ntmps183 mixed (T := [(2, ti2)]) (.cons tok2 .nil) (by kernel_rfl) (by simp) rfl rfl rfl rfl rfl ?_; rintro o ho P hP c K hK; have hm : P.follows .mixedOrders = true := hP ▸ mixed; have hT : TOk P [(2, ti2)] := hP ▸ (.cons tok2 .nil); (try rw [← ho]); cbv; (repeat (refine StopN.mk ?_; cbv)))
  repeat' (first | (refine Br.mk (fun hb => ?_) (fun hb => ?_) <;> ((try rw [ho] at hb); (try dsimp only [Ar.real, IX.vo] at hb); (try simp only [QB1] at hb); (try simp only [QBo, beq_iff_eq, beq_eq_false_iff_ne, ne_eq] at hb))) | (refine StopN.mk ?_; cbv) | (refine hK _ _ ?_) | (refine NeedT.mk ?_ ?_))
  all_goals
    unfold quantSub
    split
    all_goals first
      | exact FinX_ib rfl rfl
      | (refine FinX_ib ?_ rfl; ((try clear hR3); (try clear hR2); (try clear hR); (try clear hK); (try simp only [ncCast] at *); (try simp only [castI_eq] at *); (try rw [ho]); (try dsimp only [Ar.real, IX.vo, IX.val, BX.val, IX.toN]); (try simp only [QB1])); done)
      | (exfalso; omega)
theorem band_low {a : Int} (h0 : 0 ≤ a) (h1 : a < 18446744073709551616) : ((BitVec.ofInt 64 a &&& BitVec.ofInt 64 4294967295).toNat : Int) = a % 4294967296 := by
  obtain ⟨n, rfl⟩ := Int.eq_ofNat_of_zero_le h0
  have hn : n < 18446744073709551616 := by omega
  rw [BitVec.toNat_and]
  have e1 : (BitVec.ofInt 64 (n : Int)).toNat = n := by
    rw [BitVec.toNat_ofInt]
    omega
  have e2 : (BitVec.ofInt 64 4294967295).toNat = 4294967295 := by decide
  rw [e1, e2]
  have e3 : (4294967295 : Nat) = 2 ^ 32 - 1 := by decide
  rw [e3, Nat.and_two_pow_sub_one_eq_mod]
  omega
theorem wrap_u64 {a : Int} (h0 : 0 ≤ a) (h1 : a < 18446744073709551616) : IntKind.u64.wrap a = a := by
  have e : IntKind.u64.wrap a = a % 18446744073709551616 := by
    first | rfl | simp [IntKind.wrap]
  rw [e]; omega
theorem wrap_u64_mod (a : Int) : IntKind.u64.wrap a = a % 18446744073709551616 := by
  first | rfl | simp [IntKind.wrap]
def mulHi (a b : Int) : Int := a * b / 18446744073709551616
def mulLo (a b : Int) : Int := a * b % 18446744073709551616
theorem mul_core {al ah bl bh : Int} (h1 : 0 ≤ al) (h2 : al < 4294967296) (h3 : 0 ≤ ah) (h4 : ah < 4294967296) (h5 : 0 ≤ bl) (h6 : bl < 4294967296) (h7 : 0 ≤ bh) (h8 : bh < 4294967296) {mid side : Int} (hm : mid = ah * bl + al * bl / 4294967296) (hs : side = al * bh + mid % 4294967296) :
    0 ≤ mid ∧ mid < 18446744073709551616 ∧ 0 ≤ side ∧ side < 18446744073709551616 ∧ ah * bh + mid / 4294967296 + side / 4294967296 = (ah * 4294967296 + al) * (bh * 4294967296 + bl) / 18446744073709551616 ∧
    side % 4294967296 * 4294967296 + al * bl % 4294967296 = (ah * 4294967296 + al) * (bh * 4294967296 + bl) % 18446744073709551616 ∧ 0 ≤ ah * bl ∧ ah * bl ≤ 18446744065119617025 ∧ 0 ≤ al * bl ∧ al * bl ≤ 18446744065119617025 ∧ 0 ≤ al * bh ∧ al * bh ≤ 18446744065119617025 ∧ 0 ≤ ah * bh ∧ ah * bh ≤ 18446744065119617025 := by
  have bd : ∀ x y : Int, 0 ≤ x → x < 4294967296 → 0 ≤ y → y < 4294967296 → 0 ≤ x * y ∧ x * y ≤ 18446744065119617025 := fun x y a1 a2 a3 a4 => by
    refine ⟨Int.mul_nonneg a1 a3, ?_⟩
    have : x * y ≤ 4294967295 * 4294967295 := Int.mul_le_mul (by omega) (by omega) a3 (by decide)
    omega
  obtain ⟨p1, p2⟩ := bd al bl h1 h2 h5 h6
  obtain ⟨q1, q2⟩ := bd ah bl h3 h4 h5 h6
  obtain ⟨r1, r2⟩ := bd al bh h1 h2 h7 h8
  obtain ⟨s1, s2⟩ := bd ah bh h3 h4 h7 h8
  have e : (ah * 4294967296 + al) * (bh * 4294967296 + bl) = ah * bh * 18446744073709551616 + (ah * bl + al * bh) * 4294967296 + al * bl := by
    rw [Int.add_mul, Int.mul_add, Int.mul_add]
    have t1 : ah * 4294967296 * (bh * 4294967296) = ah * bh * 18446744073709551616 := by
      rw [Int.mul_assoc, Int.mul_comm 4294967296, Int.mul_assoc bh, ← Int.mul_assoc]; rfl
    have t2 : ah * 4294967296 * bl = ah * bl * 4294967296 := by rw [Int.mul_assoc, Int.mul_comm 4294967296, ← Int.mul_assoc]
    have t3 : al * (bh * 4294967296) = al * bh * 4294967296 := by rw [Int.mul_assoc]
    rw [t1, t2, t3, Int.add_mul]
    omega
  rw [e]
  generalize al * bl = p at *
  generalize ah * bl = q at *
  generalize al * bh = r at *
  generalize ah * bh = s at *
  subst hm hs
  refine ⟨by omega, by omega, by omega, by omega, by omega, by omega, q1, q2, p1, p2, r1, r2, s1, s2⟩
theorem FinX_agg2 {k1 k2 : IntKind} {a b : Int} {x y : IX} (h1 : x.val = a) (h2 : y.val = b) : FinX (.agg [.i k1 (.s a), .i k2 (.s b)]) [] (.agg [.i k1 x, .i k2 y]) [] := .pure fun _ => by simp only [X.toD, X.toDL, h1, h2]; rfl
theorem x_Mul (a b : Int) (ha : 0 ≤ a ∧ a < 18446744073709551616) (hb' : 0 ≤ b ∧ b < 18446744073709551616) : XC Try.prog 169 [xu a, xu b] [] (.agg [xu (mulHi a b), xu (mulLo a b)]) [] := by
  obtain ⟨al, hal⟩ : ∃ q, q = a % 4294967296 := ⟨_, rfl⟩
  obtain ⟨ah, hah⟩ : ∃ q, q = a / 4294967296 := ⟨_, rfl⟩
  obtain ⟨bl, hbl⟩ : ∃ q, q = b % 4294967296 := ⟨_, rfl⟩
  obtain ⟨bh, hbh⟩ : ∃ q, q = b / 4294967296 := ⟨_, rfl⟩
  have ea : ah * 4294967296 + al = a := by omega
  have eb : bh * 4294967296 + bl = b := by omega
  have hcore := mul_core (al := al) (ah := ah) (bl := bl) (bh := bh) (by omega) (by omega) (by omega) (by omega) (by omega) (by omega) (by omega) (by omega) rfl rfl
  rw [ea, eb] at hcore
  (refine XC.of_body ([]) Try.func169 rfl Try.ntmps169 mixed (T := [(155, ti155), (235, ti235)]) (.cons tok155 (.cons tok235 .nil)) (by kernel_rfl) (by simp) rfl rfl rfl rfl rfl ?_; rintro o ho P hP c K hK; have hm : P.follows .mixedOrders = true := hP ▸ mixed; have hT : TOk P [(155, ti155), (235, ti235)] := hP ▸ (.cons tok155 (.cons tok235 .nil)); (try rw [← ho]); cbv; (repeat (refine StopN.mk ?_; cbv)))
  repeat' (first | (refine Br.mk (fun hb => ?_) (fun hb => ?_) <;> ((try rw [ho] at hb); (try dsimp only [Ar.real, IX.vo] at hb); (try simp only [QB1] at hb); (try simp only [QBo, beq_iff_eq, beq_eq_false_iff_ne, ne_eq] at hb))) | (refine StopN.mk ?_; cbv) | (refine hK _ _ ?_) | (refine NeedT.mk ?_ ?_))
  any_goals (rw [ho]; exact decide_eq_true (by decide))
  obtain ⟨c1, c2, c3, c4, c5, c6, q1, q2, p1, p2, r1, r2, s1, s2⟩ := hcore
  have l1 : ∀ x : Int, 0 ≤ x → x < 18446744073709551616 → ((BitVec.ofInt IntKind.u64.bits x &&& BitVec.ofInt IntKind.u64.bits 4294967295).toNat : Int) = x % 4294967296 := fun x h0 h1 => band_low h0 h1
  have f1 : ∀ x : Int, x.fdiv (2 ^ (min (Int.toNat 32) IntKind.u64.bits)) = x / 4294967296 := fun x => by
    have e : ((2 : Int) ^ (min (Int.toNat 32) IntKind.u64.bits)) = 4294967296 := by decide
    rw [e, Int.fdiv_eq_ediv_of_nonneg _ (by decide)]
  have f2 : ∀ x : Int, x * 2 ^ (min (Int.toNat 32) IntKind.u64.bits) = x * 4294967296 := fun x => by
    have e : ((2 : Int) ^ (min (Int.toNat 32) IntKind.u64.bits)) = 4294967296 := by decide
    rw [e]
  have wa : IntKind.u64.wrap al = al := wrap_u64 (by omega) (by omega)
  have wb : IntKind.u64.wrap bl = bl := wrap_u64 (by omega) (by omega)
  have l2 : ∀ x : Int, ((BitVec.ofInt IntKind.u64.bits (IntKind.u64.wrap x) &&& BitVec.ofInt IntKind.u64.bits 4294967295).toNat : Int) = IntKind.u64.wrap x % 4294967296 := fun x => l1 _ (by rw [wrap_u64_mod]; omega) (by rw [wrap_u64_mod]; omega)
  unfold mulHi mulLo
  refine FinX_agg2 ?_ ?_
  all_goals
    ((try clear hR3); (try clear hR2); (try clear hR); (try clear hK); (try simp only [ncCast] at *); (try simp only [castI_eq] at *); (try rw [ho]); (try dsimp only [Ar.real, IX.vo, IX.val, BX.val, IX.toN]); (try simp only [QB1]))
    simp only [f1, f2, l1 a ha.1 ha.2, l1 b hb'.1 hb'.2, ← hal, ← hbl, ← hah, ← hbh, wa, wb, l2]
    simp only [wrap_u64_mod]
    generalize al * bl = p at *
    generalize ah * bl = q at *
    generalize al * bh = r at *
    generalize ah * bh = s at *
    generalize a * b = z at *
    clear l1 f1 f2 l2 hm hT
    omega
def wideCmp (a b c d : Int) : Int := if a = c ∧ b = d then 0 else if a < c ∨ (a = c ∧ b < d) then -1 else 1
theorem x_WCmp (a b c d : Int) : XC Try.prog 171 [.agg [xu a, xu b], .agg [xu c, xu d]] [] (xi (wideCmp a b c d)) [] := by
  (refine XC.of_body ([]) Try.func171 rfl Try.ntmps171 mixed (T := [(155, ti155), (235, ti235)]) (.cons tok155 (.cons tok235 .nil)) (by kernel_rfl) (by simp) rfl rfl rfl rfl rfl ?_; rintro o ho P hP c K hK; have hm : P.follows .mixedOrders = true := hP ▸ mixed; have hT : TOk P [(155, ti155), (235, ti235)] := hP ▸ (.cons tok155 (.cons tok235 .nil)); (try rw [← ho]); cbv; (repeat (refine StopN.mk ?_; cbv)))
  repeat' (first | (refine Br.mk (fun hb => ?_) (fun hb => ?_) <;> ((try rw [ho] at hb); (try dsimp only [Ar.real, IX.vo] at hb); (try simp only [QB1] at hb); (try simp only [QBo, beq_iff_eq, beq_eq_false_iff_ne, ne_eq] at hb))) | (refine StopN.mk ?_; cbv) | (refine hK _ _ ?_) | (refine NeedT.mk ?_ ?_))
  all_goals
    refine .i ?_
    ((try clear hR3); (try clear hR2); (try clear hR); (try clear hK); (try simp only [ncCast] at *); (try simp only [castI_eq] at *); (try rw [ho]); (try dsimp only [Ar.real, IX.vo, IX.val, BX.val, IX.toN]); (try simp only [QB1]))
    simp only [Bool.and_eq_true, Bool.and_eq_false_iff, decide_eq_true_eq, decide_eq_false_iff_not] at *
    unfold wideCmp
    repeat' split
    all_goals omega
def fracRight (n d : Int) : Bool := decide (0 ≤ n) && decide (1 ≤ d)
theorem x_fracRight (n d : Int) : XC Try.prog 78 [.agg [xi n, xi d]] [] (xb (fracRight n d)) [] := by
  (refine XC.of_body ([]) Try.func78 rfl Try.ntmps78 mixed (T := [(2, ti2), (64, ti64)]) (.cons tok2 (.cons tok64 .nil)) (by kernel_rfl) (by simp) rfl rfl rfl rfl rfl ?_; rintro o ho P hP c K hK; have hm : P.follows .mixedOrders = true := hP ▸ mixed; have hT : TOk P [(2, ti2), (64, ti64)] := hP ▸ (.cons tok2 (.cons tok64 .nil)); (try rw [← ho]); cbv; (repeat (refine StopN.mk ?_; cbv)))
  repeat' (first | (refine Br.mk (fun hb => ?_) (fun hb => ?_) <;> ((try rw [ho] at hb); (try dsimp only [Ar.real, IX.vo] at hb); (try simp only [QB1] at hb); (try simp only [QBo, beq_iff_eq, beq_eq_false_iff_ne, ne_eq] at hb))) | (refine StopN.mk ?_; cbv) | (refine hK _ _ ?_) | (refine NeedT.mk ?_ ?_))
  all_goals (refine .b ?_; ((try clear hR3); (try clear hR2); (try clear hR); (try clear hK); (try simp only [ncCast] at *); (try simp only [castI_eq] at *); (try rw [ho]); (try dsimp only [Ar.real, IX.vo, IX.val, BX.val, IX.toN]); (try simp only [QB1])); simp [fracRight, *])
  all_goals omega
def fracCmp (a b c d : Int) : Int := if fracRight a b = true ∧ fracRight c d = true then (if a * d = c * b then 0 else if a * d < c * b then -1 else 1) else 0
theorem wideCmp_mul {x y u v : Int} (h1 : 0 ≤ x * y) (h2 : 0 ≤ u * v) : wideCmp (mulHi x y) (mulLo x y) (mulHi u v) (mulLo u v) = if x * y = u * v then 0 else if x * y < u * v then -1 else 1 := by
  unfold wideCmp mulHi mulLo
  generalize x * y = p at *
  generalize u * v = q at *
  repeat' split
  all_goals omega
def i64B (x : Int) : Prop := -9223372036854775808 ≤ x ∧ x ≤ 9223372036854775807
theorem x_fracCmp (a b u v : Int) (ha : i64B a) (hb' : i64B b) (hc' : i64B u) (hd : i64B v) : XC Try.prog 144 [.agg [xi a, xi b], .agg [xi u, xi v]] [] (xi (fracCmp a b u v)) [] := by
  obtain ⟨a1, a2⟩ := ha
  obtain ⟨b1, b2⟩ := hb'
  obtain ⟨c1, c2⟩ := hc'
  obtain ⟨d1, d2⟩ := hd
  by_cases h : fracRight a b = true ∧ fracRight u v = true
  · have hr0 := h
    simp only [fracRight, Bool.and_eq_true, decide_eq_true_eq] at hr0
    obtain ⟨⟨a3, b3⟩, c3, d3⟩ := hr0
    have hm1 := x_Mul a v ⟨by omega, by omega⟩ ⟨by omega, by omega⟩
    have hm2 := x_Mul u b ⟨by omega, by omega⟩ ⟨by omega, by omega⟩
    have hw := wideCmp_mul (x := a) (y := v) (u := u) (v := b) (Int.mul_nonneg a3 (by omega)) (Int.mul_nonneg c3 (by omega))
    have hf : fracCmp a b u v = wideCmp (mulHi a v) (mulLo a v) (mulHi u b) (mulLo u b) := by rw [hw]; exact if_pos h
    have wa : IntKind.u64.wrap a = a := wrap_u64 (by omega) (by omega)
    have wb : IntKind.u64.wrap b = b := wrap_u64 (by omega) (by omega)
    have wu : IntKind.u64.wrap u = u := wrap_u64 (by omega) (by omega)
    have wv : IntKind.u64.wrap v = v := wrap_u64 (by omega) (by omega)
    rw [hf]
    generalize mulHi a v = p1 at *
    generalize mulLo a v = p2 at *
    generalize mulHi u b = p3 at *
    generalize mulLo u b = p4 at *
    have hm3 := x_WCmp p1 p2 p3 p4
    (refine XC.of_body ([(3, [(6, 7), (6, 8), (6, 10), (6, 11)])]) Try.func144 rfl Try.ntmps144 mixed (T := [(2, ti2), (4, ti4), (64, ti64), (155, ti155)]) (.cons tok2 (.cons tok4 (.cons tok64 (.cons tok155 .nil)))) (by kernel_rfl) (by simp) rfl rfl rfl rfl rfl ?_; rintro o ho P hP c K hK; have hm : P.follows .mixedOrders = true := hP ▸ mixed; have hT : TOk P [(2, ti2), (4, ti4), (64, ti64), (155, ti155)] := hP ▸ (.cons tok2 (.cons tok4 (.cons tok64 (.cons tok155 .nil)))); (try rw [← ho]); cbv; (repeat (refine StopN.mk ?_; cbv)))
    repeat' (first | (refine Br.mk (fun hb => ?_) (fun hb => ?_) <;> ((try rw [ho] at hb); (try dsimp only [Ar.real, IX.vo] at hb); (try simp only [QB1] at hb); (try simp only [QBo, beq_iff_eq, beq_eq_false_iff_ne, ne_eq] at hb))) | (refine StopN.mk ?_; cbv) | (refine CallN.pure hP hm1 fn169 rfl rfl (by rw [ho]; show X.toDL _ [xu (IntKind.u64.wrap a), xu (IntKind.u64.wrap v)] = _; rw [wa, wv]) ?_; cbv) | (refine CallN.pure hP hm2 fn169 rfl rfl (by rw [ho]; show X.toDL _ [xu (IntKind.u64.wrap u), xu (IntKind.u64.wrap b)] = _; rw [wu, wb]) ?_; cbv) | (refine CallN.pure hP hm3 fn171 rfl rfl rfl ?_; cbv) | ((first | refine CallI.pure hP (x_fracRight _ _) fn78 (by first | rfl | (rw [ho]; done) | (rw [ho]; rfl)) (by rfl) (by first | rfl | (rw [ho]; done) | (rw [ho]; rfl)) ?_ | refine CallN.pure hP (x_fracRight _ _) fn78 (by first | rfl | (rw [ho]; done) | (rw [ho]; rfl)) (by rfl) (by first | rfl | (rw [ho]; done) | (rw [ho]; rfl)) ?_); (try rw [← ho]); generalize hr : fracRight _ _ = r; (try rw [ho] at hr); (try dsimp only [Ar.real, IX.vo] at hr); (try simp only [QB1] at hr); cbv) | ((first | refine CallI.pure hP (x_Mul _ _ ‹_› ‹_›) fn169 (by first | rfl | (rw [ho]; done) | (rw [ho]; rfl)) (by rfl) (by first | rfl | (rw [ho]; done) | (rw [ho]; rfl)) ?_ | refine CallN.pure hP (x_Mul _ _ ‹_› ‹_›) fn169 (by first | rfl | (rw [ho]; done) | (rw [ho]; rfl)) (by rfl) (by first | rfl | (rw [ho]; done) | (rw [ho]; rfl)) ?_); (try rw [← ho]); generalize hr : mulHi _ _ = r; (try rw [ho] at hr); (try dsimp only [Ar.real, IX.vo] at hr); (try simp only [QB1] at hr); generalize hr : mulLo _ _ = r; (try rw [ho] at hr); (try dsimp only [Ar.real, IX.vo] at hr); (try simp only [QB1] at hr); cbv) | ((first | refine CallI.pure hP (x_WCmp _ _ _ _) fn171 (by first | rfl | (rw [ho]; done) | (rw [ho]; rfl)) (by rfl) (by first | rfl | (rw [ho]; done) | (rw [ho]; rfl)) ?_ | refine CallN.pure hP (x_WCmp _ _ _ _) fn171 (by first | rfl | (rw [ho]; done) | (rw [ho]; rfl)) (by rfl) (by first | rfl | (rw [ho]; done) | (rw [ho]; rfl)) ?_); (try rw [← ho]); generalize hr : wideCmp _ _ _ _ = r; (try rw [ho] at hr); (try dsimp only [Ar.real, IX.vo] at hr); (try simp only [QB1] at hr); cbv) | (refine hK _ _ ?_) | (refine NeedT.mk ?_ ?_))
    all_goals first
      | exact .i rfl
      | (exfalso; simp_all; done)
  · rw [show fracCmp a b u v = 0 from if_neg h]
    (refine XC.of_body ([(3, [(6, 7), (6, 8), (6, 10), (6, 11)])]) Try.func144 rfl Try.ntmps144 mixed (T := [(2, ti2), (4, ti4), (64, ti64), (155, ti155)]) (.cons tok2 (.cons tok4 (.cons tok64 (.cons tok155 .nil)))) (by kernel_rfl) (by simp) rfl rfl rfl rfl rfl ?_; rintro o ho P hP c K hK; have hm : P.follows .mixedOrders = true := hP ▸ mixed; have hT : TOk P [(2, ti2), (4, ti4), (64, ti64), (155, ti155)] := hP ▸ (.cons tok2 (.cons tok4 (.cons tok64 (.cons tok155 .nil)))); (try rw [← ho]); cbv; (repeat (refine StopN.mk ?_; cbv)))
    repeat' (first | (refine Br.mk (fun hb => ?_) (fun hb => ?_) <;> ((try rw [ho] at hb); (try dsimp only [Ar.real, IX.vo] at hb); (try simp only [QB1] at hb); (try simp only [QBo, beq_iff_eq, beq_eq_false_iff_ne, ne_eq] at hb))) | (refine StopN.mk ?_; cbv) | ((first | refine CallI.pure hP (x_fracRight _ _) fn78 (by first | rfl | (rw [ho]; done) | (rw [ho]; rfl)) (by rfl) (by first | rfl | (rw [ho]; done) | (rw [ho]; rfl)) ?_ | refine CallN.pure hP (x_fracRight _ _) fn78 (by first | rfl | (rw [ho]; done) | (rw [ho]; rfl)) (by rfl) (by first | rfl | (rw [ho]; done) | (rw [ho]; rfl)) ?_); (try rw [← ho]); generalize hr : fracRight _ _ = r; (try rw [ho] at hr); (try dsimp only [Ar.real, IX.vo] at hr); (try simp only [QB1] at hr); cbv) | ((first | refine CallI.pure hP (x_Mul _ _ ‹_› ‹_›) fn169 (by first | rfl | (rw [ho]; done) | (rw [ho]; rfl)) (by rfl) (by first | rfl | (rw [ho]; done) | (rw [ho]; rfl)) ?_ | refine CallN.pure hP (x_Mul _ _ ‹_› ‹_›) fn169 (by first | rfl | (rw [ho]; done) | (rw [ho]; rfl)) (by rfl) (by first | rfl | (rw [ho]; done) | (rw [ho]; rfl)) ?_); (try rw [← ho]); generalize hr : mulHi _ _ = r; (try rw [ho] at hr); (try dsimp only [Ar.real, IX.vo] at hr); (try simp only [QB1] at hr); generalize hr : mulLo _ _ = r; (try rw [ho] at hr); (try dsimp only [Ar.real, IX.vo] at hr); (try simp only [QB1] at hr); cbv) | ((first | refine CallI.pure hP (x_WCmp _ _ _ _) fn171 (by first | rfl | (rw [ho]; done) | (rw [ho]; rfl)) (by rfl) (by first | rfl | (rw [ho]; done) | (rw [ho]; rfl)) ?_ | refine CallN.pure hP (x_WCmp _ _ _ _) fn171 (by first | rfl | (rw [ho]; done) | (rw [ho]; rfl)) (by rfl) (by first | rfl | (rw [ho]; done) | (rw [ho]; rfl)) ?_); (try rw [← ho]); generalize hr : wideCmp _ _ _ _ = r; (try rw [ho] at hr); (try dsimp only [Ar.real, IX.vo] at hr); (try simp only [QB1] at hr); cbv) | (refine hK _ _ ?_) | (refine NeedT.mk ?_ ?_))
    all_goals first
      | exact .i rfl
      | (exfalso; simp_all; done)
end Go.Proofs.Ytddgcegimmcbgaa.Sy
namespace Go.Proofs.Ytddgcegimmcbgaa.Sy
open Go Go.Sy Go.Proofs.Ytddgcegimmcbgaa
structure DomS where
  num : Int
  den : Int
  at_ : Int
instance : Inhabited DomS := ⟨⟨0, 0, 0⟩⟩
def foldADomS_num (e : DomS) := (by
  have h : PLift (e.num = e.num) := ⟨rfl⟩
  conv at h => arg 1; lhs; delta DomS.num
  exact h)
theorem foldDomS_num (e : DomS) : type_of% (foldADomS_num e).down := (foldADomS_num e).down
def foldADomS_den (e : DomS) := (by
  have h : PLift (e.den = e.den) := ⟨rfl⟩
  conv at h => arg 1; lhs; delta DomS.den
  exact h)
theorem foldDomS_den (e : DomS) : type_of% (foldADomS_den e).down := (foldADomS_den e).down
def foldADomS_at_ (e : DomS) := (by
  have h : PLift (e.at_ = e.at_) := ⟨rfl⟩
  conv at h => arg 1; lhs; delta DomS.at_
  exact h)
theorem foldDomS_at_ (e : DomS) : type_of% (foldADomS_at_ e).down := (foldADomS_at_ e).down
theorem foldDomS : (⟨0, 0, 0⟩ : DomS) = default := rfl
structure S4 where
  a : Int
  b : Int
  c : Int
  d : Int
  deriving DecidableEq
instance : Inhabited S4 := ⟨⟨0, 0, 0, 0⟩⟩
def foldAS4_a (e : S4) := (by
  have h : PLift (e.a = e.a) := ⟨rfl⟩
  conv at h => arg 1; lhs; delta S4.a
  exact h)
theorem foldS4_a (e : S4) : type_of% (foldAS4_a e).down := (foldAS4_a e).down
def foldAS4_b (e : S4) := (by
  have h : PLift (e.b = e.b) := ⟨rfl⟩
  conv at h => arg 1; lhs; delta S4.b
  exact h)
theorem foldS4_b (e : S4) : type_of% (foldAS4_b e).down := (foldAS4_b e).down
def foldAS4_c (e : S4) := (by
  have h : PLift (e.c = e.c) := ⟨rfl⟩
  conv at h => arg 1; lhs; delta S4.c
  exact h)
theorem foldS4_c (e : S4) : type_of% (foldAS4_c e).down := (foldAS4_c e).down
def foldAS4_d (e : S4) := (by
  have h : PLift (e.d = e.d) := ⟨rfl⟩
  conv at h => arg 1; lhs; delta S4.d
  exact h)
theorem foldS4_d (e : S4) : type_of% (foldAS4_d e).down := (foldAS4_d e).down
theorem foldS4 : (⟨0, 0, 0, 0⟩ : S4) = default := rfl
theorem QB2 : type_of% (And.intro @foldDomS (And.intro @foldS4 (And.intro @foldDomS_num (And.intro @foldDomS_den (And.intro @foldDomS_at_ (And.intro @foldS4_a (And.intro @foldS4_b (And.intro @foldS4_c (And.intro @foldS4_d (QB1)))))))))) := And.intro @foldDomS (And.intro @foldS4 (And.intro @foldDomS_num (And.intro @foldDomS_den (And.intro @foldDomS_at_ (And.intro @foldS4_a (And.intro @foldS4_b (And.intro @foldS4_c (And.intro @foldS4_d (QB1)))))))))
def S4.X (_ : Ar) (s : S4) : List X := [xi s.a, xi s.b, xi s.c, xi s.d]
def S4.at_ (s : S4) (k : Nat) : Int := [s.a, s.b, s.c, s.d].getD k 0
def okS (x : Int) : Bool := decide (0 ≤ x) && decide (x ≤ 1152921504606846976)
def sumsRight (s : S4) : Bool := okS s.a && (okS s.b && (okS s.c && okS s.d))
theorem sumsRight_iff (s : S4) : sumsRight s = true ↔ (0 ≤ s.a ∧ s.a ≤ 1152921504606846976) ∧ (0 ≤ s.b ∧ s.b ≤ 1152921504606846976) ∧ (0 ≤ s.c ∧ s.c ≤ 1152921504606846976) ∧ (0 ≤ s.d ∧ s.d ≤ 1152921504606846976) := by
  simp [sumsRight, okS]
theorem x_sumsRight (s : S4) : XC Try.prog 143 [.agg (S4.X Ar.real s)] [] (xb (sumsRight s)) [] := by
  obtain ⟨a, b, u, d⟩ := s
  (refine XC.of_body ([]) Try.func143 rfl Try.ntmps143 mixed (T := [(2, ti2), (3, ti3), (61, ti61)]) (.cons tok2 (.cons tok3 (.cons tok61 .nil))) (by kernel_rfl) (by simp) rfl rfl rfl rfl rfl ?_; rintro o ho P hP c K hK; have hm : P.follows .mixedOrders = true := hP ▸ mixed; have hT : TOk P [(2, ti2), (3, ti3), (61, ti61)] := hP ▸ (.cons tok2 (.cons tok3 (.cons tok61 .nil))); (try rw [← ho]); cbv; (repeat (refine StopN.mk ?_; cbv)))
  repeat' (first | (refine Br.mk (fun hb => ?_) (fun hb => ?_) <;> ((try rw [ho] at hb); (try dsimp only [Ar.real, IX.vo] at hb); (try simp only [QB2] at hb); (try simp only [QBo, beq_iff_eq, beq_eq_false_iff_ne, ne_eq] at hb))) | (refine StopN.mk ?_; cbv) | (refine hK _ _ ?_) | (refine NeedT.mk ?_ ?_) | (refine LoopN.lay (o := o) (D := []) 5 ho hm hT (by kernel_rfl) ?_; cbv))
  all_goals
    refine .b ?_
    ((try clear hR3); (try clear hR2); (try clear hR); (try clear hK); (try simp only [ncCast] at *); (try simp only [castI_eq] at *); (try rw [ho]); (try dsimp only [Ar.real, IX.vo, IX.val, BX.val, IX.toN]); (try simp only [QB2]))
    rw [Bool.eq_iff_iff, sumsRight_iff]
    simp only [BX.val, reduceCtorEq, true_iff, false_iff, not_and]
    omega
theorem FinX_S4b {a b u d : IX} {s : S4} {y : BX} {r : Bool} (h1 : a.val = s.a) (h2 : b.val = s.b) (h3 : u.val = s.c) (h4 : d.val = s.d) (h5 : y.val = r) : FinX (.tup [.agg (S4.X Ar.real s), xb r]) [] (.tup [.agg [.i .i64 a, .i .i64 b, .i .i64 u, .i .i64 d], .b y]) [] := .pure fun _ => by simp only [S4.X, X.toD, X.toDL, h1, h2, h3, h4, h5]; rfl
def sumsAdd (s t : S4) : S4 × Bool :=
  if sumsRight s = true ∧ sumsRight t = true ∧ sumsRight ⟨s.a + t.a, s.b + t.b, s.c + t.c, s.d + t.d⟩ = true then (⟨s.a + t.a, s.b + t.b, s.c + t.c, s.d + t.d⟩, true) else (⟨0, 0, 0, 0⟩, false)
theorem x_sumsAdd (s t : S4) : XC Try.prog 129 [.agg (S4.X Ar.real s), .agg (S4.X Ar.real t)] [] (.tup [.agg (S4.X Ar.real (sumsAdd s t).1), xb (sumsAdd s t).2]) [] := by
  have hs := x_sumsRight s
  have ht := x_sumsRight t
  have hu := x_sumsRight ⟨s.a + t.a, s.b + t.b, s.c + t.c, s.d + t.d⟩
  have is := sumsRight_iff s
  have it := sumsRight_iff t
  unfold sumsAdd
  by_cases h0 : sumsRight s = true ∧ sumsRight t = true
  · have i1 := is.1 h0.1
    have i2 := it.1 h0.2
    rw [h0.1] at hs
    rw [h0.2] at ht
    simp only [h0.1, h0.2, true_and]
    clear is it h0
    obtain ⟨u, hu0⟩ : ∃ q : S4, q = ⟨s.a + t.a, s.b + t.b, s.c + t.c, s.d + t.d⟩ := ⟨_, rfl⟩
    rw [← hu0] at hu ⊢
    generalize sumsRight u = ru at *
    obtain ⟨a, b, p, d⟩ := s
    obtain ⟨a', b', p', d'⟩ := t
    obtain ⟨a2, b2, p2, d2⟩ := u
    simp only [S4.mk.injEq] at hu0
    obtain ⟨e1, e2, e3, e4⟩ := hu0
    dsimp only at i1 i2
    (refine XC.of_body ([(6, [])]) Try.func129 rfl Try.ntmps129 mixed (T := [(2, ti2), (3, ti3), (4, ti4), (61, ti61)]) (.cons tok2 (.cons tok3 (.cons tok4 (.cons tok61 .nil)))) (by kernel_rfl) (by simp) rfl rfl rfl rfl rfl ?_; rintro o ho P hP c K hK; have hm : P.follows .mixedOrders = true := hP ▸ mixed; have hT : TOk P [(2, ti2), (3, ti3), (4, ti4), (61, ti61)] := hP ▸ (.cons tok2 (.cons tok3 (.cons tok4 (.cons tok61 .nil)))); (try rw [← ho]); cbv; (repeat (refine StopN.mk ?_; cbv)))
    repeat' (first | (refine Br.mk (fun hb => ?_) (fun hb => ?_) <;> ((try rw [ho] at hb); (try dsimp only [Ar.real, IX.vo] at hb); (try simp only [QB2] at hb); (try simp only [QBo, beq_iff_eq, beq_eq_false_iff_ne, ne_eq] at hb))) | (refine StopN.mk ?_; cbv) | (first | refine CallI.pure hP hs fn143 rfl rfl rfl ?_ | refine CallI.pure hP ht fn143 rfl rfl rfl ?_ | refine CallI.pure hP hu fn143 rfl rfl (by (rw [ho]; (try dsimp only [Ar.real, IX.vo, IX.val]); (try simp only [castI_eq]); (repeat rw [wrap_i64 (by omega) (by omega)])); rw [← e1, ← e2, ← e3, ← e4]; rfl) ?_); cbv | ((first | refine CallI.pure hP (x_sumsRight _) fn143 (by first | rfl | (rw [ho]; done) | (rw [ho]; rfl)) (by rfl) (by first | rfl | (rw [ho]; done) | (rw [ho]; rfl)) ?_ | refine CallN.pure hP (x_sumsRight _) fn143 (by first | rfl | (rw [ho]; done) | (rw [ho]; rfl)) (by rfl) (by first | rfl | (rw [ho]; done) | (rw [ho]; rfl)) ?_); (try rw [← ho]); generalize hr : sumsRight _ = r; (try rw [ho] at hr); (try dsimp only [Ar.real, IX.vo] at hr); (try simp only [QB2] at hr); cbv) | (refine hK _ _ ?_) | (refine NeedT.mk ?_ ?_) | (refine LoopN.lay (o := o) (D := [(6, [])]) 5 ho hm hT (by kernel_rfl) ?_; cbv))
    · exact absurd ‹true = false› (by decide)
    · exact absurd ‹true = false› (by decide)
    · rw [‹ru = false›]
      exact FinX_S4b rfl rfl rfl rfl rfl
    · rw [‹ru = true›]
      refine FinX_S4b ?_ ?_ ?_ ?_ rfl <;> ((rw [ho]; (try dsimp only [Ar.real, IX.vo, IX.val]); (try simp only [castI_eq]); (repeat rw [wrap_i64 (by omega) (by omega)])); (first | exact e1.symm | exact e2.symm | exact e3.symm | exact e4.symm))
  · rw [if_neg (fun h => h0 ⟨h.1, h.2.1⟩)]
    generalize sumsRight s = rs at *
    generalize sumsRight t = rt at *
    clear hu
    obtain ⟨a, b, p, d⟩ := s
    obtain ⟨a', b', p', d'⟩ := t
    (refine XC.of_body ([(6, [])]) Try.func129 rfl Try.ntmps129 mixed (T := [(2, ti2), (3, ti3), (4, ti4), (61, ti61)]) (.cons tok2 (.cons tok3 (.cons tok4 (.cons tok61 .nil)))) (by kernel_rfl) (by simp) rfl rfl rfl rfl rfl ?_; rintro o ho P hP c K hK; have hm : P.follows .mixedOrders = true := hP ▸ mixed; have hT : TOk P [(2, ti2), (3, ti3), (4, ti4), (61, ti61)] := hP ▸ (.cons tok2 (.cons tok3 (.cons tok4 (.cons tok61 .nil)))); (try rw [← ho]); cbv; (repeat (refine StopN.mk ?_; cbv)))
    repeat' (first | (refine Br.mk (fun hb => ?_) (fun hb => ?_) <;> ((try rw [ho] at hb); (try dsimp only [Ar.real, IX.vo] at hb); (try simp only [QB2] at hb); (try simp only [QBo, beq_iff_eq, beq_eq_false_iff_ne, ne_eq] at hb))) | (refine StopN.mk ?_; cbv) | (first | refine CallI.pure hP hs fn143 rfl rfl rfl ?_ | refine CallI.pure hP ht fn143 rfl rfl rfl ?_); cbv | ((first | refine CallI.pure hP (x_sumsRight _) fn143 (by first | rfl | (rw [ho]; done) | (rw [ho]; rfl)) (by rfl) (by first | rfl | (rw [ho]; done) | (rw [ho]; rfl)) ?_ | refine CallN.pure hP (x_sumsRight _) fn143 (by first | rfl | (rw [ho]; done) | (rw [ho]; rfl)) (by rfl) (by first | rfl | (rw [ho]; done) | (rw [ho]; rfl)) ?_); (try rw [← ho]); generalize hr : sumsRight _ = r; (try rw [ho] at hr); (try dsimp only [Ar.real, IX.vo] at hr); (try simp only [QB2] at hr); cbv) | (refine hK _ _ ?_) | (refine NeedT.mk ?_ ?_))
    all_goals first
      | exact FinX_S4b rfl rfl rfl rfl rfl
      | (exfalso; simp_all; done)
      | trace_state
def sumsHolds (s t : S4) : Bool := decide (t.a ≤ s.a ∧ t.b ≤ s.b ∧ t.c ≤ s.c ∧ t.d ≤ s.d) && (sumsRight s && sumsRight t)
theorem x_sumsHolds (s t : S4) : XC Try.prog 83 [.agg (S4.X Ar.real s), .agg (S4.X Ar.real t)] [] (xb (sumsHolds s t)) [] := by
  have hs := x_sumsRight s
  have ht := x_sumsRight t
  unfold sumsHolds
  generalize sumsRight s = rs at *
  generalize sumsRight t = rt at *
  obtain ⟨a, b, p, d⟩ := s
  obtain ⟨a', b', p', d'⟩ := t
  (refine XC.of_body ([(4, [])]) Try.func83 rfl Try.ntmps83 mixed (T := [(2, ti2), (3, ti3), (61, ti61)]) (.cons tok2 (.cons tok3 (.cons tok61 .nil))) (by kernel_rfl) (by simp) rfl rfl rfl rfl rfl ?_; rintro o ho P hP c K hK; have hm : P.follows .mixedOrders = true := hP ▸ mixed; have hT : TOk P [(2, ti2), (3, ti3), (61, ti61)] := hP ▸ (.cons tok2 (.cons tok3 (.cons tok61 .nil))); (try rw [← ho]); cbv; (repeat (refine StopN.mk ?_; cbv)))
  repeat' (first | (refine Br.mk (fun hb => ?_) (fun hb => ?_) <;> ((try rw [ho] at hb); (try dsimp only [Ar.real, IX.vo] at hb); (try simp only [QB2] at hb); (try simp only [QBo, beq_iff_eq, beq_eq_false_iff_ne, ne_eq] at hb))) | (refine StopN.mk ?_; cbv) | (first | refine CallI.pure hP hs fn143 rfl rfl rfl ?_ | refine CallI.pure hP ht fn143 rfl rfl rfl ?_); cbv | ((first | refine CallI.pure hP (x_sumsRight _) fn143 (by first | rfl | (rw [ho]; done) | (rw [ho]; rfl)) (by rfl) (by first | rfl | (rw [ho]; done) | (rw [ho]; rfl)) ?_ | refine CallN.pure hP (x_sumsRight _) fn143 (by first | rfl | (rw [ho]; done) | (rw [ho]; rfl)) (by rfl) (by first | rfl | (rw [ho]; done) | (rw [ho]; rfl)) ?_); (try rw [← ho]); generalize hr : sumsRight _ = r; (try rw [ho] at hr); (try dsimp only [Ar.real, IX.vo] at hr); (try simp only [QB2] at hr); cbv) | (refine hK _ _ ?_) | (refine NeedT.mk ?_ ?_) | (refine LoopN.lay (o := o) (D := [(4, [])]) 5 ho hm hT (by kernel_rfl) ?_; cbv))
  all_goals
    refine .b ?_
    ((try clear hR3); (try clear hR2); (try clear hR); (try clear hK); (try simp only [ncCast] at *); (try simp only [castI_eq] at *); (try rw [ho]); (try dsimp only [Ar.real, IX.vo, IX.val, BX.val, IX.toN]); (try simp only [QB2]))
    first
      | (rw [decide_eq_true ⟨by assumption, by assumption, by assumption, by assumption⟩]; simp_all; done)
      | (rw [decide_eq_false (fun h => by omega)]; rfl)
def minQ (m x y : Int) : Int := if 0 < y then min m (IntKind.i64.wrap (x.tdiv y)) else m
def sumsMany (s t : S4) : Int := if sumsRight s = true ∧ sumsRight t = true ∧ t ≠ ⟨0, 0, 0, 0⟩ then minQ (minQ (minQ (minQ 1152921504606846976 s.a t.a) s.b t.b) s.c t.c) s.d t.d else 0
def manyTo (s t : S4) : Nat → Int
  | 0 => 1152921504606846976
  | k + 1 => minQ (manyTo s t k) (s.at_ k) (t.at_ k)
theorem manyTo_4 (s t : S4) : manyTo s t 4 = minQ (minQ (minQ (minQ 1152921504606846976 s.a t.a) s.b t.b) s.c t.c) s.d t.d := rfl
theorem x_sumsMany (s t : S4) : XC Try.prog 207 [.agg (S4.X Ar.real s), .agg (S4.X Ar.real t)] [] (xi (sumsMany s t)) [] := by
  have hs := x_sumsRight s
  have ht := x_sumsRight t
  have hz : t = ⟨0, 0, 0, 0⟩ ↔ t.a = 0 ∧ t.b = 0 ∧ t.c = 0 ∧ t.d = 0 := by
    obtain ⟨a, b, p, d⟩ := t
    simp
  unfold sumsMany
  rw [← manyTo_4]
  have hm0 : manyTo s t 0 = 1152921504606846976 := rfl
  have hm1 : ∀ k, manyTo s t (k + 1) = minQ (manyTo s t k) (s.at_ k) (t.at_ k) := fun _ => rfl
  have ha : ∀ k : Nat, k < 4 → s.at_ k = [s.a, s.b, s.c, s.d].getD k 0 ∧ t.at_ k = [t.a, t.b, t.c, t.d].getD k 0 := fun _ _ => ⟨rfl, rfl⟩
  generalize hM : manyTo s t = M at *
  generalize sumsRight s = rs at *
  generalize sumsRight t = rt at *
  generalize hS : s.at_ = sa at *
  generalize hT2 : t.at_ = ta at *
  clear hM hS hT2
  obtain ⟨a, b, p, d⟩ := s
  obtain ⟨a', b', p', d'⟩ := t
  dsimp only at hz ha
  (refine XC.of_body ([(8, [])]) Try.func207 rfl Try.ntmps207 mixed (T := [(2, ti2), (3, ti3), (4, ti4), (61, ti61)]) (.cons tok2 (.cons tok3 (.cons tok4 (.cons tok61 .nil)))) (by kernel_rfl) (by simp) rfl rfl rfl rfl rfl ?_; rintro o ho P hP c K hK; have hm : P.follows .mixedOrders = true := hP ▸ mixed; have hT : TOk P [(2, ti2), (3, ti3), (4, ti4), (61, ti61)] := hP ▸ (.cons tok2 (.cons tok3 (.cons tok4 (.cons tok61 .nil)))); (try rw [← ho]); cbv; (repeat (refine StopN.mk ?_; cbv)))
  repeat' (first | (refine Br.mk (fun hb => ?_) (fun hb => ?_) <;> ((try rw [ho] at hb); (try dsimp only [Ar.real, IX.vo] at hb); (try simp only [QB2] at hb); (try simp only [QBo, beq_iff_eq, beq_eq_false_iff_ne, ne_eq] at hb))) | (refine StopN.mk ?_; cbv) | (first | refine CallI.pure hP hs fn143 rfl rfl rfl ?_ | refine CallI.pure hP ht fn143 rfl rfl rfl ?_); cbv | ((first | refine CallI.pure hP (x_sumsRight _) fn143 (by first | rfl | (rw [ho]; done) | (rw [ho]; rfl)) (by rfl) (by first | rfl | (rw [ho]; done) | (rw [ho]; rfl)) ?_ | refine CallN.pure hP (x_sumsRight _) fn143 (by first | rfl | (rw [ho]; done) | (rw [ho]; rfl)) (by rfl) (by first | rfl | (rw [ho]; done) | (rw [ho]; rfl)) ?_); (try rw [← ho]); generalize hr : sumsRight _ = r; (try rw [ho] at hr); (try dsimp only [Ar.real, IX.vo] at hr); (try simp only [QB2] at hr); cbv) | (refine hK _ _ ?_) | (refine NeedT.mk ?_ ?_))
  · refine .i ?_
    rw [if_neg (fun h => by rw [h.1] at hb; cases hb)]
    rfl
  · refine .i ?_
    rw [if_neg (fun h => by rw [h.2.1] at hb; cases hb)]
    rfl
  · refine .i ?_
    rw [if_neg (fun h => h.2.2 (hz.2 (by simpa using hb)))]
    rfl
  have hne : ¬ (⟨a', b', p', d'⟩ : S4) = ⟨0, 0, 0, 0⟩ := fun h => by
    have := hz.1 h
    simp [this.1, this.2.1, this.2.2.1, this.2.2.2] at hb
  have hres : (if rs = true ∧ rt = true ∧ ¬ (⟨a', b', p', d'⟩ : S4) = ⟨0, 0, 0, 0⟩ then M 4 else 0) = M 4 := if_pos ⟨by assumption, by assumption, hne⟩
  rw [show (if rs = true ∧ rt = true ∧ (⟨a', b', p', d'⟩ : S4) ≠ ⟨0, 0, 0, 0⟩ then M 4 else 0) = M 4 from hres] at hK
  refine LoopN.over (o := o) (D := [(8, [])]) ho hm hT (by kernel_rfl) (fun a : Nat => [(20, xn a), (5, xi (M a))]) (fun _ => []) (fun _ => []) (fun a => a ≤ 4) (fun a => 4 - a) 0 (by omega) ?_ ?_
  · refine ⟨(by cbv), by cbv; repeat' (first | trivial | exact EqX.rfl' | exact EqO.rfl' | apply And.intro | ((try clear hR3); (try clear hR2); (try clear hR); (try clear hK); (try simp only [ncCast] at *); (try simp only [castI_eq] at *); refine EqX.i ?_; (try rw [ho]); (try dsimp only [Ar.real, IX.vo, IX.val, BX.val, IX.toN]); (try simp only [QB2]); (repeat rw [wrap_i64 (by omega) (by omega)]); omega) | (refine EqX.i ?_; rw [hm0]; rfl)), by cbv; repeat' (first | trivial | exact EqO.rfl' | apply And.intro | (refine EqX.i ?_; rw [hm0]; rfl)), by cbv; repeat' (first | trivial | exact EqO.rfl' | apply And.intro | (refine EqX.i ?_; rw [hm0]; rfl))⟩
  · rintro i hi R hR
    have h3 : i < 4 → 0 < [a', b', p', d'].getD ((i : Int).toNat) 0 → M (i + 1) = min (M i) (IntKind.i64.wrap (([a, b, p, d].getD ((i : Int).toNat) 0).tdiv ([a', b', p', d'].getD ((i : Int).toNat) 0))) := fun h h' => by
      rw [Int.toNat_natCast] at h' ⊢
      rw [hm1 i, (ha i h).1, (ha i h).2]
      exact if_pos h'
    have h4 : i < 4 → [a', b', p', d'].getD ((i : Int).toNat) 0 ≤ 0 → M (i + 1) = M i := fun h h' => by
      rw [Int.toNat_natCast] at h'
      rw [hm1 i, (ha i h).1, (ha i h).2]
      exact if_neg (by omega)
    cbv
    repeat' (first | (refine Br.mk (fun hb => ?_) (fun hb => ?_) <;> ((try rw [ho] at hb); (try dsimp only [Ar.real, IX.vo] at hb); (try simp only [QB2] at hb); (try simp only [QBo, beq_iff_eq, beq_eq_false_iff_ne, ne_eq] at hb))) | (refine StopN.mk ?_; cbv) | ((first | refine CallI.pure hP (x_sumsRight _) fn143 (by first | rfl | (rw [ho]; done) | (rw [ho]; rfl)) (by rfl) (by first | rfl | (rw [ho]; done) | (rw [ho]; rfl)) ?_ | refine CallN.pure hP (x_sumsRight _) fn143 (by first | rfl | (rw [ho]; done) | (rw [ho]; rfl)) (by rfl) (by first | rfl | (rw [ho]; done) | (rw [ho]; rfl)) ?_); (try rw [← ho]); generalize hr : sumsRight _ = r; (try rw [ho] at hr); (try dsimp only [Ar.real, IX.vo] at hr); (try simp only [QB2] at hr); cbv) | (refine hK _ _ ?_) | (refine NeedT.mk ?_ ?_))
    any_goals (((try clear hR3); (try clear hR2); (try clear hR); (try clear hK); (try simp only [ncCast] at *); (try simp only [castI_eq] at *); (try rw [ho]); (try dsimp only [Ar.real, IX.vo, IX.val, BX.val, IX.toN]); (try simp only [QB2]); (try simp only [decide_eq_true_eq]); (all_goals (repeat rw [wrap_i64 (by omega) (by omega)])); (all_goals (first | omega | (simp only [Int.ofNat_eq_natCast]; omega)))); done)
    · ((try clear hR3); (try clear hR2); (try clear hR); (try clear hK); (try simp only [ncCast] at *); (try simp only [castI_eq] at *); (try rw [ho]); (try dsimp only [Ar.real, IX.vo, IX.val, BX.val, IX.toN]); (try simp only [QB2]))
      simp only [Bool.not_eq_true', decide_eq_false_iff_not]
      omega
    · have h5 := h3 (by ((try clear hR3); (try clear hR2); (try clear hR); (try clear hK); (try simp only [ncCast] at *); (try simp only [castI_eq] at *)); omega) hb
      refine hR _ (i + 1) (by omega) (by omega) ?_
      refine ⟨(by cbv), by cbv; repeat' (first | trivial | exact EqX.rfl' | exact EqO.rfl' | apply And.intro | ((try clear hR3); (try clear hR2); (try clear hR); (try clear hK); (try simp only [ncCast] at *); (try simp only [castI_eq] at *); refine EqX.i ?_; (try rw [ho]); (try dsimp only [Ar.real, IX.vo, IX.val, BX.val, IX.toN]); (try simp only [QB2]); (repeat rw [wrap_i64 (by omega) (by omega)]); omega) | (refine EqX.i ?_; rw [h5, ho]; rfl)), by cbv; repeat' (first | trivial | exact EqO.rfl' | apply And.intro | (refine EqX.i ?_; rw [h5, ho]; rfl)), by cbv; repeat' (first | trivial | exact EqO.rfl' | apply And.intro | (refine EqX.i ?_; rw [h5, ho]; rfl))⟩
    · have h5 := h4 (by ((try clear hR3); (try clear hR2); (try clear hR); (try clear hK); (try simp only [ncCast] at *); (try simp only [castI_eq] at *)); omega) hb
      refine hR _ (i + 1) (by omega) (by omega) ?_
      refine ⟨(by cbv), by cbv; repeat' (first | trivial | exact EqX.rfl' | exact EqO.rfl' | apply And.intro | ((try clear hR3); (try clear hR2); (try clear hR); (try clear hK); (try simp only [ncCast] at *); (try simp only [castI_eq] at *); refine EqX.i ?_; (try rw [ho]); (try dsimp only [Ar.real, IX.vo, IX.val, BX.val, IX.toN]); (try simp only [QB2]); (repeat rw [wrap_i64 (by omega) (by omega)]); omega) | (refine EqX.i ?_; rw [h5])), by cbv; repeat' (first | trivial | exact EqO.rfl' | apply And.intro | (refine EqX.i ?_; rw [h5])), by cbv; repeat' (first | trivial | exact EqO.rfl' | apply And.intro | (refine EqX.i ?_; rw [h5]))⟩
    · obtain rfl : i = 4 := by omega
      exact .i rfl
def domStep (x : DomS) (n d : Int) (k : Nat) : DomS := if 0 < d ∧ (x.at_ = -1 ∨ 0 < fracCmp n d x.num x.den) then ⟨n, d, k⟩ else x
def domTo (s t : S4) : Nat → DomS
  | 0 => ⟨0, 1, -1⟩
  | k + 1 => domStep (domTo s t k) (s.at_ k) (t.at_ k) k
def sumsDom (s t : S4) : DomS := if sumsRight s = true ∧ sumsRight t = true then domTo s t 4 else ⟨0, 1, -1⟩
theorem S4.at_bd {s : S4} (h : sumsRight s = true) (k : Nat) : 0 ≤ s.at_ k ∧ s.at_ k ≤ 1152921504606846976 := by
  have := (sumsRight_iff s).1 h
  match k with
  | 0 => exact this.1
  | 1 => exact this.2.1
  | 2 => exact this.2.2.1
  | 3 => exact this.2.2.2
  | k + 4 => exact (by show (0 : Int) ≤ 0 ∧ (0 : Int) ≤ 1152921504606846976; decide)
theorem domTo_bd {s t : S4} (h : sumsRight s = true) (h' : sumsRight t = true) : ∀ k, (0 ≤ (domTo s t k).num ∧ (domTo s t k).num ≤ 1152921504606846976) ∧ (0 ≤ (domTo s t k).den ∧ (domTo s t k).den ≤ 1152921504606846976) ∧ -1 ≤ (domTo s t k).at_ ∧ (domTo s t k).at_ < k
  | 0 => by simp [domTo]
  | k + 1 => by
    have ih := domTo_bd h h' k
    have h1 := S4.at_bd h k
    have h2 := S4.at_bd h' k
    simp only [domTo, domStep]
    split
    · dsimp only; omega
    · omega
theorem FinX_dom {a n d : IX} {x : DomS} (h1 : a.val = x.at_) (h2 : n.val = x.num) (h3 : d.val = x.den) : FinX (.tup [xi x.at_, .agg [xi x.num, xi x.den]]) [] (.tup [.i .i64 a, .agg [.i .i64 n, .i .i64 d]]) [] := .pure fun _ => by simp only [X.toD, X.toDL, h1, h2, h3]; rfl
theorem x_sumsDom (s t : S4) : XC Try.prog 82 [.agg (S4.X Ar.real s), .agg (S4.X Ar.real t)] [] (.tup [xi (sumsDom s t).at_, .agg [xi (sumsDom s t).num, xi (sumsDom s t).den]]) [] := by
  have hs := x_sumsRight s
  have ht := x_sumsRight t
  unfold sumsDom
  by_cases h0 : sumsRight s = true ∧ sumsRight t = true
  · rw [if_pos h0]
    have hbd := domTo_bd h0.1 h0.2
    have h1 := fun k => S4.at_bd h0.1 k
    have h2 := fun k => S4.at_bd h0.2 k
    rw [h0.1] at hs
    rw [h0.2] at ht
    have hm0 : domTo s t 0 = ⟨0, 1, -1⟩ := rfl
    have hm1 : ∀ k, domTo s t (k + 1) = domStep (domTo s t k) (s.at_ k) (t.at_ k) k := fun _ => rfl
    have ha : ∀ k : Nat, s.at_ k = [s.a, s.b, s.c, s.d].getD k 0 ∧ t.at_ k = [t.a, t.b, t.c, t.d].getD k 0 := fun _ => ⟨rfl, rfl⟩
    clear h0
    generalize hM : domTo s t = M at *
    generalize hS : s.at_ = sa at *
    generalize hT2 : t.at_ = ta at *
    clear hM hS hT2
    obtain ⟨a, b, p, d⟩ := s
    obtain ⟨a', b', p', d'⟩ := t
    dsimp only at ha
    (refine XC.of_body ([(3, []), (7, [(1, 7), (2, 7), (4, 7), (5, 7)]), (11, [])]) Try.func82 rfl Try.ntmps82 mixed (T := [(2, ti2), (3, ti3), (4, ti4), (61, ti61), (64, ti64)]) (.cons tok2 (.cons tok3 (.cons tok4 (.cons tok61 (.cons tok64 .nil))))) (by kernel_rfl) (by simp) rfl rfl rfl rfl rfl ?_; rintro o ho P hP c K hK; have hm : P.follows .mixedOrders = true := hP ▸ mixed; have hT : TOk P [(2, ti2), (3, ti3), (4, ti4), (61, ti61), (64, ti64)] := hP ▸ (.cons tok2 (.cons tok3 (.cons tok4 (.cons tok61 (.cons tok64 .nil))))); (try rw [← ho]); cbv; (repeat (refine StopN.mk ?_; cbv)))
    repeat' (first | (refine Br.mk (fun hb => ?_) (fun hb => ?_) <;> ((try rw [ho] at hb); (try dsimp only [Ar.real, IX.vo] at hb); (try simp only [QB2] at hb); (try simp only [QBo, beq_iff_eq, beq_eq_false_iff_ne, ne_eq] at hb))) | (refine StopN.mk ?_; cbv) | (first | refine CallI.pure hP hs fn143 rfl rfl rfl ?_ | refine CallI.pure hP ht fn143 rfl rfl rfl ?_); cbv | ((first | refine CallI.pure hP (x_sumsRight _) fn143 (by first | rfl | (rw [ho]; done) | (rw [ho]; rfl)) (by rfl) (by first | rfl | (rw [ho]; done) | (rw [ho]; rfl)) ?_ | refine CallN.pure hP (x_sumsRight _) fn143 (by first | rfl | (rw [ho]; done) | (rw [ho]; rfl)) (by rfl) (by first | rfl | (rw [ho]; done) | (rw [ho]; rfl)) ?_); (try rw [← ho]); generalize hr : sumsRight _ = r; (try rw [ho] at hr); (try dsimp only [Ar.real, IX.vo] at hr); (try simp only [QB2] at hr); cbv) | ((first | refine CallI.pure hP (x_fracCmp _ _ _ _ ‹_› ‹_› ‹_› ‹_›) fn144 (by first | rfl | (rw [ho]; done) | (rw [ho]; rfl)) (by rfl) (by first | rfl | (rw [ho]; done) | (rw [ho]; rfl)) ?_ | refine CallN.pure hP (x_fracCmp _ _ _ _ ‹_› ‹_› ‹_› ‹_›) fn144 (by first | rfl | (rw [ho]; done) | (rw [ho]; rfl)) (by rfl) (by first | rfl | (rw [ho]; done) | (rw [ho]; rfl)) ?_); (try rw [← ho]); generalize hr : fracCmp _ _ _ _ = r; (try rw [ho] at hr); (try dsimp only [Ar.real, IX.vo] at hr); (try simp only [QB2] at hr); cbv) | (refine hK _ _ ?_) | (refine NeedT.mk ?_ ?_))
    · exact absurd ‹true = false› (by decide)
    · exact absurd ‹true = false› (by decide)
    refine LoopN.over (o := o) (D := [(3, []), (7, [(1, 7), (2, 7), (4, 7), (5, 7)]), (11, [])]) ho hm hT (by kernel_rfl) (fun a : Nat => [(21, xn a), (7, xi (M a).at_)]) (fun a => [(3, .var [xi (M a).num, xi (M a).den] 64)]) (fun _ => []) (fun a => a ≤ 4) (fun a => 4 - a) 0 (by omega) ?_ ?_
    · refine ⟨(by cbv), by cbv; repeat' (first | trivial | exact EqX.rfl' | exact EqO.rfl' | apply And.intro | ((try clear hR3); (try clear hR2); (try clear hR); (try clear hK); (try simp only [ncCast] at *); (try simp only [castI_eq] at *); refine EqX.i ?_; (try rw [ho]); (try dsimp only [Ar.real, IX.vo, IX.val, BX.val, IX.toN]); (try simp only [QB2]); (repeat rw [wrap_i64 (by omega) (by omega)]); omega) | (refine EqX.i ?_; rw [hm0]; rfl) | exact ⟨by rw [hm0]; rfl⟩), by cbv; repeat' (first | trivial | exact EqO.rfl' | apply And.intro | (refine EqX.i ?_; rw [hm0]; rfl) | exact ⟨by rw [hm0]; rfl⟩), by cbv; repeat' (first | trivial | exact EqO.rfl' | apply And.intro | (refine EqX.i ?_; rw [hm0]; rfl) | exact ⟨by rw [hm0]; rfl⟩)⟩
    · rintro i hi R hR
      have b0 := hbd i
      have b1 := h1 i
      have b2 := h2 i
      have hM1 := hm1 i
      have hq := x_fracCmp (sa i) (ta i) (M i).num (M i).den ⟨by omega, by omega⟩ ⟨by omega, by omega⟩ ⟨by omega, by omega⟩ ⟨by omega, by omega⟩
      unfold domStep at hM1
      generalize fracCmp (sa i) (ta i) (M i).num (M i).den = q at hq hM1
      obtain ⟨e1, e2⟩ := ha i
      generalize sa i = x at *
      generalize ta i = y at *
      have p1 : 0 < [a', b', p', d'].getD ((i : Int).toNat) 0 → ((M i).at_ = -1 ∨ 0 < q) → M (i + 1) = ⟨x, y, i⟩ := fun h h' => by
        rw [Int.toNat_natCast, ← e2] at h
        rw [hM1, if_pos ⟨h, h'⟩]
      have p2 : ([a', b', p', d'].getD ((i : Int).toNat) 0 ≤ 0 ∨ (¬ (M i).at_ = -1 ∧ q ≤ 0)) → M (i + 1) = M i := fun h => by
        rw [Int.toNat_natCast, ← e2] at h
        rw [hM1, if_neg (fun h' => by omega)]
      cbv
      repeat' (first | (refine Br.mk (fun hb => ?_) (fun hb => ?_) <;> ((try rw [ho] at hb); (try dsimp only [Ar.real, IX.vo] at hb); (try simp only [QB2] at hb); (try simp only [QBo, beq_iff_eq, beq_eq_false_iff_ne, ne_eq] at hb))) | (refine StopN.mk ?_; cbv) | (refine CallI.pure hP hq fn144 rfl rfl (by (rw [ho]; (try dsimp only [Ar.real, IX.vo, IX.val]); (try simp only [castI_eq]); (repeat rw [wrap_i64 (by omega) (by omega)])); rw [e1, e2]; rfl) ?_); cbv | ((first | refine CallI.pure hP (x_sumsRight _) fn143 (by first | rfl | (rw [ho]; done) | (rw [ho]; rfl)) (by rfl) (by first | rfl | (rw [ho]; done) | (rw [ho]; rfl)) ?_ | refine CallN.pure hP (x_sumsRight _) fn143 (by first | rfl | (rw [ho]; done) | (rw [ho]; rfl)) (by rfl) (by first | rfl | (rw [ho]; done) | (rw [ho]; rfl)) ?_); (try rw [← ho]); generalize hr : sumsRight _ = r; (try rw [ho] at hr); (try dsimp only [Ar.real, IX.vo] at hr); (try simp only [QB2] at hr); cbv) | ((first | refine CallI.pure hP (x_fracCmp _ _ _ _ ‹_› ‹_› ‹_› ‹_›) fn144 (by first | rfl | (rw [ho]; done) | (rw [ho]; rfl)) (by rfl) (by first | rfl | (rw [ho]; done) | (rw [ho]; rfl)) ?_ | refine CallN.pure hP (x_fracCmp _ _ _ _ ‹_› ‹_› ‹_› ‹_›) fn144 (by first | rfl | (rw [ho]; done) | (rw [ho]; rfl)) (by rfl) (by first | rfl | (rw [ho]; done) | (rw [ho]; rfl)) ?_); (try rw [← ho]); generalize hr : fracCmp _ _ _ _ = r; (try rw [ho] at hr); (try dsimp only [Ar.real, IX.vo] at hr); (try simp only [QB2] at hr); cbv) | (refine hK _ _ ?_) | (refine NeedT.mk ?_ ?_))
      any_goals (((try clear hR3); (try clear hR2); (try clear hR); (try clear hK); (try simp only [ncCast] at *); (try simp only [castI_eq] at *); (try rw [ho]); (try dsimp only [Ar.real, IX.vo, IX.val, BX.val, IX.toN]); (try simp only [QB2]); (try simp only [decide_eq_true_eq]); (all_goals (repeat rw [wrap_i64 (by omega) (by omega)])); (all_goals (first | omega | (simp only [Int.ofNat_eq_natCast]; omega)))); done)
      · have h5 := p1 (by assumption) (.inl hb)
        refine hR _ (i + 1) (by show 4 - (i + 1) < 4 - i; ((try clear hR3); (try clear hR2); (try clear hR); (try clear hK); (try simp only [ncCast] at *); (try simp only [castI_eq] at *)); omega) (by show i + 1 ≤ 4; ((try clear hR3); (try clear hR2); (try clear hR); (try clear hK); (try simp only [ncCast] at *); (try simp only [castI_eq] at *)); omega) ?_
        refine ⟨(by cbv), by cbv; repeat' (first | trivial | exact EqX.rfl' | exact EqO.rfl' | apply And.intro | ((try clear hR3); (try clear hR2); (try clear hR); (try clear hK); (try simp only [ncCast] at *); (try simp only [castI_eq] at *); refine EqX.i ?_; (try rw [ho]); (try dsimp only [Ar.real, IX.vo, IX.val, BX.val, IX.toN]); (try simp only [QB2]); (repeat rw [wrap_i64 (by omega) (by omega)]); omega) | (refine EqX.i ?_; rw [h5]; rfl) | exact ⟨by rw [h5, ho]; simp only [OX.toOb, X.toDL, X.toD]; rw [e1, e2]; rfl⟩), by cbv; repeat' (first | trivial | exact EqO.rfl' | apply And.intro | (refine EqX.i ?_; rw [h5]; rfl) | exact ⟨by rw [h5, ho]; simp only [OX.toOb, X.toDL, X.toD]; rw [e1, e2]; rfl⟩), by cbv; repeat' (first | trivial | exact EqO.rfl' | apply And.intro | (refine EqX.i ?_; rw [h5]; rfl) | exact ⟨by rw [h5, ho]; simp only [OX.toOb, X.toDL, X.toD]; rw [e1, e2]; rfl⟩)⟩
      · have h5 := p1 (by assumption) (.inr hb)
        refine hR _ (i + 1) (by show 4 - (i + 1) < 4 - i; ((try clear hR3); (try clear hR2); (try clear hR); (try clear hK); (try simp only [ncCast] at *); (try simp only [castI_eq] at *)); omega) (by show i + 1 ≤ 4; ((try clear hR3); (try clear hR2); (try clear hR); (try clear hK); (try simp only [ncCast] at *); (try simp only [castI_eq] at *)); omega) ?_
        refine ⟨(by cbv), by cbv; repeat' (first | trivial | exact EqX.rfl' | exact EqO.rfl' | apply And.intro | ((try clear hR3); (try clear hR2); (try clear hR); (try clear hK); (try simp only [ncCast] at *); (try simp only [castI_eq] at *); refine EqX.i ?_; (try rw [ho]); (try dsimp only [Ar.real, IX.vo, IX.val, BX.val, IX.toN]); (try simp only [QB2]); (repeat rw [wrap_i64 (by omega) (by omega)]); omega) | (refine EqX.i ?_; rw [h5]; rfl) | exact ⟨by rw [h5, ho]; simp only [OX.toOb, X.toDL, X.toD]; rw [e1, e2]; rfl⟩), by cbv; repeat' (first | trivial | exact EqO.rfl' | apply And.intro | (refine EqX.i ?_; rw [h5]; rfl) | exact ⟨by rw [h5, ho]; simp only [OX.toOb, X.toDL, X.toD]; rw [e1, e2]; rfl⟩), by cbv; repeat' (first | trivial | exact EqO.rfl' | apply And.intro | (refine EqX.i ?_; rw [h5]; rfl) | exact ⟨by rw [h5, ho]; simp only [OX.toOb, X.toDL, X.toD]; rw [e1, e2]; rfl⟩)⟩
      · have h5 := p2 (.inr ⟨by assumption, hb⟩)
        refine hR _ (i + 1) (by show 4 - (i + 1) < 4 - i; ((try clear hR3); (try clear hR2); (try clear hR); (try clear hK); (try simp only [ncCast] at *); (try simp only [castI_eq] at *)); omega) (by show i + 1 ≤ 4; ((try clear hR3); (try clear hR2); (try clear hR); (try clear hK); (try simp only [ncCast] at *); (try simp only [castI_eq] at *)); omega) ?_
        refine ⟨(by cbv), by cbv; repeat' (first | trivial | exact EqX.rfl' | exact EqO.rfl' | apply And.intro | ((try clear hR3); (try clear hR2); (try clear hR); (try clear hK); (try simp only [ncCast] at *); (try simp only [castI_eq] at *); refine EqX.i ?_; (try rw [ho]); (try dsimp only [Ar.real, IX.vo, IX.val, BX.val, IX.toN]); (try simp only [QB2]); (repeat rw [wrap_i64 (by omega) (by omega)]); omega) | (refine EqX.i ?_; rw [h5]) | exact ⟨by rw [h5]⟩), by cbv; repeat' (first | trivial | exact EqO.rfl' | apply And.intro | (refine EqX.i ?_; rw [h5]) | exact ⟨by rw [h5]⟩), by cbv; repeat' (first | trivial | exact EqO.rfl' | apply And.intro | (refine EqX.i ?_; rw [h5]) | exact ⟨by rw [h5]⟩)⟩
      · have h5 := p2 (.inl hb)
        refine hR _ (i + 1) (by show 4 - (i + 1) < 4 - i; ((try clear hR3); (try clear hR2); (try clear hR); (try clear hK); (try simp only [ncCast] at *); (try simp only [castI_eq] at *)); omega) (by show i + 1 ≤ 4; ((try clear hR3); (try clear hR2); (try clear hR); (try clear hK); (try simp only [ncCast] at *); (try simp only [castI_eq] at *)); omega) ?_
        refine ⟨(by cbv), by cbv; repeat' (first | trivial | exact EqX.rfl' | exact EqO.rfl' | apply And.intro | ((try clear hR3); (try clear hR2); (try clear hR); (try clear hK); (try simp only [ncCast] at *); (try simp only [castI_eq] at *); refine EqX.i ?_; (try rw [ho]); (try dsimp only [Ar.real, IX.vo, IX.val, BX.val, IX.toN]); (try simp only [QB2]); (repeat rw [wrap_i64 (by omega) (by omega)]); omega) | (refine EqX.i ?_; rw [h5]) | exact ⟨by rw [h5]⟩), by cbv; repeat' (first | trivial | exact EqO.rfl' | apply And.intro | (refine EqX.i ?_; rw [h5]) | exact ⟨by rw [h5]⟩), by cbv; repeat' (first | trivial | exact EqO.rfl' | apply And.intro | (refine EqX.i ?_; rw [h5]) | exact ⟨by rw [h5]⟩)⟩
      · obtain rfl : i = 4 := by omega
        exact FinX_dom rfl rfl rfl
  · rw [if_neg h0]
    generalize sumsRight s = rs at *
    generalize sumsRight t = rt at *
    obtain ⟨a, b, p, d⟩ := s
    obtain ⟨a', b', p', d'⟩ := t
    (refine XC.of_body ([(3, []), (7, [(1, 7), (2, 7), (4, 7), (5, 7)]), (11, [])]) Try.func82 rfl Try.ntmps82 mixed (T := [(2, ti2), (3, ti3), (4, ti4), (61, ti61), (64, ti64)]) (.cons tok2 (.cons tok3 (.cons tok4 (.cons tok61 (.cons tok64 .nil))))) (by kernel_rfl) (by simp) rfl rfl rfl rfl rfl ?_; rintro o ho P hP c K hK; have hm : P.follows .mixedOrders = true := hP ▸ mixed; have hT : TOk P [(2, ti2), (3, ti3), (4, ti4), (61, ti61), (64, ti64)] := hP ▸ (.cons tok2 (.cons tok3 (.cons tok4 (.cons tok61 (.cons tok64 .nil))))); (try rw [← ho]); cbv; (repeat (refine StopN.mk ?_; cbv)))
    repeat' (first | (refine Br.mk (fun hb => ?_) (fun hb => ?_) <;> ((try rw [ho] at hb); (try dsimp only [Ar.real, IX.vo] at hb); (try simp only [QB2] at hb); (try simp only [QBo, beq_iff_eq, beq_eq_false_iff_ne, ne_eq] at hb))) | (refine StopN.mk ?_; cbv) | (first | refine CallI.pure hP hs fn143 rfl rfl rfl ?_ | refine CallI.pure hP ht fn143 rfl rfl rfl ?_); cbv | ((first | refine CallI.pure hP (x_sumsRight _) fn143 (by first | rfl | (rw [ho]; done) | (rw [ho]; rfl)) (by rfl) (by first | rfl | (rw [ho]; done) | (rw [ho]; rfl)) ?_ | refine CallN.pure hP (x_sumsRight _) fn143 (by first | rfl | (rw [ho]; done) | (rw [ho]; rfl)) (by rfl) (by first | rfl | (rw [ho]; done) | (rw [ho]; rfl)) ?_); (try rw [← ho]); generalize hr : sumsRight _ = r; (try rw [ho] at hr); (try dsimp only [Ar.real, IX.vo] at hr); (try simp only [QB2] at hr); cbv) | ((first | refine CallI.pure hP (x_fracCmp _ _ _ _ ‹_› ‹_› ‹_› ‹_›) fn144 (by first | rfl | (rw [ho]; done) | (rw [ho]; rfl)) (by rfl) (by first | rfl | (rw [ho]; done) | (rw [ho]; rfl)) ?_ | refine CallN.pure hP (x_fracCmp _ _ _ _ ‹_› ‹_› ‹_› ‹_›) fn144 (by first | rfl | (rw [ho]; done) | (rw [ho]; rfl)) (by rfl) (by first | rfl | (rw [ho]; done) | (rw [ho]; rfl)) ?_); (try rw [← ho]); generalize hr : fracCmp _ _ _ _ = r; (try rw [ho] at hr); (try dsimp only [Ar.real, IX.vo] at hr); (try simp only [QB2] at hr); cbv) | (refine hK _ _ ?_) | (refine NeedT.mk ?_ ?_))
    all_goals first
      | exact FinX_dom rfl rfl rfl
      | (exfalso; simp_all; done)
end Go.Proofs.Ytddgcegimmcbgaa.Sy
namespace Go.Proofs.Ytddgcegimmcbgaa.Sy
open Go Go.Sy Go.Proofs.Ytddgcegimmcbgaa
def idxR (l : List Int) (x : Int) : Int := match nextAt (fun i => decide (x = l.getD i default)) 0 l.length with | some i => i | none => -1
theorem x_Index (l : List Int) (x : Int) (hl : l.length ≤ 1048576) : XC Try.prog 124 [.ro (SL Ar.real encI l), xi x] [] (xi (idxR l x)) [] := by
  (refine XC.of_body ([]) Try.func124 rfl Try.ntmps124 mixed (T := [(3, ti3), (43, ti43)]) (.cons tok3 (.cons tok43 .nil)) (by kernel_rfl) (by simp) rfl rfl rfl rfl rfl ?_; rintro o ho P hP c K hK; have hm : P.follows .mixedOrders = true := hP ▸ mixed; have hT : TOk P [(3, ti3), (43, ti43)] := hP ▸ (.cons tok3 (.cons tok43 .nil)); (try rw [← ho]); cbv; (repeat (refine StopN.mk ?_; cbv)))
  refine LoopN.over (o := o) (D := []) ho hm hT (by kernel_rfl) (fun i : Nat => [(8, xn i)]) (fun _ => []) (fun _ => []) (fun i => i ≤ l.length ∧ ∀ j, j < i → decide (x = l.getD j default) = false) (fun i => l.length - i) 0 ⟨Nat.zero_le _, fun j hj => by omega⟩ ?_ ?_
  · refine ⟨(by cbv), by cbv; repeat' (first | trivial | exact EqX.rfl' | exact EqO.rfl' | apply And.intro | ((try clear hR3); (try clear hR2); (try clear hR); (try clear hK); (try simp only [ncCast] at *); (try simp only [castI_eq] at *); refine EqX.i ?_; (try rw [ho]); (try dsimp only [Ar.real, IX.vo, IX.val, BX.val, IX.toN]); (try simp only [QB2]); (repeat rw [wrap_i64 (by omega) (by omega)]); omega)), by cbv; repeat' (first | trivial | exact EqO.rfl' | apply And.intro), by cbv; repeat' (first | trivial | exact EqO.rfl' | apply And.intro)⟩
  · rintro i ⟨hi, hno⟩ R hR
    cbv
    repeat' (first | (refine Br.mk (fun hb => ?_) (fun hb => ?_) <;> ((try rw [ho] at hb); (try dsimp only [Ar.real, IX.vo] at hb); (try simp only [QB2] at hb); (try simp only [QBo, beq_iff_eq, beq_eq_false_iff_ne, ne_eq] at hb))) | (refine StopN.mk ?_; cbv) | (refine hK _ _ ?_) | (refine NeedT.mk ?_ ?_))
    any_goals (((try clear hR3); (try clear hR2); (try clear hR); (try clear hK); (try simp only [ncCast] at *); (try simp only [castI_eq] at *); (try rw [ho]); (try dsimp only [Ar.real, IX.vo, IX.val, BX.val, IX.toN]); (try simp only [QB2]); (try simp only [decide_eq_true_eq]); (all_goals (repeat rw [wrap_i64 (by omega) (by omega)])); (all_goals (first | omega | (simp only [Int.ofNat_eq_natCast]; omega)))); done)
    · have hf := nextAt_some (p := fun i => decide (x = l.getD i default)) (a := 0) (n := l.length) (k := i) (Nat.zero_le _) (by assumption) (decide_eq_true hb) (fun j _ h => hno j h)
      refine .i ?_
      rw [idxR, hf]
      rfl
    · refine hR _ (i + 1) (by omega) ⟨by omega, fun j h => ?_⟩ ?_
      · rcases Nat.lt_or_ge j i with h3 | h3
        · exact hno j h3
        · obtain rfl : j = i := by omega
          exact decide_eq_false hb
      · refine ⟨(by cbv), by cbv; repeat' (first | trivial | exact EqX.rfl' | exact EqO.rfl' | apply And.intro | ((try clear hR3); (try clear hR2); (try clear hR); (try clear hK); (try simp only [ncCast] at *); (try simp only [castI_eq] at *); refine EqX.i ?_; (try rw [ho]); (try dsimp only [Ar.real, IX.vo, IX.val, BX.val, IX.toN]); (try simp only [QB2]); (repeat rw [wrap_i64 (by omega) (by omega)]); omega)), by cbv; repeat' (first | trivial | exact EqO.rfl' | apply And.intro), by cbv; repeat' (first | trivial | exact EqO.rfl' | apply And.intro)⟩
    · have hf := nextAt_none (p := fun i => decide (x = l.getD i default)) (a := 0) (n := l.length) (fun j _ h => hno j (by omega))
      refine .i ?_
      rw [idxR, hf]
      rfl
def inR (l : List Int) (x : Int) : Bool := decide (x ∈ l)
theorem idxR_in (l : List Int) (x : Int) : decide (0 ≤ idxR l x) = inR l x := by
  unfold idxR inR
  cases h : nextAt (fun i => decide (x = l.getD i default)) 0 l.length with
  | some i =>
    unfold nextAt at h
    rw [List.find?_range'_eq_some] at h
    have h1 := h.1
    have h2 := h.2.1
    simp at h2
    simp only [decide_eq_true_eq] at h1
    have : x ∈ l := by
      rw [h1, List.getD_eq_getElem?_getD, List.getElem?_eq_getElem h2]
      exact List.getElem_mem h2
    rw [decide_eq_true this]
    exact decide_eq_true (Int.natCast_nonneg i)
  | none =>
    unfold nextAt at h
    rw [List.find?_range'_eq_none] at h
    have : ¬ x ∈ l := fun hm => by
      obtain ⟨i, hi, e⟩ := List.getElem_of_mem hm
      have := h i (Nat.zero_le _) (by omega)
      simp [List.getD_eq_getElem?_getD, hi, e] at this
    rw [decide_eq_false this]
    rfl
theorem x_Contains (l : List Int) (x : Int) (hl : l.length ≤ 1048576) : XC Try.prog 65 [.ro (SL Ar.real encI l), xi x] [] (xb (inR l x)) [] := by
  have h := idxR_in l x
  (refine XC.of_body ([]) Try.func65 rfl Try.ntmps65 mixed (T := [(3, ti3)]) (.cons tok3 .nil) (by kernel_rfl) (by simp) rfl rfl rfl rfl rfl ?_; rintro o ho P hP c K hK; have hm : P.follows .mixedOrders = true := hP ▸ mixed; have hT : TOk P [(3, ti3)] := hP ▸ (.cons tok3 .nil); (try rw [← ho]); cbv; (repeat (refine StopN.mk ?_; cbv)))
  repeat' (first | (refine Br.mk (fun hb => ?_) (fun hb => ?_) <;> ((try rw [ho] at hb); (try dsimp only [Ar.real, IX.vo] at hb); (try simp only [QB2] at hb); (try simp only [QBo, beq_iff_eq, beq_eq_false_iff_ne, ne_eq] at hb))) | (refine StopN.mk ?_; cbv) | ((first | refine CallI.pure hP (x_Index _ _ ‹_›) fn124 (by first | rfl | (rw [ho]; done) | (rw [ho]; rfl)) (by rfl) (by first | rfl | (rw [ho]; done) | (rw [ho]; rfl)) ?_ | refine CallN.pure hP (x_Index _ _ ‹_›) fn124 (by first | rfl | (rw [ho]; done) | (rw [ho]; rfl)) (by rfl) (by first | rfl | (rw [ho]; done) | (rw [ho]; rfl)) ?_); (try rw [← ho]); generalize hr : idxR _ _ = r; (try rw [ho] at hr); (try dsimp only [Ar.real, IX.vo] at hr); (try simp only [QB2] at hr); cbv) | (refine hK _ _ ?_) | (refine NeedT.mk ?_ ?_))
  refine .b ?_
  ((try clear hR3); (try clear hR2); (try clear hR); (try clear hK); (try simp only [ncCast] at *); (try simp only [castI_eq] at *); (try rw [ho]); (try dsimp only [Ar.real, IX.vo, IX.val, BX.val, IX.toN]); (try simp only [QB2]))
  rw [← h, hr]
def onlyR (v : List Part) (rs : List Int) : List Part := if vecRight v = true then v.filter fun p => inR rs p.role else []
def onlyTo (v : List Part) (rs : List Int) (b : Bool) (k : Nat) : List Part := if b = true then (v.take k).filter fun p => inR rs p.role else []
theorem onlyTo_succ (v : List Part) (rs : List Int) (b : Bool) {k : Nat} (h : k < v.length) : onlyTo v rs b (k + 1) = onlyTo v rs b k ++ if inR rs (v.getD k default).role = true ∧ b = true then [v.getD k default] else [] := by
  unfold onlyTo
  cases b with
  | false => simp
  | true =>
    have e : v.getD k default = v[k] := by simp [List.getD_eq_getElem?_getD, h]
    simp only [if_true, and_true]
    rw [List.take_succ_eq_append_getElem h, List.filter_append, e]
    congr 1
    by_cases h2 : inR rs v[k].role = true <;> simp [h2]
theorem onlyTo_len (v : List Part) (rs : List Int) (b : Bool) (k : Nat) : (onlyTo v rs b k).length ≤ k := by
  unfold onlyTo
  split
  · exact Nat.le_trans (List.length_filter_le _ _) (by simp; omega)
  · simp
structure StL (α : Type) where
  i : Nat
  rv : Nat
  out : List α
theorem x_Only (v : List Part) (rs : List Int) (hv : v.length ≤ 1048576) (hrs : rs.length ≤ 1024) : XC Try.prog 214 [.ro (SL Ar.real Part.X v), .ro (SL Ar.real encI rs)] [] (.ro (SL Ar.real Part.X (onlyR v rs))) [] := by
  have hx := x_vec_Right v (by omega)
  have hend : onlyTo v rs (vecRight v) v.length = onlyR v rs := by
    unfold onlyTo onlyR
    rw [List.take_of_length_le (Nat.le_refl _)]
  obtain ⟨b, hb0⟩ : ∃ q, q = vecRight v := ⟨_, rfl⟩
  rw [← hb0] at hx hend
  clear hb0
  have hC : ∀ x, XC Try.prog 65 [.ro (SL Ar.real encI rs), xi x] [] (xb (inR rs x)) [] := fun x => x_Contains rs x (by omega)
  (refine XC.of_body ([]) Try.func214 rfl Try.ntmps214 mixed (T := [(2, ti2), (3, ti3), (31, ti31), (123, ti123)]) (.cons tok2 (.cons tok3 (.cons tok31 (.cons tok123 .nil)))) (by kernel_rfl) (by simp) rfl rfl rfl rfl rfl ?_; rintro o ho P hP c K hK; have hm : P.follows .mixedOrders = true := hP ▸ mixed; have hT : TOk P [(2, ti2), (3, ti3), (31, ti31), (123, ti123)] := hP ▸ (.cons tok2 (.cons tok3 (.cons tok31 (.cons tok123 .nil)))); (try rw [← ho]); cbv; (repeat (refine StopN.mk ?_; cbv)))
  refine LoopN.ghost 5 123 3 rfl ?_
  refine LoopN.over (o := o) (D := []) ho hm hT (by kernel_rfl) (fun a : StL Part => [(10, xn a.i), (5, .own (.loc 0) a.rv)]) (fun a => [(0, .row a.rv 123 3 (SL o Part.X a.out))]) (fun _ => []) (fun a => a.i ≤ v.length ∧ a.out = onlyTo v rs b a.i) (fun a => v.length - a.i) ⟨0, 0, []⟩ ⟨Nat.zero_le _, by unfold onlyTo; split <;> rfl⟩ ?_ ?_
  · refine ⟨(by cbv), by cbv; repeat' (first | trivial | exact EqX.rfl' | exact EqO.rfl' | apply And.intro | ((try clear hR3); (try clear hR2); (try clear hR); (try clear hK); (try simp only [ncCast] at *); (try simp only [castI_eq] at *); refine EqX.i ?_; (try rw [ho]); (try dsimp only [Ar.real, IX.vo, IX.val, BX.val, IX.toN]); (try simp only [QB2]); (repeat rw [wrap_i64 (by omega) (by omega)]); omega) | exact EqO.row rfl (rows_nil_SL o ho Part.X)), by cbv; repeat' (first | trivial | exact EqO.rfl' | apply And.intro | exact EqO.row rfl (rows_nil_SL o ho Part.X)), by cbv; repeat' (first | trivial | exact EqO.rfl' | apply And.intro | exact EqO.row rfl (rows_nil_SL o ho Part.X))⟩
  · rintro ⟨i, rv, out⟩ ⟨hi, hout⟩ R hR
    dsimp only at hi hout
    have hol := onlyTo_len v rs b i
    rw [← hout] at hol
    have hsucc : i < v.length → onlyTo v rs b (i + 1) = _ := fun h => onlyTo_succ v rs b h
    rw [← hout] at hsucc
    obtain ⟨out', hout'⟩ : ∃ q, q = onlyTo v rs b (i + 1) := ⟨_, rfl⟩
    rw [← hout'] at hsucc
    cbv
    repeat' (first | (refine Br.mk (fun hb => ?_) (fun hb => ?_) <;> ((try rw [ho] at hb); (try dsimp only [Ar.real, IX.vo] at hb); (try simp only [QB2] at hb); (try simp only [QBo, beq_iff_eq, beq_eq_false_iff_ne, ne_eq] at hb))) | (refine StopN.mk ?_; cbv) | ((first | refine CallI.pure hP (hC _) fn65 rfl rfl (by rw [ho]) ?_ | refine CallN.pure hP (hC _) fn65 rfl rfl (by rw [ho]) ?_); (try rw [← ho]); generalize hr : inR rs _ = r; (try rw [ho] at hr); (try dsimp only [Ar.real] at hr); (try simp only [foldPart_kind, foldPart_role, foldPart_amount, foldPart, castI_eq] at hr); cbv) | ((first | refine CallI.pure hP hx fn180 rfl rfl (by rw [ho]) ?_ | refine CallN.pure hP hx fn180 rfl rfl (by rw [ho]) ?_); cbv) | ((first | refine CallI.pure hP (x_Contains _ _ ‹_›) fn65 (by first | rfl | (rw [ho]; done) | (rw [ho]; rfl)) (by rfl) (by first | rfl | (rw [ho]; done) | (rw [ho]; rfl)) ?_ | refine CallN.pure hP (x_Contains _ _ ‹_›) fn65 (by first | rfl | (rw [ho]; done) | (rw [ho]; rfl)) (by rfl) (by first | rfl | (rw [ho]; done) | (rw [ho]; rfl)) ?_); (try rw [← ho]); generalize hr : inR _ _ = r; (try rw [ho] at hr); (try dsimp only [Ar.real, IX.vo] at hr); (try simp only [QB2] at hr); cbv) | ((first | refine CallI.pure hP (x_vec_Right _ ‹_›) fn180 (by first | rfl | (rw [ho]; done) | (rw [ho]; rfl)) (by rfl) (by first | rfl | (rw [ho]; done) | (rw [ho]; rfl)) ?_ | refine CallN.pure hP (x_vec_Right _ ‹_›) fn180 (by first | rfl | (rw [ho]; done) | (rw [ho]; rfl)) (by rfl) (by first | rfl | (rw [ho]; done) | (rw [ho]; rfl)) ?_); (try rw [← ho]); generalize hr : vecRight _ = r; (try rw [ho] at hr); (try dsimp only [Ar.real, IX.vo] at hr); (try simp only [QB2] at hr); cbv) | (refine hK _ _ ?_) | (refine NeedT.mk ?_ ?_))
    any_goals (((try clear hR3); (try clear hR2); (try clear hR); (try clear hK); (try simp only [ncCast] at *); (try simp only [castI_eq] at *); (try rw [ho]); (try dsimp only [Ar.real, IX.vo, IX.val, BX.val, IX.toN]); (try simp only [QB2]); (try simp only [decide_eq_true_eq]); (all_goals (repeat rw [wrap_i64 (by omega) (by omega)])); (all_goals (first | omega | (simp only [Int.ofNat_eq_natCast]; omega)))); done)
    · have hs := hsucc (by assumption)
      rw [if_pos ⟨by rw [hr]; assumption, by assumption⟩] at hs
      refine hR _ ⟨i + 1, rv + 1, out'⟩ (by dsimp only; omega) ⟨by dsimp only; omega, hout'⟩ ?_
      refine ⟨(by cbv), by cbv; repeat' (first | trivial | exact EqX.rfl' | exact EqO.rfl' | apply And.intro | ((try clear hR3); (try clear hR2); (try clear hR); (try clear hK); (try simp only [ncCast] at *); (try simp only [castI_eq] at *); refine EqX.i ?_; (try rw [ho]); (try dsimp only [Ar.real, IX.vo, IX.val, BX.val, IX.toN]); (try simp only [QB2]); (repeat rw [wrap_i64 (by omega) (by omega)]); omega) | (refine EqO.snoc ho Part.X _ _ _ _ rfl hs ?_; rw [ho]; rfl)), by cbv; repeat' (first | trivial | exact EqO.rfl' | apply And.intro | (refine EqO.snoc ho Part.X _ _ _ _ rfl hs ?_; rw [ho]; rfl)), by cbv; repeat' (first | trivial | exact EqO.rfl' | apply And.intro | (refine EqO.snoc ho Part.X _ _ _ _ rfl hs ?_; rw [ho]; rfl))⟩
    · have hs := hsucc (by assumption)
      rw [if_neg (fun h => by simp_all), List.append_nil] at hs
      refine hR _ ⟨i + 1, rv, out'⟩ (by dsimp only; omega) ⟨by dsimp only; omega, hout'⟩ ?_
      subst hs
      refine ⟨(by cbv), by cbv; repeat' (first | trivial | exact EqX.rfl' | exact EqO.rfl' | apply And.intro | ((try clear hR3); (try clear hR2); (try clear hR); (try clear hK); (try simp only [ncCast] at *); (try simp only [castI_eq] at *); refine EqX.i ?_; (try rw [ho]); (try dsimp only [Ar.real, IX.vo, IX.val, BX.val, IX.toN]); (try simp only [QB2]); (repeat rw [wrap_i64 (by omega) (by omega)]); omega)), by cbv; repeat' (first | trivial | exact EqO.rfl' | apply And.intro), by cbv; repeat' (first | trivial | exact EqO.rfl' | apply And.intro)⟩
    · have hs := hsucc (by assumption)
      rw [if_neg (fun h => by simp_all), List.append_nil] at hs
      refine hR _ ⟨i + 1, rv, out'⟩ (by dsimp only; omega) ⟨by dsimp only; omega, hout'⟩ ?_
      subst hs
      refine ⟨(by cbv), by cbv; repeat' (first | trivial | exact EqX.rfl' | exact EqO.rfl' | apply And.intro | ((try clear hR3); (try clear hR2); (try clear hR); (try clear hK); (try simp only [ncCast] at *); (try simp only [castI_eq] at *); refine EqX.i ?_; (try rw [ho]); (try dsimp only [Ar.real, IX.vo, IX.val, BX.val, IX.toN]); (try simp only [QB2]); (repeat rw [wrap_i64 (by omega) (by omega)]); omega)), by cbv; repeat' (first | trivial | exact EqO.rfl' | apply And.intro), by cbv; repeat' (first | trivial | exact EqO.rfl' | apply And.intro)⟩
    · obtain rfl : i = v.length := by omega
      rw [hend] at hout
      subst hout
      exact .ro (by rw [ho])
theorem fits_Part (o : Ar) (ho : o = Ar.real) (v : List Part) : (SL o Part.X v).fits 3 := by
  intro row hr
  rw [rows_SL o ho] at hr
  obtain ⟨a, _, rfl⟩ := List.mem_map.1 hr
  exact ⟨rfl, rfl⟩
def bareR (v : List Part) : Bool := decide (0 < v.length) && decide ((onlyR v [0]).length = v.length)
theorem x_bare (v : List Part) (hv : v.length ≤ 1048576) : XC Try.prog 206 [.ro (SL Ar.real Part.X v)] [] (xb (bareR v)) [] := by
  have hO := x_Only v [0] hv (by decide)
  have hlen : (onlyR v [0]).length ≤ v.length := by
    unfold onlyR
    split
    · exact List.length_filter_le _ _
    · simp
  unfold bareR
  generalize onlyR v [0] = w at *
  (refine XC.of_body ([]) Try.func206 rfl Try.ntmps206 mixed (T := [(3, ti3), (31, ti31), (43, ti43), (123, ti123)]) (.cons tok3 (.cons tok31 (.cons tok43 (.cons tok123 .nil)))) (by kernel_rfl) (by simp) rfl rfl rfl rfl rfl ?_; rintro o ho P hP c K hK; have hm : P.follows .mixedOrders = true := hP ▸ mixed; have hT : TOk P [(3, ti3), (31, ti31), (43, ti43), (123, ti123)] := hP ▸ (.cons tok3 (.cons tok31 (.cons tok43 (.cons tok123 .nil)))); (try rw [← ho]); cbv; (repeat (refine StopN.mk ?_; cbv)))
  repeat' (first | (refine Br.mk (fun hb => ?_) (fun hb => ?_) <;> ((try rw [ho] at hb); (try dsimp only [Ar.real, IX.vo] at hb); (try simp only [QB2] at hb); (try simp only [QBo, beq_iff_eq, beq_eq_false_iff_ne, ne_eq] at hb))) | (refine StopN.mk ?_; cbv) | ((first | refine CallI.pure hP hO fn214 rfl rfl (by rw [ho]; rfl) ?_ | refine CallN.pure hP hO fn214 rfl rfl (by rw [ho]; rfl) ?_); (try rw [← ho]); cbv) | ((first | refine CallI.pure hP (x_Only _ _ ‹_› ‹_›) fn214 (by first | rfl | (rw [ho]; done) | (rw [ho]; rfl)) (by rfl) (by first | rfl | (rw [ho]; done) | (rw [ho]; rfl)) ?_ | refine CallN.pure hP (x_Only _ _ ‹_› ‹_›) fn214 (by first | rfl | (rw [ho]; done) | (rw [ho]; rfl)) (by rfl) (by first | rfl | (rw [ho]; done) | (rw [ho]; rfl)) ?_); (try rw [← ho]); generalize hr : onlyR _ _ = r; (try rw [ho] at hr); (try dsimp only [Ar.real, IX.vo] at hr); (try simp only [QB2] at hr); cbv) | (refine hK _ _ ?_) | (refine NeedT.mk ?_ ?_))
  · refine .b ?_
    ((try clear hR3); (try clear hR2); (try clear hR); (try clear hK); (try simp only [ncCast] at *); (try simp only [castI_eq] at *); (try rw [ho]); (try dsimp only [Ar.real, IX.vo, IX.val, BX.val, IX.toN]); (try simp only [QB2]))
    have h0 : 0 < v.length := by omega
    rw [decide_eq_true h0, Bool.true_and]
  · refine .b ?_
    have h0 : ¬ 0 < v.length := by ((try clear hR3); (try clear hR2); (try clear hR); (try clear hK); (try simp only [ncCast] at *); (try simp only [castI_eq] at *)); omega
    rw [decide_eq_false h0, Bool.false_and]
    rfl
def S4.addAt (s : S4) (k x : Int) : S4 :=
  ⟨if k = 0 then IntKind.i64.wrap (s.at_ k.toNat + x) else s.a, if k = 1 then IntKind.i64.wrap (s.at_ k.toNat + x) else s.b, if k = 2 then IntKind.i64.wrap (s.at_ k.toNat + x) else s.c, if k = 3 then IntKind.i64.wrap (s.at_ k.toNat + x) else s.d⟩
def ofTo (v : List Part) : Nat → S4
  | 0 => ⟨0, 0, 0, 0⟩
  | k + 1 => (ofTo v k).addAt (v.getD k default).kind (v.getD k default).amount
def sumsOf (v : List Part) : S4 := if vecRight v = true then ofTo v v.length else ⟨0, 0, 0, 0⟩
theorem vecRight_at {v : List Part} (h : vecRight v = true) {i : Nat} (hi : i < v.length) : (0 ≤ (v.getD i default).kind ∧ (v.getD i default).kind < 4) ∧ (0 ≤ (v.getD i default).role ∧ (v.getD i default).role ≤ 32) ∧ 1 ≤ (v.getD i default).amount ∧ (v.getD i default).amount ≤ 9007199254740992 := by
  unfold vecRight at h
  rw [Option.isNone_iff_eq_none] at h
  unfold nextAt at h
  rw [List.find?_range'_eq_none] at h
  have := h i (Nat.zero_le _) (by omega)
  simp only [badAt, slotRight, amountRight, Bool.not_eq_true', Bool.or_eq_false_iff, Bool.not_eq_eq_eq_not, Bool.not_false, Bool.not_true, Bool.and_eq_true, decide_eq_true_eq, decide_eq_false_iff_not, Bool.or_eq_true] at this
  omega
theorem FinX_S4 {a b u d : IX} {s : S4} (h1 : a.val = s.a) (h2 : b.val = s.b) (h3 : u.val = s.c) (h4 : d.val = s.d) : FinX (.agg (S4.X Ar.real s)) [] (.agg [.i .i64 a, .i .i64 b, .i .i64 u, .i .i64 d]) [] := .pure fun _ => by simp only [S4.X, X.toD, X.toDL, h1, h2, h3, h4]; rfl
theorem x_sumsOf (v : List Part) (hv : v.length ≤ 1048576) : XC Try.prog 122 [.ro (SL Ar.real Part.X v)] [] (.agg (S4.X Ar.real (sumsOf v))) [] := by
  have hx := x_vec_Right v (by omega)
  unfold sumsOf
  by_cases h0 : vecRight v = true
  · rw [if_pos h0]
    have hat := fun i (hi : i < v.length) => vecRight_at h0 hi
    rw [h0] at hx
    clear h0
    have hm0 : ofTo v 0 = ⟨0, 0, 0, 0⟩ := rfl
    have hm1 : ∀ k, ofTo v (k + 1) = (ofTo v k).addAt (v.getD k default).kind (v.getD k default).amount := fun _ => rfl
    generalize ofTo v = M at *
    (refine XC.of_body ([(7, [])]) Try.func122 rfl Try.ntmps122 mixed (T := [(2, ti2), (3, ti3), (4, ti4), (31, ti31), (61, ti61), (123, ti123)]) (.cons tok2 (.cons tok3 (.cons tok4 (.cons tok31 (.cons tok61 (.cons tok123 .nil)))))) (by kernel_rfl) (by simp) rfl rfl rfl rfl rfl ?_; rintro o ho P hP c K hK; have hm : P.follows .mixedOrders = true := hP ▸ mixed; have hT : TOk P [(2, ti2), (3, ti3), (4, ti4), (31, ti31), (61, ti61), (123, ti123)] := hP ▸ (.cons tok2 (.cons tok3 (.cons tok4 (.cons tok31 (.cons tok61 (.cons tok123 .nil)))))); (try rw [← ho]); cbv; (repeat (refine StopN.mk ?_; cbv)))
    repeat' (first | (refine Br.mk (fun hb => ?_) (fun hb => ?_) <;> ((try rw [ho] at hb); (try dsimp only [Ar.real, IX.vo] at hb); (try simp only [QB2] at hb); (try simp only [QBo, beq_iff_eq, beq_eq_false_iff_ne, ne_eq] at hb))) | (refine StopN.mk ?_; cbv) | ((first | refine CallI.pure hP hx fn180 rfl rfl (by rw [ho]) ?_ | refine CallN.pure hP hx fn180 rfl rfl (by rw [ho]) ?_); cbv) | ((first | refine CallI.pure hP (x_vec_Right _ ‹_›) fn180 (by first | rfl | (rw [ho]; done) | (rw [ho]; rfl)) (by rfl) (by first | rfl | (rw [ho]; done) | (rw [ho]; rfl)) ?_ | refine CallN.pure hP (x_vec_Right _ ‹_›) fn180 (by first | rfl | (rw [ho]; done) | (rw [ho]; rfl)) (by rfl) (by first | rfl | (rw [ho]; done) | (rw [ho]; rfl)) ?_); (try rw [← ho]); generalize hr : vecRight _ = r; (try rw [ho] at hr); (try dsimp only [Ar.real, IX.vo] at hr); (try simp only [QB2] at hr); cbv) | (refine hK _ _ ?_) | (refine NeedT.mk ?_ ?_))
    · exact absurd ‹true = false› (by decide)
    refine LoopN.over (o := o) (D := [(7, [])]) ho hm hT (by kernel_rfl) (fun a : Nat => [(12, xn a)]) (fun a => [(1, .var [xi (M a).a, xi (M a).b, xi (M a).c, xi (M a).d] 61)]) (fun _ => []) (fun a => a ≤ v.length) (fun a => v.length - a) 0 (by omega) ?_ ?_
    · refine ⟨(by cbv), by cbv; repeat' (first | trivial | exact EqX.rfl' | exact EqO.rfl' | apply And.intro | ((try clear hR3); (try clear hR2); (try clear hR); (try clear hK); (try simp only [ncCast] at *); (try simp only [castI_eq] at *); refine EqX.i ?_; (try rw [ho]); (try dsimp only [Ar.real, IX.vo, IX.val, BX.val, IX.toN]); (try simp only [QB2]); (repeat rw [wrap_i64 (by omega) (by omega)]); omega) | exact ⟨by rw [hm0]; rfl⟩), by cbv; repeat' (first | trivial | exact EqO.rfl' | apply And.intro | exact ⟨by rw [hm0]; rfl⟩), by cbv; repeat' (first | trivial | exact EqO.rfl' | apply And.intro | exact ⟨by rw [hm0]; rfl⟩)⟩
    · rintro i hi R hR
      have h1 := hat i
      have h2 := hm1 i
      cbv
      repeat' (first | (refine Br.mk (fun hb => ?_) (fun hb => ?_) <;> ((try rw [ho] at hb); (try dsimp only [Ar.real, IX.vo] at hb); (try simp only [QB2] at hb); (try simp only [QBo, beq_iff_eq, beq_eq_false_iff_ne, ne_eq] at hb))) | (refine StopN.mk ?_; cbv) | ((first | refine CallI.pure hP (x_vec_Right _ ‹_›) fn180 (by first | rfl | (rw [ho]; done) | (rw [ho]; rfl)) (by rfl) (by first | rfl | (rw [ho]; done) | (rw [ho]; rfl)) ?_ | refine CallN.pure hP (x_vec_Right _ ‹_›) fn180 (by first | rfl | (rw [ho]; done) | (rw [ho]; rfl)) (by rfl) (by first | rfl | (rw [ho]; done) | (rw [ho]; rfl)) ?_); (try rw [← ho]); generalize hr : vecRight _ = r; (try rw [ho] at hr); (try dsimp only [Ar.real, IX.vo] at hr); (try simp only [QB2] at hr); cbv) | (refine hK _ _ ?_) | (refine NeedT.mk ?_ ?_))
      any_goals (((try clear hR3); (try clear hR2); (try clear hR); (try clear hK); (try simp only [ncCast] at *); (try simp only [castI_eq] at *); (try rw [ho]); (try dsimp only [Ar.real, IX.vo, IX.val, BX.val, IX.toN]); (try simp only [QB2]); (try simp only [decide_eq_true_eq]); (all_goals (repeat rw [wrap_i64 (by omega) (by omega)])); (all_goals (first | omega | (simp only [Int.ofNat_eq_natCast]; omega)))); done)
      · refine hR _ (i + 1) (by show v.length - (i + 1) < v.length - i; omega) (by show i + 1 ≤ v.length; omega) ?_
        refine ⟨(by cbv), by cbv; repeat' (first | trivial | exact EqX.rfl' | exact EqO.rfl' | apply And.intro | ((try clear hR3); (try clear hR2); (try clear hR); (try clear hK); (try simp only [ncCast] at *); (try simp only [castI_eq] at *); refine EqX.i ?_; (try rw [ho]); (try dsimp only [Ar.real, IX.vo, IX.val, BX.val, IX.toN]); (try simp only [QB2]); (repeat rw [wrap_i64 (by omega) (by omega)]); omega) | exact ⟨by rw [h2, ho]; simp only [OX.toOb, X.toDL, X.toD]; rfl⟩), by cbv; repeat' (first | trivial | exact EqO.rfl' | apply And.intro | exact ⟨by rw [h2, ho]; simp only [OX.toOb, X.toDL, X.toD]; rfl⟩), by cbv; repeat' (first | trivial | exact EqO.rfl' | apply And.intro | exact ⟨by rw [h2, ho]; simp only [OX.toOb, X.toDL, X.toD]; rfl⟩)⟩
      · obtain rfl : i = v.length := by omega
        exact FinX_S4 rfl rfl rfl rfl
  · rw [if_neg h0]
    generalize vecRight v = b at *
    (refine XC.of_body ([(7, [])]) Try.func122 rfl Try.ntmps122 mixed (T := [(2, ti2), (3, ti3), (4, ti4), (31, ti31), (61, ti61), (123, ti123)]) (.cons tok2 (.cons tok3 (.cons tok4 (.cons tok31 (.cons tok61 (.cons tok123 .nil)))))) (by kernel_rfl) (by simp) rfl rfl rfl rfl rfl ?_; rintro o ho P hP c K hK; have hm : P.follows .mixedOrders = true := hP ▸ mixed; have hT : TOk P [(2, ti2), (3, ti3), (4, ti4), (31, ti31), (61, ti61), (123, ti123)] := hP ▸ (.cons tok2 (.cons tok3 (.cons tok4 (.cons tok31 (.cons tok61 (.cons tok123 .nil)))))); (try rw [← ho]); cbv; (repeat (refine StopN.mk ?_; cbv)))
    repeat' (first | (refine Br.mk (fun hb => ?_) (fun hb => ?_) <;> ((try rw [ho] at hb); (try dsimp only [Ar.real, IX.vo] at hb); (try simp only [QB2] at hb); (try simp only [QBo, beq_iff_eq, beq_eq_false_iff_ne, ne_eq] at hb))) | (refine StopN.mk ?_; cbv) | ((first | refine CallI.pure hP hx fn180 rfl rfl (by rw [ho]) ?_ | refine CallN.pure hP hx fn180 rfl rfl (by rw [ho]) ?_); cbv) | ((first | refine CallI.pure hP (x_vec_Right _ ‹_›) fn180 (by first | rfl | (rw [ho]; done) | (rw [ho]; rfl)) (by rfl) (by first | rfl | (rw [ho]; done) | (rw [ho]; rfl)) ?_ | refine CallN.pure hP (x_vec_Right _ ‹_›) fn180 (by first | rfl | (rw [ho]; done) | (rw [ho]; rfl)) (by rfl) (by first | rfl | (rw [ho]; done) | (rw [ho]; rfl)) ?_); (try rw [← ho]); generalize hr : vecRight _ = r; (try rw [ho] at hr); (try dsimp only [Ar.real, IX.vo] at hr); (try simp only [QB2] at hr); cbv) | (refine hK _ _ ?_) | (refine NeedT.mk ?_ ?_))
    all_goals first
      | exact FinX_S4 rfl rfl rfl rfl
      | exact absurd hb h0
end Go.Proofs.Ytddgcegimmcbgaa.Sy
namespace Go.Proofs.Ytddgcegimmcbgaa.Sy
open Go Go.Sy Go.Proofs.Ytddgcegimmcbgaa
def pushP (out : List Part) (p : Part) : List Part := if 0 < p.amount then out ++ [p] else out
def hitP (bs : List Part) (p : Part) : Bool := decide (0 < bs.length) && (decide ((bs.getD 0 default).kind = p.kind) && decide ((bs.getD 0 default).role = p.role))
def subStep (st : List Part × List Part) (p : Part) : Option (List Part × List Part) :=
  if hitP st.2 p = true then
    if (quantSub p.amount (st.2.getD 0 default).amount).2 = true then some (pushP st.1 ⟨p.kind, p.role, (quantSub p.amount (st.2.getD 0 default).amount).1⟩, st.2.tail) else none
  else some (pushP st.1 p, st.2)
def subTo (a b : List Part) : Nat → Option (List Part × List Part)
  | 0 => some ([], b)
  | k + 1 => (subTo a b k).bind fun st => subStep st (a.getD k default)
theorem subTo_none {a b : List Part} {k : Nat} (h : subTo a b k = none) : ∀ {n}, k ≤ n → subTo a b n = none := by
  intro n hn
  induction n with
  | zero => obtain rfl : k = 0 := by omega
            exact h
  | succ n ih =>
    rcases Nat.lt_or_ge n k with h1 | h1
    · obtain rfl : k = n + 1 := by omega
      exact h
    · simp only [subTo, ih h1, Option.bind_none]
def subV (a b : List Part) : List Part × Bool :=
  if vecRight a = true ∧ vecRight b = true then
    match subTo a b a.length with
    | some (out, []) => (out, true)
    | _ => ([], false)
  else ([], false)
theorem pushP_len (out : List Part) (p : Part) : (pushP out p).length ≤ out.length + 1 := by
  unfold pushP
  split <;> simp
theorem subTo_len {a b : List Part} : ∀ {k : Nat} {out bs : List Part}, subTo a b k = some (out, bs) → out.length ≤ k ∧ bs.length ≤ b.length
  | 0, out, bs, h => by
    simp only [subTo, Option.some.injEq, Prod.mk.injEq] at h
    obtain ⟨rfl, rfl⟩ := h
    simp
  | k + 1, out, bs, h => by
    simp only [subTo] at h
    obtain ⟨⟨o1, b1⟩, h1, h2⟩ := Option.bind_eq_some_iff.1 h
    obtain ⟨l1, l2⟩ := subTo_len h1
    unfold subStep at h2
    split at h2
    · split at h2
      · simp only [Option.some.injEq, Prod.mk.injEq] at h2
        obtain ⟨rfl, rfl⟩ := h2
        have := pushP_len o1 ⟨(a.getD k default).kind, (a.getD k default).role, (quantSub (a.getD k default).amount (b1.getD 0 default).amount).1⟩
        simp only [List.length_tail]
        omega
      · cases h2
    · simp only [Option.some.injEq, Prod.mk.injEq] at h2
      obtain ⟨rfl, rfl⟩ := h2
      have := pushP_len o1 (a.getD k default)
      omega
structure StS where
  i : Nat
  rv : Nat
  out : List Part
  bs : List Part
structure InS (a b : List Part) (s : StS) : Prop where
  i : s.i ≤ a.length
  to : subTo a b s.i = some (s.out, s.bs)
theorem FinX_rb {r : RR} {l : List Part} {y : BX} {s : Bool} (h : r.rows = (SL Ar.real Part.X l).rows) (h' : y.val = s) : FinX (.tup [.ro (SL Ar.real Part.X l), xb s]) [] (.tup [.ro r, .b y]) [] := .pure fun _ => by
  simp only [X.toD, X.toDL, h, h']
  rfl
theorem rows_nil_Part : (RR.lits []).rows = (SL Ar.real Part.X ([] : List Part)).rows := rows_nil_SL Ar.real rfl Part.X
theorem rows_tail {o : Ar} (ho : o = Ar.real) {bs bs' : List Part} (h : bs' = bs.tail) : (RR.fn (o.subN (o.len bs) 1) fun i => Part.X o (o.nth bs (o.addN 1 i))).rows = (SL o Part.X bs').rows := by
  subst ho
  subst h
  refine rows_fn_SL _ rfl Part.X _ _ _ (by show bs.length - 1 = _; simp) ?_
  intro i hi
  have e : bs.getD (1 + i) default = bs.tail.getD i default := by
    cases bs with
    | nil => rfl
    | cons x xs => rw [Nat.add_comm]; simp
  show X.toCL (Part.X Ar.real (bs.getD (1 + i) default)) = _
  rw [e]
theorem x_vecSub (a b : List Part) (ha : a.length ≤ 1048576) (hb' : b.length ≤ 1048576) : XC Try.prog 128 [.ro (SL Ar.real Part.X a), .ro (SL Ar.real Part.X b)] [] (.tup [.ro (SL Ar.real Part.X (subV a b).1), xb (subV a b).2]) [] := by
  have hxa := x_vec_Right a (by omega)
  have hxb := x_vec_Right b (by omega)
  unfold subV
  by_cases h0 : vecRight a = true ∧ vecRight b = true
  · rw [if_pos h0]
    rw [h0.1] at hxa
    rw [h0.2] at hxb
    clear h0
    (refine XC.of_body ([(7, [(7, 8)]), (8, []), (11, [(2, 3), (2, 4)])]) Try.func128 rfl Try.ntmps128 mixed (T := [(2, ti2), (3, ti3), (4, ti4), (31, ti31), (123, ti123), (209, ti209)]) (.cons tok2 (.cons tok3 (.cons tok4 (.cons tok31 (.cons tok123 (.cons tok209 .nil)))))) (by kernel_rfl) (by simp) rfl rfl rfl rfl rfl ?_; rintro o ho P hP c K hK; have hm : P.follows .mixedOrders = true := hP ▸ mixed; have hT : TOk P [(2, ti2), (3, ti3), (4, ti4), (31, ti31), (123, ti123), (209, ti209)] := hP ▸ (.cons tok2 (.cons tok3 (.cons tok4 (.cons tok31 (.cons tok123 (.cons tok209 .nil)))))); (try rw [← ho]); cbv; (repeat (refine StopN.mk ?_; cbv)))
    rw [← ho] at hxa hxb
    repeat' (first | (refine Br.mk (fun hb => ?_) (fun hb => ?_) <;> ((try rw [ho] at hb); (try dsimp only [Ar.real, IX.vo] at hb); (try simp only [QB2] at hb); (try simp only [QBo, beq_iff_eq, beq_eq_false_iff_ne, ne_eq] at hb))) | (refine StopN.mk ?_; cbv) | ((first | refine CallI.pure hP hxa fn180 rfl rfl rfl ?_ | refine CallI.pure hP hxb fn180 rfl rfl rfl ?_); cbv) | ((first | refine CallI.pure hP (x_vec_Right _ ‹_›) fn180 (by first | rfl | (rw [ho]; done) | (rw [ho]; rfl)) (by rfl) (by first | rfl | (rw [ho]; done) | (rw [ho]; rfl)) ?_ | refine CallN.pure hP (x_vec_Right _ ‹_›) fn180 (by first | rfl | (rw [ho]; done) | (rw [ho]; rfl)) (by rfl) (by first | rfl | (rw [ho]; done) | (rw [ho]; rfl)) ?_); (try rw [← ho]); generalize hr : vecRight _ = r; (try rw [ho] at hr); (try dsimp only [Ar.real, IX.vo] at hr); (try simp only [QB2] at hr); cbv) | ((first | refine CallI.pure hP (x_vec_of _ _ _) fn182 (by first | rfl | (rw [ho]; done) | (rw [ho]; rfl)) (by rfl) (by first | rfl | (rw [ho]; done) | (rw [ho]; rfl)) ?_ | refine CallN.pure hP (x_vec_of _ _ _) fn182 (by first | rfl | (rw [ho]; done) | (rw [ho]; rfl)) (by rfl) (by first | rfl | (rw [ho]; done) | (rw [ho]; rfl)) ?_); (try rw [← ho]); cbv) | ((first | refine CallI.pure hP (x_quant_Sub _ _) fn183 (by first | rfl | (rw [ho]; done) | (rw [ho]; rfl)) (by rfl) (by first | rfl | (rw [ho]; done) | (rw [ho]; rfl)) ?_ | refine CallN.pure hP (x_quant_Sub _ _) fn183 (by first | rfl | (rw [ho]; done) | (rw [ho]; rfl)) (by rfl) (by first | rfl | (rw [ho]; done) | (rw [ho]; rfl)) ?_); (try rw [← ho]); generalize hr : (quantSub _ _).1 = r; (try rw [ho] at hr); (try dsimp only [Ar.real, IX.vo] at hr); (try simp only [QB2] at hr); generalize hr : (quantSub _ _).2 = r; (try rw [ho] at hr); (try dsimp only [Ar.real, IX.vo] at hr); (try simp only [QB2] at hr); cbv) | (refine hK _ _ ?_) | (refine NeedT.mk ?_ ?_))
    · exact absurd ‹true = false› (by decide)
    · exact absurd ‹true = false› (by decide)
    refine LoopN.ghost 6 123 3 rfl ?_
    refine LoopN.over (o := o) (D := [(7, [(7, 8)]), (8, []), (11, [(2, 3), (2, 4)])]) ho hm hT (by kernel_rfl) (fun s : StS => [(21, xn s.i), (6, .own (.loc 0) s.rv), (1, .ro (SL o Part.X s.bs))]) (fun s => [(0, .row s.rv 123 3 (SL o Part.X s.out))]) (fun _ => []) (InS a b) (fun s => a.length - s.i) ⟨0, 0, [], b⟩ ⟨Nat.zero_le _, rfl⟩ ?_ ?_
    · refine ⟨(by cbv), by cbv; repeat' (first | trivial | exact EqX.rfl' | exact EqO.rfl' | apply And.intro | ((try clear hR3); (try clear hR2); (try clear hR); (try clear hK); (try simp only [ncCast] at *); (try simp only [castI_eq] at *); refine EqX.i ?_; (try rw [ho]); (try dsimp only [Ar.real, IX.vo, IX.val, BX.val, IX.toN]); (try simp only [QB2]); (repeat rw [wrap_i64 (by omega) (by omega)]); omega) | exact EqO.row rfl (rows_nil_SL o ho Part.X)), by cbv; repeat' (first | trivial | exact EqO.rfl' | apply And.intro | exact EqO.row rfl (rows_nil_SL o ho Part.X)), by cbv; repeat' (first | trivial | exact EqO.rfl' | apply And.intro | exact EqO.row rfl (rows_nil_SL o ho Part.X))⟩
    · rintro ⟨i, rv, out, bs⟩ ⟨hi, hto⟩ R hR
      dsimp only at hi hto
      obtain ⟨hol, hbl⟩ := subTo_len hto
      have hst : subTo a b (i + 1) = subStep (out, bs) (a.getD i default) := by simp only [subTo, hto, Option.bind_some]
      have hnone : subTo a b (i + 1) = none → i < a.length → subTo a b a.length = none := fun h h' => subTo_none h h'
      have hq := x_quant_Sub (a.getD i default).amount (bs.getD 0 default).amount
      unfold subStep hitP at hst
      dsimp only at hst
      generalize quantSub (a.getD i default).amount (bs.getD 0 default).amount = q at hq hst
      obtain ⟨qn, qb⟩ := q
      dsimp only at hq hst
      have hp1 : 0 < (bs.length : Int) → (decide ((bs.getD 0 default).kind = (a.getD i default).kind) && decide ((bs.getD 0 default).role = (a.getD i default).role)) = true → qb = false → subTo a b (i + 1) = none := by
        intro h1 h2 h3
        rw [hst, if_pos (by rw [Bool.and_eq_true]; exact ⟨decide_eq_true (by omega), h2⟩), if_neg (by rw [h3]; decide)]
      have hp2 : 0 < (bs.length : Int) → (decide ((bs.getD 0 default).kind = (a.getD i default).kind) && decide ((bs.getD 0 default).role = (a.getD i default).role)) = true → qb = true → subTo a b (i + 1) = some (pushP out ⟨(a.getD i default).kind, (a.getD i default).role, qn⟩, bs.tail) := by
        intro h1 h2 h3
        rw [hst, if_pos (by rw [Bool.and_eq_true]; exact ⟨decide_eq_true (by omega), h2⟩), if_pos h3]
      have hp3 : ((bs.length : Int) ≤ 0 ∨ (decide ((bs.getD 0 default).kind = (a.getD i default).kind) && decide ((bs.getD 0 default).role = (a.getD i default).role)) = false) → subTo a b (i + 1) = some (pushP out (a.getD i default), bs) := by
        intro h1
        rw [hst, if_neg (by
          rw [Bool.and_eq_true]
          rintro ⟨h2, h3⟩
          rcases h1 with h1 | h1
          · have := of_decide_eq_true h2
            omega
          · rw [h1] at h3
            cases h3)]
      have hn1 : o.nth a i = a.getD i default := by rw [ho, real_nth]
      have hn2 : o.nth bs 0 = bs.getD 0 default := by rw [ho, real_nth]
      rw [← hn1, ← hn2] at hq
      cbv
      repeat' (first | (refine Br.mk (fun hb => ?_) (fun hb => ?_) <;> ((try rw [ho] at hb); (try dsimp only [Ar.real, IX.vo] at hb); (try simp only [QB2] at hb); (try simp only [QBo, beq_iff_eq, beq_eq_false_iff_ne, ne_eq] at hb))) | (refine StopN.mk ?_; cbv) | ((first | refine CallI.pure hP hq fn183 rfl rfl rfl ?_ | refine CallN.pure hP hq fn183 rfl rfl rfl ?_); cbv) | (refine NeedP.mk (fits_Part o ho bs) ?_) | ((first | refine CallI.pure hP (x_vec_Right _ ‹_›) fn180 (by first | rfl | (rw [ho]; done) | (rw [ho]; rfl)) (by rfl) (by first | rfl | (rw [ho]; done) | (rw [ho]; rfl)) ?_ | refine CallN.pure hP (x_vec_Right _ ‹_›) fn180 (by first | rfl | (rw [ho]; done) | (rw [ho]; rfl)) (by rfl) (by first | rfl | (rw [ho]; done) | (rw [ho]; rfl)) ?_); (try rw [← ho]); generalize hr : vecRight _ = r; (try rw [ho] at hr); (try dsimp only [Ar.real, IX.vo] at hr); (try simp only [QB2] at hr); cbv) | ((first | refine CallI.pure hP (x_vec_of _ _ _) fn182 (by first | rfl | (rw [ho]; done) | (rw [ho]; rfl)) (by rfl) (by first | rfl | (rw [ho]; done) | (rw [ho]; rfl)) ?_ | refine CallN.pure hP (x_vec_of _ _ _) fn182 (by first | rfl | (rw [ho]; done) | (rw [ho]; rfl)) (by rfl) (by first | rfl | (rw [ho]; done) | (rw [ho]; rfl)) ?_); (try rw [← ho]); cbv) | ((first | refine CallI.pure hP (x_quant_Sub _ _) fn183 (by first | rfl | (rw [ho]; done) | (rw [ho]; rfl)) (by rfl) (by first | rfl | (rw [ho]; done) | (rw [ho]; rfl)) ?_ | refine CallN.pure hP (x_quant_Sub _ _) fn183 (by first | rfl | (rw [ho]; done) | (rw [ho]; rfl)) (by rfl) (by first | rfl | (rw [ho]; done) | (rw [ho]; rfl)) ?_); (try rw [← ho]); generalize hr : (quantSub _ _).1 = r; (try rw [ho] at hr); (try dsimp only [Ar.real, IX.vo] at hr); (try simp only [QB2] at hr); generalize hr : (quantSub _ _).2 = r; (try rw [ho] at hr); (try dsimp only [Ar.real, IX.vo] at hr); (try simp only [QB2] at hr); cbv) | (refine hK _ _ ?_) | (refine NeedT.mk ?_ ?_))
      any_goals (((try clear hR3); (try clear hR2); (try clear hR); (try clear hK); (try simp only [ncCast] at *); (try simp only [castI_eq] at *); (try rw [ho]); (try dsimp only [Ar.real, IX.vo, IX.val, BX.val, IX.toN]); (try simp only [QB2]); (try simp only [decide_eq_true_eq]); (all_goals (repeat rw [wrap_i64 (by omega) (by omega)])); (all_goals (first | omega | (simp only [Int.ofNat_eq_natCast]; omega)))); done)
      · rw [hnone (hp1 (by assumption) (by assumption) (by assumption)) (by omega)]
        exact FinX_rb rows_nil_Part rfl
      · ((try clear hR3); (try clear hR2); (try clear hR); (try clear hK); (try simp only [ncCast] at *); (try simp only [castI_eq] at *); (try rw [ho]); (try dsimp only [Ar.real, IX.vo, IX.val, BX.val, IX.toN]); (try simp only [QB2]))
        simp
        omega
      · have hs := hp2 (by assumption) (by assumption) (by assumption)
        unfold pushP at hs
        rw [if_pos (by assumption)] at hs
        obtain ⟨out', ho'⟩ : ∃ q, q = out ++ [(⟨(a.getD i default).kind, (a.getD i default).role, qn⟩ : Part)] := ⟨_, rfl⟩
        obtain ⟨bs', hb'⟩ : ∃ q, q = bs.tail := ⟨_, rfl⟩
        rw [← ho', ← hb'] at hs
        refine hR _ ⟨i + 1, rv + 1, out', bs'⟩ (by dsimp only; omega) ⟨by dsimp only; omega, hs⟩ ?_
        refine ⟨(by cbv), by cbv; repeat' (first | trivial | exact EqX.rfl' | exact EqO.rfl' | apply And.intro | ((try clear hR3); (try clear hR2); (try clear hR); (try clear hK); (try simp only [ncCast] at *); (try simp only [castI_eq] at *); refine EqX.i ?_; (try rw [ho]); (try dsimp only [Ar.real, IX.vo, IX.val, BX.val, IX.toN]); (try simp only [QB2]); (repeat rw [wrap_i64 (by omega) (by omega)]); omega) | (refine EqO.snoc ho Part.X _ _ _ _ rfl ho' ?_; rw [ho]; rfl) | (exact EqX.ro (rows_tail ho hb'))), by cbv; repeat' (first | trivial | exact EqO.rfl' | apply And.intro | (refine EqO.snoc ho Part.X _ _ _ _ rfl ho' ?_; rw [ho]; rfl) | (exact EqX.ro (rows_tail ho hb'))), by cbv; repeat' (first | trivial | exact EqO.rfl' | apply And.intro | (refine EqO.snoc ho Part.X _ _ _ _ rfl ho' ?_; rw [ho]; rfl) | (exact EqX.ro (rows_tail ho hb')))⟩
      · have hs := hp2 (by assumption) (by assumption) (by assumption)
        unfold pushP at hs
        rw [if_neg (by dsimp only; omega)] at hs
        obtain ⟨bs', hb'⟩ : ∃ q, q = bs.tail := ⟨_, rfl⟩
        rw [← hb'] at hs
        refine hR _ ⟨i + 1, rv, out, bs'⟩ (by dsimp only; omega) ⟨by dsimp only; omega, hs⟩ ?_
        refine ⟨(by cbv), by cbv; repeat' (first | trivial | exact EqX.rfl' | exact EqO.rfl' | apply And.intro | ((try clear hR3); (try clear hR2); (try clear hR); (try clear hK); (try simp only [ncCast] at *); (try simp only [castI_eq] at *); refine EqX.i ?_; (try rw [ho]); (try dsimp only [Ar.real, IX.vo, IX.val, BX.val, IX.toN]); (try simp only [QB2]); (repeat rw [wrap_i64 (by omega) (by omega)]); omega) | (exact EqX.ro (rows_tail ho hb'))), by cbv; repeat' (first | trivial | exact EqO.rfl' | apply And.intro | (exact EqX.ro (rows_tail ho hb'))), by cbv; repeat' (first | trivial | exact EqO.rfl' | apply And.intro | (exact EqX.ro (rows_tail ho hb')))⟩
      iterate 2
        · have hs := hp3 (by first | exact .inl (by assumption) | exact .inr (by assumption))
          unfold pushP at hs
          rw [if_pos (by assumption)] at hs
          obtain ⟨out', ho'⟩ : ∃ q, q = out ++ [a.getD i default] := ⟨_, rfl⟩
          rw [← ho'] at hs
          refine hR _ ⟨i + 1, rv + 1, out', bs⟩ (by dsimp only; omega) ⟨by dsimp only; omega, hs⟩ ?_
          refine ⟨(by cbv), by cbv; repeat' (first | trivial | exact EqX.rfl' | exact EqO.rfl' | apply And.intro | ((try clear hR3); (try clear hR2); (try clear hR); (try clear hK); (try simp only [ncCast] at *); (try simp only [castI_eq] at *); refine EqX.i ?_; (try rw [ho]); (try dsimp only [Ar.real, IX.vo, IX.val, BX.val, IX.toN]); (try simp only [QB2]); (repeat rw [wrap_i64 (by omega) (by omega)]); omega) | (refine EqO.snoc ho Part.X _ _ _ _ rfl ho' ?_; rw [ho]; rfl)), by cbv; repeat' (first | trivial | exact EqO.rfl' | apply And.intro | (refine EqO.snoc ho Part.X _ _ _ _ rfl ho' ?_; rw [ho]; rfl)), by cbv; repeat' (first | trivial | exact EqO.rfl' | apply And.intro | (refine EqO.snoc ho Part.X _ _ _ _ rfl ho' ?_; rw [ho]; rfl))⟩
        · have hs := hp3 (by first | exact .inl (by assumption) | exact .inr (by assumption))
          unfold pushP at hs
          rw [if_neg (by omega)] at hs
          refine hR _ ⟨i + 1, rv, out, bs⟩ (by dsimp only; omega) ⟨by dsimp only; omega, hs⟩ ?_
          refine ⟨(by cbv), by cbv; repeat' (first | trivial | exact EqX.rfl' | exact EqO.rfl' | apply And.intro | ((try clear hR3); (try clear hR2); (try clear hR); (try clear hK); (try simp only [ncCast] at *); (try simp only [castI_eq] at *); refine EqX.i ?_; (try rw [ho]); (try dsimp only [Ar.real, IX.vo, IX.val, BX.val, IX.toN]); (try simp only [QB2]); (repeat rw [wrap_i64 (by omega) (by omega)]); omega)), by cbv; repeat' (first | trivial | exact EqO.rfl' | apply And.intro), by cbv; repeat' (first | trivial | exact EqO.rfl' | apply And.intro)⟩
      · obtain rfl : i = a.length := by omega
        rw [hto]
        cases bs with
        | nil => exact absurd hb (by simp)
        | cons x xs => exact FinX_rb rows_nil_Part rfl
      · obtain rfl : i = a.length := by omega
        rw [hto]
        cases bs with
        | nil => exact FinX_rb (by rw [ho]) rfl
        | cons x xs => exact absurd hb (by simp)
  · rw [if_neg h0]
    generalize vecRight a = ra at *
    generalize vecRight b = rb at *
    (refine XC.of_body ([(7, [(7, 8)]), (8, []), (11, [(2, 3), (2, 4)])]) Try.func128 rfl Try.ntmps128 mixed (T := [(2, ti2), (3, ti3), (4, ti4), (31, ti31), (123, ti123), (209, ti209)]) (.cons tok2 (.cons tok3 (.cons tok4 (.cons tok31 (.cons tok123 (.cons tok209 .nil)))))) (by kernel_rfl) (by simp) rfl rfl rfl rfl rfl ?_; rintro o ho P hP c K hK; have hm : P.follows .mixedOrders = true := hP ▸ mixed; have hT : TOk P [(2, ti2), (3, ti3), (4, ti4), (31, ti31), (123, ti123), (209, ti209)] := hP ▸ (.cons tok2 (.cons tok3 (.cons tok4 (.cons tok31 (.cons tok123 (.cons tok209 .nil)))))); (try rw [← ho]); cbv; (repeat (refine StopN.mk ?_; cbv)))
    rw [← ho] at hxa hxb
    repeat' (first | (refine Br.mk (fun hb => ?_) (fun hb => ?_) <;> ((try rw [ho] at hb); (try dsimp only [Ar.real, IX.vo] at hb); (try simp only [QB2] at hb); (try simp only [QBo, beq_iff_eq, beq_eq_false_iff_ne, ne_eq] at hb))) | (refine StopN.mk ?_; cbv) | ((first | refine CallI.pure hP hxa fn180 rfl rfl rfl ?_ | refine CallI.pure hP hxb fn180 rfl rfl rfl ?_); cbv) | ((first | refine CallI.pure hP (x_vec_Right _ ‹_›) fn180 (by first | rfl | (rw [ho]; done) | (rw [ho]; rfl)) (by rfl) (by first | rfl | (rw [ho]; done) | (rw [ho]; rfl)) ?_ | refine CallN.pure hP (x_vec_Right _ ‹_›) fn180 (by first | rfl | (rw [ho]; done) | (rw [ho]; rfl)) (by rfl) (by first | rfl | (rw [ho]; done) | (rw [ho]; rfl)) ?_); (try rw [← ho]); generalize hr : vecRight _ = r; (try rw [ho] at hr); (try dsimp only [Ar.real, IX.vo] at hr); (try simp only [QB2] at hr); cbv) | ((first | refine CallI.pure hP (x_vec_of _ _ _) fn182 (by first | rfl | (rw [ho]; done) | (rw [ho]; rfl)) (by rfl) (by first | rfl | (rw [ho]; done) | (rw [ho]; rfl)) ?_ | refine CallN.pure hP (x_vec_of _ _ _) fn182 (by first | rfl | (rw [ho]; done) | (rw [ho]; rfl)) (by rfl) (by first | rfl | (rw [ho]; done) | (rw [ho]; rfl)) ?_); (try rw [← ho]); cbv) | ((first | refine CallI.pure hP (x_quant_Sub _ _) fn183 (by first | rfl | (rw [ho]; done) | (rw [ho]; rfl)) (by rfl) (by first | rfl | (rw [ho]; done) | (rw [ho]; rfl)) ?_ | refine CallN.pure hP (x_quant_Sub _ _) fn183 (by first | rfl | (rw [ho]; done) | (rw [ho]; rfl)) (by rfl) (by first | rfl | (rw [ho]; done) | (rw [ho]; rfl)) ?_); (try rw [← ho]); generalize hr : (quantSub _ _).1 = r; (try rw [ho] at hr); (try dsimp only [Ar.real, IX.vo] at hr); (try simp only [QB2] at hr); generalize hr : (quantSub _ _).2 = r; (try rw [ho] at hr); (try dsimp only [Ar.real, IX.vo] at hr); (try simp only [QB2] at hr); cbv) | (refine hK _ _ ?_) | (refine NeedT.mk ?_ ?_))
    all_goals first
      | exact FinX_rb rows_nil_Part rfl
      | (exfalso; simp_all; done)
end Go.Proofs.Ytddgcegimmcbgaa.Sy
namespace Go.Proofs.Ytddgcegimmcbgaa.Sy
open Go Go.Sy Go.Proofs.Ytddgcegimmcbgaa
structure Want where
  weight : Int
  need : List Part
  deriving DecidableEq
instance : Inhabited Want := ⟨⟨0, []⟩⟩
def foldAWant_weight (e : Want) := (by
  have h : PLift (e.weight = e.weight) := ⟨rfl⟩
  conv at h => arg 1; lhs; delta Want.weight
  exact h)
theorem foldWant_weight (e : Want) : type_of% (foldAWant_weight e).down := (foldAWant_weight e).down
def foldAWant_need (e : Want) := (by
  have h : PLift (e.need = e.need) := ⟨rfl⟩
  conv at h => arg 1; lhs; delta Want.need
  exact h)
theorem foldWant_need (e : Want) : type_of% (foldAWant_need e).down := (foldAWant_need e).down
theorem foldWant : (⟨0, []⟩ : Want) = default := rfl
theorem QB5 : type_of% (And.intro @foldWant (And.intro @foldWant_weight (And.intro @foldWant_need (QB2)))) := And.intro @foldWant (And.intro @foldWant_weight (And.intro @foldWant_need (QB2)))
def Want.X (o : Ar) (w : Want) : List X := [xi w.weight, .ro (SL o Part.X w.need)]
def PV.X (o : Ar) (v : List Part) : List X := [.ro (SL o Part.X v)]
theorem x_vecHolds (a b : List Part) (ha : a.length ≤ 1048576) (hb' : b.length ≤ 1048576) : XC Try.prog 146 [.ro (SL Ar.real Part.X a), .ro (SL Ar.real Part.X b)] [] (xb (subV a b).2) [] := by
  have hx := x_vecSub a b ha hb'
  generalize subV a b = q at hx
  obtain ⟨out, ok⟩ := q
  (refine XC.of_body ([]) Try.func146 rfl Try.ntmps146 mixed (T := []) .nil (by kernel_rfl) (by simp) rfl rfl rfl rfl rfl ?_; rintro o ho P hP c K hK; have hm : P.follows .mixedOrders = true := hP ▸ mixed; have hT : TOk P [] := hP ▸ .nil; (try rw [← ho]); cbv; (repeat (refine StopN.mk ?_; cbv)))
  rw [← ho] at hx
  repeat' (first | (refine Br.mk (fun hb => ?_) (fun hb => ?_) <;> ((try rw [ho] at hb); (try dsimp only [Ar.real, IX.vo] at hb); (try simp only [QB5] at hb); (try simp only [QBo, beq_iff_eq, beq_eq_false_iff_ne, ne_eq] at hb))) | (refine StopN.mk ?_; cbv) | ((first | refine CallI.pure hP hx fn128 rfl rfl rfl ?_ | refine CallN.pure hP hx fn128 rfl rfl rfl ?_); cbv) | ((first | refine CallI.pure hP (x_vecSub _ _ ‹_› ‹_›) fn128 (by first | rfl | (rw [ho]; done) | (rw [ho]; rfl)) (by rfl) (by first | rfl | (rw [ho]; done) | (rw [ho]; rfl)) ?_ | refine CallN.pure hP (x_vecSub _ _ ‹_› ‹_›) fn128 (by first | rfl | (rw [ho]; done) | (rw [ho]; rfl)) (by rfl) (by first | rfl | (rw [ho]; done) | (rw [ho]; rfl)) ?_); (try rw [← ho]); generalize hr : subV _ _ = r; (try rw [ho] at hr); (try dsimp only [Ar.real, IX.vo] at hr); (try simp only [QB5] at hr); cbv) | (refine hK _ _ ?_) | (refine NeedT.mk ?_ ?_))
  exact .b rfl
structure Prof where
  ags : List (List Part)
  wants : List Want
  lo : S4
def Prof.X (o : Ar) (p : Prof) : List X := [.ro (SL o PV.X p.ags), .ro (SL o Want.X p.wants), xi p.lo.a, xi p.lo.b, xi p.lo.c, xi p.lo.d]
structure ProfOk (p : Prof) : Prop where
  na : p.ags.length ≤ 1048576
  nw : p.wants.length ≤ 1048576
  a : ∀ k, (p.ags.getD k default).length ≤ 1048576
  w : ∀ k, (p.wants.getD k default).need.length ≤ 1048576
def totTo (l : List (List Part)) : Nat → S4
  | 0 => ⟨0, 0, 0, 0⟩
  | k + 1 => (sumsAdd (totTo l k) (sumsOf (l.getD k default))).1
def topS (s : S4) : Bool := decide (s.a ≤ 9007199254740992 ∧ s.b ≤ 9007199254740992 ∧ s.c ≤ 9007199254740992 ∧ s.d ≤ 9007199254740992)
def totR (l : List (List Part)) : S4 × Bool :=
  match nextAt (fun k => !bareR (l.getD k default)) 0 l.length with
  | some j => (totTo l j, false)
  | none => (totTo l l.length, topS (totTo l l.length))
theorem x_total (p : Prof) (hp : ProfOk p) : XC Try.prog 205 [.agg (Prof.X Ar.real p)] [] (.tup [.agg (S4.X Ar.real (totR p.ags).1), xb (totR p.ags).2]) [] := by
  obtain ⟨l, ws, lo⟩ := p
  obtain ⟨hl, hws, hla, hwa⟩ := hp
  dsimp only at hl hws hla hwa
  dsimp only
  have hm0 : totTo l 0 = ⟨0, 0, 0, 0⟩ := rfl
  have hm1 : ∀ k, totTo l (k + 1) = (sumsAdd (totTo l k) (sumsOf (l.getD k default))).1 := fun _ => rfl
  have h1 : ∀ j, j < l.length → (∀ k, k < j → bareR (l.getD k default) = true) → bareR (l.getD j default) = false → totR l = (totTo l j, false) := by
    intro j hj hlt hx
    unfold totR
    rw [nextAt_some (Nat.zero_le _) hj (by simp only [hx, Bool.not_false]) (fun k _ hk => by simp only [hlt k hk, Bool.not_true])]
  have h2 : (∀ k, k < l.length → bareR (l.getD k default) = true) → totR l = (totTo l l.length, topS (totTo l l.length)) := by
    intro hlt
    unfold totR
    rw [nextAt_none (fun k _ hk => by simp only [hlt k hk, Bool.not_true])]
  generalize totR l = r at *
  generalize totTo l = M at *
  obtain ⟨a0, b0, c0, d0⟩ := lo
  (refine XC.of_body ([(7, [(0, 2)])]) Try.func205 rfl Try.ntmps205 mixed (T := [(2, ti2), (3, ti3), (4, ti4), (31, ti31), (42, ti42), (52, ti52), (57, ti57), (61, ti61), (75, ti75), (123, ti123)]) (.cons tok2 (.cons tok3 (.cons tok4 (.cons tok31 (.cons tok42 (.cons tok52 (.cons tok57 (.cons tok61 (.cons tok75 (.cons tok123 .nil)))))))))) (by kernel_rfl) (by simp) rfl rfl rfl rfl rfl ?_; rintro o ho P hP c K hK; have hm : P.follows .mixedOrders = true := hP ▸ mixed; have hT : TOk P [(2, ti2), (3, ti3), (4, ti4), (31, ti31), (42, ti42), (52, ti52), (57, ti57), (61, ti61), (75, ti75), (123, ti123)] := hP ▸ (.cons tok2 (.cons tok3 (.cons tok4 (.cons tok31 (.cons tok42 (.cons tok52 (.cons tok57 (.cons tok61 (.cons tok75 (.cons tok123 .nil)))))))))); (try rw [← ho]); cbv; (repeat (refine StopN.mk ?_; cbv)))
  refine LoopN.over (o := o) (D := [(7, [(0, 2)])]) ho hm hT (by kernel_rfl) (fun a : Nat => [(12, xn a)]) (fun a => [(2, .var [xi (M a).a, xi (M a).b, xi (M a).c, xi (M a).d] 61)]) (fun _ => []) (fun a => a ≤ l.length ∧ ∀ k, k < a → bareR (l.getD k default) = true) (fun a => l.length - a) 0 ⟨by omega, fun k hk => absurd hk (Nat.not_lt_zero k)⟩ ?_ ?_
  · refine ⟨(by cbv), by cbv; repeat' (first | trivial | exact EqX.rfl' | exact EqO.rfl' | apply And.intro | ((try clear hR3); (try clear hR2); (try clear hR); (try clear hK); (try simp only [ncCast] at *); (try simp only [castI_eq] at *); refine EqX.i ?_; (try rw [ho]); (try dsimp only [Ar.real, IX.vo, IX.val, BX.val, IX.toN]); (try simp only [QB5]); (repeat rw [wrap_i64 (by omega) (by omega)]); omega) | exact ⟨by rw [hm0]; rfl⟩), by cbv; repeat' (first | trivial | exact EqO.rfl' | apply And.intro | exact ⟨by rw [hm0]; rfl⟩), by cbv; repeat' (first | trivial | exact EqO.rfl' | apply And.intro | exact ⟨by rw [hm0]; rfl⟩)⟩
  · rintro i ⟨hi, hlt⟩ R hR
    have hv := x_bare (l.getD i default) (hla i)
    have hs := x_sumsOf (l.getD i default) (hla i)
    have hadd := x_sumsAdd (M i) (sumsOf (l.getD i default))
    have e1 := h1 i
    have e2 := hm1 i
    generalize sumsOf (l.getD i default) = sv at *
    generalize sumsAdd (M i) sv = sa at *
    generalize hbv : bareR (l.getD i default) = bv at *
    have en : o.nth l i = l.getD i default := by rw [ho, real_nth]
    rw [← en, ← ho] at hv hs
    rw [← ho] at hadd
    cbv
    repeat' (first | (refine Br.mk (fun hb => ?_) (fun hb => ?_) <;> ((try rw [ho] at hb); (try dsimp only [Ar.real, IX.vo] at hb); (try simp only [QB5] at hb); (try simp only [QBo, beq_iff_eq, beq_eq_false_iff_ne, ne_eq] at hb))) | (refine StopN.mk ?_; cbv) | ((first | refine CallI.pure hP hv fn206 rfl rfl rfl ?_ | refine CallN.pure hP hs fn122 rfl rfl rfl ?_ | refine CallN.pure hP hadd fn129 rfl rfl rfl ?_); cbv) | ((first | refine CallI.pure hP (x_sumsOf _ ‹_›) fn122 (by first | rfl | (rw [ho]; done) | (rw [ho]; rfl)) (by rfl) (by first | rfl | (rw [ho]; done) | (rw [ho]; rfl)) ?_ | refine CallN.pure hP (x_sumsOf _ ‹_›) fn122 (by first | rfl | (rw [ho]; done) | (rw [ho]; rfl)) (by rfl) (by first | rfl | (rw [ho]; done) | (rw [ho]; rfl)) ?_); (try rw [← ho]); generalize hr : sumsOf _ = r; (try rw [ho] at hr); (try dsimp only [Ar.real, IX.vo] at hr); (try simp only [QB5] at hr); cbv) | ((first | refine CallI.pure hP (x_sumsAdd _ _) fn129 (by first | rfl | (rw [ho]; done) | (rw [ho]; rfl)) (by rfl) (by first | rfl | (rw [ho]; done) | (rw [ho]; rfl)) ?_ | refine CallN.pure hP (x_sumsAdd _ _) fn129 (by first | rfl | (rw [ho]; done) | (rw [ho]; rfl)) (by rfl) (by first | rfl | (rw [ho]; done) | (rw [ho]; rfl)) ?_); (try rw [← ho]); generalize hr : sumsAdd _ _ = r; (try rw [ho] at hr); (try dsimp only [Ar.real, IX.vo] at hr); (try simp only [QB5] at hr); cbv) | ((first | refine CallI.pure hP (x_bare _ ‹_›) fn206 (by first | rfl | (rw [ho]; done) | (rw [ho]; rfl)) (by rfl) (by first | rfl | (rw [ho]; done) | (rw [ho]; rfl)) ?_ | refine CallN.pure hP (x_bare _ ‹_›) fn206 (by first | rfl | (rw [ho]; done) | (rw [ho]; rfl)) (by rfl) (by first | rfl | (rw [ho]; done) | (rw [ho]; rfl)) ?_); (try rw [← ho]); generalize hr : bareR _ = r; (try rw [ho] at hr); (try dsimp only [Ar.real, IX.vo] at hr); (try simp only [QB5] at hr); cbv) | (refine hK _ _ ?_) | (refine NeedT.mk ?_ ?_) | (refine LoopN.lay (o := o) (D := [(7, [(0, 2)])]) 5 ho hm hT (by kernel_rfl) ?_; cbv))
    any_goals (((try clear hR3); (try clear hR2); (try clear hR); (try clear hK); (try simp only [ncCast] at *); (try simp only [castI_eq] at *); (try rw [ho]); (try dsimp only [Ar.real, IX.vo, IX.val, BX.val, IX.toN]); (try simp only [QB5]); (try simp only [decide_eq_true_eq]); (all_goals (repeat rw [wrap_i64 (by omega) (by omega)])); (all_goals (first | omega | (simp only [Int.ofNat_eq_natCast]; omega)))); done)
    · rw [e1 (by ((try clear hR3); (try clear hR2); (try clear hR); (try clear hK); (try simp only [ncCast] at *); (try simp only [castI_eq] at *)); omega) hlt hb]
      exact FinX_S4b rfl rfl rfl rfl rfl
    · refine hR _ (i + 1) (by show l.length - (i + 1) < l.length - i; ((try clear hR3); (try clear hR2); (try clear hR); (try clear hK); (try simp only [ncCast] at *); (try simp only [castI_eq] at *)); omega) ⟨by show i + 1 ≤ l.length; ((try clear hR3); (try clear hR2); (try clear hR); (try clear hK); (try simp only [ncCast] at *); (try simp only [castI_eq] at *)); omega, fun k hk => ?_⟩ ?_
      · rcases Nat.lt_or_ge k i with h | h
        · exact hlt k h
        · obtain rfl : k = i := by
            have hk' : k < i + 1 := hk
            clear hk
            ((try clear hR3); (try clear hR2); (try clear hR); (try clear hK); (try simp only [ncCast] at *); (try simp only [castI_eq] at *))
            omega
          rw [hbv]; assumption
      · refine ⟨(by cbv), by cbv; repeat' (first | trivial | exact EqX.rfl' | exact EqO.rfl' | apply And.intro | ((try clear hR3); (try clear hR2); (try clear hR); (try clear hK); (try simp only [ncCast] at *); (try simp only [castI_eq] at *); refine EqX.i ?_; (try rw [ho]); (try dsimp only [Ar.real, IX.vo, IX.val, BX.val, IX.toN]); (try simp only [QB5]); (repeat rw [wrap_i64 (by omega) (by omega)]); omega) | exact ⟨by rw [e2]⟩), by cbv; repeat' (first | trivial | exact EqO.rfl' | apply And.intro | exact ⟨by rw [e2]⟩), by cbv; repeat' (first | trivial | exact EqO.rfl' | apply And.intro | exact ⟨by rw [e2]⟩)⟩
    all_goals
      obtain rfl : i = l.length := by ((try clear hR3); (try clear hR2); (try clear hR); (try clear hK); (try simp only [ncCast] at *); (try simp only [castI_eq] at *)); omega
      rw [h2 hlt]
      refine FinX_S4b rfl rfl rfl rfl ?_
      unfold topS
      ((try clear hR3); (try clear hR2); (try clear hR); (try clear hK); (try simp only [ncCast] at *); (try simp only [castI_eq] at *))
      simp only [BX.val, Bool.false_eq, Bool.true_eq, decide_eq_true_eq, decide_eq_false_iff_not]
      omega
def inTop (x : Int) : Bool := decide (0 ≤ x) && decide (x ≤ 9007199254740992)
def okLo (s : S4) : Bool := inTop s.a && (inTop s.b && (inTop s.c && inTop s.d))
def okW (lo : S4) (w : Want) : Bool := bareR w.need && (decide (1 ≤ w.weight ∧ w.weight ≤ 1000) && sumsHolds (sumsOf w.need) lo)
def fineR (p : Prof) : Bool := (totR p.ags).2 && (decide (1 ≤ p.ags.length ∧ p.ags.length ≤ 16 ∧ 1 ≤ p.wants.length ∧ p.wants.length ≤ 32) && (okLo p.lo && p.wants.all (okW p.lo)))
theorem all_getD {α : Type} [Inhabited α] {l : List α} {f : α → Bool} : l.all f = true ↔ ∀ k, k < l.length → f (l.getD k default) = true := by
  rw [List.all_eq_true]
  constructor
  · intro h k hk
    have e : l.getD k default = l[k] := by simp [List.getD_eq_getElem?_getD, hk]
    rw [e]
    exact h _ (List.getElem_mem _)
  · intro h x hx
    obtain ⟨k, hk, rfl⟩ := List.mem_iff_getElem.1 hx
    have e : l.getD k default = l[k] := by simp [List.getD_eq_getElem?_getD, hk]
    rw [← e]
    exact h k hk
theorem x_fine (p : Prof) (hp : ProfOk p) : XC Try.prog 178 [.agg (Prof.X Ar.real p)] [] (xb (fineR p)) [] := by
  have ht := x_total p hp
  have hsum := fun k => x_sumsOf (p.wants.getD k default).need (hp.w k)
  have hbare := fun k => x_bare (p.wants.getD k default).need (hp.w k)
  have hholds := fun k => x_sumsHolds (sumsOf (p.wants.getD k default).need) p.lo
  have hw : ∀ k, okW p.lo (p.wants.getD k default) = (bareR (p.wants.getD k default).need && (decide (1 ≤ (p.wants.getD k default).weight ∧ (p.wants.getD k default).weight ≤ 1000) && sumsHolds (sumsOf (p.wants.getD k default).need) p.lo)) := fun _ => rfl
  have hall : p.wants.all (okW p.lo) = true ↔ ∀ k, k < p.wants.length → okW p.lo (p.wants.getD k default) = true := all_getD
  unfold fineR
  generalize okW p.lo = W at *
  generalize (p.wants.all W) = A at *
  generalize totR p.ags = tt at *
  obtain ⟨l, ws, lo⟩ := p
  obtain ⟨hl, hws, hla, hwa⟩ := hp
  dsimp only at hl hws hla hwa ht hsum hbare hholds hw hall
  dsimp only
  generalize hlo : okLo lo = LO
  generalize hS : (fun k => sumsOf (ws.getD k default).need) = S at *
  generalize hB : (fun k => bareR (ws.getD k default).need) = B at *
  have eS : ∀ k, sumsOf (ws.getD k default).need = S k := fun k => by rw [← hS]
  have eB : ∀ k, bareR (ws.getD k default).need = B k := fun k => by rw [← hB]
  simp only [eS, eB] at hsum hbare hholds hw
  clear eS eB hS hB
  generalize hH : (fun k => sumsHolds (S k) lo) = H at *
  have eH : ∀ k, sumsHolds (S k) lo = H k := fun k => by rw [← hH]
  simp only [eH] at hholds hw
  clear eH hH
  obtain ⟨a0, b0, c0, d0⟩ := lo
  have hLO : LO = true ↔ (0 ≤ a0 ∧ a0 ≤ 9007199254740992) ∧ (0 ≤ b0 ∧ b0 ≤ 9007199254740992) ∧ (0 ≤ c0 ∧ c0 ≤ 9007199254740992) ∧ (0 ≤ d0 ∧ d0 ≤ 9007199254740992) := by
    rw [← hlo]
    simp [okLo, inTop]
  clear hlo
  (refine XC.of_body ([(13, [(17, 18), (17, 19)])]) Try.func178 rfl Try.ntmps178 mixed (T := [(2, ti2), (3, ti3), (4, ti4), (31, ti31), (42, ti42), (52, ti52), (57, ti57), (61, ti61), (75, ti75), (123, ti123), (132, ti132)]) (.cons tok2 (.cons tok3 (.cons tok4 (.cons tok31 (.cons tok42 (.cons tok52 (.cons tok57 (.cons tok61 (.cons tok75 (.cons tok123 (.cons tok132 .nil))))))))))) (by kernel_rfl) (by simp) rfl rfl rfl rfl rfl ?_; rintro o ho P hP c K hK; have hm : P.follows .mixedOrders = true := hP ▸ mixed; have hT : TOk P [(2, ti2), (3, ti3), (4, ti4), (31, ti31), (42, ti42), (52, ti52), (57, ti57), (61, ti61), (75, ti75), (123, ti123), (132, ti132)] := hP ▸ (.cons tok2 (.cons tok3 (.cons tok4 (.cons tok31 (.cons tok42 (.cons tok52 (.cons tok57 (.cons tok61 (.cons tok75 (.cons tok123 (.cons tok132 .nil))))))))))); (try rw [← ho]); cbv; (repeat (refine StopN.mk ?_; cbv)))
  rw [← ho] at ht
  repeat' (first | (refine Br.mk (fun hb => ?_) (fun hb => ?_) <;> ((try rw [ho] at hb); (try dsimp only [Ar.real, IX.vo] at hb); (try simp only [QB5] at hb); (try simp only [QBo, beq_iff_eq, beq_eq_false_iff_ne, ne_eq] at hb))) | (refine StopN.mk ?_; cbv) | ((first | refine CallI.pure hP ht fn205 rfl rfl rfl ?_ | refine CallN.pure hP ht fn205 rfl rfl rfl ?_); cbv) | ((first | refine CallI.pure hP (x_sumsHolds _ _) fn83 (by first | rfl | (rw [ho]; done) | (rw [ho]; rfl)) (by rfl) (by first | rfl | (rw [ho]; done) | (rw [ho]; rfl)) ?_ | refine CallN.pure hP (x_sumsHolds _ _) fn83 (by first | rfl | (rw [ho]; done) | (rw [ho]; rfl)) (by rfl) (by first | rfl | (rw [ho]; done) | (rw [ho]; rfl)) ?_); (try rw [← ho]); generalize hr : sumsHolds _ _ = r; (try rw [ho] at hr); (try dsimp only [Ar.real, IX.vo] at hr); (try simp only [QB5] at hr); cbv) | ((first | refine CallI.pure hP (x_sumsOf _ ‹_›) fn122 (by first | rfl | (rw [ho]; done) | (rw [ho]; rfl)) (by rfl) (by first | rfl | (rw [ho]; done) | (rw [ho]; rfl)) ?_ | refine CallN.pure hP (x_sumsOf _ ‹_›) fn122 (by first | rfl | (rw [ho]; done) | (rw [ho]; rfl)) (by rfl) (by first | rfl | (rw [ho]; done) | (rw [ho]; rfl)) ?_); (try rw [← ho]); generalize hr : sumsOf _ = r; (try rw [ho] at hr); (try dsimp only [Ar.real, IX.vo] at hr); (try simp only [QB5] at hr); cbv) | ((first | refine CallI.pure hP (x_total _ ‹_›) fn205 (by first | rfl | (rw [ho]; done) | (rw [ho]; rfl)) (by rfl) (by first | rfl | (rw [ho]; done) | (rw [ho]; rfl)) ?_ | refine CallN.pure hP (x_total _ ‹_›) fn205 (by first | rfl | (rw [ho]; done) | (rw [ho]; rfl)) (by rfl) (by first | rfl | (rw [ho]; done) | (rw [ho]; rfl)) ?_); (try rw [← ho]); generalize hr : totR _ = r; (try rw [ho] at hr); (try dsimp only [Ar.real, IX.vo] at hr); (try simp only [QB5] at hr); cbv) | ((first | refine CallI.pure hP (x_bare _ ‹_›) fn206 (by first | rfl | (rw [ho]; done) | (rw [ho]; rfl)) (by rfl) (by first | rfl | (rw [ho]; done) | (rw [ho]; rfl)) ?_ | refine CallN.pure hP (x_bare _ ‹_›) fn206 (by first | rfl | (rw [ho]; done) | (rw [ho]; rfl)) (by rfl) (by first | rfl | (rw [ho]; done) | (rw [ho]; rfl)) ?_); (try rw [← ho]); generalize hr : bareR _ = r; (try rw [ho] at hr); (try dsimp only [Ar.real, IX.vo] at hr); (try simp only [QB5] at hr); cbv) | (refine hK _ _ ?_) | (refine NeedT.mk ?_ ?_))
  iterate 5
    · refine .b ?_
      ((try clear hR3); (try clear hR2); (try clear hR); (try clear hK); (try simp only [ncCast] at *); (try simp only [castI_eq] at *))
      symm
      rw [BX.val, Bool.eq_false_iff]
      intro h
      simp only [Bool.and_eq_true, decide_eq_true_eq] at h
      first | omega | simp_all
  (refine LoopN.lay (o := o) (D := [(13, [(17, 18), (17, 19)])]) 5 ho hm hT (by kernel_rfl) ?_; cbv)
  repeat' (first | (refine Br.mk (fun hb => ?_) (fun hb => ?_) <;> ((try rw [ho] at hb); (try dsimp only [Ar.real, IX.vo] at hb); (try simp only [QB5] at hb); (try simp only [QBo, beq_iff_eq, beq_eq_false_iff_ne, ne_eq] at hb))) | (refine StopN.mk ?_; cbv) | ((first | refine CallI.pure hP (x_sumsHolds _ _) fn83 (by first | rfl | (rw [ho]; done) | (rw [ho]; rfl)) (by rfl) (by first | rfl | (rw [ho]; done) | (rw [ho]; rfl)) ?_ | refine CallN.pure hP (x_sumsHolds _ _) fn83 (by first | rfl | (rw [ho]; done) | (rw [ho]; rfl)) (by rfl) (by first | rfl | (rw [ho]; done) | (rw [ho]; rfl)) ?_); (try rw [← ho]); generalize hr : sumsHolds _ _ = r; (try rw [ho] at hr); (try dsimp only [Ar.real, IX.vo] at hr); (try simp only [QB5] at hr); cbv) | ((first | refine CallI.pure hP (x_sumsOf _ ‹_›) fn122 (by first | rfl | (rw [ho]; done) | (rw [ho]; rfl)) (by rfl) (by first | rfl | (rw [ho]; done) | (rw [ho]; rfl)) ?_ | refine CallN.pure hP (x_sumsOf _ ‹_›) fn122 (by first | rfl | (rw [ho]; done) | (rw [ho]; rfl)) (by rfl) (by first | rfl | (rw [ho]; done) | (rw [ho]; rfl)) ?_); (try rw [← ho]); generalize hr : sumsOf _ = r; (try rw [ho] at hr); (try dsimp only [Ar.real, IX.vo] at hr); (try simp only [QB5] at hr); cbv) | ((first | refine CallI.pure hP (x_total _ ‹_›) fn205 (by first | rfl | (rw [ho]; done) | (rw [ho]; rfl)) (by rfl) (by first | rfl | (rw [ho]; done) | (rw [ho]; rfl)) ?_ | refine CallN.pure hP (x_total _ ‹_›) fn205 (by first | rfl | (rw [ho]; done) | (rw [ho]; rfl)) (by rfl) (by first | rfl | (rw [ho]; done) | (rw [ho]; rfl)) ?_); (try rw [← ho]); generalize hr : totR _ = r; (try rw [ho] at hr); (try dsimp only [Ar.real, IX.vo] at hr); (try simp only [QB5] at hr); cbv) | ((first | refine CallI.pure hP (x_bare _ ‹_›) fn206 (by first | rfl | (rw [ho]; done) | (rw [ho]; rfl)) (by rfl) (by first | rfl | (rw [ho]; done) | (rw [ho]; rfl)) ?_ | refine CallN.pure hP (x_bare _ ‹_›) fn206 (by first | rfl | (rw [ho]; done) | (rw [ho]; rfl)) (by rfl) (by first | rfl | (rw [ho]; done) | (rw [ho]; rfl)) ?_); (try rw [← ho]); generalize hr : bareR _ = r; (try rw [ho] at hr); (try dsimp only [Ar.real, IX.vo] at hr); (try simp only [QB5] at hr); cbv) | (refine hK _ _ ?_) | (refine NeedT.mk ?_ ?_))
  iterate 8
    · refine .b ?_
      ((try clear hR3); (try clear hR2); (try clear hR); (try clear hK); (try simp only [ncCast] at *); (try simp only [castI_eq] at *))
      symm
      rw [BX.val, Bool.eq_false_iff]
      intro h
      simp only [Bool.and_eq_true, decide_eq_true_eq, hLO] at h
      omega
  have hLO1 : LO = true := hLO.2 (by ((try clear hR3); (try clear hR2); (try clear hR); (try clear hK); (try simp only [ncCast] at *); (try simp only [castI_eq] at *)); omega)
  refine LoopN.over (o := o) (D := [(13, [(17, 18), (17, 19)])]) ho hm hT (by kernel_rfl) (fun a : Nat => [(55, xn a)]) (fun _ => []) (fun _ => []) (fun a => a ≤ ws.length ∧ ∀ k, k < a → W (ws.getD k default) = true) (fun a => ws.length - a) 0 ⟨by omega, fun k hk => absurd hk (Nat.not_lt_zero k)⟩ ?_ ?_
  · refine ⟨(by cbv), by cbv; repeat' (first | trivial | exact EqX.rfl' | exact EqO.rfl' | apply And.intro | ((try clear hR3); (try clear hR2); (try clear hR); (try clear hK); (try simp only [ncCast] at *); (try simp only [castI_eq] at *); refine EqX.i ?_; (try rw [ho]); (try dsimp only [Ar.real, IX.vo, IX.val, BX.val, IX.toN]); (try simp only [QB5]); (repeat rw [wrap_i64 (by omega) (by omega)]); omega)), by cbv; repeat' (first | trivial | exact EqO.rfl' | apply And.intro), by cbv; repeat' (first | trivial | exact EqO.rfl' | apply And.intro)⟩
  · rintro i ⟨hi, hlt⟩ R hR
    have hs := hsum i
    have hv := hbare i
    have hh := hholds i
    have hw1 := hw i
    have en : o.nth ws i = ws.getD i default := by rw [ho, real_nth]
    rw [← en, ← ho] at hv hs
    rw [← ho] at hh
    cbv
    repeat' (first | (refine Br.mk (fun hb => ?_) (fun hb => ?_) <;> ((try rw [ho] at hb); (try dsimp only [Ar.real, IX.vo] at hb); (try simp only [QB5] at hb); (try simp only [QBo, beq_iff_eq, beq_eq_false_iff_ne, ne_eq] at hb))) | (refine StopN.mk ?_; cbv) | ((first | refine CallN.pure hP hv fn206 rfl rfl rfl ?_ | refine CallN.pure hP hs fn122 rfl rfl rfl ?_ | refine CallN.pure hP hh fn83 rfl rfl rfl ?_); cbv) | ((first | refine CallI.pure hP (x_sumsHolds _ _) fn83 (by first | rfl | (rw [ho]; done) | (rw [ho]; rfl)) (by rfl) (by first | rfl | (rw [ho]; done) | (rw [ho]; rfl)) ?_ | refine CallN.pure hP (x_sumsHolds _ _) fn83 (by first | rfl | (rw [ho]; done) | (rw [ho]; rfl)) (by rfl) (by first | rfl | (rw [ho]; done) | (rw [ho]; rfl)) ?_); (try rw [← ho]); generalize hr : sumsHolds _ _ = r; (try rw [ho] at hr); (try dsimp only [Ar.real, IX.vo] at hr); (try simp only [QB5] at hr); cbv) | ((first | refine CallI.pure hP (x_sumsOf _ ‹_›) fn122 (by first | rfl | (rw [ho]; done) | (rw [ho]; rfl)) (by rfl) (by first | rfl | (rw [ho]; done) | (rw [ho]; rfl)) ?_ | refine CallN.pure hP (x_sumsOf _ ‹_›) fn122 (by first | rfl | (rw [ho]; done) | (rw [ho]; rfl)) (by rfl) (by first | rfl | (rw [ho]; done) | (rw [ho]; rfl)) ?_); (try rw [← ho]); generalize hr : sumsOf _ = r; (try rw [ho] at hr); (try dsimp only [Ar.real, IX.vo] at hr); (try simp only [QB5] at hr); cbv) | ((first | refine CallI.pure hP (x_total _ ‹_›) fn205 (by first | rfl | (rw [ho]; done) | (rw [ho]; rfl)) (by rfl) (by first | rfl | (rw [ho]; done) | (rw [ho]; rfl)) ?_ | refine CallN.pure hP (x_total _ ‹_›) fn205 (by first | rfl | (rw [ho]; done) | (rw [ho]; rfl)) (by rfl) (by first | rfl | (rw [ho]; done) | (rw [ho]; rfl)) ?_); (try rw [← ho]); generalize hr : totR _ = r; (try rw [ho] at hr); (try dsimp only [Ar.real, IX.vo] at hr); (try simp only [QB5] at hr); cbv) | ((first | refine CallI.pure hP (x_bare _ ‹_›) fn206 (by first | rfl | (rw [ho]; done) | (rw [ho]; rfl)) (by rfl) (by first | rfl | (rw [ho]; done) | (rw [ho]; rfl)) ?_ | refine CallN.pure hP (x_bare _ ‹_›) fn206 (by first | rfl | (rw [ho]; done) | (rw [ho]; rfl)) (by rfl) (by first | rfl | (rw [ho]; done) | (rw [ho]; rfl)) ?_); (try rw [← ho]); generalize hr : bareR _ = r; (try rw [ho] at hr); (try dsimp only [Ar.real, IX.vo] at hr); (try simp only [QB5] at hr); cbv) | (refine hK _ _ ?_) | (refine NeedT.mk ?_ ?_))
    any_goals (((try clear hR3); (try clear hR2); (try clear hR); (try clear hK); (try simp only [ncCast] at *); (try simp only [castI_eq] at *); (try rw [ho]); (try dsimp only [Ar.real, IX.vo, IX.val, BX.val, IX.toN]); (try simp only [QB5]); (try simp only [decide_eq_true_eq]); (all_goals (repeat rw [wrap_i64 (by omega) (by omega)])); (all_goals (first | omega | (simp only [Int.ofNat_eq_natCast]; omega)))); done)
    iterate 4
      · refine .b ?_
        ((try clear hR3); (try clear hR2); (try clear hR); (try clear hK); (try simp only [ncCast] at *); (try simp only [castI_eq] at *))
        symm
        rw [BX.val, Bool.eq_false_iff]
        intro h
        simp only [Bool.and_eq_true, decide_eq_true_eq] at h
        have h5 := hall.1 h.2.2.2 i (by omega)
        rw [hw1] at h5
        simp only [Bool.and_eq_true, decide_eq_true_eq] at h5
        first | omega | simp_all
    · have hwi : W (ws.getD i default) = true := by
        rw [hw1, Bool.and_eq_true, Bool.and_eq_true, decide_eq_true_eq]
        exact ⟨by assumption, ⟨by assumption, by assumption⟩, by assumption⟩
      refine hR _ (i + 1) (by show ws.length - (i + 1) < ws.length - i; ((try clear hR3); (try clear hR2); (try clear hR); (try clear hK); (try simp only [ncCast] at *); (try simp only [castI_eq] at *)); omega) ⟨by show i + 1 ≤ ws.length; ((try clear hR3); (try clear hR2); (try clear hR); (try clear hK); (try simp only [ncCast] at *); (try simp only [castI_eq] at *)); omega, fun k hk => ?_⟩ ?_
      · rcases Nat.lt_or_ge k i with h | h
        · exact hlt k h
        · obtain rfl : k = i := by
            have hk' : k < i + 1 := hk
            clear hk
            ((try clear hR3); (try clear hR2); (try clear hR); (try clear hK); (try simp only [ncCast] at *); (try simp only [castI_eq] at *))
            omega
          exact hwi
      · refine ⟨(by cbv), by cbv; repeat' (first | trivial | exact EqX.rfl' | exact EqO.rfl' | apply And.intro | ((try clear hR3); (try clear hR2); (try clear hR); (try clear hK); (try simp only [ncCast] at *); (try simp only [castI_eq] at *); refine EqX.i ?_; (try rw [ho]); (try dsimp only [Ar.real, IX.vo, IX.val, BX.val, IX.toN]); (try simp only [QB5]); (repeat rw [wrap_i64 (by omega) (by omega)]); omega)), by cbv; repeat' (first | trivial | exact EqO.rfl' | apply And.intro), by cbv; repeat' (first | trivial | exact EqO.rfl' | apply And.intro)⟩
    · obtain rfl : i = ws.length := by ((try clear hR3); (try clear hR2); (try clear hR); (try clear hK); (try simp only [ncCast] at *); (try simp only [castI_eq] at *)); omega
      have hA : A = true := hall.2 hlt
      refine .b ?_
      have h16 : 1 ≤ l.length ∧ l.length ≤ 16 ∧ 1 ≤ ws.length ∧ ws.length ≤ 32 := by ((try clear hR3); (try clear hR2); (try clear hR); (try clear hK); (try simp only [ncCast] at *); (try simp only [castI_eq] at *)); omega
      have ht2 : tt.2 = true := by assumption
      rw [hA, hLO1, ht2, decide_eq_true h16]
      rfl
end Go.Proofs.Ytddgcegimmcbgaa.Sy
namespace Go.Proofs.Ytddgcegimmcbgaa.Sy
open Go Go.Sy Go.Proofs.Ytddgcegimmcbgaa
def bndW (a : List Part) (ws : List Want) (n : Int) : Nat → Int
  | 0 => n
  | k + 1 => min 9007199254740992 (bndW a ws n k + sumsMany (sumsOf a) (sumsOf (ws.getD k default).need))
def bndA (l : List (List Part)) (ws : List Want) : Nat → Int
  | 0 => (l.length : Int) * ws.length
  | i + 1 => bndW (l.getD i default) ws (bndA l ws i) ws.length
def boundR (p : Prof) : Int := if fineR p = true then bndA p.ags p.wants p.ags.length else 0
theorem minQ_le {m a b : Int} : minQ m a b ≤ m := by
  unfold minQ
  split <;> omega
theorem minQ_nonneg {m a b : Int} (hm : 0 ≤ m) (ha : 0 ≤ a ∧ a ≤ 1152921504606846976) : 0 ≤ minQ m a b := by
  unfold minQ
  split
  · rename_i h
    rw [Int.tdiv_eq_ediv_of_nonneg ha.1]
    have h1 := Int.ediv_nonneg ha.1 (Int.le_of_lt h)
    have h2 := Int.ediv_le_self b ha.1
    rw [wrap_i64 (by omega) (by omega)]
    omega
  · exact hm
theorem sumsMany_bd (s t : S4) : 0 ≤ sumsMany s t ∧ sumsMany s t ≤ 1152921504606846976 := by
  unfold sumsMany
  split
  · rename_i h
    have h1 := (sumsRight_iff s).1 h.1
    constructor
    · exact minQ_nonneg (minQ_nonneg (minQ_nonneg (minQ_nonneg (by omega) h1.1) h1.2.1) h1.2.2.1) h1.2.2.2
    · exact Int.le_trans minQ_le (Int.le_trans minQ_le (Int.le_trans minQ_le minQ_le))
  · omega
theorem bndW_bd {a : List Part} {ws : List Want} {n : Int} (hn : 0 ≤ n ∧ n ≤ 9007199254740992) : ∀ k, 0 ≤ bndW a ws n k ∧ bndW a ws n k ≤ 9007199254740992
  | 0 => hn
  | k + 1 => by
    have h1 := bndW_bd (a := a) (ws := ws) hn k
    have h2 := sumsMany_bd (sumsOf a) (sumsOf (ws.getD k default).need)
    simp only [bndW]
    omega
theorem bndA_bd {l : List (List Part)} {ws : List Want} (h : l.length ≤ 16 ∧ ws.length ≤ 32) : ∀ k, 0 ≤ bndA l ws k ∧ bndA l ws k ≤ 9007199254740992
  | 0 => by
    simp only [bndA]
    have h1 : (l.length : Int) * ws.length ≤ 16 * 32 := Int.mul_le_mul (by omega) (by omega) (by omega) (by omega)
    have h2 : (0 : Int) ≤ (l.length : Int) * ws.length := Int.mul_nonneg (by omega) (by omega)
    omega
  | k + 1 => by
    simp only [bndA]
    exact bndW_bd (bndA_bd h k) _
theorem fine_len {p : Prof} (h : fineR p = true) : p.ags.length ≤ 16 ∧ p.wants.length ≤ 32 := by
  unfold fineR at h
  simp only [Bool.and_eq_true, decide_eq_true_eq] at h
  omega
theorem x_Bound (p : Prof) (hp : ProfOk p) : XC Try.prog 179 [.agg (Prof.X Ar.real p)] [] (xi (boundR p)) [] := by
  have hf := x_fine p hp
  have hsa := fun k => x_sumsOf (p.ags.getD k default) (hp.a k)
  have hsw := fun k => x_sumsOf (p.wants.getD k default).need (hp.w k)
  have hlen := fine_len (p := p)
  unfold boundR
  generalize fineR p = F at *
  obtain ⟨l, ws, lo⟩ := p
  obtain ⟨hl, hws, hla, hwa⟩ := hp
  dsimp only at *
  obtain ⟨a0, b0, c0, d0⟩ := lo
  cases F with
  | false =>
    (refine XC.of_body ([(10, [(2, 3), (2, 4)])]) Try.func179 rfl Try.ntmps179 mixed (T := [(2, ti2), (3, ti3), (4, ti4), (31, ti31), (42, ti42), (52, ti52), (57, ti57), (75, ti75), (123, ti123), (132, ti132)]) (.cons tok2 (.cons tok3 (.cons tok4 (.cons tok31 (.cons tok42 (.cons tok52 (.cons tok57 (.cons tok75 (.cons tok123 (.cons tok132 .nil)))))))))) (by kernel_rfl) (by simp) rfl rfl rfl rfl rfl ?_; rintro o ho P hP c K hK; have hm : P.follows .mixedOrders = true := hP ▸ mixed; have hT : TOk P [(2, ti2), (3, ti3), (4, ti4), (31, ti31), (42, ti42), (52, ti52), (57, ti57), (75, ti75), (123, ti123), (132, ti132)] := hP ▸ (.cons tok2 (.cons tok3 (.cons tok4 (.cons tok31 (.cons tok42 (.cons tok52 (.cons tok57 (.cons tok75 (.cons tok123 (.cons tok132 .nil)))))))))); (try rw [← ho]); cbv; (repeat (refine StopN.mk ?_; cbv)))
    rw [← ho] at hf
    repeat' (first | (refine Br.mk (fun hb => ?_) (fun hb => ?_) <;> ((try rw [ho] at hb); (try dsimp only [Ar.real, IX.vo] at hb); (try simp only [QB5] at hb); (try simp only [QBo, beq_iff_eq, beq_eq_false_iff_ne, ne_eq] at hb))) | (refine StopN.mk ?_; cbv) | ((first | refine CallI.pure hP hf fn178 rfl rfl rfl ?_ | refine CallN.pure hP hf fn178 rfl rfl rfl ?_); cbv) | ((first | refine CallI.pure hP (x_sumsOf _ ‹_›) fn122 (by first | rfl | (rw [ho]; done) | (rw [ho]; rfl)) (by rfl) (by first | rfl | (rw [ho]; done) | (rw [ho]; rfl)) ?_ | refine CallN.pure hP (x_sumsOf _ ‹_›) fn122 (by first | rfl | (rw [ho]; done) | (rw [ho]; rfl)) (by rfl) (by first | rfl | (rw [ho]; done) | (rw [ho]; rfl)) ?_); (try rw [← ho]); generalize hr : sumsOf _ = r; (try rw [ho] at hr); (try dsimp only [Ar.real, IX.vo] at hr); (try simp only [QB5] at hr); cbv) | ((first | refine CallI.pure hP (x_fine _ ‹_›) fn178 (by first | rfl | (rw [ho]; done) | (rw [ho]; rfl)) (by rfl) (by first | rfl | (rw [ho]; done) | (rw [ho]; rfl)) ?_ | refine CallN.pure hP (x_fine _ ‹_›) fn178 (by first | rfl | (rw [ho]; done) | (rw [ho]; rfl)) (by rfl) (by first | rfl | (rw [ho]; done) | (rw [ho]; rfl)) ?_); (try rw [← ho]); generalize hr : fineR _ = r; (try rw [ho] at hr); (try dsimp only [Ar.real, IX.vo] at hr); (try simp only [QB5] at hr); cbv) | ((first | refine CallI.pure hP (x_sumsMany _ _) fn207 (by first | rfl | (rw [ho]; done) | (rw [ho]; rfl)) (by rfl) (by first | rfl | (rw [ho]; done) | (rw [ho]; rfl)) ?_ | refine CallN.pure hP (x_sumsMany _ _) fn207 (by first | rfl | (rw [ho]; done) | (rw [ho]; rfl)) (by rfl) (by first | rfl | (rw [ho]; done) | (rw [ho]; rfl)) ?_); (try rw [← ho]); generalize hr : sumsMany _ _ = r; (try rw [ho] at hr); (try dsimp only [Ar.real, IX.vo] at hr); (try simp only [QB5] at hr); cbv) | (refine hK _ _ ?_) | (refine NeedT.mk ?_ ?_))
    all_goals first
      | exact absurd ‹false = true› (by decide)
      | exact .i rfl
  | true =>
    have hlen := hlen rfl
    have hbd := bndA_bd hlen
    have hM0 : bndA l ws 0 = (l.length : Int) * ws.length := rfl
    have hM1 : ∀ i, bndA l ws (i + 1) = bndW (l.getD i default) ws (bndA l ws i) ws.length := fun _ => rfl
    rw [if_pos rfl]
    generalize bndA l ws = M at *
    have hbL : (l.length : Int) * ws.length ≤ 16 * 32 := Int.mul_le_mul (by omega) (by omega) (by omega) (by omega)
    have hbL0 : (0 : Int) ≤ (l.length : Int) * ws.length := Int.mul_nonneg (by omega) (by omega)
    (refine XC.of_body ([(10, [(2, 3), (2, 4)])]) Try.func179 rfl Try.ntmps179 mixed (T := [(2, ti2), (3, ti3), (4, ti4), (31, ti31), (42, ti42), (52, ti52), (57, ti57), (75, ti75), (123, ti123), (132, ti132)]) (.cons tok2 (.cons tok3 (.cons tok4 (.cons tok31 (.cons tok42 (.cons tok52 (.cons tok57 (.cons tok75 (.cons tok123 (.cons tok132 .nil)))))))))) (by kernel_rfl) (by simp) rfl rfl rfl rfl rfl ?_; rintro o ho P hP c K hK; have hm : P.follows .mixedOrders = true := hP ▸ mixed; have hT : TOk P [(2, ti2), (3, ti3), (4, ti4), (31, ti31), (42, ti42), (52, ti52), (57, ti57), (75, ti75), (123, ti123), (132, ti132)] := hP ▸ (.cons tok2 (.cons tok3 (.cons tok4 (.cons tok31 (.cons tok42 (.cons tok52 (.cons tok57 (.cons tok75 (.cons tok123 (.cons tok132 .nil)))))))))); (try rw [← ho]); cbv; (repeat (refine StopN.mk ?_; cbv)))
    rw [← ho] at hf
    repeat' (first | (refine Br.mk (fun hb => ?_) (fun hb => ?_) <;> ((try rw [ho] at hb); (try dsimp only [Ar.real, IX.vo] at hb); (try simp only [QB5] at hb); (try simp only [QBo, beq_iff_eq, beq_eq_false_iff_ne, ne_eq] at hb))) | (refine StopN.mk ?_; cbv) | ((first | refine CallI.pure hP hf fn178 rfl rfl rfl ?_ | refine CallN.pure hP hf fn178 rfl rfl rfl ?_); cbv) | ((first | refine CallI.pure hP (x_sumsOf _ ‹_›) fn122 (by first | rfl | (rw [ho]; done) | (rw [ho]; rfl)) (by rfl) (by first | rfl | (rw [ho]; done) | (rw [ho]; rfl)) ?_ | refine CallN.pure hP (x_sumsOf _ ‹_›) fn122 (by first | rfl | (rw [ho]; done) | (rw [ho]; rfl)) (by rfl) (by first | rfl | (rw [ho]; done) | (rw [ho]; rfl)) ?_); (try rw [← ho]); generalize hr : sumsOf _ = r; (try rw [ho] at hr); (try dsimp only [Ar.real, IX.vo] at hr); (try simp only [QB5] at hr); cbv) | ((first | refine CallI.pure hP (x_fine _ ‹_›) fn178 (by first | rfl | (rw [ho]; done) | (rw [ho]; rfl)) (by rfl) (by first | rfl | (rw [ho]; done) | (rw [ho]; rfl)) ?_ | refine CallN.pure hP (x_fine _ ‹_›) fn178 (by first | rfl | (rw [ho]; done) | (rw [ho]; rfl)) (by rfl) (by first | rfl | (rw [ho]; done) | (rw [ho]; rfl)) ?_); (try rw [← ho]); generalize hr : fineR _ = r; (try rw [ho] at hr); (try dsimp only [Ar.real, IX.vo] at hr); (try simp only [QB5] at hr); cbv) | ((first | refine CallI.pure hP (x_sumsMany _ _) fn207 (by first | rfl | (rw [ho]; done) | (rw [ho]; rfl)) (by rfl) (by first | rfl | (rw [ho]; done) | (rw [ho]; rfl)) ?_ | refine CallN.pure hP (x_sumsMany _ _) fn207 (by first | rfl | (rw [ho]; done) | (rw [ho]; rfl)) (by rfl) (by first | rfl | (rw [ho]; done) | (rw [ho]; rfl)) ?_); (try rw [← ho]); generalize hr : sumsMany _ _ = r; (try rw [ho] at hr); (try dsimp only [Ar.real, IX.vo] at hr); (try simp only [QB5] at hr); cbv) | (refine hK _ _ ?_) | (refine NeedT.mk ?_ ?_))
    · exact absurd ‹true = false› (by decide)
    refine LoopN.over (o := o) (D := [(10, [(2, 3), (2, 4)])]) ho hm hT (by kernel_rfl) (fun a : Nat => [(21, xn a), (3, xi (M a))]) (fun _ => []) (fun _ => []) (fun a => a ≤ l.length) (fun a => l.length - a) 0 (Nat.zero_le _) ?_ ?_
    · refine ⟨(by cbv), by cbv; repeat' (first | trivial | exact EqX.rfl' | exact EqO.rfl' | apply And.intro | ((try clear hR3); (try clear hR2); (try clear hR); (try clear hK); (try simp only [ncCast] at *); (try simp only [castI_eq] at *); refine EqX.i ?_; (try rw [ho]); (try dsimp only [Ar.real, IX.vo, IX.val, BX.val, IX.toN]); (try simp only [QB5]); (repeat rw [wrap_i64 (by omega) (by omega)]); omega) | (refine EqX.i ?_; rw [hM0]; (rw [ho]; (try dsimp only [Ar.real, IX.vo, IX.val]); (try simp only [castI_eq]); (repeat rw [wrap_i64 (by omega) (by omega)])); rfl)), by cbv; repeat' (first | trivial | exact EqO.rfl' | apply And.intro | (refine EqX.i ?_; rw [hM0]; (rw [ho]; (try dsimp only [Ar.real, IX.vo, IX.val]); (try simp only [castI_eq]); (repeat rw [wrap_i64 (by omega) (by omega)])); rfl)), by cbv; repeat' (first | trivial | exact EqO.rfl' | apply And.intro | (refine EqX.i ?_; rw [hM0]; (rw [ho]; (try dsimp only [Ar.real, IX.vo, IX.val]); (try simp only [castI_eq]); (repeat rw [wrap_i64 (by omega) (by omega)])); rfl))⟩
    · rintro i hi R hR
      have e1 := hM1 i
      have hb1 := hbd i
      have hN0 : bndW (l.getD i default) ws (M i) 0 = M i := rfl
      have hN1 : ∀ k, bndW (l.getD i default) ws (M i) (k + 1) = min 9007199254740992 (bndW (l.getD i default) ws (M i) k + sumsMany (sumsOf (l.getD i default)) (sumsOf (ws.getD k default).need)) := fun _ => rfl
      have hNb := bndW_bd (a := l.getD i default) (ws := ws) (n := M i) hb1
      generalize bndW (l.getD i default) ws (M i) = N at *
      have hs := hsa i
      have en : o.nth l i = l.getD i default := by rw [ho, real_nth]
      generalize sumsOf (l.getD i default) = sv at *
      rw [← en, ← ho] at hs
      cbv
      repeat' (first | (refine Br.mk (fun hb => ?_) (fun hb => ?_) <;> ((try rw [ho] at hb); (try dsimp only [Ar.real, IX.vo] at hb); (try simp only [QB5] at hb); (try simp only [QBo, beq_iff_eq, beq_eq_false_iff_ne, ne_eq] at hb))) | (refine StopN.mk ?_; cbv) | ((first | refine CallI.pure hP (x_sumsOf _ ‹_›) fn122 (by first | rfl | (rw [ho]; done) | (rw [ho]; rfl)) (by rfl) (by first | rfl | (rw [ho]; done) | (rw [ho]; rfl)) ?_ | refine CallN.pure hP (x_sumsOf _ ‹_›) fn122 (by first | rfl | (rw [ho]; done) | (rw [ho]; rfl)) (by rfl) (by first | rfl | (rw [ho]; done) | (rw [ho]; rfl)) ?_); (try rw [← ho]); generalize hr : sumsOf _ = r; (try rw [ho] at hr); (try dsimp only [Ar.real, IX.vo] at hr); (try simp only [QB5] at hr); cbv) | ((first | refine CallI.pure hP (x_fine _ ‹_›) fn178 (by first | rfl | (rw [ho]; done) | (rw [ho]; rfl)) (by rfl) (by first | rfl | (rw [ho]; done) | (rw [ho]; rfl)) ?_ | refine CallN.pure hP (x_fine _ ‹_›) fn178 (by first | rfl | (rw [ho]; done) | (rw [ho]; rfl)) (by rfl) (by first | rfl | (rw [ho]; done) | (rw [ho]; rfl)) ?_); (try rw [← ho]); generalize hr : fineR _ = r; (try rw [ho] at hr); (try dsimp only [Ar.real, IX.vo] at hr); (try simp only [QB5] at hr); cbv) | ((first | refine CallI.pure hP (x_sumsMany _ _) fn207 (by first | rfl | (rw [ho]; done) | (rw [ho]; rfl)) (by rfl) (by first | rfl | (rw [ho]; done) | (rw [ho]; rfl)) ?_ | refine CallN.pure hP (x_sumsMany _ _) fn207 (by first | rfl | (rw [ho]; done) | (rw [ho]; rfl)) (by rfl) (by first | rfl | (rw [ho]; done) | (rw [ho]; rfl)) ?_); (try rw [← ho]); generalize hr : sumsMany _ _ = r; (try rw [ho] at hr); (try dsimp only [Ar.real, IX.vo] at hr); (try simp only [QB5] at hr); cbv) | (refine hK _ _ ?_) | (refine NeedT.mk ?_ ?_))
      any_goals (((try clear hR3); (try clear hR2); (try clear hR); (try clear hK); (try simp only [ncCast] at *); (try simp only [castI_eq] at *); (try rw [ho]); (try dsimp only [Ar.real, IX.vo, IX.val, BX.val, IX.toN]); (try simp only [QB5]); (try simp only [decide_eq_true_eq]); (all_goals (repeat rw [wrap_i64 (by omega) (by omega)])); (all_goals (first | omega | (simp only [Int.ofNat_eq_natCast]; omega)))); done)
      · refine LoopN.over (o := o) (D := [(10, [(2, 3), (2, 4)])]) ho hm hT (by kernel_rfl) (fun a : Nat => [(28, xn a), (3, xi (N a))]) (fun _ => []) (fun _ => []) (fun a => a ≤ ws.length) (fun a => ws.length - a) 0 (Nat.zero_le _) ?_ ?_
        · refine ⟨(by cbv), by cbv; repeat' (first | trivial | exact EqX.rfl' | exact EqO.rfl' | apply And.intro | ((try clear hR3); (try clear hR2); (try clear hR); (try clear hK); (try simp only [ncCast] at *); (try simp only [castI_eq] at *); refine EqX.i ?_; (try rw [ho]); (try dsimp only [Ar.real, IX.vo, IX.val, BX.val, IX.toN]); (try simp only [QB5]); (repeat rw [wrap_i64 (by omega) (by omega)]); omega) | (refine EqX.i ?_; rw [hN0])), by cbv; repeat' (first | trivial | exact EqO.rfl' | apply And.intro | (refine EqX.i ?_; rw [hN0])), by cbv; repeat' (first | trivial | exact EqO.rfl' | apply And.intro | (refine EqX.i ?_; rw [hN0]))⟩
        · rintro k hk R' hR'
          have e3 := hN1 k
          have hb2 := hNb k
          have hs2 := hsw k
          have hm := x_sumsMany sv (sumsOf (ws.getD k default).need)
          have hm2 := sumsMany_bd sv (sumsOf (ws.getD k default).need)
          have en2 : o.nth ws k = ws.getD k default := by rw [ho, real_nth]
          generalize sumsOf (ws.getD k default).need = tv at *
          generalize sumsMany sv tv = q at *
          rw [← en2, ← ho] at hs2
          rw [← ho] at hm
          cbv
          repeat' (first | (refine Br.mk (fun hb => ?_) (fun hb => ?_) <;> ((try rw [ho] at hb); (try dsimp only [Ar.real, IX.vo] at hb); (try simp only [QB5] at hb); (try simp only [QBo, beq_iff_eq, beq_eq_false_iff_ne, ne_eq] at hb))) | (refine StopN.mk ?_; cbv) | ((first | refine CallN.pure hP hs fn122 rfl rfl rfl ?_ | refine CallN.pure hP hs2 fn122 rfl rfl rfl ?_ | refine CallN.pure hP hm fn207 rfl rfl rfl ?_); cbv) | ((first | refine CallI.pure hP (x_sumsOf _ ‹_›) fn122 (by first | rfl | (rw [ho]; done) | (rw [ho]; rfl)) (by rfl) (by first | rfl | (rw [ho]; done) | (rw [ho]; rfl)) ?_ | refine CallN.pure hP (x_sumsOf _ ‹_›) fn122 (by first | rfl | (rw [ho]; done) | (rw [ho]; rfl)) (by rfl) (by first | rfl | (rw [ho]; done) | (rw [ho]; rfl)) ?_); (try rw [← ho]); generalize hr : sumsOf _ = r; (try rw [ho] at hr); (try dsimp only [Ar.real, IX.vo] at hr); (try simp only [QB5] at hr); cbv) | ((first | refine CallI.pure hP (x_fine _ ‹_›) fn178 (by first | rfl | (rw [ho]; done) | (rw [ho]; rfl)) (by rfl) (by first | rfl | (rw [ho]; done) | (rw [ho]; rfl)) ?_ | refine CallN.pure hP (x_fine _ ‹_›) fn178 (by first | rfl | (rw [ho]; done) | (rw [ho]; rfl)) (by rfl) (by first | rfl | (rw [ho]; done) | (rw [ho]; rfl)) ?_); (try rw [← ho]); generalize hr : fineR _ = r; (try rw [ho] at hr); (try dsimp only [Ar.real, IX.vo] at hr); (try simp only [QB5] at hr); cbv) | ((first | refine CallI.pure hP (x_sumsMany _ _) fn207 (by first | rfl | (rw [ho]; done) | (rw [ho]; rfl)) (by rfl) (by first | rfl | (rw [ho]; done) | (rw [ho]; rfl)) ?_ | refine CallN.pure hP (x_sumsMany _ _) fn207 (by first | rfl | (rw [ho]; done) | (rw [ho]; rfl)) (by rfl) (by first | rfl | (rw [ho]; done) | (rw [ho]; rfl)) ?_); (try rw [← ho]); generalize hr : sumsMany _ _ = r; (try rw [ho] at hr); (try dsimp only [Ar.real, IX.vo] at hr); (try simp only [QB5] at hr); cbv) | (refine hK _ _ ?_) | (refine NeedT.mk ?_ ?_))
          any_goals (((try clear hR3); (try clear hR2); (try clear hR); (try clear hK); (try simp only [ncCast] at *); (try simp only [castI_eq] at *); (try rw [ho]); (try dsimp only [Ar.real, IX.vo, IX.val, BX.val, IX.toN]); (try simp only [QB5]); (try simp only [decide_eq_true_eq]); (all_goals (repeat rw [wrap_i64 (by omega) (by omega)])); (all_goals (first | omega | (simp only [Int.ofNat_eq_natCast]; omega)))); done)
          · refine hR' _ (k + 1) (by show ws.length - (k + 1) < ws.length - k; ((try clear hR3); (try clear hR2); (try clear hR); (try clear hK); (try simp only [ncCast] at *); (try simp only [castI_eq] at *)); omega) (by show k + 1 ≤ ws.length; ((try clear hR3); (try clear hR2); (try clear hR); (try clear hK); (try simp only [ncCast] at *); (try simp only [castI_eq] at *)); omega) ?_
            refine ⟨(by cbv), by cbv; repeat' (first | trivial | exact EqX.rfl' | exact EqO.rfl' | apply And.intro | ((try clear hR3); (try clear hR2); (try clear hR); (try clear hK); (try simp only [ncCast] at *); (try simp only [castI_eq] at *); refine EqX.i ?_; (try rw [ho]); (try dsimp only [Ar.real, IX.vo, IX.val, BX.val, IX.toN]); (try simp only [QB5]); (repeat rw [wrap_i64 (by omega) (by omega)]); omega)), by cbv; repeat' (first | trivial | exact EqO.rfl' | apply And.intro), by cbv; repeat' (first | trivial | exact EqO.rfl' | apply And.intro)⟩
          · obtain rfl : k = ws.length := by ((try clear hR3); (try clear hR2); (try clear hR); (try clear hK); (try simp only [ncCast] at *); (try simp only [castI_eq] at *)); omega
            refine hR _ (i + 1) (by show l.length - (i + 1) < l.length - i; ((try clear hR3); (try clear hR2); (try clear hR); (try clear hK); (try simp only [ncCast] at *); (try simp only [castI_eq] at *)); omega) (by show i + 1 ≤ l.length; ((try clear hR3); (try clear hR2); (try clear hR); (try clear hK); (try simp only [ncCast] at *); (try simp only [castI_eq] at *)); omega) ?_
            refine ⟨(by cbv), by cbv; repeat' (first | trivial | exact EqX.rfl' | exact EqO.rfl' | apply And.intro | ((try clear hR3); (try clear hR2); (try clear hR); (try clear hK); (try simp only [ncCast] at *); (try simp only [castI_eq] at *); refine EqX.i ?_; (try rw [ho]); (try dsimp only [Ar.real, IX.vo, IX.val, BX.val, IX.toN]); (try simp only [QB5]); (repeat rw [wrap_i64 (by omega) (by omega)]); omega) | (refine EqX.i ?_; rw [e1])), by cbv; repeat' (first | trivial | exact EqO.rfl' | apply And.intro | (refine EqX.i ?_; rw [e1])), by cbv; repeat' (first | trivial | exact EqO.rfl' | apply And.intro | (refine EqX.i ?_; rw [e1]))⟩
      · obtain rfl : i = l.length := by ((try clear hR3); (try clear hR2); (try clear hR); (try clear hK); (try simp only [ncCast] at *); (try simp only [castI_eq] at *)); omega
        exact .i rfl
def checkR (p : Prof) : Int := if fineR p = true then (if 4096 < boundR p then 32 else 0) else 41
theorem x_Check (p : Prof) (hp : ProfOk p) : XC Try.prog 121 [.agg (Prof.X Ar.real p)] [] (xi (checkR p)) [] := by
  have hf := x_fine p hp
  have hb' := x_Bound p hp
  unfold checkR
  generalize fineR p = F at *
  generalize boundR p = B at *
  obtain ⟨l, ws, lo⟩ := p
  obtain ⟨a0, b0, c0, d0⟩ := lo
  (refine XC.of_body ([]) Try.func121 rfl Try.ntmps121 mixed (T := [(2, ti2), (4, ti4), (42, ti42), (52, ti52), (57, ti57), (75, ti75)]) (.cons tok2 (.cons tok4 (.cons tok42 (.cons tok52 (.cons tok57 (.cons tok75 .nil)))))) (by kernel_rfl) (by simp) rfl rfl rfl rfl rfl ?_; rintro o ho P hP c K hK; have hm : P.follows .mixedOrders = true := hP ▸ mixed; have hT : TOk P [(2, ti2), (4, ti4), (42, ti42), (52, ti52), (57, ti57), (75, ti75)] := hP ▸ (.cons tok2 (.cons tok4 (.cons tok42 (.cons tok52 (.cons tok57 (.cons tok75 .nil)))))); (try rw [← ho]); cbv; (repeat (refine StopN.mk ?_; cbv)))
  rw [← ho] at hf hb'
  repeat' (first | (refine Br.mk (fun hb => ?_) (fun hb => ?_) <;> ((try rw [ho] at hb); (try dsimp only [Ar.real, IX.vo] at hb); (try simp only [QB5] at hb); (try simp only [QBo, beq_iff_eq, beq_eq_false_iff_ne, ne_eq] at hb))) | (refine StopN.mk ?_; cbv) | ((first | refine CallI.pure hP hf fn178 rfl rfl rfl ?_ | refine CallI.pure hP hb' fn179 rfl rfl rfl ?_); cbv) | ((first | refine CallI.pure hP (x_fine _ ‹_›) fn178 (by first | rfl | (rw [ho]; done) | (rw [ho]; rfl)) (by rfl) (by first | rfl | (rw [ho]; done) | (rw [ho]; rfl)) ?_ | refine CallN.pure hP (x_fine _ ‹_›) fn178 (by first | rfl | (rw [ho]; done) | (rw [ho]; rfl)) (by rfl) (by first | rfl | (rw [ho]; done) | (rw [ho]; rfl)) ?_); (try rw [← ho]); generalize hr : fineR _ = r; (try rw [ho] at hr); (try dsimp only [Ar.real, IX.vo] at hr); (try simp only [QB5] at hr); cbv) | ((first | refine CallI.pure hP (x_Bound _ ‹_›) fn179 (by first | rfl | (rw [ho]; done) | (rw [ho]; rfl)) (by rfl) (by first | rfl | (rw [ho]; done) | (rw [ho]; rfl)) ?_ | refine CallN.pure hP (x_Bound _ ‹_›) fn179 (by first | rfl | (rw [ho]; done) | (rw [ho]; rfl)) (by rfl) (by first | rfl | (rw [ho]; done) | (rw [ho]; rfl)) ?_); (try rw [← ho]); generalize hr : boundR _ = r; (try rw [ho] at hr); (try dsimp only [Ar.real, IX.vo] at hr); (try simp only [QB5] at hr); cbv) | (refine hK _ _ ?_) | (refine NeedT.mk ?_ ?_))
  all_goals
    refine .i ?_
    ((try clear hR3); (try clear hR2); (try clear hR); (try clear hK); (try simp only [ncCast] at *); (try simp only [castI_eq] at *))
    first
      | (rw [if_neg (by simp_all)]; rfl)
      | (rw [if_pos (by assumption), if_pos (by omega)]; rfl)
      | (rw [if_pos (by assumption), if_neg (by omega)]; rfl)
end Go.Proofs.Ytddgcegimmcbgaa.Sy
namespace Go.Proofs.Ytddgcegimmcbgaa.Sy
open Go Go.Sy Go.Proofs.Ytddgcegimmcbgaa
structure Shr where
  num : Int
  den : Int
  weight : Int
  deriving DecidableEq
instance : Inhabited Shr := ⟨⟨0, 0, 0⟩⟩
def foldAShr_num (e : Shr) := (by
  have h : PLift (e.num = e.num) := ⟨rfl⟩
  conv at h => arg 1; lhs; delta Shr.num
  exact h)
theorem foldShr_num (e : Shr) : type_of% (foldAShr_num e).down := (foldAShr_num e).down
def foldAShr_den (e : Shr) := (by
  have h : PLift (e.den = e.den) := ⟨rfl⟩
  conv at h => arg 1; lhs; delta Shr.den
  exact h)
theorem foldShr_den (e : Shr) : type_of% (foldAShr_den e).down := (foldAShr_den e).down
def foldAShr_weight (e : Shr) := (by
  have h : PLift (e.weight = e.weight) := ⟨rfl⟩
  conv at h => arg 1; lhs; delta Shr.weight
  exact h)
theorem foldShr_weight (e : Shr) : type_of% (foldAShr_weight e).down := (foldAShr_weight e).down
theorem foldShr : (⟨0, 0, 0⟩ : Shr) = default := rfl
theorem QB7 : type_of% (And.intro @foldShr (And.intro @foldShr_num (And.intro @foldShr_den (And.intro @foldShr_weight (QB5))))) := And.intro @foldShr (And.intro @foldShr_num (And.intro @foldShr_den (And.intro @foldShr_weight (QB5))))
def Shr.X (_ : Ar) (s : Shr) : List X := [xi s.num, xi s.den, xi s.weight]
end Go.Proofs.Ytddgcegimmcbgaa.Sy
namespace Go.Proofs.Ytddgcegimmcbgaa.Sy
open Go Go.Sy Go.Proofs.Ytddgcegimmcbgaa
structure StE where
  n : Nat
  i : Int
end Go.Proofs.Ytddgcegimmcbgaa.Sy
namespace Go.Proofs.Ytddgcegimmcbgaa.Sy
open Go Go.Sy Go.Proofs.Ytddgcegimmcbgaa
end Go.Proofs.Ytddgcegimmcbgaa.Sy
namespace Go.Proofs.Ytddgcegimmcbgaa.Sy
open Go Go.Sy Go.Proofs.Ytddgcegimmcbgaa
theorem x_r04Right (k r : Int) : XC Try.prog 149 [.agg [xi k, xi r]] [] (xb (slotRight k r)) [] := by
  (refine XC.of_body ([]) Try.func149 rfl Try.ntmps149 mixed (T := [(3, ti3), (209, ti209)]) (.cons tok3 (.cons tok209 .nil)) (by kernel_rfl) (by simp) rfl rfl rfl rfl rfl ?_; rintro o ho P hP c K hK; have hm : P.follows .mixedOrders = true := hP ▸ mixed; have hT : TOk P [(3, ti3), (209, ti209)] := hP ▸ (.cons tok3 (.cons tok209 .nil)); (try rw [← ho]); cbv; (repeat (refine StopN.mk ?_; cbv)))
  repeat' (first | (refine Br.mk (fun hb => ?_) (fun hb => ?_) <;> ((try rw [ho] at hb); (try dsimp only [Ar.real, IX.vo] at hb); (try simp only [QB7] at hb); (try simp only [QBo, beq_iff_eq, beq_eq_false_iff_ne, ne_eq] at hb))) | (refine StopN.mk ?_; cbv) | (refine hK _ _ ?_) | (refine NeedT.mk ?_ ?_))
  all_goals (refine .b ?_; ((try clear hR3); (try clear hR2); (try clear hR); (try clear hK); (try simp only [ncCast] at *); (try simp only [castI_eq] at *); (try rw [ho]); (try dsimp only [Ar.real, IX.vo, IX.val, BX.val, IX.toN]); (try simp only [QB7])); simp [slotRight, *])
  all_goals omega
theorem x_r04Cmp (a b c d : Int) : XC Try.prog 150 [.agg [xi a, xi b], .agg [xi c, xi d]] [] (xi (slotCmp a b c d)) [] := by
  (refine XC.of_body ([]) Try.func150 rfl Try.ntmps150 mixed (T := [(3, ti3), (209, ti209)]) (.cons tok3 (.cons tok209 .nil)) (by kernel_rfl) (by simp) rfl rfl rfl rfl rfl ?_; rintro o ho P hP c K hK; have hm : P.follows .mixedOrders = true := hP ▸ mixed; have hT : TOk P [(3, ti3), (209, ti209)] := hP ▸ (.cons tok3 (.cons tok209 .nil)); (try rw [← ho]); cbv; (repeat (refine StopN.mk ?_; cbv)))
  repeat' (first | (refine Br.mk (fun hb => ?_) (fun hb => ?_) <;> ((try rw [ho] at hb); (try dsimp only [Ar.real, IX.vo] at hb); (try simp only [QB7] at hb); (try simp only [QBo, beq_iff_eq, beq_eq_false_iff_ne, ne_eq] at hb))) | (refine StopN.mk ?_; cbv) | (refine hK _ _ ?_) | (refine NeedT.mk ?_ ?_))
  all_goals
    refine .i ?_
    ((try clear hR3); (try clear hR2); (try clear hR); (try clear hK); (try simp only [ncCast] at *); (try simp only [castI_eq] at *); (try rw [ho]); (try dsimp only [Ar.real, IX.vo, IX.val, BX.val, IX.toN]); (try simp only [QB7]))
    (try simp only [Bool.and_eq_true, Bool.and_eq_false_iff, decide_eq_true_eq, decide_eq_false_iff_not] at *)
    unfold slotCmp
    repeat' split
    all_goals omega
theorem x_r05slot (k r a : Int) : XC Try.prog 133 [.agg [xi k, xi r, xi a]] [] (.agg [xi k, xi r]) [] := by
  (refine XC.of_body ([]) Try.func133 rfl Try.ntmps133 mixed (T := [(2, ti2), (3, ti3), (123, ti123), (209, ti209)]) (.cons tok2 (.cons tok3 (.cons tok123 (.cons tok209 .nil)))) (by kernel_rfl) (by simp) rfl rfl rfl rfl rfl ?_; rintro o ho P hP c K hK; have hm : P.follows .mixedOrders = true := hP ▸ mixed; have hT : TOk P [(2, ti2), (3, ti3), (123, ti123), (209, ti209)] := hP ▸ (.cons tok2 (.cons tok3 (.cons tok123 (.cons tok209 .nil)))); (try rw [← ho]); cbv; (repeat (refine StopN.mk ?_; cbv)))
  repeat' (first | (refine Br.mk (fun hb => ?_) (fun hb => ?_) <;> ((try rw [ho] at hb); (try dsimp only [Ar.real, IX.vo] at hb); (try simp only [QB7] at hb); (try simp only [QBo, beq_iff_eq, beq_eq_false_iff_ne, ne_eq] at hb))) | (refine StopN.mk ?_; cbv) | (refine hK _ _ ?_) | (refine NeedT.mk ?_ ?_))
  all_goals exact .pure fun _ => rfl
theorem x_r05Right (v : List Part) (hv : v.length ≤ 1048576) : XC Try.prog 96 [.ro (SL Ar.real Part.X v)] [] (xb (vecRight v)) [] := by
  (refine XC.of_body ([(4, [(32, 35), (32, 36)])]) Try.func96 rfl Try.ntmps96 mixed (T := [(2, ti2), (3, ti3), (4, ti4), (31, ti31), (123, ti123)]) (.cons tok2 (.cons tok3 (.cons tok4 (.cons tok31 (.cons tok123 .nil))))) (by kernel_rfl) (by simp) rfl rfl rfl rfl rfl ?_; rintro o ho P hP c K hK; have hm : P.follows .mixedOrders = true := hP ▸ mixed; have hT : TOk P [(2, ti2), (3, ti3), (4, ti4), (31, ti31), (123, ti123)] := hP ▸ (.cons tok2 (.cons tok3 (.cons tok4 (.cons tok31 (.cons tok123 .nil))))); (try rw [← ho]); cbv; (repeat (refine StopN.mk ?_; cbv)))
  refine LoopN.over (o := o) (D := [(4, [(32, 35), (32, 36)])]) ho hm hT (by kernel_rfl) (fun i : Nat => [(3, xn i)]) (fun _ => []) (fun _ => []) (fun i => i ≤ v.length ∧ ∀ j, j < i → badAt v j = false) (fun i => v.length - i) 0 ⟨Nat.zero_le _, fun j hj => by omega⟩ ?_ ?_
  · refine ⟨(by cbv), by cbv; repeat' (first | trivial | exact EqX.rfl' | exact EqO.rfl' | apply And.intro | ((try clear hR3); (try clear hR2); (try clear hR); (try clear hK); (try simp only [ncCast] at *); (try simp only [castI_eq] at *); refine EqX.i ?_; (try rw [ho]); (try dsimp only [Ar.real, IX.vo, IX.val, BX.val, IX.toN]); (try simp only [QB7]); (repeat rw [wrap_i64 (by omega) (by omega)]); omega)), by cbv; repeat' (first | trivial | exact EqO.rfl' | apply And.intro), by cbv; repeat' (first | trivial | exact EqO.rfl' | apply And.intro)⟩
  · rintro i ⟨hi, hno⟩ R hR
    cbv
    repeat' (first | (refine Br.mk (fun hb => ?_) (fun hb => ?_) <;> ((try rw [ho] at hb); (try dsimp only [Ar.real, IX.vo] at hb); (try simp only [QB7] at hb); (try simp only [QBo, beq_iff_eq, beq_eq_false_iff_ne, ne_eq] at hb))) | (refine StopN.mk ?_; cbv) | ((first | refine CallI.pure hP (x_r05slot _ _ _) fn133 (by first | rfl | (rw [ho]; done) | (rw [ho]; rfl)) (by rfl) (by first | rfl | (rw [ho]; done) | (rw [ho]; rfl)) ?_ | refine CallN.pure hP (x_r05slot _ _ _) fn133 (by first | rfl | (rw [ho]; done) | (rw [ho]; rfl)) (by rfl) (by first | rfl | (rw [ho]; done) | (rw [ho]; rfl)) ?_); (try rw [← ho]); cbv) | ((first | refine CallI.pure hP (x_r04Right _ _) fn149 (by first | rfl | (rw [ho]; done) | (rw [ho]; rfl)) (by rfl) (by first | rfl | (rw [ho]; done) | (rw [ho]; rfl)) ?_ | refine CallN.pure hP (x_r04Right _ _) fn149 (by first | rfl | (rw [ho]; done) | (rw [ho]; rfl)) (by rfl) (by first | rfl | (rw [ho]; done) | (rw [ho]; rfl)) ?_); (try rw [← ho]); generalize hr : slotRight _ _ = r; (try rw [ho] at hr); (try dsimp only [Ar.real, IX.vo] at hr); (try simp only [QB7] at hr); cbv) | ((first | refine CallI.pure hP (x_r04Cmp _ _ _ _) fn150 (by first | rfl | (rw [ho]; done) | (rw [ho]; rfl)) (by rfl) (by first | rfl | (rw [ho]; done) | (rw [ho]; rfl)) ?_ | refine CallN.pure hP (x_r04Cmp _ _ _ _) fn150 (by first | rfl | (rw [ho]; done) | (rw [ho]; rfl)) (by rfl) (by first | rfl | (rw [ho]; done) | (rw [ho]; rfl)) ?_); (try rw [← ho]); generalize hr : slotCmp _ _ _ _ = r; (try rw [ho] at hr); (try dsimp only [Ar.real, IX.vo] at hr); (try simp only [QB7] at hr); cbv) | (refine hK _ _ ?_) | (refine NeedT.mk ?_ ?_))
    all_goals first
      | ((try clear hR3); (try clear hR2); (try clear hR); (try clear hK); (try simp only [ncCast] at *); (try simp only [castI_eq] at *); (try rw [ho]); (try dsimp only [Ar.real, IX.vo, IX.val, BX.val, IX.toN]); (try simp only [QB7]); (try simp only [decide_eq_true_eq]); (all_goals (repeat rw [wrap_i64 (by omega) (by omega)])); (all_goals (first | omega | (simp only [Int.ofNat_eq_natCast]; omega))))
      | (have hlt : i < v.length := by omega
         refine .b ?_
         ((try clear hR3); (try clear hR2); (try clear hR); (try clear hK); (try simp only [ncCast] at *); (try simp only [castI_eq] at *); (try rw [ho]); (try dsimp only [Ar.real, IX.vo, IX.val, BX.val, IX.toN]); (try simp only [QB7]))
         rw [vecRight, nextAt_some (k := i) (Nat.zero_le _) hlt (by ((try clear hR3); (try clear hR2); (try clear hR); (try clear hK); (try simp only [ncCast] at *); (try simp only [castI_eq] at *)); (try rw [wrap_i64 (by omega) (by omega), show ((i : Int) - 1).toNat = i - 1 by omega] at hr); simp only [badAt, amountRight]; clear hno; first | (simp_all; done) | (simp_all; omega)) (fun j _ h => hno j h)]
         rfl)
      | (refine .b ?_; ((try clear hR3); (try clear hR2); (try clear hR); (try clear hK); (try simp only [ncCast] at *); (try simp only [castI_eq] at *); (try rw [ho]); (try dsimp only [Ar.real, IX.vo, IX.val, BX.val, IX.toN]); (try simp only [QB7])); rw [vecRight, nextAt_none (fun j _ h => hno j (by omega))]; rfl)
      | (refine hR _ (i + 1) (by omega) ⟨by omega, fun j h1 => ?_⟩ ?_
         · rcases Nat.lt_or_ge j i with h3 | h3
           · exact hno j h3
           · obtain rfl : j = i := by omega
             ((try clear hR3); (try clear hR2); (try clear hR); (try clear hK); (try simp only [ncCast] at *); (try simp only [castI_eq] at *))
             (try rw [wrap_i64 (by omega) (by omega), show ((j : Int) - 1).toNat = j - 1 by omega] at hr)
             simp only [badAt, amountRight]
             clear hno
             first | (simp_all; done) | (simp_all; omega)
         · refine ⟨(by cbv), by cbv; repeat' (first | trivial | exact EqX.rfl' | exact EqO.rfl' | apply And.intro | ((try clear hR3); (try clear hR2); (try clear hR); (try clear hK); (try simp only [ncCast] at *); (try simp only [castI_eq] at *); refine EqX.i ?_; (try rw [ho]); (try dsimp only [Ar.real, IX.vo, IX.val, BX.val, IX.toN]); (try simp only [QB7]); (repeat rw [wrap_i64 (by omega) (by omega)]); omega)), by cbv; repeat' (first | trivial | exact EqO.rfl' | apply And.intro), by cbv; repeat' (first | trivial | exact EqO.rfl' | apply And.intro)⟩)
def getAt (v : List Part) (k r : Int) (i : Nat) : Bool := decide ((v.getD i default).kind = k) && decide ((v.getD i default).role = r)
def getR (v : List Part) (k r : Int) : Int := match nextAt (getAt v k r) 0 v.length with | some i => (v.getD i default).amount | none => 0
theorem x_r05Get (v : List Part) (k r : Int) (hv : v.length ≤ 1048576) : XC Try.prog 132 [.ro (SL Ar.real Part.X v), .agg [xi k, xi r]] [] (xi (getR v k r)) [] := by
  have h1 : ∀ i, i < v.length → (∀ j, j < i → getAt v k r j = false) → getAt v k r i = true → getR v k r = (v.getD i default).amount := fun i hi hlt h => by
    unfold getR
    rw [nextAt_some (Nat.zero_le _) hi h (fun j _ hj => hlt j hj)]
  have h2 : (∀ j, j < v.length → getAt v k r j = false) → getR v k r = 0 := fun hlt => by
    unfold getR
    rw [nextAt_none (fun j _ hj => hlt j hj)]
  have h3 : ∀ i, getAt v k r i = (decide ((v.getD i default).kind = k) && decide ((v.getD i default).role = r)) := fun _ => rfl
  generalize getR v k r = g at *
  generalize getAt v k r = G at *
  (refine XC.of_body ([(4, [(4, 5)])]) Try.func132 rfl Try.ntmps132 mixed (T := [(2, ti2), (3, ti3), (31, ti31), (123, ti123), (209, ti209)]) (.cons tok2 (.cons tok3 (.cons tok31 (.cons tok123 (.cons tok209 .nil))))) (by kernel_rfl) (by simp) rfl rfl rfl rfl rfl ?_; rintro o ho P hP c K hK; have hm : P.follows .mixedOrders = true := hP ▸ mixed; have hT : TOk P [(2, ti2), (3, ti3), (31, ti31), (123, ti123), (209, ti209)] := hP ▸ (.cons tok2 (.cons tok3 (.cons tok31 (.cons tok123 (.cons tok209 .nil))))); (try rw [← ho]); cbv; (repeat (refine StopN.mk ?_; cbv)))
  refine LoopN.over (o := o) (D := [(4, [(4, 5)])]) ho hm hT (by kernel_rfl) (fun i : Nat => [(5, xn i)]) (fun _ => []) (fun _ => []) (fun i => i ≤ v.length ∧ ∀ j, j < i → G j = false) (fun i => v.length - i) 0 ⟨Nat.zero_le _, fun j hj => by omega⟩ ?_ ?_
  · refine ⟨(by cbv), by cbv; repeat' (first | trivial | exact EqX.rfl' | exact EqO.rfl' | apply And.intro | ((try clear hR3); (try clear hR2); (try clear hR); (try clear hK); (try simp only [ncCast] at *); (try simp only [castI_eq] at *); refine EqX.i ?_; (try rw [ho]); (try dsimp only [Ar.real, IX.vo, IX.val, BX.val, IX.toN]); (try simp only [QB7]); (repeat rw [wrap_i64 (by omega) (by omega)]); omega)), by cbv; repeat' (first | trivial | exact EqO.rfl' | apply And.intro), by cbv; repeat' (first | trivial | exact EqO.rfl' | apply And.intro)⟩
  · rintro i ⟨hi, hno⟩ R hR
    have e1 := h1 i
    have e3 := h3 i
    cbv
    repeat' (first | (refine Br.mk (fun hb => ?_) (fun hb => ?_) <;> ((try rw [ho] at hb); (try dsimp only [Ar.real, IX.vo] at hb); (try simp only [QB7] at hb); (try simp only [QBo, beq_iff_eq, beq_eq_false_iff_ne, ne_eq] at hb))) | (refine StopN.mk ?_; cbv) | ((first | refine CallI.pure hP (x_r05slot _ _ _) fn133 (by first | rfl | (rw [ho]; done) | (rw [ho]; rfl)) (by rfl) (by first | rfl | (rw [ho]; done) | (rw [ho]; rfl)) ?_ | refine CallN.pure hP (x_r05slot _ _ _) fn133 (by first | rfl | (rw [ho]; done) | (rw [ho]; rfl)) (by rfl) (by first | rfl | (rw [ho]; done) | (rw [ho]; rfl)) ?_); (try rw [← ho]); cbv) | (refine hK _ _ ?_) | (refine NeedT.mk ?_ ?_))
    any_goals (((try clear hR3); (try clear hR2); (try clear hR); (try clear hK); (try simp only [ncCast] at *); (try simp only [castI_eq] at *); (try rw [ho]); (try dsimp only [Ar.real, IX.vo, IX.val, BX.val, IX.toN]); (try simp only [QB7]); (try simp only [decide_eq_true_eq]); (all_goals (repeat rw [wrap_i64 (by omega) (by omega)])); (all_goals (first | omega | (simp only [Int.ofNat_eq_natCast]; omega)))); done)
    · rw [e1 (by assumption) hno (e3.trans hb)]
      refine .i ?_
      ((try clear hR3); (try clear hR2); (try clear hR); (try clear hK); (try simp only [ncCast] at *); (try simp only [castI_eq] at *); (try rw [ho]); (try dsimp only [Ar.real, IX.vo, IX.val, BX.val, IX.toN]); (try simp only [QB7]))
    · refine hR _ (i + 1) (by show v.length - (i + 1) < v.length - i; ((try clear hR3); (try clear hR2); (try clear hR); (try clear hK); (try simp only [ncCast] at *); (try simp only [castI_eq] at *)); omega) ⟨by show i + 1 ≤ v.length; ((try clear hR3); (try clear hR2); (try clear hR); (try clear hK); (try simp only [ncCast] at *); (try simp only [castI_eq] at *)); omega, fun k' hk => ?_⟩ ?_
      · rcases Nat.lt_or_ge k' i with h5 | h5
        · exact hno k' h5
        · obtain rfl : k' = i := by
            have hk' : k' < i + 1 := hk
            clear hk
            ((try clear hR3); (try clear hR2); (try clear hR); (try clear hK); (try simp only [ncCast] at *); (try simp only [castI_eq] at *))
            omega
          exact e3.trans (by assumption)
      · refine ⟨(by cbv), by cbv; repeat' (first | trivial | exact EqX.rfl' | exact EqO.rfl' | apply And.intro | ((try clear hR3); (try clear hR2); (try clear hR); (try clear hK); (try simp only [ncCast] at *); (try simp only [castI_eq] at *); refine EqX.i ?_; (try rw [ho]); (try dsimp only [Ar.real, IX.vo, IX.val, BX.val, IX.toN]); (try simp only [QB7]); (repeat rw [wrap_i64 (by omega) (by omega)]); omega)), by cbv; repeat' (first | trivial | exact EqO.rfl' | apply And.intro), by cbv; repeat' (first | trivial | exact EqO.rfl' | apply And.intro)⟩
    · obtain rfl : i = v.length := by ((try clear hR3); (try clear hR2); (try clear hR); (try clear hK); (try simp only [ncCast] at *); (try simp only [castI_eq] at *)); omega
      rw [h2 hno]
      exact .i rfl
end Go.Proofs.Ytddgcegimmcbgaa.Sy
namespace Go.Proofs.Ytddgcegimmcbgaa.Sy
open Go Go.Sy Go.Proofs.Ytddgcegimmcbgaa
def lessAt (a b : List Part) (i : Nat) : Bool := decide (getR a (b.getD i default).kind (b.getD i default).role < (b.getD i default).amount)
def rHolds (a b : List Part) : Bool := (nextAt (lessAt a b) 0 b.length).isNone && (vecRight a && vecRight b)
theorem x_r05Holds (a b : List Part) (ha : a.length ≤ 1048576) (hb' : b.length ≤ 1048576) : XC Try.prog 72 [.ro (SL Ar.real Part.X a), .ro (SL Ar.real Part.X b)] [] (xb (rHolds a b)) [] := by
  have hxa := x_r05Right a ha
  have hxb := x_r05Right b hb'
  have hG := fun i => x_r05Get a (b.getD i default).kind (b.getD i default).role ha
  have h1 : ∀ i, i < b.length → (∀ j, j < i → lessAt a b j = false) → lessAt a b i = true → rHolds a b = false := fun i hi hlt h => by
    unfold rHolds
    rw [nextAt_some (Nat.zero_le _) hi h (fun j _ hj => hlt j hj)]
    rfl
  have h2 : (∀ j, j < b.length → lessAt a b j = false) → rHolds a b = (vecRight a && vecRight b) := fun hlt => by
    unfold rHolds
    rw [nextAt_none (fun j _ hj => hlt j hj)]
    rfl
  have h3 : ∀ i, lessAt a b i = decide (getR a (b.getD i default).kind (b.getD i default).role < (b.getD i default).amount) := fun _ => rfl
  generalize rHolds a b = g at *
  generalize lessAt a b = G at *
  generalize vecRight a = ra at *
  generalize vecRight b = rb at *
  (refine XC.of_body ([(4, [(5, 9), (6, 9), (5, 10), (6, 10), (5, 11), (6, 11)])]) Try.func72 rfl Try.ntmps72 mixed (T := [(2, ti2), (3, ti3), (31, ti31), (123, ti123)]) (.cons tok2 (.cons tok3 (.cons tok31 (.cons tok123 .nil)))) (by kernel_rfl) (by simp) rfl rfl rfl rfl rfl ?_; rintro o ho P hP c K hK; have hm : P.follows .mixedOrders = true := hP ▸ mixed; have hT : TOk P [(2, ti2), (3, ti3), (31, ti31), (123, ti123)] := hP ▸ (.cons tok2 (.cons tok3 (.cons tok31 (.cons tok123 .nil)))); (try rw [← ho]); cbv; (repeat (refine StopN.mk ?_; cbv)))
  rw [← ho] at hxa hxb
  refine LoopN.over (o := o) (D := [(4, [(5, 9), (6, 9), (5, 10), (6, 10), (5, 11), (6, 11)])]) ho hm hT (by kernel_rfl) (fun i : Nat => [(5, xn i)]) (fun _ => []) (fun _ => []) (fun i => i ≤ b.length ∧ ∀ j, j < i → G j = false) (fun i => b.length - i) 0 ⟨Nat.zero_le _, fun j hj => by omega⟩ ?_ ?_
  · refine ⟨(by cbv), by cbv; repeat' (first | trivial | exact EqX.rfl' | exact EqO.rfl' | apply And.intro | ((try clear hR3); (try clear hR2); (try clear hR); (try clear hK); (try simp only [ncCast] at *); (try simp only [castI_eq] at *); refine EqX.i ?_; (try rw [ho]); (try dsimp only [Ar.real, IX.vo, IX.val, BX.val, IX.toN]); (try simp only [QB7]); (repeat rw [wrap_i64 (by omega) (by omega)]); omega)), by cbv; repeat' (first | trivial | exact EqO.rfl' | apply And.intro), by cbv; repeat' (first | trivial | exact EqO.rfl' | apply And.intro)⟩
  · rintro i ⟨hi, hno⟩ R hR
    have e1 := h1 i
    have e3 := h3 i
    have hg := hG i
    generalize getR a (b.getD i default).kind (b.getD i default).role = q at *
    have en : o.nth b i = b.getD i default := by rw [ho, real_nth]
    rw [← en, ← ho] at hg
    cbv
    repeat' (first | (refine Br.mk (fun hb => ?_) (fun hb => ?_) <;> ((try rw [ho] at hb); (try dsimp only [Ar.real, IX.vo] at hb); (try simp only [QB7] at hb); (try simp only [QBo, beq_iff_eq, beq_eq_false_iff_ne, ne_eq] at hb))) | (refine StopN.mk ?_; cbv) | ((first | refine CallN.pure hP hg fn132 rfl rfl rfl ?_ | refine CallI.pure hP hxa fn96 rfl rfl rfl ?_ | refine CallI.pure hP hxb fn96 rfl rfl rfl ?_ | refine CallN.pure hP hxa fn96 rfl rfl rfl ?_ | refine CallN.pure hP hxb fn96 rfl rfl rfl ?_); cbv) | ((first | refine CallI.pure hP (x_r05Right _ ‹_›) fn96 (by first | rfl | (rw [ho]; done) | (rw [ho]; rfl)) (by rfl) (by first | rfl | (rw [ho]; done) | (rw [ho]; rfl)) ?_ | refine CallN.pure hP (x_r05Right _ ‹_›) fn96 (by first | rfl | (rw [ho]; done) | (rw [ho]; rfl)) (by rfl) (by first | rfl | (rw [ho]; done) | (rw [ho]; rfl)) ?_); (try rw [← ho]); generalize hr : vecRight _ = r; (try rw [ho] at hr); (try dsimp only [Ar.real, IX.vo] at hr); (try simp only [QB7] at hr); cbv) | ((first | refine CallI.pure hP (x_r05Get _ _ _ ‹_›) fn132 (by first | rfl | (rw [ho]; done) | (rw [ho]; rfl)) (by rfl) (by first | rfl | (rw [ho]; done) | (rw [ho]; rfl)) ?_ | refine CallN.pure hP (x_r05Get _ _ _ ‹_›) fn132 (by first | rfl | (rw [ho]; done) | (rw [ho]; rfl)) (by rfl) (by first | rfl | (rw [ho]; done) | (rw [ho]; rfl)) ?_); (try rw [← ho]); generalize hr : getR _ _ _ = r; (try rw [ho] at hr); (try dsimp only [Ar.real, IX.vo] at hr); (try simp only [QB7] at hr); cbv) | ((first | refine CallI.pure hP (x_r05slot _ _ _) fn133 (by first | rfl | (rw [ho]; done) | (rw [ho]; rfl)) (by rfl) (by first | rfl | (rw [ho]; done) | (rw [ho]; rfl)) ?_ | refine CallN.pure hP (x_r05slot _ _ _) fn133 (by first | rfl | (rw [ho]; done) | (rw [ho]; rfl)) (by rfl) (by first | rfl | (rw [ho]; done) | (rw [ho]; rfl)) ?_); (try rw [← ho]); cbv) | (refine hK _ _ ?_) | (refine NeedT.mk ?_ ?_))
    any_goals (((try clear hR3); (try clear hR2); (try clear hR); (try clear hK); (try simp only [ncCast] at *); (try simp only [castI_eq] at *); (try rw [ho]); (try dsimp only [Ar.real, IX.vo, IX.val, BX.val, IX.toN]); (try simp only [QB7]); (try simp only [decide_eq_true_eq]); (all_goals (repeat rw [wrap_i64 (by omega) (by omega)])); (all_goals (first | omega | (simp only [Int.ofNat_eq_natCast]; omega)))); done)
    · rw [e1 (by assumption) hno (by rw [e3]; exact decide_eq_true hb)]
      exact .b rfl
    · refine hR _ (i + 1) (by show b.length - (i + 1) < b.length - i; ((try clear hR3); (try clear hR2); (try clear hR); (try clear hK); (try simp only [ncCast] at *); (try simp only [castI_eq] at *)); omega) ⟨by show i + 1 ≤ b.length; ((try clear hR3); (try clear hR2); (try clear hR); (try clear hK); (try simp only [ncCast] at *); (try simp only [castI_eq] at *)); omega, fun k' hk => ?_⟩ ?_
      · rcases Nat.lt_or_ge k' i with h5 | h5
        · exact hno k' h5
        · obtain rfl : k' = i := by
            have hk' : k' < i + 1 := hk
            clear hk
            ((try clear hR3); (try clear hR2); (try clear hR); (try clear hK); (try simp only [ncCast] at *); (try simp only [castI_eq] at *))
            omega
          rw [e3]
          exact decide_eq_false (by omega)
      · refine ⟨(by cbv), by cbv; repeat' (first | trivial | exact EqX.rfl' | exact EqO.rfl' | apply And.intro | ((try clear hR3); (try clear hR2); (try clear hR); (try clear hK); (try simp only [ncCast] at *); (try simp only [castI_eq] at *); refine EqX.i ?_; (try rw [ho]); (try dsimp only [Ar.real, IX.vo, IX.val, BX.val, IX.toN]); (try simp only [QB7]); (repeat rw [wrap_i64 (by omega) (by omega)]); omega)), by cbv; repeat' (first | trivial | exact EqO.rfl' | apply And.intro), by cbv; repeat' (first | trivial | exact EqO.rfl' | apply And.intro)⟩
    · obtain rfl : i = b.length := by ((try clear hR3); (try clear hR2); (try clear hR); (try clear hK); (try simp only [ncCast] at *); (try simp only [castI_eq] at *)); omega
      rw [h2 hno, ‹ra = true›]
      exact .b rfl
    · obtain rfl : i = b.length := by ((try clear hR3); (try clear hR2); (try clear hR); (try clear hK); (try simp only [ncCast] at *); (try simp only [castI_eq] at *)); omega
      rw [h2 hno, ‹ra = false›]
      exact .b rfl
end Go.Proofs.Ytddgcegimmcbgaa.Sy
namespace Go.Proofs.Ytddgcegimmcbgaa.Sy
open Go Go.Sy Go.Proofs.Ytddgcegimmcbgaa
theorem x_r06Right (s : S4) : XC Try.prog 85 [.agg (S4.X Ar.real s)] [] (xb (sumsRight s)) [] := by
  have hi := sumsRight_iff s
  obtain ⟨a, b, u, d⟩ := s
  generalize sumsRight ⟨a, b, u, d⟩ = r at *
  dsimp only at hi
  (refine XC.of_body ([]) Try.func85 rfl Try.ntmps85 mixed (T := [(2, ti2), (3, ti3), (52, ti52)]) (.cons tok2 (.cons tok3 (.cons tok52 .nil))) (by kernel_rfl) (by simp) rfl rfl rfl rfl rfl ?_; rintro o ho P hP c K hK; have hm : P.follows .mixedOrders = true := hP ▸ mixed; have hT : TOk P [(2, ti2), (3, ti3), (52, ti52)] := hP ▸ (.cons tok2 (.cons tok3 (.cons tok52 .nil))); (try rw [← ho]); cbv; (repeat (refine StopN.mk ?_; cbv)))
  repeat' (first | (refine Br.mk (fun hb => ?_) (fun hb => ?_) <;> ((try rw [ho] at hb); (try dsimp only [Ar.real, IX.vo] at hb); (try simp only [QB7] at hb); (try simp only [QBo, beq_iff_eq, beq_eq_false_iff_ne, ne_eq] at hb))) | (refine StopN.mk ?_; cbv) | (refine hK _ _ ?_) | (refine NeedT.mk ?_ ?_) | (refine LoopN.lay (o := o) (D := []) 5 ho hm hT (by kernel_rfl) ?_; cbv))
  all_goals
    refine .b ?_
    ((try clear hR3); (try clear hR2); (try clear hR); (try clear hK); (try simp only [ncCast] at *); (try simp only [castI_eq] at *); (try rw [ho]); (try dsimp only [Ar.real, IX.vo, IX.val, BX.val, IX.toN]); (try simp only [QB7]))
    cases r <;> simp only [BX.val, reduceCtorEq, true_iff, false_iff, not_and, Bool.false_eq_true, iff_false, iff_true] at hi ⊢ <;> omega
theorem x_r06Holds (s t : S4) : XC Try.prog 35 [.agg (S4.X Ar.real s), .agg (S4.X Ar.real t)] [] (xb (sumsHolds s t)) [] := by
  have hs := x_r06Right s
  have ht := x_r06Right t
  unfold sumsHolds
  generalize sumsRight s = rs at *
  generalize sumsRight t = rt at *
  obtain ⟨a, b, p, d⟩ := s
  obtain ⟨a', b', p', d'⟩ := t
  (refine XC.of_body ([(4, [])]) Try.func35 rfl Try.ntmps35 mixed (T := [(2, ti2), (3, ti3), (52, ti52)]) (.cons tok2 (.cons tok3 (.cons tok52 .nil))) (by kernel_rfl) (by simp) rfl rfl rfl rfl rfl ?_; rintro o ho P hP c K hK; have hm : P.follows .mixedOrders = true := hP ▸ mixed; have hT : TOk P [(2, ti2), (3, ti3), (52, ti52)] := hP ▸ (.cons tok2 (.cons tok3 (.cons tok52 .nil))); (try rw [← ho]); cbv; (repeat (refine StopN.mk ?_; cbv)))
  rw [← ho] at hs ht
  repeat' (first | (refine Br.mk (fun hb => ?_) (fun hb => ?_) <;> ((try rw [ho] at hb); (try dsimp only [Ar.real, IX.vo] at hb); (try simp only [QB7] at hb); (try simp only [QBo, beq_iff_eq, beq_eq_false_iff_ne, ne_eq] at hb))) | (refine StopN.mk ?_; cbv) | ((first | refine CallI.pure hP hs fn85 rfl rfl rfl ?_ | refine CallI.pure hP ht fn85 rfl rfl rfl ?_); cbv) | ((first | refine CallI.pure hP (x_r06Right _) fn85 (by first | rfl | (rw [ho]; done) | (rw [ho]; rfl)) (by rfl) (by first | rfl | (rw [ho]; done) | (rw [ho]; rfl)) ?_ | refine CallN.pure hP (x_r06Right _) fn85 (by first | rfl | (rw [ho]; done) | (rw [ho]; rfl)) (by rfl) (by first | rfl | (rw [ho]; done) | (rw [ho]; rfl)) ?_); (try rw [← ho]); generalize hr : sumsRight _ = r; (try rw [ho] at hr); (try dsimp only [Ar.real, IX.vo] at hr); (try simp only [QB7] at hr); cbv) | (refine hK _ _ ?_) | (refine NeedT.mk ?_ ?_) | (refine LoopN.lay (o := o) (D := [(4, [])]) 5 ho hm hT (by kernel_rfl) ?_; cbv))
  all_goals
    refine .b ?_
    ((try clear hR3); (try clear hR2); (try clear hR); (try clear hK); (try simp only [ncCast] at *); (try simp only [castI_eq] at *); (try rw [ho]); (try dsimp only [Ar.real, IX.vo, IX.val, BX.val, IX.toN]); (try simp only [QB7]))
    first
      | (rw [decide_eq_true ⟨by assumption, by assumption, by assumption, by assumption⟩]; simp_all; done)
      | (rw [decide_eq_false (fun h => by omega)]; rfl)
theorem x_r06Of (v : List Part) (hv : v.length ≤ 1048576) : XC Try.prog 45 [.ro (SL Ar.real Part.X v)] [] (.agg (S4.X Ar.real (sumsOf v))) [] := by
  have hx := x_r05Right v hv
  unfold sumsOf
  by_cases h0 : vecRight v = true
  · rw [if_pos h0]
    have hat := fun i (hi : i < v.length) => vecRight_at h0 hi
    rw [h0] at hx
    clear h0
    have hm0 : ofTo v 0 = ⟨0, 0, 0, 0⟩ := rfl
    have hm1 : ∀ k, ofTo v (k + 1) = (ofTo v k).addAt (v.getD k default).kind (v.getD k default).amount := fun _ => rfl
    generalize ofTo v = M at *
    (refine XC.of_body ([(7, [])]) Try.func45 rfl Try.ntmps45 mixed (T := [(2, ti2), (3, ti3), (4, ti4), (31, ti31), (52, ti52), (123, ti123)]) (.cons tok2 (.cons tok3 (.cons tok4 (.cons tok31 (.cons tok52 (.cons tok123 .nil)))))) (by kernel_rfl) (by simp) rfl rfl rfl rfl rfl ?_; rintro o ho P hP c K hK; have hm : P.follows .mixedOrders = true := hP ▸ mixed; have hT : TOk P [(2, ti2), (3, ti3), (4, ti4), (31, ti31), (52, ti52), (123, ti123)] := hP ▸ (.cons tok2 (.cons tok3 (.cons tok4 (.cons tok31 (.cons tok52 (.cons tok123 .nil)))))); (try rw [← ho]); cbv; (repeat (refine StopN.mk ?_; cbv)))
    rw [← ho] at hx
    repeat' (first | (refine Br.mk (fun hb => ?_) (fun hb => ?_) <;> ((try rw [ho] at hb); (try dsimp only [Ar.real, IX.vo] at hb); (try simp only [QB7] at hb); (try simp only [QBo, beq_iff_eq, beq_eq_false_iff_ne, ne_eq] at hb))) | (refine StopN.mk ?_; cbv) | ((first | refine CallI.pure hP hx fn96 rfl rfl rfl ?_ | refine CallN.pure hP hx fn96 rfl rfl rfl ?_); cbv) | ((first | refine CallI.pure hP (x_r05Right _ ‹_›) fn96 (by first | rfl | (rw [ho]; done) | (rw [ho]; rfl)) (by rfl) (by first | rfl | (rw [ho]; done) | (rw [ho]; rfl)) ?_ | refine CallN.pure hP (x_r05Right _ ‹_›) fn96 (by first | rfl | (rw [ho]; done) | (rw [ho]; rfl)) (by rfl) (by first | rfl | (rw [ho]; done) | (rw [ho]; rfl)) ?_); (try rw [← ho]); generalize hr : vecRight _ = r; (try rw [ho] at hr); (try dsimp only [Ar.real, IX.vo] at hr); (try simp only [QB7] at hr); cbv) | (refine hK _ _ ?_) | (refine NeedT.mk ?_ ?_))
    · exact absurd ‹true = false› (by decide)
    refine LoopN.over (o := o) (D := [(7, [])]) ho hm hT (by kernel_rfl) (fun a : Nat => [(4, xn a)]) (fun a => [(1, .var [xi (M a).a, xi (M a).b, xi (M a).c, xi (M a).d] 52)]) (fun _ => []) (fun a => a ≤ v.length) (fun a => v.length - a) 0 (by omega) ?_ ?_
    · refine ⟨(by cbv), by cbv; repeat' (first | trivial | exact EqX.rfl' | exact EqO.rfl' | apply And.intro | ((try clear hR3); (try clear hR2); (try clear hR); (try clear hK); (try simp only [ncCast] at *); (try simp only [castI_eq] at *); refine EqX.i ?_; (try rw [ho]); (try dsimp only [Ar.real, IX.vo, IX.val, BX.val, IX.toN]); (try simp only [QB7]); (repeat rw [wrap_i64 (by omega) (by omega)]); omega) | exact ⟨by rw [hm0]; rfl⟩), by cbv; repeat' (first | trivial | exact EqO.rfl' | apply And.intro | exact ⟨by rw [hm0]; rfl⟩), by cbv; repeat' (first | trivial | exact EqO.rfl' | apply And.intro | exact ⟨by rw [hm0]; rfl⟩)⟩
    · rintro i hi R hR
      have h1 := hat i
      have h2 := hm1 i
      cbv
      repeat' (first | (refine Br.mk (fun hb => ?_) (fun hb => ?_) <;> ((try rw [ho] at hb); (try dsimp only [Ar.real, IX.vo] at hb); (try simp only [QB7] at hb); (try simp only [QBo, beq_iff_eq, beq_eq_false_iff_ne, ne_eq] at hb))) | (refine StopN.mk ?_; cbv) | ((first | refine CallI.pure hP (x_r05Right _ ‹_›) fn96 (by first | rfl | (rw [ho]; done) | (rw [ho]; rfl)) (by rfl) (by first | rfl | (rw [ho]; done) | (rw [ho]; rfl)) ?_ | refine CallN.pure hP (x_r05Right _ ‹_›) fn96 (by first | rfl | (rw [ho]; done) | (rw [ho]; rfl)) (by rfl) (by first | rfl | (rw [ho]; done) | (rw [ho]; rfl)) ?_); (try rw [← ho]); generalize hr : vecRight _ = r; (try rw [ho] at hr); (try dsimp only [Ar.real, IX.vo] at hr); (try simp only [QB7] at hr); cbv) | (refine hK _ _ ?_) | (refine NeedT.mk ?_ ?_))
      any_goals (((try clear hR3); (try clear hR2); (try clear hR); (try clear hK); (try simp only [ncCast] at *); (try simp only [castI_eq] at *); (try rw [ho]); (try dsimp only [Ar.real, IX.vo, IX.val, BX.val, IX.toN]); (try simp only [QB7]); (try simp only [decide_eq_true_eq]); (all_goals (repeat rw [wrap_i64 (by omega) (by omega)])); (all_goals (first | omega | (simp only [Int.ofNat_eq_natCast]; omega)))); done)
      · refine hR _ (i + 1) (by show v.length - (i + 1) < v.length - i; ((try clear hR3); (try clear hR2); (try clear hR); (try clear hK); (try simp only [ncCast] at *); (try simp only [castI_eq] at *)); omega) (by show i + 1 ≤ v.length; ((try clear hR3); (try clear hR2); (try clear hR); (try clear hK); (try simp only [ncCast] at *); (try simp only [castI_eq] at *)); omega) ?_
        refine ⟨(by cbv), by cbv; repeat' (first | trivial | exact EqX.rfl' | exact EqO.rfl' | apply And.intro | ((try clear hR3); (try clear hR2); (try clear hR); (try clear hK); (try simp only [ncCast] at *); (try simp only [castI_eq] at *); refine EqX.i ?_; (try rw [ho]); (try dsimp only [Ar.real, IX.vo, IX.val, BX.val, IX.toN]); (try simp only [QB7]); (repeat rw [wrap_i64 (by omega) (by omega)]); omega) | exact ⟨by rw [h2, ho]; simp only [OX.toOb, X.toDL, X.toD]; rfl⟩), by cbv; repeat' (first | trivial | exact EqO.rfl' | apply And.intro | exact ⟨by rw [h2, ho]; simp only [OX.toOb, X.toDL, X.toD]; rfl⟩), by cbv; repeat' (first | trivial | exact EqO.rfl' | apply And.intro | exact ⟨by rw [h2, ho]; simp only [OX.toOb, X.toDL, X.toD]; rfl⟩)⟩
      · obtain rfl : i = v.length := by ((try clear hR3); (try clear hR2); (try clear hR); (try clear hK); (try simp only [ncCast] at *); (try simp only [castI_eq] at *)); omega
        exact FinX_S4 rfl rfl rfl rfl
  · rw [if_neg h0]
    generalize vecRight v = b at *
    (refine XC.of_body ([(7, [])]) Try.func45 rfl Try.ntmps45 mixed (T := [(2, ti2), (3, ti3), (4, ti4), (31, ti31), (52, ti52), (123, ti123)]) (.cons tok2 (.cons tok3 (.cons tok4 (.cons tok31 (.cons tok52 (.cons tok123 .nil)))))) (by kernel_rfl) (by simp) rfl rfl rfl rfl rfl ?_; rintro o ho P hP c K hK; have hm : P.follows .mixedOrders = true := hP ▸ mixed; have hT : TOk P [(2, ti2), (3, ti3), (4, ti4), (31, ti31), (52, ti52), (123, ti123)] := hP ▸ (.cons tok2 (.cons tok3 (.cons tok4 (.cons tok31 (.cons tok52 (.cons tok123 .nil)))))); (try rw [← ho]); cbv; (repeat (refine StopN.mk ?_; cbv)))
    rw [← ho] at hx
    repeat' (first | (refine Br.mk (fun hb => ?_) (fun hb => ?_) <;> ((try rw [ho] at hb); (try dsimp only [Ar.real, IX.vo] at hb); (try simp only [QB7] at hb); (try simp only [QBo, beq_iff_eq, beq_eq_false_iff_ne, ne_eq] at hb))) | (refine StopN.mk ?_; cbv) | ((first | refine CallI.pure hP hx fn96 rfl rfl rfl ?_ | refine CallN.pure hP hx fn96 rfl rfl rfl ?_); cbv) | ((first | refine CallI.pure hP (x_r05Right _ ‹_›) fn96 (by first | rfl | (rw [ho]; done) | (rw [ho]; rfl)) (by rfl) (by first | rfl | (rw [ho]; done) | (rw [ho]; rfl)) ?_ | refine CallN.pure hP (x_r05Right _ ‹_›) fn96 (by first | rfl | (rw [ho]; done) | (rw [ho]; rfl)) (by rfl) (by first | rfl | (rw [ho]; done) | (rw [ho]; rfl)) ?_); (try rw [← ho]); generalize hr : vecRight _ = r; (try rw [ho] at hr); (try dsimp only [Ar.real, IX.vo] at hr); (try simp only [QB7] at hr); cbv) | (refine hK _ _ ?_) | (refine NeedT.mk ?_ ?_))
    all_goals first
      | exact FinX_S4 rfl rfl rfl rfl
      | exact absurd hb h0
end Go.Proofs.Ytddgcegimmcbgaa.Sy
namespace Go.Proofs.Ytddgcegimmcbgaa.Sy
open Go Go.Sy Go.Proofs.Ytddgcegimmcbgaa
end Go.Proofs.Ytddgcegimmcbgaa.Sy
namespace Go.Proofs.Ytddgcegimmcbgaa.Sy
open Go Go.Sy Go.Proofs.Ytddgcegimmcbgaa
def val : List Int → Int
  | [] => 0
  | d :: l => d + 65536 * val l
def DgOk (l : List Int) : Prop := ∀ j, 0 ≤ l.getD j 0 ∧ l.getD j 0 < 65536
theorem DgOk.tail {d : Int} {l : List Int} (h : DgOk (d :: l)) : DgOk l := fun j => by
  have := h (j + 1)
  simpa using this
theorem DgOk.head {d : Int} {l : List Int} (h : DgOk (d :: l)) : 0 ≤ d ∧ d < 65536 := by
  have := h 0
  simpa using this
theorem getD_set (l : List Int) (j k : Nat) (x : Int) (hj : j < l.length) : (l.set j x).getD k 0 = if j = k then x else l.getD k 0 := by
  rw [List.getD_eq_getElem?_getD, List.getElem?_set, List.getD_eq_getElem?_getD]
  split
  · first | rfl | (rw [if_pos (by omega)]; rfl)
  · rfl
theorem DgOk.set {l : List Int} (h : DgOk l) {j : Nat} {x : Int} (hx : 0 ≤ x ∧ x < 65536) : DgOk (l.set j x) := fun k => by
  by_cases hj : j < l.length
  · rw [getD_set l j k x hj]
    split
    · exact hx
    · exact h k
  · rw [List.set_eq_of_length_le (by omega)]
    exact h k
end Go.Proofs.Ytddgcegimmcbgaa.Sy

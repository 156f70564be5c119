/-
  Slots, amounts, parts, vectors; small functions of the life: contracts. Plain theorems.
-/
import Derived.Test.YtddgcegimmcbgaaSyT
import Derived.Test.YtddgcegimmcbgaaSyVa
set_option linter.unusedSectionVars false
set_option maxRecDepth 100000
set_option maxHeartbeats 4000000
set_option linter.unusedVariables false
set_option linter.unusedSimpArgs false
namespace Go.Proofs.Ytddgcegimmcbgaa.Sy
open Go Go.Sy Go.Proofs.Ytddgcegimmcbgaa
def slotRight (k r : Int) : Bool := decide (0 ≤ k) && (decide (k < 4) && (decide (0 ≤ r) && decide (r ≤ 32)))
def amountRight (x : Int) : Bool := decide (0 ≤ x) && decide (x ≤ 9007199254740992)
def slotCmp (a b c d : Int) : Int := if a = c ∧ b = d then 0 else if a < c ∨ (a = c ∧ b < d) then -1 else 1
theorem x_slot_Right (k r : Int) : XC Try.prog 208 [.agg [xi k, xi r]] [] (xb (slotRight k r)) [] := by
  (refine XC.of_body ([]) Try.func208 rfl Try.ntmps208 mixed (T := [(3, ti3), (209, ti209)]) (.cons tok3 (.cons tok209 .nil)) (by kernel_rfl) (by simp) rfl rfl rfl rfl rfl ?_; rintro o ho P hP c K hK; have hm : P.follows .mixedOrders = true := hP ▸ mixed; have hT : TOk P [(3, ti3), (209, ti209)] := hP ▸ (.cons tok3 (.cons tok209 .nil)); (try rw [← ho]); cbv; (repeat (refine StopN.mk ?_; cbv)))
  repeat' (first | (refine Br.mk (fun hb => ?_) (fun hb => ?_) <;> ((try rw [ho] at hb); (try dsimp only [Ar.real, IX.vo] at hb); (try simp only [QSyVa] at hb); (try simp only [QBo, beq_iff_eq, beq_eq_false_iff_ne, ne_eq] at hb))) | (refine StopN.mk ?_; cbv) | (refine hK _ _ ?_) | (refine NeedT.mk ?_ ?_))
  all_goals (refine .b ?_; ((try clear hR3); (try clear hR2); (try clear hR); (try clear hK); (try simp only [ncCast] at *); (try simp only [castI_eq] at *); (try rw [ho]); (try dsimp only [Ar.real, IX.vo, IX.val, BX.val, IX.toN]); (try simp only [QSyVa])); simp [slotRight, *])
  all_goals omega
theorem x_quant_Right (x : Int) : XC Try.prog 209 [xi x] [] (xb (amountRight x)) [] := by
  (refine XC.of_body ([]) Try.func209 rfl Try.ntmps209 mixed (T := [(2, ti2)]) (.cons tok2 .nil) (by kernel_rfl) (by simp) rfl rfl rfl rfl rfl ?_; rintro o ho P hP c K hK; have hm : P.follows .mixedOrders = true := hP ▸ mixed; have hT : TOk P [(2, ti2)] := hP ▸ (.cons tok2 .nil); (try rw [← ho]); cbv; (repeat (refine StopN.mk ?_; cbv)))
  repeat' (first | (refine Br.mk (fun hb => ?_) (fun hb => ?_) <;> ((try rw [ho] at hb); (try dsimp only [Ar.real, IX.vo] at hb); (try simp only [QSyVa] at hb); (try simp only [QBo, beq_iff_eq, beq_eq_false_iff_ne, ne_eq] at hb))) | (refine StopN.mk ?_; cbv) | (refine hK _ _ ?_) | (refine NeedT.mk ?_ ?_))
  all_goals (refine .b ?_; ((try clear hR3); (try clear hR2); (try clear hR); (try clear hK); (try simp only [ncCast] at *); (try simp only [castI_eq] at *); (try rw [ho]); (try dsimp only [Ar.real, IX.vo, IX.val, BX.val, IX.toN]); (try simp only [QSyVa])); simp [amountRight, *])
  all_goals omega
theorem x_slot_Cmp (a b c d : Int) : XC Try.prog 210 [.agg [xi a, xi b], .agg [xi c, xi d]] [] (xi (slotCmp a b c d)) [] := by
  (refine XC.of_body ([]) Try.func210 rfl Try.ntmps210 mixed (T := [(3, ti3), (209, ti209)]) (.cons tok3 (.cons tok209 .nil)) (by kernel_rfl) (by simp) rfl rfl rfl rfl rfl ?_; rintro o ho P hP c K hK; have hm : P.follows .mixedOrders = true := hP ▸ mixed; have hT : TOk P [(3, ti3), (209, ti209)] := hP ▸ (.cons tok3 (.cons tok209 .nil)); (try rw [← ho]); cbv; (repeat (refine StopN.mk ?_; cbv)))
  repeat' (first | (refine Br.mk (fun hb => ?_) (fun hb => ?_) <;> ((try rw [ho] at hb); (try dsimp only [Ar.real, IX.vo] at hb); (try simp only [QSyVa] at hb); (try simp only [QBo, beq_iff_eq, beq_eq_false_iff_ne, ne_eq] at hb))) | (refine StopN.mk ?_; cbv) | (refine hK _ _ ?_) | (refine NeedT.mk ?_ ?_))
  all_goals
    refine .i ?_
    ((try clear hR3); (try clear hR2); (try clear hR); (try clear hK); (try simp only [ncCast] at *); (try simp only [castI_eq] at *); (try rw [ho]); (try dsimp only [Ar.real, IX.vo, IX.val, BX.val, IX.toN]); (try simp only [QSyVa]))
    simp only [Bool.and_eq_true, Bool.and_eq_false_iff, decide_eq_true_eq, decide_eq_false_iff_not] at *
    unfold slotCmp
    repeat' split
    all_goals omega
theorem x_vec_of (k r a : Int) : XC Try.prog 182 [.agg [xi k, xi r, xi a]] [] (.agg [xi k, xi r]) [] := by
  (refine XC.of_body ([]) Try.func182 rfl Try.ntmps182 mixed (T := [(2, ti2), (3, ti3), (123, ti123), (209, ti209)]) (.cons tok2 (.cons tok3 (.cons tok123 (.cons tok209 .nil)))) (by kernel_rfl) (by simp) rfl rfl rfl rfl rfl ?_; rintro o ho P hP c K hK; have hm : P.follows .mixedOrders = true := hP ▸ mixed; have hT : TOk P [(2, ti2), (3, ti3), (123, ti123), (209, ti209)] := hP ▸ (.cons tok2 (.cons tok3 (.cons tok123 (.cons tok209 .nil)))); (try rw [← ho]); cbv; (repeat (refine StopN.mk ?_; cbv)))
  repeat' (first | (refine Br.mk (fun hb => ?_) (fun hb => ?_) <;> ((try rw [ho] at hb); (try dsimp only [Ar.real, IX.vo] at hb); (try simp only [QSyVa] at hb); (try simp only [QBo, beq_iff_eq, beq_eq_false_iff_ne, ne_eq] at hb))) | (refine StopN.mk ?_; cbv) | (refine hK _ _ ?_) | (refine NeedT.mk ?_ ?_))
  all_goals exact .pure fun _ => rfl
def badAt (v : List Part) (i : Nat) : Bool :=
  !(slotRight (v.getD i default).kind (v.getD i default).role) || (decide ((v.getD i default).amount < 1) || (!(amountRight (v.getD i default).amount) ||
    (decide (0 < i) && decide (0 ≤ slotCmp (v.getD (i - 1) default).kind (v.getD (i - 1) default).role (v.getD i default).kind (v.getD i default).role))))
def vecRight (v : List Part) : Bool := (nextAt (badAt v) 0 v.length).isNone
theorem x_vec_Right (v : List Part) (hv : v.length ≤ 9223372036854775807) : XC Try.prog 180 [.ro (SL Ar.real Part.X v)] [] (xb (vecRight v)) [] := by
  (refine XC.of_body ([(4, [(24, 25)])]) Try.func180 rfl Try.ntmps180 mixed (T := [(2, ti2), (3, ti3), (4, ti4), (31, ti31), (123, ti123)]) (.cons tok2 (.cons tok3 (.cons tok4 (.cons tok31 (.cons tok123 .nil))))) (by kernel_rfl) (by simp) rfl rfl rfl rfl rfl ?_; rintro o ho P hP c K hK; have hm : P.follows .mixedOrders = true := hP ▸ mixed; have hT : TOk P [(2, ti2), (3, ti3), (4, ti4), (31, ti31), (123, ti123)] := hP ▸ (.cons tok2 (.cons tok3 (.cons tok4 (.cons tok31 (.cons tok123 .nil))))); (try rw [← ho]); cbv; (repeat (refine StopN.mk ?_; cbv)))
  refine LoopN.over (o := o) (D := [(4, [(24, 25)])]) ho hm hT (by kernel_rfl) (fun i : Nat => [(7, xn i)]) (fun _ => []) (fun _ => []) (fun i => i ≤ v.length ∧ ∀ j, j < i → badAt v j = false) (fun i => v.length - i) 0 ⟨Nat.zero_le _, fun j hj => by omega⟩ ?_ ?_
  · refine ⟨(by cbv), by cbv; repeat' (first | trivial | exact EqX.rfl' | exact EqO.rfl' | apply And.intro | ((try clear hR3); (try clear hR2); (try clear hR); (try clear hK); (try simp only [ncCast] at *); (try simp only [castI_eq] at *); refine EqX.i ?_; (try rw [ho]); (try dsimp only [Ar.real, IX.vo, IX.val, BX.val, IX.toN]); (try simp only [QSyVa]); (repeat rw [wrap_i64 (by omega) (by omega)]); omega)), by cbv; repeat' (first | trivial | exact EqO.rfl' | apply And.intro), by cbv; repeat' (first | trivial | exact EqO.rfl' | apply And.intro)⟩
  · rintro i ⟨hi, hno⟩ R hR
    cbv
    repeat' (first | (refine Br.mk (fun hb => ?_) (fun hb => ?_) <;> ((try rw [ho] at hb); (try dsimp only [Ar.real, IX.vo] at hb); (try simp only [QSyVa] at hb); (try simp only [QBo, beq_iff_eq, beq_eq_false_iff_ne, ne_eq] at hb))) | (refine StopN.mk ?_; cbv) | ((first | refine CallI.pure hP (x_vec_of _ _ _) fn182 (by first | rfl | (rw [ho]; done) | (rw [ho]; rfl)) (by rfl) (by first | rfl | (rw [ho]; done) | (rw [ho]; rfl)) ?_ | refine CallN.pure hP (x_vec_of _ _ _) fn182 (by first | rfl | (rw [ho]; done) | (rw [ho]; rfl)) (by rfl) (by first | rfl | (rw [ho]; done) | (rw [ho]; rfl)) ?_); (try rw [← ho]); cbv) | ((first | refine CallI.pure hP (x_slot_Right _ _) fn208 (by first | rfl | (rw [ho]; done) | (rw [ho]; rfl)) (by rfl) (by first | rfl | (rw [ho]; done) | (rw [ho]; rfl)) ?_ | refine CallN.pure hP (x_slot_Right _ _) fn208 (by first | rfl | (rw [ho]; done) | (rw [ho]; rfl)) (by rfl) (by first | rfl | (rw [ho]; done) | (rw [ho]; rfl)) ?_); (try rw [← ho]); generalize hr : slotRight _ _ = r; (try rw [ho] at hr); (try dsimp only [Ar.real, IX.vo] at hr); (try simp only [QSyVa] at hr); cbv) | ((first | refine CallI.pure hP (x_quant_Right _) fn209 (by first | rfl | (rw [ho]; done) | (rw [ho]; rfl)) (by rfl) (by first | rfl | (rw [ho]; done) | (rw [ho]; rfl)) ?_ | refine CallN.pure hP (x_quant_Right _) fn209 (by first | rfl | (rw [ho]; done) | (rw [ho]; rfl)) (by rfl) (by first | rfl | (rw [ho]; done) | (rw [ho]; rfl)) ?_); (try rw [← ho]); generalize hr : amountRight _ = r; (try rw [ho] at hr); (try dsimp only [Ar.real, IX.vo] at hr); (try simp only [QSyVa] at hr); cbv) | ((first | refine CallI.pure hP (x_slot_Cmp _ _ _ _) fn210 (by first | rfl | (rw [ho]; done) | (rw [ho]; rfl)) (by rfl) (by first | rfl | (rw [ho]; done) | (rw [ho]; rfl)) ?_ | refine CallN.pure hP (x_slot_Cmp _ _ _ _) fn210 (by first | rfl | (rw [ho]; done) | (rw [ho]; rfl)) (by rfl) (by first | rfl | (rw [ho]; done) | (rw [ho]; rfl)) ?_); (try rw [← ho]); generalize hr : slotCmp _ _ _ _ = r; (try rw [ho] at hr); (try dsimp only [Ar.real, IX.vo] at hr); (try simp only [QSyVa] at hr); cbv) | (refine hK _ _ ?_) | (refine NeedT.mk ?_ ?_))
    all_goals first
      | ((try clear hR3); (try clear hR2); (try clear hR); (try clear hK); (try simp only [ncCast] at *); (try simp only [castI_eq] at *); (try rw [ho]); (try dsimp only [Ar.real, IX.vo, IX.val, BX.val, IX.toN]); (try simp only [QSyVa]); (try simp only [decide_eq_true_eq]); (all_goals (repeat rw [wrap_i64 (by omega) (by omega)])); (all_goals (first | omega | (simp only [Int.ofNat_eq_natCast]; omega))))
      | (have hlt : i < v.length := by omega
         refine .b ?_
         ((try clear hR3); (try clear hR2); (try clear hR); (try clear hK); (try simp only [ncCast] at *); (try simp only [castI_eq] at *); (try rw [ho]); (try dsimp only [Ar.real, IX.vo, IX.val, BX.val, IX.toN]); (try simp only [QSyVa]))
         rw [vecRight, nextAt_some (k := i) (Nat.zero_le _) hlt (by ((try clear hR3); (try clear hR2); (try clear hR); (try clear hK); (try simp only [ncCast] at *); (try simp only [castI_eq] at *)); (try rw [wrap_i64 (by omega) (by omega), show ((i : Int) - 1).toNat = i - 1 by omega] at hr); simp only [badAt]; clear hno; first | (simp_all; done) | (simp_all; omega)) (fun j _ h => hno j h)]
         rfl)
      | (refine .b ?_; ((try clear hR3); (try clear hR2); (try clear hR); (try clear hK); (try simp only [ncCast] at *); (try simp only [castI_eq] at *); (try rw [ho]); (try dsimp only [Ar.real, IX.vo, IX.val, BX.val, IX.toN]); (try simp only [QSyVa])); rw [vecRight, nextAt_none (fun j _ h => hno j (by omega))]; rfl)
      | (refine hR _ (i + 1) (by omega) ⟨by omega, fun j h1 => ?_⟩ ?_
         · rcases Nat.lt_or_ge j i with h3 | h3
           · exact hno j h3
           · obtain rfl : j = i := by omega
             ((try clear hR3); (try clear hR2); (try clear hR); (try clear hK); (try simp only [ncCast] at *); (try simp only [castI_eq] at *))
             (try rw [wrap_i64 (by omega) (by omega), show ((j : Int) - 1).toNat = j - 1 by omega] at hr)
             simp only [badAt]
             clear hno
             first | (simp_all; done) | (simp_all; omega)
         · refine ⟨(by cbv), by cbv; repeat' (first | trivial | exact EqX.rfl' | exact EqO.rfl' | apply And.intro | ((try clear hR3); (try clear hR2); (try clear hR); (try clear hK); (try simp only [ncCast] at *); (try simp only [castI_eq] at *); refine EqX.i ?_; (try rw [ho]); (try dsimp only [Ar.real, IX.vo, IX.val, BX.val, IX.toN]); (try simp only [QSyVa]); (repeat rw [wrap_i64 (by omega) (by omega)]); omega)), by cbv; repeat' (first | trivial | exact EqO.rfl' | apply And.intro), by cbv; repeat' (first | trivial | exact EqO.rfl' | apply And.intro)⟩)
end Go.Proofs.Ytddgcegimmcbgaa.Sy

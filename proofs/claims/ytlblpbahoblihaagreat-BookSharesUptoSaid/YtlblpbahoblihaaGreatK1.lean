/-
  Slots, amounts, parts, vectors; small functions of the life: contracts. Plain theorems.
-/
import Derived.Test.YtlblpbahoblihaaGreatSyT
import Derived.Test.YtlblpbahoblihaaGreatSyVa
set_option linter.unusedSectionVars false
set_option maxRecDepth 100000
set_option maxHeartbeats 4000000
set_option linter.unusedVariables false
set_option linter.unusedSimpArgs false
namespace Go.Proofs.YtlblpbahoblihaaGreat.Sy
open Go Go.Sy Go.Proofs.YtlblpbahoblihaaGreat
def slotRight (k r : Int) : Bool := decide (0 ≤ k) && (decide (k < 4) && (decide (0 ≤ r) && decide (r ≤ 32)))
def amountRight (x : Int) : Bool := decide (0 ≤ x) && decide (x ≤ 9007199254740992)
def slotCmp (a b c d : Int) : Int := if a = c ∧ b = d then 0 else if a < c ∨ (a = c ∧ b < d) then -1 else 1
theorem x_slot_Right (k r : Int) : XC Tryz.prog 95 [.agg [xi k, xi r]] [] (xb (slotRight k r)) [] := by
  (refine XC.of_body ([]) Tryz.func95 rfl Tryz.ntmps95 mixed (T := tl95) tk95 (by kernel_rfl) (by simp) rfl rfl rfl rfl rfl ?_; rintro o ho P hP c K hK; have hm : P.follows .mixedOrders = true := hP ▸ mixed; have hT : TOk P tl95 := hP ▸ tk95; (try rw [← ho]); cbv; (repeat (refine StopN.mk ?_; cbv)))
  repeat' (first | (refine Br.mk (fun hb => ?_) (fun hb => ?_) <;> ((try rw [ho] at hb); (try dsimp only [Ar.real, IX.vo] at hb); (try simp only [QSyVa] at hb); (try simp only [QBo, beq_iff_eq, beq_eq_false_iff_ne, ne_eq] at hb))) | (refine StopN.mk ?_; cbv) | (refine hK _ _ ?_) | (refine NeedT.mk ?_ ?_))
  all_goals (refine .b ?_; ((try clear hR3); (try clear hR2); (try clear hR); (try clear hK); (try simp only [ncCast] at *); (try simp only [castI_eq] at *); (try rw [ho]); (try dsimp only [Ar.real, IX.vo, IX.val, BX.val, IX.toN]); (try simp only [QSyVa])); simp [slotRight, *])
  all_goals omega
theorem x_quant_Right (x : Int) : XC Tryz.prog 97 [xi x] [] (xb (amountRight x)) [] := by
  (refine XC.of_body ([]) Tryz.func97 rfl Tryz.ntmps97 mixed (T := tl97) tk97 (by kernel_rfl) (by simp) rfl rfl rfl rfl rfl ?_; rintro o ho P hP c K hK; have hm : P.follows .mixedOrders = true := hP ▸ mixed; have hT : TOk P tl97 := hP ▸ tk97; (try rw [← ho]); cbv; (repeat (refine StopN.mk ?_; cbv)))
  repeat' (first | (refine Br.mk (fun hb => ?_) (fun hb => ?_) <;> ((try rw [ho] at hb); (try dsimp only [Ar.real, IX.vo] at hb); (try simp only [QSyVa] at hb); (try simp only [QBo, beq_iff_eq, beq_eq_false_iff_ne, ne_eq] at hb))) | (refine StopN.mk ?_; cbv) | (refine hK _ _ ?_) | (refine NeedT.mk ?_ ?_))
  all_goals (refine .b ?_; ((try clear hR3); (try clear hR2); (try clear hR); (try clear hK); (try simp only [ncCast] at *); (try simp only [castI_eq] at *); (try rw [ho]); (try dsimp only [Ar.real, IX.vo, IX.val, BX.val, IX.toN]); (try simp only [QSyVa])); simp [amountRight, *])
  all_goals omega
theorem x_slot_Cmp (a b c d : Int) : XC Tryz.prog 98 [.agg [xi a, xi b], .agg [xi c, xi d]] [] (xi (slotCmp a b c d)) [] := by
  (refine XC.of_body ([]) Tryz.func98 rfl Tryz.ntmps98 mixed (T := tl98) tk98 (by kernel_rfl) (by simp) rfl rfl rfl rfl rfl ?_; rintro o ho P hP c K hK; have hm : P.follows .mixedOrders = true := hP ▸ mixed; have hT : TOk P tl98 := hP ▸ tk98; (try rw [← ho]); cbv; (repeat (refine StopN.mk ?_; cbv)))
  repeat' (first | (refine Br.mk (fun hb => ?_) (fun hb => ?_) <;> ((try rw [ho] at hb); (try dsimp only [Ar.real, IX.vo] at hb); (try simp only [QSyVa] at hb); (try simp only [QBo, beq_iff_eq, beq_eq_false_iff_ne, ne_eq] at hb))) | (refine StopN.mk ?_; cbv) | (refine hK _ _ ?_) | (refine NeedT.mk ?_ ?_))
  all_goals
    refine .i ?_
    ((try clear hR3); (try clear hR2); (try clear hR); (try clear hK); (try simp only [ncCast] at *); (try simp only [castI_eq] at *); (try rw [ho]); (try dsimp only [Ar.real, IX.vo, IX.val, BX.val, IX.toN]); (try simp only [QSyVa]))
    simp only [Bool.and_eq_true, Bool.and_eq_false_iff, decide_eq_true_eq, decide_eq_false_iff_not] at *
    unfold slotCmp
    repeat' split
    all_goals omega
theorem x_vec_of (k r a : Int) : XC Tryz.prog 96 [.agg [xi k, xi r, xi a]] [] (.agg [xi k, xi r]) [] := by
  (refine XC.of_body ([]) Tryz.func96 rfl Tryz.ntmps96 mixed (T := tl96) tk96 (by kernel_rfl) (by simp) rfl rfl rfl rfl rfl ?_; rintro o ho P hP c K hK; have hm : P.follows .mixedOrders = true := hP ▸ mixed; have hT : TOk P tl96 := hP ▸ tk96; (try rw [← ho]); cbv; (repeat (refine StopN.mk ?_; cbv)))
  repeat' (first | (refine Br.mk (fun hb => ?_) (fun hb => ?_) <;> ((try rw [ho] at hb); (try dsimp only [Ar.real, IX.vo] at hb); (try simp only [QSyVa] at hb); (try simp only [QBo, beq_iff_eq, beq_eq_false_iff_ne, ne_eq] at hb))) | (refine StopN.mk ?_; cbv) | (refine hK _ _ ?_) | (refine NeedT.mk ?_ ?_))
  all_goals exact .pure fun _ => rfl
def badAt (v : List Part) (i : Nat) : Bool :=
  !(slotRight (v.getD i default).kind (v.getD i default).role) || (decide ((v.getD i default).amount < 1) || (!(amountRight (v.getD i default).amount) ||
    (decide (0 < i) && decide (0 ≤ slotCmp (v.getD (i - 1) default).kind (v.getD (i - 1) default).role (v.getD i default).kind (v.getD i default).role))))
def vecRight (v : List Part) : Bool := (nextAt (badAt v) 0 v.length).isNone
theorem x_vec_Right (v : List Part) (hv : v.length ≤ 9223372036854775807) : XC Tryz.prog 69 [.ro (SL Ar.real Part.X v)] [] (xb (vecRight v)) [] := by
  (refine XC.of_body (dt69) Tryz.func69 rfl Tryz.ntmps69 mixed (T := tl69) tk69 (by kernel_rfl) (by simp) rfl rfl rfl rfl rfl ?_; rintro o ho P hP c K hK; have hm : P.follows .mixedOrders = true := hP ▸ mixed; have hT : TOk P tl69 := hP ▸ tk69; (try rw [← ho]); cbv; (repeat (refine StopN.mk ?_; cbv)))
  refine LoopN.over (o := o) (D := dt69) ho hm hT (by kernel_rfl) (fun i : Nat => [(7, xn i)]) (fun _ => []) (fun _ => []) (fun i => i ≤ v.length ∧ ∀ j, j < i → badAt v j = false) (fun i => v.length - i) 0 ⟨Nat.zero_le _, fun j hj => by omega⟩ ?_ ?_
  · (refine ⟨?_, ?_, ?_, ?_⟩ <;> cbv <;> repeat' (first | trivial | exact EqX.rfl' | exact EqO.rfl' | apply And.intro | ((try clear hR3); (try clear hR2); (try clear hR); (try clear hK); (try simp only [ncCast] at *); (try simp only [castI_eq] at *); refine EqX.i ?_; (try rw [ho]); (try dsimp only [Ar.real, IX.vo, IX.val, BX.val, IX.toN]); (try simp only [QSyVa]); (repeat rw [wrap_i64 (by omega) (by omega)]); omega)))
  · rintro i ⟨hi, hno⟩ R hR
    cbv
    repeat' (first | (refine Br.mk (fun hb => ?_) (fun hb => ?_) <;> ((try rw [ho] at hb); (try dsimp only [Ar.real, IX.vo] at hb); (try simp only [QSyVa] at hb); (try simp only [QBo, beq_iff_eq, beq_eq_false_iff_ne, ne_eq] at hb))) | (refine StopN.mk ?_; cbv) | ((first | refine CallI.pure hP (x_slot_Right _ _) fn95 (by first | rfl | (rw [ho]; try rfl)) (by rfl) (by first | rfl | (rw [ho]; try rfl)) ?_ | refine CallN.pure hP (x_slot_Right _ _) fn95 (by first | rfl | (rw [ho]; try rfl)) (by rfl) (by first | rfl | (rw [ho]; try rfl)) ?_); (try rw [← ho]); generalize hr : slotRight _ _ = r; (try rw [ho] at hr); (try dsimp only [Ar.real, IX.vo] at hr); (try simp only [QSyVa] at hr); cbv) | ((first | refine CallI.pure hP (x_vec_of _ _ _) fn96 (by first | rfl | (rw [ho]; try rfl)) (by rfl) (by first | rfl | (rw [ho]; try rfl)) ?_ | refine CallN.pure hP (x_vec_of _ _ _) fn96 (by first | rfl | (rw [ho]; try rfl)) (by rfl) (by first | rfl | (rw [ho]; try rfl)) ?_); (try rw [← ho]); cbv) | ((first | refine CallI.pure hP (x_quant_Right _) fn97 (by first | rfl | (rw [ho]; try rfl)) (by rfl) (by first | rfl | (rw [ho]; try rfl)) ?_ | refine CallN.pure hP (x_quant_Right _) fn97 (by first | rfl | (rw [ho]; try rfl)) (by rfl) (by first | rfl | (rw [ho]; try rfl)) ?_); (try rw [← ho]); generalize hr : amountRight _ = r; (try rw [ho] at hr); (try dsimp only [Ar.real, IX.vo] at hr); (try simp only [QSyVa] at hr); cbv) | ((first | refine CallI.pure hP (x_slot_Cmp _ _ _ _) fn98 (by first | rfl | (rw [ho]; try rfl)) (by rfl) (by first | rfl | (rw [ho]; try rfl)) ?_ | refine CallN.pure hP (x_slot_Cmp _ _ _ _) fn98 (by first | rfl | (rw [ho]; try rfl)) (by rfl) (by first | rfl | (rw [ho]; try rfl)) ?_); (try rw [← ho]); generalize hr : slotCmp _ _ _ _ = r; (try rw [ho] at hr); (try dsimp only [Ar.real, IX.vo] at hr); (try simp only [QSyVa] at hr); cbv) | (refine hK _ _ ?_) | (refine NeedT.mk ?_ ?_))
    all_goals first
      | ((try clear hR3); (try clear hR2); (try clear hR); (try clear hK); (try simp only [ncCast] at *); (try simp only [castI_eq] at *); (try rw [ho]); (try dsimp only [Ar.real, IX.vo, IX.val, BX.val, IX.toN]); (try simp only [QSyVa]); (try simp only [decide_eq_true_eq]); (all_goals (repeat rw [wrap_i64 (by omega) (by omega)])); (all_goals (first | omega | (simp only [Int.ofNat_eq_natCast]; omega))))
      | (have hlt : i < v.length := by omega
         refine .b ?_
         ((try clear hR3); (try clear hR2); (try clear hR); (try clear hK); (try simp only [ncCast] at *); (try simp only [castI_eq] at *); (try rw [ho]); (try dsimp only [Ar.real, IX.vo, IX.val, BX.val, IX.toN]); (try simp only [QSyVa]))
         rw [vecRight, nextAt_some (k := i) (Nat.zero_le _) hlt (by ((try clear hR3); (try clear hR2); (try clear hR); (try clear hK); (try simp only [ncCast] at *); (try simp only [castI_eq] at *)); (try rw [wrap_i64 (by omega) (by omega), show ((i : Int) - 1).toNat = i - 1 by omega] at hr); simp only [badAt]; clear hno; first | (simp_all; done) | (simp_all; omega)) (fun j _ h => hno j h)]
         rfl)
      | (refine .b ?_; ((try clear hR3); (try clear hR2); (try clear hR); (try clear hK); (try simp only [ncCast] at *); (try simp only [castI_eq] at *); (try rw [ho]); (try dsimp only [Ar.real, IX.vo, IX.val, BX.val, IX.toN]); (try simp only [QSyVa])); rw [vecRight, nextAt_none (fun j _ h => hno j (by omega))]; rfl)
      | (refine hR _ (i + 1) (by omega) ⟨by omega, fun j h1 => ?_⟩ ?_
         · rcases Nat.lt_or_ge j i with h3 | h3
           · exact hno j h3
           · obtain rfl : j = i := by omega
             ((try clear hR3); (try clear hR2); (try clear hR); (try clear hK); (try simp only [ncCast] at *); (try simp only [castI_eq] at *))
             (try rw [wrap_i64 (by omega) (by omega), show ((j : Int) - 1).toNat = j - 1 by omega] at hr)
             simp only [badAt]
             clear hno
             first | (simp_all; done) | (simp_all; omega)
         · (refine ⟨?_, ?_, ?_, ?_⟩ <;> cbv <;> repeat' (first | trivial | exact EqX.rfl' | exact EqO.rfl' | apply And.intro | ((try clear hR3); (try clear hR2); (try clear hR); (try clear hK); (try simp only [ncCast] at *); (try simp only [castI_eq] at *); refine EqX.i ?_; (try rw [ho]); (try dsimp only [Ar.real, IX.vo, IX.val, BX.val, IX.toN]); (try simp only [QSyVa]); (repeat rw [wrap_i64 (by omega) (by omega)]); omega))))
end Go.Proofs.YtlblpbahoblihaaGreat.Sy

/-
  Calls: right fields; right calls; by the program and by the document. Plain theorems.
-/
import Derived.Test.YtkjjihicaefmcaaDoorMa
import Derived.Test.YtkjjihicaefmcaaDoorSyZf
import Derived.Test.YtkjjihicaefmcaaDoorCards
import Derived.Test.YtkjjihicaefmcaaDoorTie
import Derived.Test.YtkjjihicaefmcaaDoorSyJd
import Derived.OpenShut
import Derived.Deep.DeepHandedRow
import Derived.Lib.LaidTab
set_option linter.unusedSectionVars false
set_option maxRecDepth 100000
set_option maxHeartbeats 8000000
set_option linter.unusedVariables false
set_option linter.unusedSimpArgs false
namespace Go.Proofs.YtkjjihicaefmcaaDoor.Sy
open Go Go.Sy Go.Proofs.YtkjjihicaefmcaaDoor
theorem x_Ix64 (q : Int → Bool) (g : FuncId) (hg : FnOk Tryd.prog g) (hq : ∀ a, XC Tryd.prog g [xi a] [] (xb (q a)) []) (l : List Int) (hl : l.length ≤ 1048576) :
    XC Tryd.prog 54 [.ro (SL Ar.real Go.Sy.encI l), .fn (.func g) [] []] [] (xi (ixR q l)) [] := by
  have h1 := fun i => ixR_hit (q := q) (l := l) (i := i)
  have h2 := ixR_none (q := q) (l := l)
  generalize ixR q l = r at *
  (refine XC.of_body ([]) Tryd.func54 rfl Tryd.ntmps54 mixed (T := tl54) tk54 (by kernel_rfl) (by simp) rfl rfl rfl rfl rfl ?_; rintro o ho P hP c K hK; have hm : P.follows .mixedOrders = true := hP ▸ mixed; have hT : TOk P tl54 := hP ▸ tk54; (try rw [← ho]); cbv; (repeat (refine StopN.mk ?_; cbv)))
  refine LoopN.over (o := o) (D := []) ho hm hT (by kernel_rfl) (fun i : Nat => [(8, xn i)]) (fun _ => []) (fun _ => []) (fun i => i ≤ l.length ∧ ∀ j, j < i → q (l.getD j default) = false) (fun i => l.length - i) 0 ⟨Nat.zero_le _, fun j hj => by omega⟩ ?_ ?_
  · (refine ⟨?_, ?_, ?_, ?_⟩ <;> cbv <;> repeat' (first | trivial | exact EqX.rfl' | exact EqO.rfl' | apply And.intro | ((try clear hR3); (try clear hR2); (try clear hR); (try clear hK); (try simp only [ncCast] at *); (try simp only [castI_eq] at *); refine EqX.i ?_; (try rw [ho]); (try dsimp only [Ar.real, IX.vo, IX.val, BX.val, IX.toN]); (try simp only [QU1, QB7]); (repeat rw [wrap_i64 (by omega) (by omega)]); omega)))
  · rintro i ⟨hi, hno⟩ R hR
    have e1 := hq (l.getD i default)
    have e2 := h1 i
    have el : o.nth l i = l.getD i default := by rw [ho, real_nth]
    rw [← el] at e1 e2
    have e3 := fun h : q (o.nth l i) = false => lt_step (p := fun j => q (l.getD j default) = false) hno (by rw [← el]; exact h)
    generalize q (o.nth l i) = b at *
    cbv
    repeat' (first | (refine Br.mk (fun hb => ?_) (fun hb => ?_) <;> ((try rw [ho] at hb); (try dsimp only [Ar.real, IX.vo] at hb); (try simp only [QU1, QB7] at hb); (try simp only [QBo, beq_iff_eq, beq_eq_false_iff_ne, ne_eq] at hb))) | (refine StopN.mk ?_; cbv) | (refine CallI.pure hP e1 hg rfl rfl rfl ?_); cbv | (refine hK _ _ ?_) | (refine NeedT.mk ?_ ?_))
    any_goals (((try clear hR3); (try clear hR2); (try clear hR); (try clear hK); (try simp only [ncCast] at *); (try simp only [castI_eq] at *); (try rw [ho]); (try dsimp only [Ar.real, IX.vo, IX.val, BX.val, IX.toN]); (try simp only [QU1, QB7]); (try simp only [decide_eq_true_eq]); (all_goals (repeat rw [wrap_i64 (by omega) (by omega)])); (all_goals (first | omega | (simp only [Int.ofNat_eq_natCast]; omega)))); done)
    · rw [e2 (by ((try clear hR3); (try clear hR2); (try clear hR); (try clear hK); (try simp only [ncCast] at *); (try simp only [castI_eq] at *)); omega) hno (by assumption)]
      exact .i rfl
    · refine hR _ (i + 1) (by show l.length - (i + 1) < l.length - i; ((try clear hR3); (try clear hR2); (try clear hR); (try clear hK); (try simp only [ncCast] at *); (try simp only [castI_eq] at *)); omega) ⟨by show i + 1 ≤ l.length; ((try clear hR3); (try clear hR2); (try clear hR); (try clear hK); (try simp only [ncCast] at *); (try simp only [castI_eq] at *)); omega, e3 (by assumption)⟩ ?_
      (refine ⟨?_, ?_, ?_, ?_⟩ <;> cbv <;> repeat' (first | trivial | exact EqX.rfl' | exact EqO.rfl' | apply And.intro | ((try clear hR3); (try clear hR2); (try clear hR); (try clear hK); (try simp only [ncCast] at *); (try simp only [castI_eq] at *); refine EqX.i ?_; (try rw [ho]); (try dsimp only [Ar.real, IX.vo, IX.val, BX.val, IX.toN]); (try simp only [QU1, QB7]); (repeat rw [wrap_i64 (by omega) (by omega)]); omega)))
    · obtain rfl : i = l.length := by ((try clear hR3); (try clear hR2); (try clear hR); (try clear hK); (try simp only [ncCast] at *); (try simp only [castI_eq] at *)); omega
      rw [h2 hno]
      exact .i rfl
theorem x_CF64 (q : Int → Bool) (g : FuncId) (hg : FnOk Tryd.prog g) (hq : ∀ a, XC Tryd.prog g [xi a] [] (xb (q a)) []) (l : List Int) (hl : l.length ≤ 1048576) :
    XC Tryd.prog 41 [.ro (SL Ar.real Go.Sy.encI l), .fn (.func g) [] []] [] (xb (l.any q)) [] := by
  have h := x_Ix64 q g hg hq l hl
  have e := ixR_any q l
  generalize l.any q = r at *
  generalize ixR q l = n at *
  (refine XC.of_body ([]) Tryd.func41 rfl Tryd.ntmps41 mixed (T := tl41) tk41 (by kernel_rfl) (by simp) rfl rfl rfl rfl rfl ?_; rintro o ho P hP c K hK; have hm : P.follows .mixedOrders = true := hP ▸ mixed; have hT : TOk P tl41 := hP ▸ tk41; (try rw [← ho]); cbv; (repeat (refine StopN.mk ?_; cbv)))
  rw [← ho] at h
  repeat' (first | (refine Br.mk (fun hb => ?_) (fun hb => ?_) <;> ((try rw [ho] at hb); (try dsimp only [Ar.real, IX.vo] at hb); (try simp only [QU1, QB7] at hb); (try simp only [QBo, beq_iff_eq, beq_eq_false_iff_ne, ne_eq] at hb))) | (refine StopN.mk ?_; cbv) | (refine CallI.pure hP h fn54 rfl rfl rfl ?_); cbv | (refine hK _ _ ?_) | (refine NeedT.mk ?_ ?_))
  refine .b ?_
  ((try clear hR3); (try clear hR2); (try clear hR); (try clear hK); (try simp only [ncCast] at *); (try simp only [castI_eq] at *); (try rw [ho]); (try dsimp only [Ar.real, IX.vo, IX.val, BX.val, IX.toN]); (try simp only [QU1, QB7]))
  exact e
theorem x_IxOp (q : Opn → Bool) (g : FuncId) (hg : FnOk Tryd.prog g) (l : List Opn) (hq : ∀ i, XC Tryd.prog g [.agg (Opn.X Ar.real (l.getD i default))] [] (xb (q (l.getD i default))) []) (hl : l.length ≤ 1048576) :
    XC Tryd.prog 56 [.ro (SL Ar.real Opn.X l), .fn (.func g) [] []] [] (xi (ixR q l)) [] := by
  have h1 := fun i => ixR_hit (q := q) (l := l) (i := i)
  have h2 := ixR_none (q := q) (l := l)
  generalize ixR q l = r at *
  (refine XC.of_body ([]) Tryd.func56 rfl Tryd.ntmps56 mixed (T := tl56) tk56 (by kernel_rfl) (by simp) rfl rfl rfl rfl rfl ?_; rintro o ho P hP c K hK; have hm : P.follows .mixedOrders = true := hP ▸ mixed; have hT : TOk P tl56 := hP ▸ tk56; (try rw [← ho]); cbv; (repeat (refine StopN.mk ?_; cbv)))
  refine LoopN.over (o := o) (D := []) ho hm hT (by kernel_rfl) (fun i : Nat => [(8, xn i)]) (fun _ => []) (fun _ => []) (fun i => i ≤ l.length ∧ ∀ j, j < i → q (l.getD j default) = false) (fun i => l.length - i) 0 ⟨Nat.zero_le _, fun j hj => by omega⟩ ?_ ?_
  · (refine ⟨?_, ?_, ?_, ?_⟩ <;> cbv <;> repeat' (first | trivial | exact EqX.rfl' | exact EqO.rfl' | apply And.intro | ((try clear hR3); (try clear hR2); (try clear hR); (try clear hK); (try simp only [ncCast] at *); (try simp only [castI_eq] at *); refine EqX.i ?_; (try rw [ho]); (try dsimp only [Ar.real, IX.vo, IX.val, BX.val, IX.toN]); (try simp only [QU1, QB7]); (repeat rw [wrap_i64 (by omega) (by omega)]); omega)))
  · rintro i ⟨hi, hno⟩ R hR
    have e1 := hq i
    have e2 := h1 i
    have el : o.nth l i = l.getD i default := by rw [ho, real_nth]
    rw [← ho, ← el] at e1
    rw [← el] at e2
    have e3 := fun h : q (o.nth l i) = false => lt_step (p := fun j => q (l.getD j default) = false) hno (by rw [← el]; exact h)
    generalize q (o.nth l i) = b at *
    cbv
    repeat' (first | (refine Br.mk (fun hb => ?_) (fun hb => ?_) <;> ((try rw [ho] at hb); (try dsimp only [Ar.real, IX.vo] at hb); (try simp only [QU1, QB7] at hb); (try simp only [QBo, beq_iff_eq, beq_eq_false_iff_ne, ne_eq] at hb))) | (refine StopN.mk ?_; cbv) | (refine CallI.pure hP e1 hg rfl rfl rfl ?_); cbv | (refine hK _ _ ?_) | (refine NeedT.mk ?_ ?_))
    any_goals (((try clear hR3); (try clear hR2); (try clear hR); (try clear hK); (try simp only [ncCast] at *); (try simp only [castI_eq] at *); (try rw [ho]); (try dsimp only [Ar.real, IX.vo, IX.val, BX.val, IX.toN]); (try simp only [QU1, QB7]); (try simp only [decide_eq_true_eq]); (all_goals (repeat rw [wrap_i64 (by omega) (by omega)])); (all_goals (first | omega | (simp only [Int.ofNat_eq_natCast]; omega)))); done)
    · rw [e2 (by ((try clear hR3); (try clear hR2); (try clear hR); (try clear hK); (try simp only [ncCast] at *); (try simp only [castI_eq] at *)); omega) hno (by assumption)]
      exact .i rfl
    · refine hR _ (i + 1) (by show l.length - (i + 1) < l.length - i; ((try clear hR3); (try clear hR2); (try clear hR); (try clear hK); (try simp only [ncCast] at *); (try simp only [castI_eq] at *)); omega) ⟨by show i + 1 ≤ l.length; ((try clear hR3); (try clear hR2); (try clear hR); (try clear hK); (try simp only [ncCast] at *); (try simp only [castI_eq] at *)); omega, e3 (by assumption)⟩ ?_
      (refine ⟨?_, ?_, ?_, ?_⟩ <;> cbv <;> repeat' (first | trivial | exact EqX.rfl' | exact EqO.rfl' | apply And.intro | ((try clear hR3); (try clear hR2); (try clear hR); (try clear hK); (try simp only [ncCast] at *); (try simp only [castI_eq] at *); refine EqX.i ?_; (try rw [ho]); (try dsimp only [Ar.real, IX.vo, IX.val, BX.val, IX.toN]); (try simp only [QU1, QB7]); (repeat rw [wrap_i64 (by omega) (by omega)]); omega)))
    · obtain rfl : i = l.length := by ((try clear hR3); (try clear hR2); (try clear hR); (try clear hK); (try simp only [ncCast] at *); (try simp only [castI_eq] at *)); omega
      rw [h2 hno]
      exact .i rfl
theorem x_CFOp (q : Opn → Bool) (g : FuncId) (hg : FnOk Tryd.prog g) (l : List Opn) (hq : ∀ i, XC Tryd.prog g [.agg (Opn.X Ar.real (l.getD i default))] [] (xb (q (l.getD i default))) []) (hl : l.length ≤ 1048576) :
    XC Tryd.prog 44 [.ro (SL Ar.real Opn.X l), .fn (.func g) [] []] [] (xb (l.any q)) [] := by
  have h := x_IxOp q g hg l hq hl
  have e := ixR_any q l
  generalize l.any q = r at *
  generalize ixR q l = n at *
  (refine XC.of_body ([]) Tryd.func44 rfl Tryd.ntmps44 mixed (T := tl44) tk44 (by kernel_rfl) (by simp) rfl rfl rfl rfl rfl ?_; rintro o ho P hP c K hK; have hm : P.follows .mixedOrders = true := hP ▸ mixed; have hT : TOk P tl44 := hP ▸ tk44; (try rw [← ho]); cbv; (repeat (refine StopN.mk ?_; cbv)))
  rw [← ho] at h
  repeat' (first | (refine Br.mk (fun hb => ?_) (fun hb => ?_) <;> ((try rw [ho] at hb); (try dsimp only [Ar.real, IX.vo] at hb); (try simp only [QU1, QB7] at hb); (try simp only [QBo, beq_iff_eq, beq_eq_false_iff_ne, ne_eq] at hb))) | (refine StopN.mk ?_; cbv) | (refine CallI.pure hP h fn56 rfl rfl rfl ?_); cbv | (refine hK _ _ ?_) | (refine NeedT.mk ?_ ?_))
  refine .b ?_
  ((try clear hR3); (try clear hR2); (try clear hR); (try clear hK); (try simp only [ncCast] at *); (try simp only [castI_eq] at *); (try rw [ho]); (try dsimp only [Ar.real, IX.vo, IX.val, BX.val, IX.toN]); (try simp only [QU1, QB7]))
  exact e
theorem x_right1 (a : Int) : XC Tryd.prog 42 [xi a] [] (xb (!numN a)) [] := by
  have h := x_snum a
  generalize numN a = r at *
  (refine XC.of_body ([]) Tryd.func42 rfl Tryd.ntmps42 mixed (T := tl42) tk42 (by kernel_rfl) (by simp) rfl rfl rfl rfl rfl ?_; rintro o ho P hP c K hK; have hm : P.follows .mixedOrders = true := hP ▸ mixed; have hT : TOk P tl42 := hP ▸ tk42; (try rw [← ho]); cbv; (repeat (refine StopN.mk ?_; cbv)))
  repeat' (first | (refine Br.mk (fun hb => ?_) (fun hb => ?_) <;> ((try rw [ho] at hb); (try dsimp only [Ar.real, IX.vo] at hb); (try simp only [QU1, QB7] at hb); (try simp only [QBo, beq_iff_eq, beq_eq_false_iff_ne, ne_eq] at hb))) | (refine StopN.mk ?_; cbv) | (refine CallI.pure hP h fn40 rfl rfl rfl ?_); cbv | (refine hK _ _ ?_) | (refine NeedT.mk ?_ ?_))
  refine .b ?_
  ((try clear hR3); (try clear hR2); (try clear hR); (try clear hK); (try simp only [ncCast] at *); (try simp only [castI_eq] at *); (try rw [ho]); (try dsimp only [Ar.real, IX.vo, IX.val, BX.val, IX.toN]); (try simp only [QU1, QB7]))
theorem x_right2 (p : Opn) (hp : p.vec.length ≤ 1048576) : XC Tryd.prog 45 [.agg (Opn.X Ar.real p)] [] (xb (!opB p)) [] := by
  have h := x_sop p hp
  generalize opB p = r at *
  obtain ⟨k1, k2, vec⟩ := p
  (refine XC.of_body ([]) Tryd.func45 rfl Tryd.ntmps45 mixed (T := tl45) tk45 (by kernel_rfl) (by simp) rfl rfl rfl rfl rfl ?_; rintro o ho P hP c K hK; have hm : P.follows .mixedOrders = true := hP ▸ mixed; have hT : TOk P tl45 := hP ▸ tk45; (try rw [← ho]); cbv; (repeat (refine StopN.mk ?_; cbv)))
  rw [← ho] at h
  repeat' (first | (refine Br.mk (fun hb => ?_) (fun hb => ?_) <;> ((try rw [ho] at hb); (try dsimp only [Ar.real, IX.vo] at hb); (try simp only [QU1, QB7] at hb); (try simp only [QBo, beq_iff_eq, beq_eq_false_iff_ne, ne_eq] at hb))) | (refine StopN.mk ?_; cbv) | (refine CallI.pure hP h fn46 rfl rfl rfl ?_); cbv | (refine hK _ _ ?_) | (refine NeedT.mk ?_ ?_))
  refine .b ?_
  ((try clear hR3); (try clear hR2); (try clear hR); (try clear hK); (try simp only [ncCast] at *); (try simp only [castI_eq] at *); (try rw [ho]); (try dsimp only [Ar.real, IX.vo, IX.val, BX.val, IX.toN]); (try simp only [QU1, QB7]))
theorem any_not {α : Type} (q : α → Bool) (l : List α) : (l.any fun x => !q x) = !l.all q := by rw [List.all_eq_not_any_not, Bool.not_not]
theorem x_sright (c : Cal) (hc : CalOk c) (f : Int) : XC Tryd.prog 21 [.agg (Cal.X Ar.real c), xi f] [] (xb (fieldB c f)) [] := by
  have a0 := x_snum c.frame
  have a1 := x_snum c.agent
  have a2 := x_snum c.id
  have a5 := x_snum c.time
  have a6 := x_CF64 (fun n => !numN n) 42 fn42 x_right1 c.ids hc.n_ids
  have a7 := x_some14 c.vec hc.n_vec
  have a8 := x_CFOp (fun p => !opB p) 45 fn45 c.ops (fun i => x_right2 _ (hc.o1 i)) hc.n_ops
  rw [any_not] at a6 a8
  have n1 := hc.n_ids
  have n2 := hc.n_vec
  have n3 := hc.n_ops
  have E0 : f = 0 → fieldB c f = numN c.frame := fun h => by rw [h]; rfl
  have E1 : f = 1 → fieldB c f = numN c.agent := fun h => by rw [h]; rfl
  have E2 : f = 2 → fieldB c f = numN c.id := fun h => by rw [h]; rfl
  have E3 : f = 3 → fieldB c f = (decide (1 ≤ c.role) && decide (c.role ≤ 32)) := fun h => by rw [h]; rfl
  have E4 : f = 4 → fieldB c f = (decide (1 ≤ c.weight) && decide (c.weight ≤ 1000)) := fun h => by rw [h]; rfl
  have E5 : f = 5 → fieldB c f = (decide (c.time = 0) || numN c.time) := fun h => by rw [h]; rfl
  have E6 : f = 6 → fieldB c f = ((decide (1 ≤ c.ids.length) && decide (c.ids.length ≤ 32)) && c.ids.all numN) := fun h => by rw [h]; rfl
  have E7 : f = 7 → fieldB c f = someB c.vec := fun h => by rw [h]; rfl
  have E8 : f ≠ 0 → f ≠ 1 → f ≠ 2 → f ≠ 3 → f ≠ 4 → f ≠ 5 → f ≠ 6 → f ≠ 7 → fieldB c f = (decide (c.ops.length ≤ 32) && c.ops.all opB) := fun _ _ _ _ _ _ _ _ => by
    unfold fieldB
    repeat rw [if_neg (by assumption)]
  generalize fieldB c f = r at *
  generalize c.ids.all numN = b6 at *
  generalize c.ops.all opB = b8 at *
  generalize someB c.vec = b7 at *
  generalize numN c.frame = b0 at *
  generalize numN c.agent = b1 at *
  generalize numN c.id = b2 at *
  generalize numN c.time = b5 at *
  obtain ⟨k1, k2, k3, k4, k5, k6, k7, ids, vec, ops⟩ := c
  clear hc
  dsimp only at *
  (refine XC.of_body ([]) Tryd.func21 rfl Tryd.ntmps21 mixed (T := tl21) tk21 (by kernel_rfl) (by simp) rfl rfl rfl rfl rfl ?_; rintro o ho P hP c K hK; have hm : P.follows .mixedOrders = true := hP ▸ mixed; have hT : TOk P tl21 := hP ▸ tk21; (try rw [← ho]); cbv; (repeat (refine StopN.mk ?_; cbv)))
  rw [← ho] at a6 a7 a8
  repeat' (first | (refine Br.mk (fun hb => ?_) (fun hb => ?_) <;> ((try rw [ho] at hb); (try dsimp only [Ar.real, IX.vo] at hb); (try simp only [QU1, QB7] at hb); (try simp only [QBo, beq_iff_eq, beq_eq_false_iff_ne, ne_eq] at hb))) | (refine StopN.mk ?_; cbv) | (first | refine CallI.pure hP a0 fn40 rfl rfl rfl ?_ | refine CallI.pure hP a1 fn40 rfl rfl rfl ?_ | refine CallI.pure hP a2 fn40 rfl rfl rfl ?_ | refine CallI.pure hP a5 fn40 rfl rfl rfl ?_ | refine CallI.pure hP a6 fn41 rfl rfl rfl ?_ | refine CallI.pure hP a7 fn43 rfl rfl rfl ?_ | refine CallI.pure hP a8 fn44 rfl rfl rfl ?_); cbv | (refine hK _ _ ?_) | (refine NeedT.mk ?_ ?_))
  all_goals first
    | (refine .b ?_; (first | rw [E0 ‹_›] | rw [E1 ‹_›] | rw [E2 ‹_›] | rw [E3 ‹_›] | rw [E4 ‹_›] | rw [E5 ‹_›] | rw [E6 ‹_›] | rw [E7 ‹_›] | rw [E8 ‹_› ‹_› ‹_› ‹_› ‹_› ‹_› ‹_› ‹_›]); ((try clear hR3); (try clear hR2); (try clear hR); (try clear hK); (try simp only [ncCast] at *); (try simp only [castI_eq] at *); (try rw [ho]); (try dsimp only [Ar.real, IX.vo, IX.val, BX.val, IX.toN]); (try simp only [QU1, QB7])); (try (cases b6 <;> cases b8 <;> simp [*] <;> omega)))
theorem x_r14field (c : Cal) (hc : CalOk c) (f : Int) : XC Tryd.prog 51 [.agg (Cal.X Ar.real c), xi f] [] (xb (fieldB c f)) [] := by
  have a0 := x_r14num c.frame
  have a1 := x_r14num c.agent
  have a2 := x_r14num c.id
  have a5 := x_r14num c.time
  have a6 := fun i => x_r14num (c.ids.getD i default)
  have a7 := x_r05Right c.vec hc.n_vec
  have a8 := fun i => x_r14op (c.ops.getD i default) (hc.o1 i)
  have n1 := hc.n_ids
  have n2 := hc.n_vec
  have n3 := hc.n_ops
  have E0 : f = 0 → fieldB c f = numN c.frame := fun h => by rw [h]; rfl
  have E1 : f = 1 → fieldB c f = numN c.agent := fun h => by rw [h]; rfl
  have E2 : f = 2 → fieldB c f = numN c.id := fun h => by rw [h]; rfl
  have E3 : f = 3 → fieldB c f = (decide (1 ≤ c.role) && decide (c.role ≤ 32)) := fun h => by rw [h]; rfl
  have E4 : f = 4 → fieldB c f = (decide (1 ≤ c.weight) && decide (c.weight ≤ 1000)) := fun h => by rw [h]; rfl
  have E5 : f = 5 → fieldB c f = (decide (c.time = 0) || numN c.time) := fun h => by rw [h]; rfl
  have E7 : f = 7 → fieldB c f = (vecRight c.vec && decide (0 < c.vec.length)) := fun h => by rw [h, Bool.and_comm]; rfl
  have X6 : f = 6 → fieldB c f = ((decide (1 ≤ c.ids.length) && decide (c.ids.length ≤ 32)) && c.ids.all numN) := fun h => by rw [h]; rfl
  have X8 : f ≠ 0 → f ≠ 1 → f ≠ 2 → f ≠ 3 → f ≠ 4 → f ≠ 5 → f ≠ 6 → f ≠ 7 → fieldB c f = (decide (c.ops.length ≤ 32) && c.ops.all opB) := fun _ _ _ _ _ _ _ _ => by
    unfold fieldB
    repeat rw [if_neg (by assumption)]
  have A6 : f = 6 → ∀ i, i < c.ids.length → numN (c.ids.getD i default) = false → fieldB c f = false := fun h i hi h2 => by rw [X6 h, all_idx_f hi h2, Bool.and_false]
  have B6 : f = 6 → (∀ i, i < c.ids.length → numN (c.ids.getD i default) = true) → fieldB c f = (decide (1 ≤ c.ids.length) && decide (c.ids.length ≤ 32)) := fun h h2 => by rw [X6 h, all_idx.2 h2, Bool.and_true]
  have A8 : f ≠ 0 → f ≠ 1 → f ≠ 2 → f ≠ 3 → f ≠ 4 → f ≠ 5 → f ≠ 6 → f ≠ 7 → ∀ i, i < c.ops.length → opB (c.ops.getD i default) = false → fieldB c f = false := fun b0 b1 b2 b3 b4 b5 b6 b7 i hi h2 => by rw [X8 b0 b1 b2 b3 b4 b5 b6 b7, all_idx_f hi h2, Bool.and_false]
  have B8 : f ≠ 0 → f ≠ 1 → f ≠ 2 → f ≠ 3 → f ≠ 4 → f ≠ 5 → f ≠ 6 → f ≠ 7 → (∀ i, i < c.ops.length → opB (c.ops.getD i default) = true) → fieldB c f = decide (c.ops.length ≤ 32) := fun b0 b1 b2 b3 b4 b5 b6 b7 h2 => by rw [X8 b0 b1 b2 b3 b4 b5 b6 b7, all_idx.2 h2, Bool.and_true]
  clear X6 X8
  generalize fieldB c f = r at *
  generalize vecRight c.vec = b7 at *
  generalize numN c.frame = b0 at *
  generalize numN c.agent = b1 at *
  generalize numN c.id = b2 at *
  generalize numN c.time = b5 at *
  obtain ⟨k1, k2, k3, k4, k5, k6, k7, ids, vec, ops⟩ := c
  clear hc
  dsimp only at *
  (refine XC.of_body ([]) Tryd.func51 rfl Tryd.ntmps51 mixed (T := tl51) tk51 (by kernel_rfl) (by simp) rfl rfl rfl rfl rfl ?_; rintro o ho P hP c K hK; have hm : P.follows .mixedOrders = true := hP ▸ mixed; have hT : TOk P tl51 := hP ▸ tk51; (try rw [← ho]); cbv; (repeat (refine StopN.mk ?_; cbv)))
  rw [← ho] at a7
  repeat' (first | (refine Br.mk (fun hb => ?_) (fun hb => ?_) <;> ((try rw [ho] at hb); (try dsimp only [Ar.real, IX.vo] at hb); (try simp only [QU1, QB7] at hb); (try simp only [QBo, beq_iff_eq, beq_eq_false_iff_ne, ne_eq] at hb))) | (refine StopN.mk ?_; cbv) | (first | refine CallI.pure hP a0 fn61 rfl rfl rfl ?_ | refine CallI.pure hP a1 fn61 rfl rfl rfl ?_ | refine CallI.pure hP a2 fn61 rfl rfl rfl ?_ | refine CallI.pure hP a5 fn61 rfl rfl rfl ?_ | refine CallI.pure hP a7 fn62 rfl rfl rfl ?_); cbv | (refine CallI.pure hP (x_r14op _ ‹_›) fn63 (by first | rfl | (rw [ho]; try rfl)) (by rfl) (by first | rfl | (rw [ho]; try rfl)) ?_; (try rw [← ho]); generalize hr : opB _ = r; (try rw [ho] at hr); (try dsimp only [Ar.real, IX.vo] at hr); (try simp only [QU1, QB7] at hr); cbv) | (refine hK _ _ ?_) | (refine NeedT.mk ?_ ?_))
  all_goals try first
    | (refine .b ?_; (first | rw [E0 ‹_›] | rw [E1 ‹_›] | rw [E2 ‹_›] | rw [E3 ‹_›] | rw [E4 ‹_›] | rw [E5 ‹_›] | rw [E7 ‹_›]); ((try clear hR3); (try clear hR2); (try clear hR); (try clear hK); (try simp only [ncCast] at *); (try simp only [castI_eq] at *); (try rw [ho]); (try dsimp only [Ar.real, IX.vo, IX.val, BX.val, IX.toN]); (try simp only [QU1, QB7])); (try simp [*]); (try omega); done)
  · have A6 := A6 ‹_›
    have B6 := B6 ‹_›
    clear E0 E1 E2 E3 E4 E5 E7 A8 B8 a0 a1 a2 a5 a7 a8
    refine LoopN.over (o := o) (D := []) ho hm hT (by kernel_rfl) (fun i : Nat => [(5, xn i)]) (fun _ => []) (fun _ => []) (fun i => i ≤ ids.length ∧ ∀ j, j < i → numN (ids.getD j default) = true) (fun i => ids.length - i) 0 ⟨Nat.zero_le _, fun j hj => by omega⟩ ?_ ?_
    · (refine ⟨?_, ?_, ?_, ?_⟩ <;> cbv <;> repeat' (first | trivial | exact EqX.rfl' | exact EqO.rfl' | apply And.intro | ((try clear hR3); (try clear hR2); (try clear hR); (try clear hK); (try simp only [ncCast] at *); (try simp only [castI_eq] at *); refine EqX.i ?_; (try rw [ho]); (try dsimp only [Ar.real, IX.vo, IX.val, BX.val, IX.toN]); (try simp only [QU1, QB7]); (repeat rw [wrap_i64 (by omega) (by omega)]); omega)))
    · rintro i ⟨hi, hno⟩ R hR
      have e1 := a6 i
      have e2 := A6 i
      have el : o.nth ids i = ids.getD i default := by rw [ho, real_nth]
      rw [← el] at e1 e2
      have e3 := fun h : numN (o.nth ids i) = true => lt_step (p := fun j => numN (ids.getD j default) = true) hno (by rw [← el]; exact h)
      generalize numN (o.nth ids i) = b at *
      clear a6 A6
      cbv
      repeat' (first | (refine Br.mk (fun hb => ?_) (fun hb => ?_) <;> ((try rw [ho] at hb); (try dsimp only [Ar.real, IX.vo] at hb); (try simp only [QU1, QB7] at hb); (try simp only [QBo, beq_iff_eq, beq_eq_false_iff_ne, ne_eq] at hb))) | (refine StopN.mk ?_; cbv) | (refine CallI.pure hP e1 fn61 rfl rfl rfl ?_); cbv | (refine CallI.pure hP (x_r05Right _ ‹_›) fn62 (by first | rfl | (rw [ho]; try rfl)) (by rfl) (by first | rfl | (rw [ho]; try rfl)) ?_; (try rw [← ho]); generalize hr : vecRight _ = r; (try rw [ho] at hr); (try dsimp only [Ar.real, IX.vo] at hr); (try simp only [QU1, QB7] at hr); cbv) | (refine CallI.pure hP (x_r14op _ ‹_›) fn63 (by first | rfl | (rw [ho]; try rfl)) (by rfl) (by first | rfl | (rw [ho]; try rfl)) ?_; (try rw [← ho]); generalize hr : opB _ = r; (try rw [ho] at hr); (try dsimp only [Ar.real, IX.vo] at hr); (try simp only [QU1, QB7] at hr); cbv) | (refine hK _ _ ?_) | (refine NeedT.mk ?_ ?_))
      any_goals (((try clear hR3); (try clear hR2); (try clear hR); (try clear hK); (try simp only [ncCast] at *); (try simp only [castI_eq] at *); (try rw [ho]); (try dsimp only [Ar.real, IX.vo, IX.val, BX.val, IX.toN]); (try simp only [QU1, QB7]); (try simp only [decide_eq_true_eq]); (all_goals (repeat rw [wrap_i64 (by omega) (by omega)])); (all_goals (first | omega | (simp only [Int.ofNat_eq_natCast]; omega)))); done)
      all_goals first
        | (rw [e2 (by ((try clear hR3); (try clear hR2); (try clear hR); (try clear hK); (try simp only [ncCast] at *); (try simp only [castI_eq] at *)); omega) (by assumption)]; exact .b rfl)
        | (refine hR _ (i + 1) (by show ids.length - (i + 1) < ids.length - i; ((try clear hR3); (try clear hR2); (try clear hR); (try clear hK); (try simp only [ncCast] at *); (try simp only [castI_eq] at *)); omega) ⟨by show i + 1 ≤ ids.length; ((try clear hR3); (try clear hR2); (try clear hR); (try clear hK); (try simp only [ncCast] at *); (try simp only [castI_eq] at *)); omega, e3 (by assumption)⟩ ?_
           (refine ⟨?_, ?_, ?_, ?_⟩ <;> cbv <;> repeat' (first | trivial | exact EqX.rfl' | exact EqO.rfl' | apply And.intro | ((try clear hR3); (try clear hR2); (try clear hR); (try clear hK); (try simp only [ncCast] at *); (try simp only [castI_eq] at *); refine EqX.i ?_; (try rw [ho]); (try dsimp only [Ar.real, IX.vo, IX.val, BX.val, IX.toN]); (try simp only [QU1, QB7]); (repeat rw [wrap_i64 (by omega) (by omega)]); omega))))
        | (have hE : i = ids.length := by ((try clear hR3); (try clear hR2); (try clear hR); (try clear hK); (try simp only [ncCast] at *); (try simp only [castI_eq] at *)); omega
           rw [hE] at hno
           refine .b ?_
           rw [B6 hno]
           ((try clear hR3); (try clear hR2); (try clear hR); (try clear hK); (try simp only [ncCast] at *); (try simp only [castI_eq] at *); (try rw [ho]); (try dsimp only [Ar.real, IX.vo, IX.val, BX.val, IX.toN]); (try simp only [QU1, QB7]))
           (by_cases h1 : 1 ≤ ids.length <;> by_cases h2 : ids.length ≤ 32 <;> simp [h1, h2] <;> omega))
  · have A8 := A8 ‹_› ‹_› ‹_› ‹_› ‹_› ‹_› ‹_› ‹_›
    have B8 := B8 ‹_› ‹_› ‹_› ‹_› ‹_› ‹_› ‹_› ‹_›
    clear E0 E1 E2 E3 E4 E5 E7 A6 B6 a0 a1 a2 a5 a7 a6
    refine LoopN.over (o := o) (D := []) ho hm hT (by kernel_rfl) (fun i : Nat => [(6, xn i)]) (fun _ => []) (fun _ => []) (fun i => i ≤ ops.length ∧ ∀ j, j < i → opB (ops.getD j default) = true) (fun i => ops.length - i) 0 ⟨Nat.zero_le _, fun j hj => by omega⟩ ?_ ?_
    · (refine ⟨?_, ?_, ?_, ?_⟩ <;> cbv <;> repeat' (first | trivial | exact EqX.rfl' | exact EqO.rfl' | apply And.intro | ((try clear hR3); (try clear hR2); (try clear hR); (try clear hK); (try simp only [ncCast] at *); (try simp only [castI_eq] at *); refine EqX.i ?_; (try rw [ho]); (try dsimp only [Ar.real, IX.vo, IX.val, BX.val, IX.toN]); (try simp only [QU1, QB7]); (repeat rw [wrap_i64 (by omega) (by omega)]); omega)))
    · rintro i ⟨hi, hno⟩ R hR
      have e1 := a8 i
      have e2 := A8 i
      have el : o.nth ops i = ops.getD i default := by rw [ho, real_nth]
      rw [← el] at e1 e2
      rw [← ho] at e1
      have e3 := fun h : opB (o.nth ops i) = true => lt_step (p := fun j => opB (ops.getD j default) = true) hno (by rw [← el]; exact h)
      generalize opB (o.nth ops i) = b at *
      clear a8 A8
      cbv
      repeat' (first | (refine Br.mk (fun hb => ?_) (fun hb => ?_) <;> ((try rw [ho] at hb); (try dsimp only [Ar.real, IX.vo] at hb); (try simp only [QU1, QB7] at hb); (try simp only [QBo, beq_iff_eq, beq_eq_false_iff_ne, ne_eq] at hb))) | (refine StopN.mk ?_; cbv) | (refine CallI.pure hP e1 fn63 rfl rfl rfl ?_); cbv | (refine CallI.pure hP (x_r14num _) fn61 (by first | rfl | (rw [ho]; try rfl)) (by rfl) (by first | rfl | (rw [ho]; try rfl)) ?_; (try rw [← ho]); generalize hr : numN _ = r; (try rw [ho] at hr); (try dsimp only [Ar.real, IX.vo] at hr); (try simp only [QU1, QB7] at hr); cbv) | (refine CallI.pure hP (x_r05Right _ ‹_›) fn62 (by first | rfl | (rw [ho]; try rfl)) (by rfl) (by first | rfl | (rw [ho]; try rfl)) ?_; (try rw [← ho]); generalize hr : vecRight _ = r; (try rw [ho] at hr); (try dsimp only [Ar.real, IX.vo] at hr); (try simp only [QU1, QB7] at hr); cbv) | (refine hK _ _ ?_) | (refine NeedT.mk ?_ ?_))
      any_goals (((try clear hR3); (try clear hR2); (try clear hR); (try clear hK); (try simp only [ncCast] at *); (try simp only [castI_eq] at *); (try rw [ho]); (try dsimp only [Ar.real, IX.vo, IX.val, BX.val, IX.toN]); (try simp only [QU1, QB7]); (try simp only [decide_eq_true_eq]); (all_goals (repeat rw [wrap_i64 (by omega) (by omega)])); (all_goals (first | omega | (simp only [Int.ofNat_eq_natCast]; omega)))); done)
      all_goals first
        | (rw [e2 (by ((try clear hR3); (try clear hR2); (try clear hR); (try clear hK); (try simp only [ncCast] at *); (try simp only [castI_eq] at *)); omega) (by assumption)]; exact .b rfl)
        | (refine hR _ (i + 1) (by show ops.length - (i + 1) < ops.length - i; ((try clear hR3); (try clear hR2); (try clear hR); (try clear hK); (try simp only [ncCast] at *); (try simp only [castI_eq] at *)); omega) ⟨by show i + 1 ≤ ops.length; ((try clear hR3); (try clear hR2); (try clear hR); (try clear hK); (try simp only [ncCast] at *); (try simp only [castI_eq] at *)); omega, e3 (by assumption)⟩ ?_
           (refine ⟨?_, ?_, ?_, ?_⟩ <;> cbv <;> repeat' (first | trivial | exact EqX.rfl' | exact EqO.rfl' | apply And.intro | ((try clear hR3); (try clear hR2); (try clear hR); (try clear hK); (try simp only [ncCast] at *); (try simp only [castI_eq] at *); refine EqX.i ?_; (try rw [ho]); (try dsimp only [Ar.real, IX.vo, IX.val, BX.val, IX.toN]); (try simp only [QU1, QB7]); (repeat rw [wrap_i64 (by omega) (by omega)]); omega))))
        | (have hE : i = ops.length := by ((try clear hR3); (try clear hR2); (try clear hR); (try clear hK); (try simp only [ncCast] at *); (try simp only [castI_eq] at *)); omega
           rw [hE] at hno
           refine .b ?_
           rw [B8 hno]
           ((try clear hR3); (try clear hR2); (try clear hR); (try clear hK); (try simp only [ncCast] at *); (try simp only [castI_eq] at *); (try rw [ho]); (try dsimp only [Ar.real, IX.vo, IX.val, BX.val, IX.toN]); (try simp only [QU1, QB7]))
           exact decide_eq_decide.2 (by omega))
end Go.Proofs.YtkjjihicaefmcaaDoor.Sy
namespace Go.Proofs.YtkjjihicaefmcaaDoor.Sy
open Go Go.Sy Go.Proofs.YtkjjihicaefmcaaDoor
theorem x_r14Right (c : Cal) (hc : CalOk c) : XC Tryd.prog 25 [.agg (Cal.X Ar.real c)] [] (xb (formB c)) [] := by
  have hF : ∀ i : Nat, XC Tryd.prog 51 [.agg (Cal.X Ar.real c), xn i] [] (xb (fieldB c i)) [] := fun i => XC_at (x_r14field c hc i) (fun c => rfl) (fun c => rfl)
  have hH : ∀ i : Nat, XC Tryd.prog 14 [xi c.kind, xn i] [] (xb (hasP c.kind i)) [] := fun i => XC_at (x_r14Has c.kind i) (fun c => rfl) (fun c => rfl)
  have R := formB_iff c
  have G1 : ∀ i : Nat, i ≤ 8 → hasP c.kind i = true → fieldB c i = false → formB c = false := fun i hi h1 h2 => by
    rw [← Bool.not_eq_true]
    intro h3
    rw [(R.1 h3).2 i (by omega) (by omega) h1] at h2
    cases h2
  have G0 : (∀ i : Nat, i < 9 → hasP c.kind i = true → fieldB c i = true) → formB c = (decide (1 ≤ c.kind) && decide (c.kind ≤ 15)) := fun h => by
    by_cases hk : 1 ≤ c.kind ∧ c.kind ≤ 15
    · rw [R.2 ⟨hk, fun f h1 h2 h3 => by
        obtain ⟨n, rfl⟩ := Int.eq_ofNat_of_zero_le h1
        exact h n (by omega) h3⟩, decide_eq_true hk.1, decide_eq_true hk.2]
      rfl
    · rw [formB_no (by omega)]
      symm
      rw [← Bool.not_eq_true]
      simp only [Bool.and_eq_true, decide_eq_true_eq]
      exact hk
  clear R
  generalize formB c = r at *
  generalize hfb : fieldB c = fb at *
  generalize hhb : hasP c.kind = hb9 at *
  obtain ⟨k1, k2, k3, k4, k5, k6, k7, ids, vec, ops⟩ := c
  clear hc hfb hhb
  dsimp only at *
  (refine XC.of_body ([]) Tryd.func25 rfl Tryd.ntmps25 mixed (T := tl25) tk25 (by kernel_rfl) (by simp) rfl rfl rfl rfl rfl ?_; rintro o ho P hP c K hK; have hm : P.follows .mixedOrders = true := hP ▸ mixed; have hT : TOk P tl25 := hP ▸ tk25; (try rw [← ho]); cbv; (repeat (refine StopN.mk ?_; cbv)))
  rw [← ho] at hF
  refine LoopN.over (o := o) (D := []) ho hm hT (by kernel_rfl) (fun i : Nat => [(3, xn i)]) (fun _ => []) (fun _ => []) (fun i => i ≤ 9 ∧ ∀ j : Nat, j < i → hb9 j = true → fb j = true) (fun i => 9 - i) 0 ⟨Nat.zero_le _, fun j hj => by omega⟩ ?_ ?_
  · (refine ⟨?_, ?_, ?_, ?_⟩ <;> cbv <;> repeat' (first | trivial | exact EqX.rfl' | exact EqO.rfl' | apply And.intro | ((try clear hR3); (try clear hR2); (try clear hR); (try clear hK); (try simp only [ncCast] at *); (try simp only [castI_eq] at *); refine EqX.i ?_; (try rw [ho]); (try dsimp only [Ar.real, IX.vo, IX.val, BX.val, IX.toN]); (try simp only [QU1, QB7]); (repeat rw [wrap_i64 (by omega) (by omega)]); omega)))
  · rintro i ⟨hi, hno⟩ R hR
    have h1 := hF i
    have h2 := hH i
    have g1 := G1 i
    have st : (hb9 i = true → fb i = true) → _ := fun h => lt_step (p := fun j : Nat => hb9 j = true → fb j = true) hno h
    generalize hb9 i = hi9 at *
    generalize fb i = fi at *
    clear hF hH G1
    cbv
    repeat' (first | (refine Br.mk (fun hb => ?_) (fun hb => ?_) <;> ((try rw [ho] at hb); (try dsimp only [Ar.real, IX.vo] at hb); (try simp only [QU1, QB7] at hb); (try simp only [QBo, beq_iff_eq, beq_eq_false_iff_ne, ne_eq] at hb))) | (refine StopN.mk ?_; cbv) | (first | refine CallI.pure hP h2 fn14 rfl rfl rfl ?_ | refine CallI.pure hP h1 fn51 rfl rfl rfl ?_); cbv | (refine hK _ _ ?_) | (refine NeedT.mk ?_ ?_))
    all_goals try (((try clear hR3); (try clear hR2); (try clear hR); (try clear hK); (try simp only [ncCast] at *); (try simp only [castI_eq] at *); (try rw [ho]); (try dsimp only [Ar.real, IX.vo, IX.val, BX.val, IX.toN]); (try simp only [QU1, QB7]); (try simp only [decide_eq_true_eq]); (all_goals (repeat rw [wrap_i64 (by omega) (by omega)])); (all_goals (first | omega | (simp only [Int.ofNat_eq_natCast]; omega)))); done)
    all_goals first
      | (rw [g1 (by ((try clear hR3); (try clear hR2); (try clear hR); (try clear hK); (try simp only [ncCast] at *); (try simp only [castI_eq] at *)); omega) (by assumption) (by assumption)]; exact .b rfl)
      | (refine hR _ (i + 1) (by show 9 - (i + 1) < 9 - i; ((try clear hR3); (try clear hR2); (try clear hR); (try clear hK); (try simp only [ncCast] at *); (try simp only [castI_eq] at *)); omega) ⟨by show i + 1 ≤ 9; ((try clear hR3); (try clear hR2); (try clear hR); (try clear hK); (try simp only [ncCast] at *); (try simp only [castI_eq] at *)); omega, st (fun h => by first | assumption | (exfalso; simp_all; done))⟩ ?_
         (refine ⟨?_, ?_, ?_, ?_⟩ <;> cbv <;> repeat' (first | trivial | exact EqX.rfl' | exact EqO.rfl' | apply And.intro | ((try clear hR3); (try clear hR2); (try clear hR); (try clear hK); (try simp only [ncCast] at *); (try simp only [castI_eq] at *); refine EqX.i ?_; (try rw [ho]); (try dsimp only [Ar.real, IX.vo, IX.val, BX.val, IX.toN]); (try simp only [QU1, QB7]); (repeat rw [wrap_i64 (by omega) (by omega)]); omega))))
      | (have hE : i = 9 := by ((try clear hR3); (try clear hR2); (try clear hR); (try clear hK); (try simp only [ncCast] at *); (try simp only [castI_eq] at *)); omega
         subst hE
         refine .b ?_
         rw [G0 hno]
         ((try clear hR3); (try clear hR2); (try clear hR); (try clear hK); (try simp only [ncCast] at *); (try simp only [castI_eq] at *); (try rw [ho]); (try dsimp only [Ar.real, IX.vo, IX.val, BX.val, IX.toN]); (try simp only [QU1, QB7]))
         (simp [*] <;> omega))
theorem x_r14Twice (c : Cal) (hc : CalOk c) : XC Tryd.prog 26 [.agg (Cal.X Ar.real c)] [] (xb (twiB c)) [] := by
  have h6 : XC Tryd.prog 14 [xi c.kind, il 6] [] (xb (hasP c.kind 6)) [] := XC_at (x_r14Has c.kind 6) (fun c => rfl) (fun c => rfl)
  have h8 : XC Tryd.prog 14 [xi c.kind, il 8] [] (xb (hasP c.kind 8)) [] := XC_at (x_r14Has c.kind 8) (fun c => rfl) (fun c => rfl)
  have F1 := fun i k h a b d => twi_f1 (c := c) (i := i) (k := k) h a b d
  have F2 := fun i k h a b d e f => twi_f2 (c := c) (i := i) (k := k) h a b d e f
  have F0 := twi_f0 (c := c)
  have n1 := hc.n_ids
  have n3 := hc.n_ops
  generalize twiB c = r at *
  generalize hasP c.kind 6 = b6 at *
  generalize hasP c.kind 8 = b8 at *
  obtain ⟨k1, k2, k3, k4, k5, k6, k7, ids, vec, ops⟩ := c
  clear hc
  dsimp only at *
  (refine XC.of_body (dt26) Tryd.func26 rfl Tryd.ntmps26 mixed (T := tl26) tk26 (by kernel_rfl) (by simp) rfl rfl rfl rfl rfl ?_; rintro o ho P hP c K hK; have hm : P.follows .mixedOrders = true := hP ▸ mixed; have hT : TOk P tl26 := hP ▸ tk26; (try rw [← ho]); cbv; (repeat (refine StopN.mk ?_; cbv)))
  refine LoopN.over (o := o) (D := dt26) ho hm hT (by kernel_rfl) (fun i : Nat => [(3, xn i)]) (fun _ => []) (fun _ => []) (fun i => i ≤ ids.length ∧ ∀ j, j < i → ∀ k, k < j → ids.getD j default ≠ ids.getD k default) (fun i => ids.length - i) 0 ⟨Nat.zero_le _, fun j hj => by omega⟩ ?_ ?_
  · (refine ⟨?_, ?_, ?_, ?_⟩ <;> cbv <;> repeat' (first | trivial | exact EqX.rfl' | exact EqO.rfl' | apply And.intro | ((try clear hR3); (try clear hR2); (try clear hR); (try clear hK); (try simp only [ncCast] at *); (try simp only [castI_eq] at *); refine EqX.i ?_; (try rw [ho]); (try dsimp only [Ar.real, IX.vo, IX.val, BX.val, IX.toN]); (try simp only [QU1, QB7]); (repeat rw [wrap_i64 (by omega) (by omega)]); omega)))
  · rintro i ⟨hi, hno⟩ R hR
    have st := lt_step (p := fun j => ∀ k, k < j → ids.getD j default ≠ ids.getD k default) hno
    have f1 := F1 i
    cbv
    repeat' (first | (refine Br.mk (fun hb => ?_) (fun hb => ?_) <;> ((try rw [ho] at hb); (try dsimp only [Ar.real, IX.vo] at hb); (try simp only [QU1, QB7] at hb); (try simp only [QBo, beq_iff_eq, beq_eq_false_iff_ne, ne_eq] at hb))) | (refine StopN.mk ?_; cbv) | (refine CallI.pure hP h6 fn14 rfl rfl rfl ?_); cbv | (refine hK _ _ ?_) | (refine NeedT.mk ?_ ?_))
    all_goals try (((try clear hR3); (try clear hR2); (try clear hR); (try clear hK); (try simp only [ncCast] at *); (try simp only [castI_eq] at *); (try rw [ho]); (try dsimp only [Ar.real, IX.vo, IX.val, BX.val, IX.toN]); (try simp only [QU1, QB7]); (try simp only [decide_eq_true_eq]); (all_goals (repeat rw [wrap_i64 (by omega) (by omega)])); (all_goals (first | omega | (simp only [Int.ofNat_eq_natCast]; omega)))); done)
    · refine LoopN.over (o := o) (D := dt26) ho hm hT (by kernel_rfl) (fun k : Nat => [(4, xn k)]) (fun _ => []) (fun _ => []) (fun k => k ≤ i ∧ ∀ j, j < k → ids.getD i default ≠ ids.getD j default) (fun k => i - k) 0 ⟨Nat.zero_le _, fun j hj => by omega⟩ ?_ ?_
      · (refine ⟨?_, ?_, ?_, ?_⟩ <;> cbv <;> repeat' (first | trivial | exact EqX.rfl' | exact EqO.rfl' | apply And.intro | ((try clear hR3); (try clear hR2); (try clear hR); (try clear hK); (try simp only [ncCast] at *); (try simp only [castI_eq] at *); refine EqX.i ?_; (try rw [ho]); (try dsimp only [Ar.real, IX.vo, IX.val, BX.val, IX.toN]); (try simp only [QU1, QB7]); (repeat rw [wrap_i64 (by omega) (by omega)]); omega)))
      · rintro k ⟨hk, hnk⟩ R2 hR2
        have st2 := lt_step (p := fun j => ids.getD i default ≠ ids.getD j default) hnk
        cbv
        repeat' (first | (refine Br.mk (fun hb => ?_) (fun hb => ?_) <;> ((try rw [ho] at hb); (try dsimp only [Ar.real, IX.vo] at hb); (try simp only [QU1, QB7] at hb); (try simp only [QBo, beq_iff_eq, beq_eq_false_iff_ne, ne_eq] at hb))) | (refine StopN.mk ?_; cbv) | ((first | refine CallI.pure hP (x_r14Has _ _) fn14 (by first | rfl | (rw [ho]; try rfl)) (by rfl) (by first | rfl | (rw [ho]; try rfl)) ?_ | refine CallN.pure hP (x_r14Has _ _) fn14 (by first | rfl | (rw [ho]; try rfl)) (by rfl) (by first | rfl | (rw [ho]; try rfl)) ?_); (try rw [← ho]); generalize hr : hasP _ _ = r; (try rw [ho] at hr); (try dsimp only [Ar.real, IX.vo] at hr); (try simp only [QU1, QB7] at hr); cbv) | (refine hK _ _ ?_) | (refine NeedT.mk ?_ ?_))
        all_goals try (((try clear hR3); (try clear hR2); (try clear hR); (try clear hK); (try simp only [ncCast] at *); (try simp only [castI_eq] at *); (try rw [ho]); (try dsimp only [Ar.real, IX.vo, IX.val, BX.val, IX.toN]); (try simp only [QU1, QB7]); (try simp only [decide_eq_true_eq]); (all_goals (repeat rw [wrap_i64 (by omega) (by omega)])); (all_goals (first | omega | (simp only [Int.ofNat_eq_natCast]; omega)))); done)
        all_goals first
          | (rw [f1 k (by assumption) (by assumption) (by ((try clear hR3); (try clear hR2); (try clear hR); (try clear hK); (try simp only [ncCast] at *); (try simp only [castI_eq] at *)); omega) hb]; exact .b rfl)
          | (refine hR2 _ (k + 1) (by show i - (k + 1) < i - k; ((try clear hR3); (try clear hR2); (try clear hR); (try clear hK); (try simp only [ncCast] at *); (try simp only [castI_eq] at *)); omega) ⟨by show k + 1 ≤ i; ((try clear hR3); (try clear hR2); (try clear hR); (try clear hK); (try simp only [ncCast] at *); (try simp only [castI_eq] at *)); omega, st2 hb⟩ ?_
             (refine ⟨?_, ?_, ?_, ?_⟩ <;> cbv <;> repeat' (first | trivial | exact EqX.rfl' | exact EqO.rfl' | apply And.intro | ((try clear hR3); (try clear hR2); (try clear hR); (try clear hK); (try simp only [ncCast] at *); (try simp only [castI_eq] at *); refine EqX.i ?_; (try rw [ho]); (try dsimp only [Ar.real, IX.vo, IX.val, BX.val, IX.toN]); (try simp only [QU1, QB7]); (repeat rw [wrap_i64 (by omega) (by omega)]); omega))))
          | (obtain rfl : k = i := by ((try clear hR3); (try clear hR2); (try clear hR); (try clear hK); (try simp only [ncCast] at *); (try simp only [castI_eq] at *)); omega
             refine hR _ (k + 1) (by show ids.length - (k + 1) < ids.length - k; ((try clear hR3); (try clear hR2); (try clear hR); (try clear hK); (try simp only [ncCast] at *); (try simp only [castI_eq] at *)); omega) ⟨by show k + 1 ≤ ids.length; ((try clear hR3); (try clear hR2); (try clear hR); (try clear hK); (try simp only [ncCast] at *); (try simp only [castI_eq] at *)); omega, st hnk⟩ ?_
             (refine ⟨?_, ?_, ?_, ?_⟩ <;> cbv <;> repeat' (first | trivial | exact EqX.rfl' | exact EqO.rfl' | apply And.intro | ((try clear hR3); (try clear hR2); (try clear hR); (try clear hK); (try simp only [ncCast] at *); (try simp only [castI_eq] at *); refine EqX.i ?_; (try rw [ho]); (try dsimp only [Ar.real, IX.vo, IX.val, BX.val, IX.toN]); (try simp only [QU1, QB7]); (repeat rw [wrap_i64 (by omega) (by omega)]); omega))))
    all_goals
      have A : b6 = true → ∀ i k, i < ids.length → k < i → ids.getD i default ≠ ids.getD k default := fun h a k ha hk => by
        first
        | (rw [h] at hb; cases hb; done)
        | exact hno a (by ((try clear hR3); (try clear hR2); (try clear hR); (try clear hK); (try simp only [ncCast] at *); (try simp only [castI_eq] at *)); omega) k hk
      have F0 := F0 A
      clear A hno st f1 F1 hR R
      refine LoopN.over (o := o) (D := dt26) ho hm hT (by kernel_rfl) (fun i : Nat => [(5, xn i)]) (fun _ => []) (fun _ => []) (fun i => i ≤ ops.length ∧ ∀ j, j < i → ∀ k, k < j → (ops.getD j default).kind = 1 → (ops.getD k default).kind = 1 → (ops.getD j default).id ≠ (ops.getD k default).id) (fun i => ops.length - i) 0 ⟨Nat.zero_le _, fun j hj => by omega⟩ ?_ ?_
      · (refine ⟨?_, ?_, ?_, ?_⟩ <;> cbv <;> repeat' (first | trivial | exact EqX.rfl' | exact EqO.rfl' | apply And.intro | ((try clear hR3); (try clear hR2); (try clear hR); (try clear hK); (try simp only [ncCast] at *); (try simp only [castI_eq] at *); refine EqX.i ?_; (try rw [ho]); (try dsimp only [Ar.real, IX.vo, IX.val, BX.val, IX.toN]); (try simp only [QU1, QB7]); (repeat rw [wrap_i64 (by omega) (by omega)]); omega)))
      · rintro i ⟨hi, hno⟩ R hR
        have st := lt_step (p := fun j => ∀ k, k < j → (ops.getD j default).kind = 1 → (ops.getD k default).kind = 1 → (ops.getD j default).id ≠ (ops.getD k default).id) hno
        have f1 := F2 i
        cbv
        repeat' (first | (refine Br.mk (fun hb => ?_) (fun hb => ?_) <;> ((try rw [ho] at hb); (try dsimp only [Ar.real, IX.vo] at hb); (try simp only [QU1, QB7] at hb); (try simp only [QBo, beq_iff_eq, beq_eq_false_iff_ne, ne_eq] at hb))) | (refine StopN.mk ?_; cbv) | (refine CallI.pure hP h8 fn14 rfl rfl rfl ?_); cbv | (refine hK _ _ ?_) | (refine NeedT.mk ?_ ?_))
        all_goals try (((try clear hR3); (try clear hR2); (try clear hR); (try clear hK); (try simp only [ncCast] at *); (try simp only [castI_eq] at *); (try rw [ho]); (try dsimp only [Ar.real, IX.vo, IX.val, BX.val, IX.toN]); (try simp only [QU1, QB7]); (try simp only [decide_eq_true_eq]); (all_goals (repeat rw [wrap_i64 (by omega) (by omega)])); (all_goals (first | omega | (simp only [Int.ofNat_eq_natCast]; omega)))); done)
        · refine LoopN.over (o := o) (D := dt26) ho hm hT (by kernel_rfl) (fun k : Nat => [(6, xn k)]) (fun _ => []) (fun _ => []) (fun k => k ≤ i ∧ ∀ j, j < k → (ops.getD i default).kind = 1 → (ops.getD j default).kind = 1 → (ops.getD i default).id ≠ (ops.getD j default).id) (fun k => i - k) 0 ⟨Nat.zero_le _, fun j hj => by omega⟩ ?_ ?_
          · (refine ⟨?_, ?_, ?_, ?_⟩ <;> cbv <;> repeat' (first | trivial | exact EqX.rfl' | exact EqO.rfl' | apply And.intro | ((try clear hR3); (try clear hR2); (try clear hR); (try clear hK); (try simp only [ncCast] at *); (try simp only [castI_eq] at *); refine EqX.i ?_; (try rw [ho]); (try dsimp only [Ar.real, IX.vo, IX.val, BX.val, IX.toN]); (try simp only [QU1, QB7]); (repeat rw [wrap_i64 (by omega) (by omega)]); omega)))
          · rintro k ⟨hk, hnk⟩ R2 hR2
            have st2 := lt_step (p := fun j => (ops.getD i default).kind = 1 → (ops.getD j default).kind = 1 → (ops.getD i default).id ≠ (ops.getD j default).id) hnk
            cbv
            repeat' (first | (refine Br.mk (fun hb => ?_) (fun hb => ?_) <;> ((try rw [ho] at hb); (try dsimp only [Ar.real, IX.vo] at hb); (try simp only [QU1, QB7] at hb); (try simp only [QBo, beq_iff_eq, beq_eq_false_iff_ne, ne_eq] at hb))) | (refine StopN.mk ?_; cbv) | ((first | refine CallI.pure hP (x_r14Has _ _) fn14 (by first | rfl | (rw [ho]; try rfl)) (by rfl) (by first | rfl | (rw [ho]; try rfl)) ?_ | refine CallN.pure hP (x_r14Has _ _) fn14 (by first | rfl | (rw [ho]; try rfl)) (by rfl) (by first | rfl | (rw [ho]; try rfl)) ?_); (try rw [← ho]); generalize hr : hasP _ _ = r; (try rw [ho] at hr); (try dsimp only [Ar.real, IX.vo] at hr); (try simp only [QU1, QB7] at hr); cbv) | (refine hK _ _ ?_) | (refine NeedT.mk ?_ ?_))
            all_goals try (((try clear hR3); (try clear hR2); (try clear hR); (try clear hK); (try simp only [ncCast] at *); (try simp only [castI_eq] at *); (try rw [ho]); (try dsimp only [Ar.real, IX.vo, IX.val, BX.val, IX.toN]); (try simp only [QU1, QB7]); (try simp only [decide_eq_true_eq]); (all_goals (repeat rw [wrap_i64 (by omega) (by omega)])); (all_goals (first | omega | (simp only [Int.ofNat_eq_natCast]; omega)))); done)
            all_goals first
              | (rw [f1 k (by assumption) (by assumption) (by ((try clear hR3); (try clear hR2); (try clear hR); (try clear hK); (try simp only [ncCast] at *); (try simp only [castI_eq] at *)); omega) (by assumption) (by assumption) (by assumption)]; exact .b rfl)
              | (refine hR2 _ (k + 1) (by show i - (k + 1) < i - k; ((try clear hR3); (try clear hR2); (try clear hR); (try clear hK); (try simp only [ncCast] at *); (try simp only [castI_eq] at *)); omega) ⟨by show k + 1 ≤ i; ((try clear hR3); (try clear hR2); (try clear hR); (try clear hK); (try simp only [ncCast] at *); (try simp only [castI_eq] at *)); omega, st2 fun h1 h2 => by first | assumption | (exfalso; ((try clear hR3); (try clear hR2); (try clear hR); (try clear hK); (try simp only [ncCast] at *); (try simp only [castI_eq] at *)); omega)⟩ ?_
                 (refine ⟨?_, ?_, ?_, ?_⟩ <;> cbv <;> repeat' (first | trivial | exact EqX.rfl' | exact EqO.rfl' | apply And.intro | ((try clear hR3); (try clear hR2); (try clear hR); (try clear hK); (try simp only [ncCast] at *); (try simp only [castI_eq] at *); refine EqX.i ?_; (try rw [ho]); (try dsimp only [Ar.real, IX.vo, IX.val, BX.val, IX.toN]); (try simp only [QU1, QB7]); (repeat rw [wrap_i64 (by omega) (by omega)]); omega))))
              | (obtain rfl : k = i := by ((try clear hR3); (try clear hR2); (try clear hR); (try clear hK); (try simp only [ncCast] at *); (try simp only [castI_eq] at *)); omega
                 refine hR _ (k + 1) (by show ops.length - (k + 1) < ops.length - k; ((try clear hR3); (try clear hR2); (try clear hR); (try clear hK); (try simp only [ncCast] at *); (try simp only [castI_eq] at *)); omega) ⟨by show k + 1 ≤ ops.length; ((try clear hR3); (try clear hR2); (try clear hR); (try clear hK); (try simp only [ncCast] at *); (try simp only [castI_eq] at *)); omega, st hnk⟩ ?_
                 (refine ⟨?_, ?_, ?_, ?_⟩ <;> cbv <;> repeat' (first | trivial | exact EqX.rfl' | exact EqO.rfl' | apply And.intro | ((try clear hR3); (try clear hR2); (try clear hR); (try clear hK); (try simp only [ncCast] at *); (try simp only [castI_eq] at *); refine EqX.i ?_; (try rw [ho]); (try dsimp only [Ar.real, IX.vo, IX.val, BX.val, IX.toN]); (try simp only [QU1, QB7]); (repeat rw [wrap_i64 (by omega) (by omega)]); omega))))
        all_goals
          have A : b8 = true → ∀ i k, i < ops.length → k < i → (ops.getD i default).kind = 1 → (ops.getD k default).kind = 1 → (ops.getD i default).id ≠ (ops.getD k default).id := fun h a k ha hk => by
            first
            | (rw [h] at hb; cases hb; done)
            | exact hno a (by ((try clear hR3); (try clear hR2); (try clear hR); (try clear hK); (try simp only [ncCast] at *); (try simp only [castI_eq] at *)); omega) k hk
          rw [F0 A]
          exact .b rfl
end Go.Proofs.YtkjjihicaefmcaaDoor.Sy
namespace Go.Proofs.YtkjjihicaefmcaaDoor.Sy
open Go Go.Sy Go.Proofs.YtkjjihicaefmcaaDoor
@[reducible] def cOb (o : Ar) (c : Cal) : List OX := [.var (Cal.X o c) 26]
theorem x_odd (o : Ar) (ho : o = Ar.real) (c : Cal) (hc : CalOk c) (f : Int) : XC Tryd.prog 20 [xi f, .ptr (.out 0) 0] (cOb o c) (xb (!fieldB c f)) (cOb o c) := by
  have h := x_sright c hc f
  generalize fieldB c f = r at *
  obtain ⟨k1, k2, k3, k4, k5, k6, k7, ids, vec, ops⟩ := c
  clear hc
  rw [← ho] at h
  (refine XC.of_body ([]) Tryd.func20 rfl Tryd.ntmps20 mixed (T := tl20) tk20 (by kernel_rfl) (by simp) rfl rfl rfl rfl rfl ?_; rintro o2 ho2 P hP c K hK; have hm : P.follows .mixedOrders = true := hP ▸ mixed; have hT : TOk P tl20 := hP ▸ tk20; (try rw [← ho2]); have e2 : o = o2 := ho.trans ho2.symm; subst e2; cbv; (repeat (refine StopN.mk ?_; cbv)))
  repeat' (first | (refine Br.mk (fun hb => ?_) (fun hb => ?_) <;> ((try rw [ho] at hb); (try dsimp only [Ar.real, IX.vo] at hb); (try simp only [QU1, QB7] at hb); (try simp only [QBo, beq_iff_eq, beq_eq_false_iff_ne, ne_eq] at hb))) | (refine StopN.mk ?_; cbv) | (refine CallI.pure hP h fn21 rfl rfl rfl ?_); cbv | (refine hK _ _ ?_) | (refine NeedT.mk ?_ ?_))
  refine FinX_bOr ?_ rfl
  ((try clear hR3); (try clear hR2); (try clear hR); (try clear hK); (try simp only [ncCast] at *); (try simp only [castI_eq] at *); (try rw [ho]); (try dsimp only [Ar.real, IX.vo, IX.val, BX.val, IX.toN]); (try simp only [QU1, QB7]))
theorem x_IxFl (o : Ar) (ho : o = Ar.real) (c : Cal) (hc : CalOk c) (l : List Int) (hl : l.length ≤ 1048576) :
    XC Tryd.prog 47 [.ro (SL o Go.Sy.encI l), .fn (.func 20) [] [.ptr (.out 0) 0]] (cOb o c) (xi (ixR (fun f => !fieldB c f) l)) (cOb o c) := by
  have hq := fun a => x_odd o ho c hc a
  have h1 := fun i => ixR_hit (q := fun f => !fieldB c f) (l := l) (i := i)
  have h2 := ixR_none (q := fun f => !fieldB c f) (l := l)
  generalize ixR (fun f => !fieldB c f) l = r at *
  obtain ⟨q, hq9⟩ : ∃ q : Int → Bool, q = fun f => !fieldB c f := ⟨_, rfl⟩
  have hq8 : ∀ f, (!fieldB c f) = q f := fun f => by rw [hq9]
  simp only [hq8] at hq h1 h2
  clear hq9 hq8
  obtain ⟨k1, k2, k3, k4, k5, k6, k7, ids, vec, ops⟩ := c
  clear hc
  (refine XC.of_body ([]) Tryd.func47 rfl Tryd.ntmps47 mixed (T := tl47) tk47 (by kernel_rfl) (by simp) rfl rfl rfl rfl rfl ?_; rintro o2 ho2 P hP c K hK; have hm : P.follows .mixedOrders = true := hP ▸ mixed; have hT : TOk P tl47 := hP ▸ tk47; (try rw [← ho2]); have e2 : o = o2 := ho.trans ho2.symm; subst e2; cbv; (repeat (refine StopN.mk ?_; cbv)))
  refine LoopN.over (o := o) (D := []) ho hm hT (by kernel_rfl) (fun i : Nat => [(8, xn i)]) (fun _ => []) (fun _ => []) (fun i => i ≤ l.length ∧ ∀ j, j < i → q (l.getD j default) = false) (fun i => l.length - i) 0 ⟨Nat.zero_le _, fun j hj => by omega⟩ ?_ ?_
  · (refine ⟨?_, ?_, ?_, ?_⟩ <;> cbv <;> repeat' (first | trivial | exact EqX.rfl' | exact EqO.rfl' | apply And.intro | ((try clear hR3); (try clear hR2); (try clear hR); (try clear hK); (try simp only [ncCast] at *); (try simp only [castI_eq] at *); refine EqX.i ?_; (try rw [ho]); (try dsimp only [Ar.real, IX.vo, IX.val, BX.val, IX.toN]); (try simp only [QU1, QB7]); (repeat rw [wrap_i64 (by omega) (by omega)]); omega)))
  · rintro i ⟨hi, hno⟩ R hR
    have e1 := hq (l.getD i default)
    have e2 := h1 i
    have el : o.nth l i = l.getD i default := by rw [ho, real_nth]
    rw [← el] at e1 e2
    have e3 := fun h : q (o.nth l i) = false => lt_step (p := fun j => q (l.getD j default) = false) hno (by rw [← el]; exact h)
    generalize q (o.nth l i) = b at *
    cbv
    repeat' (first | (refine Br.mk (fun hb => ?_) (fun hb => ?_) <;> ((try rw [ho] at hb); (try dsimp only [Ar.real, IX.vo] at hb); (try simp only [QU1, QB7] at hb); (try simp only [QBo, beq_iff_eq, beq_eq_false_iff_ne, ne_eq] at hb))) | (refine StopN.mk ?_; cbv) | (refine CallI.objs [.out 0] hP e1 fn20 rfl rfl rfl rfl (by rfl) rfl rfl rfl rfl (by rfl) ⟨⟨_, rfl, rfl⟩, trivial⟩ ?_); cbv | (refine hK _ _ ?_) | (refine NeedT.mk ?_ ?_))
    any_goals (((try clear hR3); (try clear hR2); (try clear hR); (try clear hK); (try simp only [ncCast] at *); (try simp only [castI_eq] at *); (try rw [ho]); (try dsimp only [Ar.real, IX.vo, IX.val, BX.val, IX.toN]); (try simp only [QU1, QB7]); (try simp only [decide_eq_true_eq]); (all_goals (repeat rw [wrap_i64 (by omega) (by omega)])); (all_goals (first | omega | (simp only [Int.ofNat_eq_natCast]; omega)))); done)
    · rw [e2 (by ((try clear hR3); (try clear hR2); (try clear hR); (try clear hK); (try simp only [ncCast] at *); (try simp only [castI_eq] at *)); omega) hno (by assumption)]
      exact FinX_iOr rfl rfl
    · refine hR _ (i + 1) (by show l.length - (i + 1) < l.length - i; ((try clear hR3); (try clear hR2); (try clear hR); (try clear hK); (try simp only [ncCast] at *); (try simp only [castI_eq] at *)); omega) ⟨by show i + 1 ≤ l.length; ((try clear hR3); (try clear hR2); (try clear hR); (try clear hK); (try simp only [ncCast] at *); (try simp only [castI_eq] at *)); omega, e3 (by assumption)⟩ ?_
      (refine ⟨?_, ?_, ?_, ?_⟩ <;> cbv <;> repeat' (first | trivial | exact EqX.rfl' | exact EqO.rfl' | apply And.intro | ((try clear hR3); (try clear hR2); (try clear hR); (try clear hK); (try simp only [ncCast] at *); (try simp only [castI_eq] at *); refine EqX.i ?_; (try rw [ho]); (try dsimp only [Ar.real, IX.vo, IX.val, BX.val, IX.toN]); (try simp only [QU1, QB7]); (repeat rw [wrap_i64 (by omega) (by omega)]); omega)))
    · obtain rfl : i = l.length := by ((try clear hR3); (try clear hR2); (try clear hR); (try clear hK); (try simp only [ncCast] at *); (try simp only [castI_eq] at *)); omega
      rw [h2 hno]
      exact FinX_iOr rfl rfl
theorem x_CFl (o : Ar) (ho : o = Ar.real) (c : Cal) (hc : CalOk c) (l : List Int) (hl : l.length ≤ 1048576) :
    XC Tryd.prog 22 [.ro (SL o Go.Sy.encI l), .fn (.func 20) [] [.ptr (.out 0) 0]] (cOb o c) (xb (l.any fun f => !fieldB c f)) (cOb o c) := by
  have h := x_IxFl o ho c hc l hl
  have e := ixR_any (fun f => !fieldB c f) l
  generalize (l.any fun f => !fieldB c f) = r at *
  generalize ixR (fun f => !fieldB c f) l = n at *
  obtain ⟨k1, k2, k3, k4, k5, k6, k7, ids, vec, ops⟩ := c
  clear hc
  (refine XC.of_body ([]) Tryd.func22 rfl Tryd.ntmps22 mixed (T := tl22) tk22 (by kernel_rfl) (by simp) rfl rfl rfl rfl rfl ?_; rintro o2 ho2 P hP c K hK; have hm : P.follows .mixedOrders = true := hP ▸ mixed; have hT : TOk P tl22 := hP ▸ tk22; (try rw [← ho2]); have e2 : o = o2 := ho.trans ho2.symm; subst e2; cbv; (repeat (refine StopN.mk ?_; cbv)))
  repeat' (first | (refine Br.mk (fun hb => ?_) (fun hb => ?_) <;> ((try rw [ho] at hb); (try dsimp only [Ar.real, IX.vo] at hb); (try simp only [QU1, QB7] at hb); (try simp only [QBo, beq_iff_eq, beq_eq_false_iff_ne, ne_eq] at hb))) | (refine StopN.mk ?_; cbv) | (refine CallI.objs [.out 0] hP h fn47 rfl rfl rfl rfl (by rfl) rfl rfl rfl rfl (by rfl) ⟨⟨_, rfl, rfl⟩, trivial⟩ ?_); cbv | (refine hK _ _ ?_) | (refine NeedT.mk ?_ ?_))
  refine FinX_bOr ?_ rfl
  ((try clear hR3); (try clear hR2); (try clear hR); (try clear hK); (try simp only [ncCast] at *); (try simp only [castI_eq] at *); (try rw [ho]); (try dsimp only [Ar.real, IX.vo, IX.val, BX.val, IX.toN]); (try simp only [QU1, QB7]))
  exact e
theorem launP_take (l : List Opn) (i : Nat) (h : i < l.length) : launP (l.take (i + 1)) = if (l.getD i default).kind = 1 then launP (l.take i) ++ [(l.getD i default).id] else launP (l.take i) := by
  unfold launP
  rw [List.take_succ_eq_append_getElem h, List.filter_append, List.map_append, getD_g h]
  split
  · rename_i e
    simp [e]
  · rename_i e
    simp [e]
theorem launP_len (l : List Opn) (i : Nat) : (launP (l.take i)).length ≤ i := by
  unfold launP
  rw [List.length_map]
  exact Nat.le_trans (List.length_filter_le _ _) (by rw [List.length_take]; omega)
theorem x_launched (l : List Opn) (hl : l.length ≤ 1048576) : XC Tryd.prog 24 [.ro (SL Ar.real Opn.X l)] [] (.ro (SL Ar.real Go.Sy.encI (launP l))) [] := by
  have hM := fun i => launP_take l i
  have hL := fun i => launP_len l i
  have hE : ∀ i, l.length ≤ i → launP l = launP (l.take i) := fun i h => by rw [List.take_of_length_le h]
  generalize launP l = r at *
  obtain ⟨M, hm9⟩ : ∃ M : Nat → List Int, M = fun i => launP (l.take i) := ⟨_, rfl⟩
  have h0 : M 0 = [] := by rw [hm9]; rfl
  have hq : ∀ i, launP (l.take i) = M i := fun i => by rw [hm9]
  simp only [hq] at hM hL hE
  clear hm9 hq
  (refine XC.of_body ([]) Tryd.func24 rfl Tryd.ntmps24 mixed (T := tl24) tk24 (by kernel_rfl) (by simp) rfl rfl rfl rfl rfl ?_; rintro o ho P hP c K hK; have hm : P.follows .mixedOrders = true := hP ▸ mixed; have hT : TOk P tl24 := hP ▸ tk24; (try rw [← ho]); cbv; (repeat (refine StopN.mk ?_; cbv)))
  refine LoopN.ghost 3 2 1 rfl ?_
  refine LoopN.over (o := o) (D := []) ho hm hT (by kernel_rfl) (fun s : StL Int => [(8, xn s.i), (3, .own (.loc 0) s.rv)]) (fun s => [(0, .row s.rv 2 1 (SL o Go.Sy.encI s.out))]) (fun _ => []) (fun s => s.i ≤ l.length ∧ s.out = M s.i) (fun s => l.length - s.i) ⟨0, 0, []⟩ ⟨Nat.zero_le _, h0.symm⟩ ?_ ?_
  · (refine ⟨?_, ?_, ?_, ?_⟩ <;> cbv <;> repeat' (first | trivial | exact EqX.rfl' | exact EqO.rfl' | apply And.intro | ((try clear hR3); (try clear hR2); (try clear hR); (try clear hK); (try simp only [ncCast] at *); (try simp only [castI_eq] at *); refine EqX.i ?_; (try rw [ho]); (try dsimp only [Ar.real, IX.vo, IX.val, BX.val, IX.toN]); (try simp only [QU1, QB7]); (repeat rw [wrap_i64 (by omega) (by omega)]); omega) | exact EqO.row rfl (rows_nil_SL o ho Go.Sy.encI)))
  · rintro ⟨i, rv, out⟩ ⟨hi, hout⟩ R hR
    dsimp only at hi hout
    have e1 := hM i
    have e2 := hL i
    have e3 := hE i
    rw [← hout] at e1 e2 e3
    generalize hz : M (i + 1) = z at *
    cbv
    repeat' (first | (refine Br.mk (fun hb => ?_) (fun hb => ?_) <;> ((try rw [ho] at hb); (try dsimp only [Ar.real, IX.vo] at hb); (try simp only [QU1, QB7] at hb); (try simp only [QBo, beq_iff_eq, beq_eq_false_iff_ne, ne_eq] at hb))) | (refine StopN.mk ?_; cbv) | (refine hK _ _ ?_) | (refine NeedT.mk ?_ ?_))
    all_goals try (((try clear hR3); (try clear hR2); (try clear hR); (try clear hK); (try simp only [ncCast] at *); (try simp only [castI_eq] at *); (try rw [ho]); (try dsimp only [Ar.real, IX.vo, IX.val, BX.val, IX.toN]); (try simp only [QU1, QB7]); (try simp only [decide_eq_true_eq]); (all_goals (repeat rw [wrap_i64 (by omega) (by omega)])); (all_goals (first | omega | (simp only [Int.ofNat_eq_natCast]; omega)))); done)
    · have e1 := e1 (by assumption)
      rw [if_pos hb] at e1
      refine hR _ ⟨i + 1, rv + 1, z⟩ (by show l.length - (i + 1) < l.length - i; ((try clear hR3); (try clear hR2); (try clear hR); (try clear hK); (try simp only [ncCast] at *); (try simp only [castI_eq] at *)); omega) ⟨by show i + 1 ≤ l.length; ((try clear hR3); (try clear hR2); (try clear hR); (try clear hK); (try simp only [ncCast] at *); (try simp only [castI_eq] at *)); omega, hz.symm⟩ ?_
      (refine ⟨?_, ?_, ?_, ?_⟩ <;> cbv <;> repeat' (first | trivial | exact EqX.rfl' | exact EqO.rfl' | apply And.intro | ((try clear hR3); (try clear hR2); (try clear hR); (try clear hK); (try simp only [ncCast] at *); (try simp only [castI_eq] at *); refine EqX.i ?_; (try rw [ho]); (try dsimp only [Ar.real, IX.vo, IX.val, BX.val, IX.toN]); (try simp only [QU1, QB7]); (repeat rw [wrap_i64 (by omega) (by omega)]); omega) | (refine EqO.snoc ho Go.Sy.encI out _ _ _ rfl e1 ?_; rw [ho]; rfl)))
    · have e1 := e1 (by assumption)
      rw [if_neg hb] at e1
      refine hR _ ⟨i + 1, rv, z⟩ (by show l.length - (i + 1) < l.length - i; ((try clear hR3); (try clear hR2); (try clear hR); (try clear hK); (try simp only [ncCast] at *); (try simp only [castI_eq] at *)); omega) ⟨by show i + 1 ≤ l.length; ((try clear hR3); (try clear hR2); (try clear hR); (try clear hK); (try simp only [ncCast] at *); (try simp only [castI_eq] at *)); omega, hz.symm⟩ ?_
      rw [e1]
      (refine ⟨?_, ?_, ?_, ?_⟩ <;> cbv <;> repeat' (first | trivial | exact EqX.rfl' | exact EqO.rfl' | apply And.intro | ((try clear hR3); (try clear hR2); (try clear hR); (try clear hK); (try simp only [ncCast] at *); (try simp only [castI_eq] at *); refine EqX.i ?_; (try rw [ho]); (try dsimp only [Ar.real, IX.vo, IX.val, BX.val, IX.toN]); (try simp only [QU1, QB7]); (repeat rw [wrap_i64 (by omega) (by omega)]); omega)))
    · rw [e3 (by assumption)]
      exact .ro (by rw [ho])
theorem x_sCheck (c : Cal) (hc : CalOk c) : XC Tryd.prog 7 [.agg (Cal.X Ar.real c)] [] (.ro (SL Ar.real Go.Sy.encI (checkC c))) [] := by
  have a1 := x_fields c.kind
  have a2 := fun o ho => x_CFl o ho c hc (fieldsP c.kind) (Nat.le_trans (fieldsP_len c.kind) (by decide))
  have h6 : XC Tryd.prog 10 [xi c.kind, il 6] [] (xb (hasP c.kind 6)) [] := XC_at (x_Has c.kind 6) (fun c => rfl) (fun c => rfl)
  have h8 : XC Tryd.prog 10 [xi c.kind, il 8] [] (xb (hasP c.kind 8)) [] := XC_at (x_Has c.kind 8) (fun c => rfl) (fun c => rfl)
  have a3 := x_twice c.ids hc.n_ids
  have a4 := x_launched c.ops hc.n_ops
  have nl : (launP c.ops).length ≤ 1048576 := Nat.le_trans (by unfold launP; rw [List.length_map]; exact List.length_filter_le _ _) hc.n_ops
  have a5 := x_twice (launP c.ops) nl
  have l1 := fieldsP_len c.kind
  have H1 : (fieldsP c.kind).length = 0 → c.kind ≠ 15 → formB c = false := fun h h2 => formB_no (by have := fieldsP_nil h; omega)
  have H2 : (fieldsP c.kind).length ≠ 0 ∨ c.kind = 15 → ((fieldsP c.kind).any fun f => !fieldB c f) = !formB c := fun h => by
    refine formB_any (Classical.byContradiction fun h2 => ?_)
    have := fieldsP_out (k := c.kind) (by omega)
    rw [this] at h
    rcases h with h | h
    · exact h rfl
    · omega
  have R1 : formB c = true → twiB c = true → checkC c = [2] := fun a b => by unfold checkC; rw [a, b]; rfl
  have R2 : formB c = true → twiB c = false → checkC c = [] := fun a b => by unfold checkC; rw [a, b]; rfl
  have R3 : formB c = false → twiB c = true → checkC c = [1, 2] := fun a b => by unfold checkC; rw [a, b]; rfl
  have R4 : formB c = false → twiB c = false → checkC c = [1] := fun a b => by unfold checkC; rw [a, b]; rfl
  have T : twiB c = (hasP c.kind 6 && twiceR c.ids || hasP c.kind 8 && twiceR (launP c.ops)) := rfl
  have n1 := hc.n_ids
  have n2 := hc.n_vec
  have n3 := hc.n_ops
  generalize checkC c = r at *
  generalize ((fieldsP c.kind).any fun f => !fieldB c f) = an at *
  generalize formB c = fm at *
  generalize twiB c = tw at *
  generalize twiceR (launP c.ops) = t8 at *
  generalize twiceR c.ids = t6 at *
  generalize launP c.ops = lo at *
  generalize hasP c.kind 6 = b6 at *
  generalize hasP c.kind 8 = b8 at *
  generalize fieldsP c.kind = fl at *
  obtain ⟨k1, k2, k3, k4, k5, k6, k7, ids, vec, ops⟩ := c
  clear hc
  dsimp only at *
  (refine XC.of_body ([]) Tryd.func7 rfl Tryd.ntmps7 mixed (T := tl7) tk7 (by kernel_rfl) (by simp) rfl rfl rfl rfl rfl ?_; rintro o ho P hP c K hK; have hm : P.follows .mixedOrders = true := hP ▸ mixed; have hT : TOk P tl7 := hP ▸ tk7; (try rw [← ho]); cbv; (repeat (refine StopN.mk ?_; cbv)))
  have a2 := a2 o ho
  rw [← ho] at a1 a3 a4 a5
  repeat' (first | (refine Br.mk (fun hb => ?_) (fun hb => ?_) <;> ((try rw [ho] at hb); (try dsimp only [Ar.real, IX.vo] at hb); (try simp only [QU1, QB7] at hb); (try simp only [QBo, beq_iff_eq, beq_eq_false_iff_ne, ne_eq] at hb))) | (refine StopN.mk ?_; cbv) | (first | refine NeedT.mk (by rw [ho]; rfl) ?_ | refine CallI.pure hP a1 fn19 rfl rfl rfl ?_ | refine CallI.objs [.loc 0] hP a2 fn22 rfl rfl rfl rfl (by rfl) rfl rfl rfl rfl (by rfl) ⟨⟨_, rfl, rfl⟩, trivial⟩ ?_ | refine CallI.pure hP h6 fn10 rfl rfl rfl ?_ | refine CallI.pure hP h8 fn10 rfl rfl rfl ?_ | refine CallI.pure hP a3 fn23 rfl rfl rfl ?_ | refine CallI.pure hP a4 fn24 rfl rfl rfl ?_ | refine CallI.pure hP a5 fn23 rfl rfl rfl ?_); cbv | (refine hK _ _ ?_) | (refine NeedT.mk ?_ ?_))
  all_goals
    clear a1 a2 a3 a4 a5 h6 h8
    clear a2
    cases fm <;> cases tw
    all_goals first
      | (rw [R1 rfl rfl]; exact .ro rfl)
      | (rw [R2 rfl rfl]; exact .ro rfl)
      | (rw [R3 rfl rfl]; exact .ro rfl)
      | (rw [R4 rfl rfl]; exact .ro rfl)
      | (exfalso
         clear R1 R2 R3 R4 n1 n2 n3
         ((try clear hR3); (try clear hR2); (try clear hR); (try clear hK); (try simp only [ncCast] at *); (try simp only [castI_eq] at *))
         cases b6 <;> cases t6 <;> cases b8 <;> cases t8 <;> cases an <;> first | contradiction | exact absurd T (by decide) | exact absurd (H1 (by omega) (by assumption)) (by decide) | exact absurd (H2 (by omega)) (by decide))
end Go.Proofs.YtkjjihicaefmcaaDoor.Sy
namespace Go.Proofs.YtkjjihicaefmcaaDoor.Sy
open Go Go.Sy Go.Proofs.YtkjjihicaefmcaaDoor
theorem x_r14Check (c : Cal) (hc : CalOk c) : XC Tryd.prog 8 [.agg (Cal.X Ar.real c)] [] (.ro (SL Ar.real Go.Sy.encI (checkC c))) [] := by
  have h1 := x_r14Right c hc
  have h2 := x_r14Twice c hc
  have R1 : formB c = true → twiB c = true → checkC c = [2] := fun a b => by unfold checkC; rw [a, b]; rfl
  have R2 : formB c = true → twiB c = false → checkC c = [] := fun a b => by unfold checkC; rw [a, b]; rfl
  have R3 : formB c = false → twiB c = true → checkC c = [1, 2] := fun a b => by unfold checkC; rw [a, b]; rfl
  have R4 : formB c = false → twiB c = false → checkC c = [1] := fun a b => by unfold checkC; rw [a, b]; rfl
  generalize checkC c = r at *
  generalize formB c = fm at *
  generalize twiB c = tw at *
  obtain ⟨k1, k2, k3, k4, k5, k6, k7, ids, vec, ops⟩ := c
  clear hc
  (refine XC.of_body ([]) Tryd.func8 rfl Tryd.ntmps8 mixed (T := tl8) tk8 (by kernel_rfl) (by simp) rfl rfl rfl rfl rfl ?_; rintro o ho P hP c K hK; have hm : P.follows .mixedOrders = true := hP ▸ mixed; have hT : TOk P tl8 := hP ▸ tk8; (try rw [← ho]); cbv; (repeat (refine StopN.mk ?_; cbv)))
  rw [← ho] at h1 h2
  repeat' (first | (refine Br.mk (fun hb => ?_) (fun hb => ?_) <;> ((try rw [ho] at hb); (try dsimp only [Ar.real, IX.vo] at hb); (try simp only [QU1, QB7] at hb); (try simp only [QBo, beq_iff_eq, beq_eq_false_iff_ne, ne_eq] at hb))) | (refine StopN.mk ?_; cbv) | (first | refine NeedT.mk (by rw [ho]; rfl) ?_ | refine CallI.pure hP h1 fn25 rfl rfl rfl ?_ | refine CallI.pure hP h2 fn26 rfl rfl rfl ?_); cbv | (refine hK _ _ ?_) | (refine NeedT.mk ?_ ?_))
  all_goals first
    | (rw [R1 ‹_› ‹_›]; exact .ro rfl)
    | (rw [R2 ‹_› ‹_›]; exact .ro rfl)
    | (rw [R3 ‹_› ‹_›]; exact .ro rfl)
    | (rw [R4 ‹_› ‹_›]; exact .ro rfl)
theorem rows_app1 {α : Type} [Inhabited α] {o : Ar} (ho : o = Ar.real) (enc : Ar → α → List X) (l : List α) : (RR.app (.lits []) (SL o enc l)).rows = (SL o enc l).rows := by
  subst ho
  simp [RR.rows, X.toCLL]
theorem x_Clone64 (l : List Int) (hl : l.length ≤ 1048576) : XC Tryd.prog 29 [.ro (SL Ar.real Go.Sy.encI l)] [] (.ro (SL Ar.real Go.Sy.encI l)) [] := by
  rcases Nat.eq_zero_or_pos l.length with h0 | h0
  · obtain rfl := List.length_eq_zero_iff.1 h0
    exact XC_at (XC.empty2 clone64_0) (fun _ => rfl) (fun _ => rfl)
  · (refine XC.of_body ([]) Tryd.func29 rfl Tryd.ntmps29 mixed (T := tl29) tk29 (by kernel_rfl) (by simp) rfl rfl rfl rfl rfl ?_; rintro o ho P hP c K hK; have hm : P.follows .mixedOrders = true := hP ▸ mixed; have hT : TOk P tl29 := hP ▸ tk29; (try rw [← ho]); cbv; (repeat (refine StopN.mk ?_; cbv)))
    repeat' (first | (refine Br.mk (fun hb => ?_) (fun hb => ?_) <;> ((try rw [ho] at hb); (try dsimp only [Ar.real, IX.vo] at hb); (try simp only [QU1, QB7] at hb); (try simp only [QBo, beq_iff_eq, beq_eq_false_iff_ne, ne_eq] at hb))) | (refine StopN.mk ?_; cbv) | (refine hK _ _ ?_) | (refine NeedT.mk ?_ ?_))
    any_goals (((try clear hR3); (try clear hR2); (try clear hR); (try clear hK); (try simp only [ncCast] at *); (try simp only [castI_eq] at *); (try rw [ho]); (try dsimp only [Ar.real, IX.vo, IX.val, BX.val, IX.toN]); (try simp only [QU1, QB7]); (try simp only [decide_eq_true_eq]); (all_goals (repeat rw [wrap_i64 (by omega) (by omega)])); (all_goals (first | omega | (simp only [Int.ofNat_eq_natCast]; omega)))); done)
    have hr : 0 < (SL o Go.Sy.encI l).rows.length := by rw [rows_SL o ho, List.length_map]; exact h0
    refine OpN.app0 ho hT rfl rfl (by rw [hP]; exact tok22.k) (by rw [hP]; exact tok2.sz) (fun h => absurd h (Nat.ne_of_gt hr)) (fun _ => ?_)
    cbv
    repeat' (first | (refine Br.mk (fun hb => ?_) (fun hb => ?_) <;> ((try rw [ho] at hb); (try dsimp only [Ar.real, IX.vo] at hb); (try simp only [QU1, QB7] at hb); (try simp only [QBo, beq_iff_eq, beq_eq_false_iff_ne, ne_eq] at hb))) | (refine StopN.mk ?_; cbv) | (refine hK _ _ ?_) | (refine NeedT.mk ?_ ?_) | (refine NeedP.mk (fits_I o ho l) ?_))
    any_goals (((try clear hR3); (try clear hR2); (try clear hR); (try clear hK); (try simp only [ncCast] at *); (try simp only [castI_eq] at *); (try rw [ho]); (try dsimp only [Ar.real, IX.vo, IX.val, BX.val, IX.toN]); (try simp only [QU1, QB7]); (try simp only [decide_eq_true_eq]); (all_goals (repeat rw [wrap_i64 (by omega) (by omega)])); (all_goals (first | omega | (simp only [Int.ofNat_eq_natCast]; omega)))); done)
    exact .ro ((rows_app1 ho Go.Sy.encI l).trans (by rw [ho]))
end Go.Proofs.YtkjjihicaefmcaaDoor.Sy
namespace Go.Proofs.YtkjjihicaefmcaaDoor.Sy
open Go Go.Sy Go.Proofs.YtkjjihicaefmcaaDoor
end Go.Proofs.YtkjjihicaefmcaaDoor.Sy
namespace Go.Proofs.YtkjjihicaefmcaaDoor.Sy
open Go Go.Sy Go.Proofs.YtkjjihicaefmcaaDoor
end Go.Proofs.YtkjjihicaefmcaaDoor.Sy
namespace Go.Proofs.YtkjjihicaefmcaaDoor.Sy
open Go Go.Sy Go.Proofs.YtkjjihicaefmcaaDoor
end Go.Proofs.YtkjjihicaefmcaaDoor.Sy
namespace Go.Proofs.YtkjjihicaefmcaaDoor.Sy
open Go Go.Sy Go.Proofs.YtkjjihicaefmcaaDoor
end Go.Proofs.YtkjjihicaefmcaaDoor.Sy
namespace Go.Proofs.YtkjjihicaefmcaaDoor.Sy
open Go Go.Sy Go.Proofs.YtkjjihicaefmcaaDoor
theorem toList_loop (s : ByteArray) : ∀ (n i : Nat) (r : List UInt8), s.size - i = n → i ≤ s.size → ByteArray.toList.loop s i r = r.reverse ++ s.data.toList.drop i
  | 0, i, r, h, hi => by
    unfold ByteArray.toList.loop
    have e : ¬ i < s.size := by omega
    rw [if_neg e, List.drop_of_length_le, List.append_nil]
    show s.data.size ≤ i
    exact Nat.le_of_not_lt e
  | n + 1, i, r, h, hi => by
    unfold ByteArray.toList.loop
    have e : i < s.size := by omega
    rw [if_pos e, toList_loop s n (i + 1) _ (by omega) (by omega)]
    have e2 : i < s.data.toList.length := e
    rw [List.drop_eq_getElem_cons e2]
    have e3 : s.get! i = s.data.toList[i] := by
      show s.data[i]! = _
      have e4 : i < s.data.size := e
      rw [getElem!_pos s.data i e4, Array.getElem_toList]
    rw [e3]
    simp
theorem toList_data (s : ByteArray) : s.toList = s.data.toList := by
  unfold ByteArray.toList
  rw [toList_loop s _ 0 [] rfl (Nat.zero_le _)]
  rfl
def encS (_ : Ar) (s : ByteArray) : List X := [.v (.string s)]
def nmsB : List ByteArray := [⟨#[]⟩, ⟨#[114, 101, 103, 105, 115, 116, 101, 114]⟩, ⟨#[108, 111, 115, 101]⟩, ⟨#[115, 117, 98, 115, 99, 114, 105, 98, 101]⟩, ⟨#[100, 105, 115, 99, 111, 110, 110, 101, 99, 116]⟩, ⟨#[116, 101, 97, 114, 100, 111, 119, 110]⟩, ⟨#[97, 99, 99, 101, 112, 116]⟩, ⟨#[100, 101, 99, 108, 105, 110, 101]⟩, ⟨#[114, 101, 115, 99, 105, 110, 100]⟩, ⟨#[114, 101, 118, 105, 118, 101]⟩, ⟨#[115, 117, 112, 112, 114, 101, 115, 115]⟩, ⟨#[107, 105, 108, 108]⟩, ⟨#[102, 105, 110, 105, 115, 104]⟩, ⟨#[116, 105, 99, 107]⟩, ⟨#[97, 108, 108, 111, 99, 97, 116, 101]⟩, ⟨#[97, 108, 108]⟩]
def idxS (l : List ByteArray) (s : ByteArray) : Int := ixR (fun x => decide (s.data.toList = x.data.toList)) l
def kindP (s : ByteArray) : Int × Bool := if idxS nmsB s < 1 then (0, false) else (idxS nmsB s, true)
theorem x_IndexS (l : List ByteArray) (s : ByteArray) (hl : l.length ≤ 1048576) : XC Tryd.prog 37 [.ro (SL Ar.real encS l), .v (.string s)] [] (xi (idxS l s)) [] := by
  have h1 := fun i => ixR_hit (q := fun x : ByteArray => decide (s.data.toList = x.data.toList)) (l := l) (i := i)
  have h2 := ixR_none (q := fun x : ByteArray => decide (s.data.toList = x.data.toList)) (l := l)
  unfold idxS
  generalize ixR (fun x : ByteArray => decide (s.data.toList = x.data.toList)) l = r at *
  (refine XC.of_body ([]) Tryd.func37 rfl Tryd.ntmps37 mixed (T := tl37) tk37 (by kernel_rfl) (by simp) rfl rfl rfl rfl rfl ?_; rintro o ho P hP c K hK; have hm : P.follows .mixedOrders = true := hP ▸ mixed; have hT : TOk P tl37 := hP ▸ tk37; (try rw [← ho]); cbv; (repeat (refine StopN.mk ?_; cbv)))
  refine LoopN.over (o := o) (D := []) ho hm hT (by kernel_rfl) (fun i : Nat => [(8, xn i)]) (fun _ => []) (fun _ => []) (fun i => i ≤ l.length ∧ ∀ j, j < i → decide (s.data.toList = (l.getD j default).data.toList) = false) (fun i => l.length - i) 0 ⟨Nat.zero_le _, fun j hj => by omega⟩ ?_ ?_
  · (refine ⟨?_, ?_, ?_, ?_⟩ <;> cbv <;> repeat' (first | trivial | exact EqX.rfl' | exact EqO.rfl' | apply And.intro | ((try clear hR3); (try clear hR2); (try clear hR); (try clear hK); (try simp only [ncCast] at *); (try simp only [castI_eq] at *); refine EqX.i ?_; (try rw [ho]); (try dsimp only [Ar.real, IX.vo, IX.val, BX.val, IX.toN]); (try simp only [QU1, QB7, QSyVa]); (repeat rw [wrap_i64 (by omega) (by omega)]); omega)))
  · rintro i ⟨hi, hno⟩ R hR
    have e2 := h1 i
    have st := lt_step (p := fun j => decide (s.data.toList = (l.getD j default).data.toList) = false) hno
    cbv
    repeat' (first | (refine Br.mk (fun hb => ?_) (fun hb => ?_) <;> ((try rw [ho] at hb); (try dsimp only [Ar.real, IX.vo] at hb); (try simp only [QU1, QB7, QSyVa] at hb); (try simp only [QBo, beq_iff_eq, beq_eq_false_iff_ne, ne_eq] at hb))) | (refine StopN.mk ?_; cbv) | (refine hK _ _ ?_) | (refine NeedT.mk ?_ ?_))
    any_goals (((try clear hR3); (try clear hR2); (try clear hR); (try clear hK); (try simp only [ncCast] at *); (try simp only [castI_eq] at *); (try rw [ho]); (try dsimp only [Ar.real, IX.vo, IX.val, BX.val, IX.toN]); (try simp only [QU1, QB7, QSyVa]); (try simp only [decide_eq_true_eq]); (all_goals (repeat rw [wrap_i64 (by omega) (by omega)])); (all_goals (first | omega | (simp only [Int.ofNat_eq_natCast]; omega)))); done)
    · rw [e2 (by ((try clear hR3); (try clear hR2); (try clear hR); (try clear hK); (try simp only [ncCast] at *); (try simp only [castI_eq] at *)); omega) hno (by ((try clear hR3); (try clear hR2); (try clear hR); (try clear hK); (try simp only [ncCast] at *); (try simp only [castI_eq] at *)); rw [toList_data, toList_data] at hb; exact decide_eq_true hb)]
      exact .i rfl
    · refine hR _ (i + 1) (by show l.length - (i + 1) < l.length - i; ((try clear hR3); (try clear hR2); (try clear hR); (try clear hK); (try simp only [ncCast] at *); (try simp only [castI_eq] at *)); omega) ⟨by show i + 1 ≤ l.length; ((try clear hR3); (try clear hR2); (try clear hR); (try clear hK); (try simp only [ncCast] at *); (try simp only [castI_eq] at *)); omega, st (by ((try clear hR3); (try clear hR2); (try clear hR); (try clear hK); (try simp only [ncCast] at *); (try simp only [castI_eq] at *)); rw [toList_data, toList_data] at hb; exact decide_eq_false hb)⟩ ?_
      (refine ⟨?_, ?_, ?_, ?_⟩ <;> cbv <;> repeat' (first | trivial | exact EqX.rfl' | exact EqO.rfl' | apply And.intro | ((try clear hR3); (try clear hR2); (try clear hR); (try clear hK); (try simp only [ncCast] at *); (try simp only [castI_eq] at *); refine EqX.i ?_; (try rw [ho]); (try dsimp only [Ar.real, IX.vo, IX.val, BX.val, IX.toN]); (try simp only [QU1, QB7, QSyVa]); (repeat rw [wrap_i64 (by omega) (by omega)]); omega)))
    · obtain rfl : i = l.length := by ((try clear hR3); (try clear hR2); (try clear hR); (try clear hK); (try simp only [ncCast] at *); (try simp only [castI_eq] at *)); omega
      rw [h2 hno]
      exact .i rfl
theorem x_sKind (s : ByteArray) : XC Tryd.prog 15 [.v (.string s)] [] (.tup [xi (kindP s).1, xb (kindP s).2]) [] := by
  have h1 : XC Tryd.prog 37 [.ro (.lits (nmsB.map (encS Ar.real))), .v (.string s)] [] (xi (idxS nmsB s)) [] := XC_at (x_IndexS nmsB s (by decide)) (fun c => rfl) (fun c => rfl)
  have E1 : idxS nmsB s < 1 → kindP s = (0, false) := fun h => by unfold kindP; rw [if_pos h]
  have E2 : ¬ idxS nmsB s < 1 → kindP s = (idxS nmsB s, true) := fun h => by unfold kindP; rw [if_neg h]
  generalize kindP s = r at *
  generalize idxS nmsB s = n at *
  (refine XC.of_body ([]) Tryd.func15 rfl Tryd.ntmps15 mixed (T := tl15) tk15 (by kernel_rfl) (by simp) rfl rfl rfl rfl rfl ?_; rintro o ho P hP c K hK; have hm : P.follows .mixedOrders = true := hP ▸ mixed; have hT : TOk P tl15 := hP ▸ tk15; (try rw [← ho]); cbv; (repeat (refine StopN.mk ?_; cbv)))
  refine OpN.asl 0 rfl (by rw [hP]; exact tok64.k) (by rw [hP]; exact tok9.sz) (by decide) (by decide) rfl (by decide) (.inl ⟨rfl, rfl⟩) ?_
  cbv
  repeat' (first | (refine Br.mk (fun hb => ?_) (fun hb => ?_) <;> ((try rw [ho] at hb); (try dsimp only [Ar.real, IX.vo] at hb); (try simp only [QU1, QB7, QSyVa] at hb); (try simp only [QBo, beq_iff_eq, beq_eq_false_iff_ne, ne_eq] at hb))) | (refine StopN.mk ?_; cbv) | (refine CallI.pure hP h1 fn37 rfl rfl rfl ?_); cbv | (refine hK _ _ ?_) | (refine NeedT.mk ?_ ?_))
  · rw [E1 (by ((try clear hR3); (try clear hR2); (try clear hR); (try clear hK); (try simp only [ncCast] at *); (try simp only [castI_eq] at *)); omega)]
    exact .pure fun _ => rfl
  · rw [E2 (by ((try clear hR3); (try clear hR2); (try clear hR); (try clear hK); (try simp only [ncCast] at *); (try simp only [castI_eq] at *)); omega)]
    exact .pure fun _ => rfl
theorem x_OpName2 : XC Tryd.prog 27 [il 2] [] (.v (.string ⟨#[114, 101, 115, 101, 114, 118, 101]⟩)) [] := by
  (refine XC.of_body ([]) Tryd.func27 rfl Tryd.ntmps27 mixed (T := tl27) tk27 (by kernel_rfl) (by simp) rfl rfl rfl rfl rfl ?_; rintro o ho P hP c K hK; have hm : P.follows .mixedOrders = true := hP ▸ mixed; have hT : TOk P tl27 := hP ▸ tk27; (try rw [← ho]); cbv; (repeat (refine StopN.mk ?_; cbv)))
  repeat' (first | (refine Br.mk (fun hb => ?_) (fun hb => ?_) <;> ((try rw [ho] at hb); (try dsimp only [Ar.real, IX.vo] at hb); (try simp only [QU1, QB7, QSyVa] at hb); (try simp only [QBo, beq_iff_eq, beq_eq_false_iff_ne, ne_eq] at hb))) | (refine StopN.mk ?_; cbv) | (refine NeedT.mk (by rw [ho]; rfl) ?_) | (refine hK _ _ ?_) | (refine NeedT.mk ?_ ?_))
  exact .pure fun _ => rfl
end Go.Proofs.YtkjjihicaefmcaaDoor.Sy
namespace Go.Proofs.YtkjjihicaefmcaaDoor.Sy
open Go Go.Sy Go.Proofs.YtkjjihicaefmcaaDoor
theorem check_four (c : Cal) : checkC c = [] ∨ checkC c = [1] ∨ checkC c = [2] ∨ checkC c = [1, 2] := by
  unfold checkC
  cases formB c <;> cases twiB c <;> simp
theorem check_len (c : Cal) : (checkC c).length ≤ 2 := by rcases check_four c with h | h | h | h <;> rw [h] <;> decide
end Go.Proofs.YtkjjihicaefmcaaDoor.Sy
namespace Go.Proofs.YtkjjihicaefmcaaDoor.Sy
open Go Go.Sy Go.Proofs.YtkjjihicaefmcaaDoor
def kC1 : Cal := ⟨13, 0, 0, 0, 0, 0, -1, [], [], []⟩
def kC2 : Cal := ⟨7, 1, 0, 0, 0, 0, 0, [5, 5], [], []⟩
theorem kC1_ok : CalOk kC1 := ⟨by decide, by decide, by decide, fun i => by show (default : Opn).vec.length ≤ _; decide⟩
theorem kC2_ok : CalOk kC2 := ⟨by decide, by decide, by decide, fun i => by show (default : Opn).vec.length ≤ _; decide⟩
theorem kC1_c : checkC kC1 = [1] := by
  unfold checkC
  rw [show formB kC1 = false from by decide, show twiB kC1 = false from twi_f0 (fun h => absurd h (by decide)) (fun h => absurd h (by decide))]
  rfl
theorem kC2_c : checkC kC2 = [2] := by
  unfold checkC
  rw [show formB kC2 = true from by decide, show twiB kC2 = true from twi_f1 (i := 1) (k := 0) (by decide) (by decide) (by decide) rfl]
  rfl
@[reducible] def n0X : X := .ro (.lits [])
theorem x_works14 : XC Tryd.prog 9 [] [] (.b .t) [] := by
  have h1 : XC Tryd.prog 7 [.agg [il 13, il 0, il 0, il 0, il 0, il 0, il (-1), n0X, n0X, n0X]] [] (.ro (.lits [[il 1]])) [] := XC_at (x_sCheck kC1 kC1_ok) (fun c => rfl) (fun c => by rw [kC1_c]; rfl)
  have h2 : XC Tryd.prog 7 [.agg [il 7, il 1, il 0, il 0, il 0, il 0, il 0, .ro (.lits [[il 5], [il 5]]), n0X, n0X]] [] (.ro (.lits [[il 2]])) [] := XC_at (x_sCheck kC2 kC2_ok) (fun c => rfl) (fun c => by rw [kC2_c]; rfl)
  have h3 : XC Tryd.prog 15 [.v (.string ⟨#[97, 99, 99, 101, 112, 116]⟩)] [] (.tup [il 6, .b .t]) [] := XC_at (x_sKind ⟨#[97, 99, 99, 101, 112, 116]⟩) (fun c => rfl) (fun c => by rw [show kindP ⟨#[97, 99, 99, 101, 112, 116]⟩ = (6, true) from by decide]; rfl)
  have h4 : XC Tryd.prog 10 [il 3, il 3] [] (.b .t) [] := XC_at (x_Has 3 3) (fun c => rfl) (fun c => by rw [show hasP 3 3 = true from by decide]; rfl)
  have h5 := x_OpName2
  (refine XC.of_body ([]) Tryd.func9 rfl Tryd.ntmps9 mixed (T := tl9) tk9 (by kernel_rfl) (by simp) rfl rfl rfl rfl rfl ?_; rintro o ho P hP c K hK; have hm : P.follows .mixedOrders = true := hP ▸ mixed; have hT : TOk P tl9 := hP ▸ tk9; (try rw [← ho]); cbv; (repeat (refine StopN.mk ?_; cbv)))
  repeat' (first | (refine Br.mk (fun hb => ?_) (fun hb => ?_) <;> ((try rw [ho] at hb); (try dsimp only [Ar.real, IX.vo] at hb); (try simp only [QU1, QB7, QSyVa] at hb); (try simp only [QBo, beq_iff_eq, beq_eq_false_iff_ne, ne_eq] at hb))) | (refine StopN.mk ?_; cbv) | (first | refine NeedT.mk (by rw [ho]; rfl) ?_ | refine CallI.pure hP h1 fn7 rfl rfl rfl ?_ | refine CallI.pure hP h2 fn7 rfl rfl rfl ?_ | refine CallI.pure hP h3 fn15 rfl rfl rfl ?_ | refine CallI.pure hP h4 fn10 rfl rfl rfl ?_ | refine CallI.pure hP h5 fn27 rfl rfl rfl ?_); cbv | (refine hK _ _ ?_) | (refine NeedT.mk ?_ ?_))
  exact .pure fun _ => by subst ho; exact congrArg (fun b => D.c (.v (.bool b))) (beq_self_eq_true _)
theorem x_ShapeChecks (c : Cal) (hc : CalOk c) : XC Tryd.prog 3 [.agg (Cal.X Ar.real c)] [] (.b .t) [] := by
  have h1 := x_CalFew c hc
  have h2 := x_sCheck c hc
  have h3 := x_r14Check c hc
  have hl := check_len c
  generalize checkC c = l at *
  generalize fewC c = fw at *
  obtain ⟨k1, k2, k3, k4, k5, k6, k7, ids, vec, ops⟩ := c
  clear hc
  (refine XC.of_body (dt3) Tryd.func3 rfl Tryd.ntmps3 mixed (T := tl3) tk3 (by kernel_rfl) (by simp) rfl rfl rfl rfl rfl ?_; rintro o ho P hP c K hK; have hm : P.follows .mixedOrders = true := hP ▸ mixed; have hT : TOk P tl3 := hP ▸ tk3; (try rw [← ho]); cbv; (repeat (refine StopN.mk ?_; cbv)))
  rw [← ho] at h1 h2 h3
  repeat' (first | (refine Br.mk (fun hb => ?_) (fun hb => ?_) <;> ((try rw [ho] at hb); (try dsimp only [Ar.real, IX.vo] at hb); (try simp only [QU1, QB7, QSyVa] at hb); (try simp only [QBo, beq_iff_eq, beq_eq_false_iff_ne, ne_eq] at hb))) | (refine StopN.mk ?_; cbv) | (first | refine CallI.pure hP h1 fn6 rfl rfl rfl ?_ | refine CallN.pure hP h2 fn7 rfl rfl rfl ?_ | refine CallN.pure hP h3 fn8 rfl rfl rfl ?_); cbv | ((first | refine CallI.pure hP (x_works14) fn9 (by first | rfl | (rw [ho]; try rfl)) (by rfl) (by first | rfl | (rw [ho]; try rfl)) ?_ | refine CallN.pure hP (x_works14) fn9 (by first | rfl | (rw [ho]; try rfl)) (by rfl) (by first | rfl | (rw [ho]; try rfl)) ?_); (try rw [← ho]); cbv) | (refine hK _ _ ?_) | (refine NeedT.mk ?_ ?_))
  · exact .pure fun _ => rfl
  · exact absurd trivial hb
  refine LoopN.over (o := o) (D := dt3) ho hm hT (by kernel_rfl) (fun i : Nat => [(5, xn i)]) (fun _ => []) (fun _ => []) (fun i => i ≤ l.length) (fun i => l.length - i) 0 (Nat.zero_le _) ?_ ?_
  · (refine ⟨?_, ?_, ?_, ?_⟩ <;> cbv <;> repeat' (first | trivial | exact EqX.rfl' | exact EqO.rfl' | apply And.intro | ((try clear hR3); (try clear hR2); (try clear hR); (try clear hK); (try simp only [ncCast] at *); (try simp only [castI_eq] at *); refine EqX.i ?_; (try rw [ho]); (try dsimp only [Ar.real, IX.vo, IX.val, BX.val, IX.toN]); (try simp only [QU1, QB7, QSyVa]); (repeat rw [wrap_i64 (by omega) (by omega)]); omega)))
  · rintro i hi R hR
    have hW := x_works14
    cbv
    repeat' (first | (refine Br.mk (fun hb => ?_) (fun hb => ?_) <;> ((try rw [ho] at hb); (try dsimp only [Ar.real, IX.vo] at hb); (try simp only [QU1, QB7, QSyVa] at hb); (try simp only [QBo, beq_iff_eq, beq_eq_false_iff_ne, ne_eq] at hb))) | (refine StopN.mk ?_; cbv) | (refine CallI.pure hP hW fn9 rfl rfl rfl ?_); cbv | ((first | refine CallI.pure hP (x_CalFew _ ‹_›) fn6 (by first | rfl | (rw [ho]; try rfl)) (by rfl) (by first | rfl | (rw [ho]; try rfl)) ?_ | refine CallN.pure hP (x_CalFew _ ‹_›) fn6 (by first | rfl | (rw [ho]; try rfl)) (by rfl) (by first | rfl | (rw [ho]; try rfl)) ?_); (try rw [← ho]); generalize hr : fewC _ = r; (try rw [ho] at hr); (try dsimp only [Ar.real, IX.vo] at hr); (try simp only [QU1, QB7, QSyVa] at hr); cbv) | ((first | refine CallI.pure hP (x_sCheck _ ‹_›) fn7 (by first | rfl | (rw [ho]; try rfl)) (by rfl) (by first | rfl | (rw [ho]; try rfl)) ?_ | refine CallN.pure hP (x_sCheck _ ‹_›) fn7 (by first | rfl | (rw [ho]; try rfl)) (by rfl) (by first | rfl | (rw [ho]; try rfl)) ?_); (try rw [← ho]); generalize hr : checkC _ = r; (try rw [ho] at hr); (try dsimp only [Ar.real, IX.vo] at hr); (try simp only [QU1, QB7, QSyVa] at hr); cbv) | ((first | refine CallI.pure hP (x_r14Check _ ‹_›) fn8 (by first | rfl | (rw [ho]; try rfl)) (by rfl) (by first | rfl | (rw [ho]; try rfl)) ?_ | refine CallN.pure hP (x_r14Check _ ‹_›) fn8 (by first | rfl | (rw [ho]; try rfl)) (by rfl) (by first | rfl | (rw [ho]; try rfl)) ?_); (try rw [← ho]); generalize hr : checkC _ = r; (try rw [ho] at hr); (try dsimp only [Ar.real, IX.vo] at hr); (try simp only [QU1, QB7, QSyVa] at hr); cbv) | (refine hK _ _ ?_) | (refine NeedT.mk ?_ ?_))
    all_goals try (((try clear hR3); (try clear hR2); (try clear hR); (try clear hK); (try simp only [ncCast] at *); (try simp only [castI_eq] at *); (try rw [ho]); (try dsimp only [Ar.real, IX.vo, IX.val, BX.val, IX.toN]); (try simp only [QU1, QB7, QSyVa]); (try simp only [decide_eq_true_eq]); (all_goals (repeat rw [wrap_i64 (by omega) (by omega)])); (all_goals (first | omega | (simp only [Int.ofNat_eq_natCast]; omega)))); done)
    · exact absurd trivial hb
    · refine hR _ (i + 1) (by show l.length - (i + 1) < l.length - i; ((try clear hR3); (try clear hR2); (try clear hR); (try clear hK); (try simp only [ncCast] at *); (try simp only [castI_eq] at *)); omega) (by show i + 1 ≤ l.length; ((try clear hR3); (try clear hR2); (try clear hR); (try clear hK); (try simp only [ncCast] at *); (try simp only [castI_eq] at *)); omega) ?_
      (refine ⟨?_, ?_, ?_, ?_⟩ <;> cbv <;> repeat' (first | trivial | exact EqX.rfl' | exact EqO.rfl' | apply And.intro | ((try clear hR3); (try clear hR2); (try clear hR); (try clear hK); (try simp only [ncCast] at *); (try simp only [castI_eq] at *); refine EqX.i ?_; (try rw [ho]); (try dsimp only [Ar.real, IX.vo, IX.val, BX.val, IX.toN]); (try simp only [QU1, QB7, QSyVa]); (repeat rw [wrap_i64 (by omega) (by omega)]); omega)))
    · exact .pure fun _ => rfl
end Go.Proofs.YtkjjihicaefmcaaDoor.Sy
namespace Go.Proofs.YtkjjihicaefmcaaDoor.Sy
open Go Go.Sy Go.Proofs.YtkjjihicaefmcaaDoor Go.RowKit Go.ChangeShapes Go.WideShapes Go.ChangeAt Go.Lib
theorem trod_str {H : Type} {enc : TypeId × Value → H} {P : Program} {w : World} {base : Nat} {sp : Nat → Bool} {held : Bool} {fuel : Nat} {e : TypeId} {cs : List Value} {x : DataW H × List MemPlace} (he : P.underlying e = some .string)
    (h : DataW.trod enc P w base sp held fuel e cs = some x) : ∃ s : ByteArray, cs = [.string s] ∧ x.1 = .lit (.string s.data.toList) := by
  cases fuel with
  | zero => simp [DataW.trod] at h
  | succ fuel =>
    simp only [DataW.trod, he] at h
    split at h
    case h_4 s heq =>
      split at h
      · cases h
        exact ⟨s, rfl, rfl⟩
      · cases h
    all_goals first
      | (cases h; done)
      | (exfalso; simp_all; done)
theorem strs_of_tab {H : Type} {enc : TypeId × Value → H} {P : Program} {w : World} {base : Nat} {sp : Nat → Bool} {held : Bool} {fuel : Nat} {t e : TypeId} {n : Nat} {cs : List Value} {zs : List (List UInt8)} {p : List MemPlace}
    (ht : P.underlying t = some (.array n e)) (he : P.underlying e = some .string) (hce : P.cellsOf e = 1) (hct : P.cellsOf t = n)
    (h : DataW.trod enc P w base sp held fuel t cs = some (.agg (zs.map fun z => .lit (.string z)), p)) : cs = zs.map fun z => Value.string ⟨⟨z⟩⟩ := by
  cases fuel with
  | zero => simp [DataW.trod] at h
  | succ fuel =>
    simp only [DataW.trod, ht, hce, hct, Nat.mul_one] at h
    split at h
    · rename_i hl
      obtain ⟨xs, hm, hx⟩ := Option.map_eq_some_iff.1 h
      have hxs : xs.map (·.1) = zs.map fun z => (DataW.lit (.string z) : DataW H) := by
        have := congrArg Prod.fst hx
        simpa using this
      have hxl : xs.length = n := by simpa using mapM_length hm
      have hzl : zs.length = n := by
        have := congrArg List.length hxs
        simp at this
        omega
      apply List.ext_getElem?
      intro i
      by_cases hi : i < n
      · obtain ⟨b, hb, hf⟩ := mapM_at hm i i (by simp [hi])
        obtain ⟨z, hc, hz⟩ := trod_str he hf
        have h1 : cs[i]? = some (.string z) := by
          have := congrArg (·[0]?) hc
          simpa [List.getElem?_take, List.getElem?_drop] using this
        have h2 : (xs.map (·.1))[i]? = some (DataW.lit (.string z.data.toList) : DataW H) := by simp [hb, hz]
        rw [hxs] at h2
        simp only [List.getElem?_map, Option.map_eq_some_iff, DataW.lit.injEq, Lit.string.injEq] at h2
        obtain ⟨z', hz', rfl⟩ := h2
        rw [h1, List.getElem?_map, hz']
        rfl
      · rw [List.getElem?_eq_none (by omega), List.getElem?_eq_none (by simp; omega)]
    · cases h
def nmsZ : List (List UInt8) := [[], [114, 101, 103, 105, 115, 116, 101, 114], [108, 111, 115, 101], [115, 117, 98, 115, 99, 114, 105, 98, 101], [100, 105, 115, 99, 111, 110, 110, 101, 99, 116], [116, 101, 97, 114, 100, 111, 119, 110], [97, 99, 99, 101, 112, 116], [100, 101, 99, 108, 105, 110, 101], [114, 101, 115, 99, 105, 110, 100], [114, 101, 118, 105, 118, 101], [115, 117, 112, 112, 114, 101, 115, 115], [107, 105, 108, 108], [102, 105, 110, 105, 115, 104], [116, 105, 99, 107], [97, 108, 108, 111, 99, 97, 116, 101], [97, 108, 108]]
def opsZ : List (List UInt8) := [[], [108, 97, 117, 110, 99, 104], [114, 101, 115, 101, 114, 118, 101], [117, 110, 114, 101, 115, 101, 114, 118, 101]]
theorem gNames : Tryd.prog.globalNamed "manciple/shape.names" = some 0 := by kernel_rfl
theorem gOps : Tryd.prog.globalNamed "manciple/shape.ops" = some 1 := by kernel_rfl
theorem tNames : (Tryd.prog.globals[0]?).map (·.type) = some 64 := by kernel_rfl
theorem tOps : (Tryd.prog.globals[1]?).map (·.type) = some 76 := by kernel_rfl
theorem uNames : Tryd.prog.underlying 64 = some (.array 16 9) := by kernel_rfl
theorem uOps : Tryd.prog.underlying 76 = some (.array 4 9) := by kernel_rfl
theorem uStr : Tryd.prog.underlying 9 = some .string := by kernel_rfl
theorem cStr : Tryd.prog.cellsOf 9 = 1 := by kernel_rfl
theorem cNames : Tryd.prog.cellsOf 64 = 16 := by kernel_rfl
theorem cOps : Tryd.prog.cellsOf 76 = 4 := by kernel_rfl
theorem var_row {P : Program} {W : World} {n : String} {g : Nat} {l : List Value} (hg : P.globalNamed n = some g) (h : W.var? P n = some l.toArray) (hl : 0 < l.length) : g < W.heap.size ∧ ∀ j, j < l.length → W.cell? ⟨g, j, none⟩ = some (l.getD j undef) := by
  have hc : ∀ j, j < l.length → W.cell? ⟨g, j, none⟩ = some (l.getD j undef) := fun j hj => by
    have := World.var?_cell hg h j
    rw [this]
    simp [List.getD_eq_getElem?_getD, hj]
  refine ⟨?_, hc⟩
  have h0 := hc 0 hl
  apply Classical.byContradiction
  intro hn
  have : W.heap[g]? = none := Array.getElem?_eq_none (by omega)
  simp [World.cell?, this] at h0
theorem tables {W : World} (h : laidMet Tryd.prog [("manciple/shape.names", Rows.laid_manciple_shape_names), ("manciple/shape.ops", Rows.laid_manciple_shape_ops)] W) :
    ∀ g l, tabOf g = some l → Zof W g ∧ ∀ j, j < l.length → W.cell? ⟨g, j, none⟩ = some (l.getD j undef) := by
  obtain ⟨ps, ⟨g, t, cs, fuel, p, q, hg, ht, hvar, hd, ⟨g2, t2, cs2, fuel2, p2, q2, hg2, ht2, hvar2, hd2, _, _⟩, _⟩, _⟩ := h
  obtain rfl := Option.some.inj (gNames.symm.trans hg)
  obtain rfl := Option.some.inj (tNames.symm.trans ht)
  obtain rfl := Option.some.inj (gOps.symm.trans hg2)
  obtain rfl := Option.some.inj (tOps.symm.trans ht2)
  have e1 := strs_of_tab (zs := nmsZ) uNames uStr cStr cNames hd
  have e2 := strs_of_tab (zs := opsZ) uOps uStr cStr cOps hd2
  have v1 : W.var? Tryd.prog "manciple/shape.names" = some (nmsZ.map fun z => Value.string ⟨⟨z⟩⟩).toArray := by rw [hvar, ← e1]
  have v2 : W.var? Tryd.prog "manciple/shape.ops" = some (opsZ.map fun z => Value.string ⟨⟨z⟩⟩).toArray := by rw [hvar2, ← e2]
  intro g l hgl
  match g, hgl with
  | 0, hgl =>
    obtain rfl := Option.some.inj hgl
    exact var_row gNames v1 (by decide)
  | 1, hgl =>
    obtain rfl := Option.some.inj hgl
    exact var_row gOps v2 (by decide)
def tdPart : TD := .agg [.int .i64, .int .i64, .int .i64]
theorem decPart (M : Nat) : Dec tdPart M (fun _ => True) Part.X := by
  rintro cs ⟨a, r1, rfl, h1, b, r2, rfl, h2, c, r3, rfl, h3, h4⟩
  obtain rfl := hasL_nil h4
  obtain ⟨x, -, rfl⟩ := Dec.int M a h1
  obtain ⟨y, -, rfl⟩ := Dec.int M b h2
  obtain ⟨z, -, rfl⟩ := Dec.int M c h3
  exact ⟨⟨x, y, z⟩, trivial, rfl⟩
def tdOpn : TD := .agg [.int .i64, .int .i64, .slice tdPart]
theorem decOpn (M : Nat) : Dec tdOpn M (fun a => a.vec.length ≤ M) Opn.X := by
  rintro cs ⟨a, r1, rfl, h1, b, r2, rfl, h2, c, r3, rfl, h3, h4⟩
  obtain rfl := hasL_nil h4
  obtain ⟨x, -, rfl⟩ := Dec.int M a h1
  obtain ⟨y, -, rfl⟩ := Dec.int M b h2
  obtain ⟨z, k3, rfl⟩ := (decPart M).slice c h3
  exact ⟨⟨x, y, z⟩, k3.len, rfl⟩
def tdCal : TD := .agg [.int .i64, .int .i64, .int .i64, .int .i64, .int .i64, .int .i64, .int .i64, .slice (.int .i64), .slice tdPart, .slice tdOpn]
theorem decI64 (M : Nat) : Dec (.int .i64) M (fun n : Int => -9223372036854775808 ≤ n ∧ n ≤ 9223372036854775807) Go.Sy.encI := (Dec.int M).one
theorem decCal : Dec tdCal 1048576 CalOk Cal.X := by
  rintro cs ⟨a, r1, rfl, h1, b, r2, rfl, h2, c, r3, rfl, h3, d, r4, rfl, h4, e, r5, rfl, h5, f, r6, rfl, h6, g, r7, rfl, h7, i, r8, rfl, h8, j, r9, rfl, h9, k, r10, rfl, h10, h11⟩
  obtain rfl := hasL_nil h11
  obtain ⟨x1, -, rfl⟩ := Dec.int 1048576 a h1
  obtain ⟨x2, -, rfl⟩ := Dec.int 1048576 b h2
  obtain ⟨x3, -, rfl⟩ := Dec.int 1048576 c h3
  obtain ⟨x4, -, rfl⟩ := Dec.int 1048576 d h4
  obtain ⟨x5, -, rfl⟩ := Dec.int 1048576 e h5
  obtain ⟨x6, -, rfl⟩ := Dec.int 1048576 f h6
  obtain ⟨x7, -, rfl⟩ := Dec.int 1048576 g h7
  obtain ⟨x8, k8, rfl⟩ := (decI64 1048576).slice i h8
  obtain ⟨x9, k9, rfl⟩ := (decPart 1048576).slice j h9
  obtain ⟨x10, k10, rfl⟩ := (decOpn 1048576).slice k h10
  refine ⟨⟨x1, x2, x3, x4, x5, x6, x7, x8, x9, x10⟩, ⟨k8.len, k9.len, k10.len, fun i => ?_⟩, rfl⟩
  by_cases hk : i < x10.length
  · show (x10.getD i default).vec.length ≤ 1048576
    rw [getD_g hk]
    exact k10.all _ (List.getElem_mem hk)
  · show (x10.getD i default).vec.length ≤ 1048576
    rw [List.getD_eq_getElem?_getD, List.getElem?_eq_none (by omega)]
    exact Nat.zero_le _
theorem laidOut : laidOutB Tryd.prog = true := by kernel_rfl
theorem rowed : mapsRowed Tryd.prog = true := by kernel_rfl
theorem full : ((List.range Tryd.prog.types.size).all fun t => match Tryd.prog.underlying t with | some (.slice e) => decide (0 < Tryd.prog.cellsOf e) | _ => true) = true := by kernel_rfl
theorem own : ownKnob Tryd.prog.godebug = none := by kernel_rfl
theorem hasAllT1 {M : Nat} {t1 : TD} : ∀ {css : List (List C)}, hasAllT M [t1] css → ∃ c1, css = [c1] ∧ t1.has M c1
  | [c1], h => ⟨c1, rfl, h.1⟩
noncomputable def laidWorld (os : Os) : World :=
  { World.holding Tryd.prog os ⟨#[], #[], []⟩ with heap := ((World.holding Tryd.prog os ⟨#[], #[], []⟩).heap.modify 0 (fun x => match x with | .cells _ t frozen => .cells (nmsZ.map fun z => Value.string ⟨⟨z⟩⟩).toArray t frozen | o => o)).modify 1 (fun x => match x with | .cells _ t frozen => .cells (opsZ.map fun z => Value.string ⟨⟨z⟩⟩).toArray t frozen | o => o) }
end Go.Proofs.YtkjjihicaefmcaaDoor.Sy

/-
  The life of offers: the method for frameworks. Plain theorems.
-/
import Derived.Test.YtddgcegimmcbgaaK9
set_option linter.unusedSectionVars false
namespace Go.Proofs.Ytddgcegimmcbgaa.Sy
open Go Go.Sy Go.Proofs.Ytddgcegimmcbgaa
set_option maxRecDepth 100000
set_option maxHeartbeats 8000000
set_option linter.unusedVariables false
set_option linter.unusedSimpArgs false

def frameS (s : There) (e : Ev) : There :=
  if e.kind = 3 then { s with fr := s.fr.put [e.frame] 1 } else if e.kind = 4 then { s with fr := s.fr.put [e.frame] 0 } else { s with fr := s.fr.del [e.frame] }
def frameB (s : There) (e : Ev) : Bool :=
  if e.kind = 3 then true else if e.kind = 4 then decide ((lkp s.fr.ms [e.frame]).getD 0 = 1) && decide (many (fun x => decide (x.frame = e.frame)) s.of.ms = 0)
  else (lkp s.fr.ms [e.frame]).isSome && decide (many (fun x => decide (x.frame = e.frame)) s.of.ms + many (fun x => decide (x.frame = e.frame)) s.tk.ms = 0)
theorem x_frame (o : Ar) (ho : o = Ar.real) (s : There) (e : Ev) (hof : s.of.ms.length ≤ 1048576) (htk : s.tk.ms.length ≤ 1048576) : XC Try.prog 117 [.ptr (.out 0) 0, .agg (Ev.X o e)] (s.O o ho) (xb (frameB s e)) ((frameS s e).O o ho) := by
  by_cases hk : e.kind = 3
  · rw [show frameS s e = { s with fr := s.fr.put [e.frame] 1 } from if_pos hk, show frameB s e = true from if_pos hk]
    obtain ⟨⟨v1, ag, hn1⟩, ⟨v2, fr, hn2⟩, ⟨v3, of, hn3⟩, ⟨v4, tk, hn4⟩, n⟩ := s
    have hc := x_held o ho ⟨⟨v1, ag, hn1⟩, ⟨v2, fr, hn2⟩, ⟨v3, of, hn3⟩, ⟨v4, tk, hn4⟩, n⟩ e 175 (fun x => decide (x.frame = e.frame)) (x_frameF o ho e) fn175 hof htk
    dsimp only at hof htk
    (refine XC.of_body ([(1, []), (5, []), (8, []), (10, [])]) Try.func117 rfl Try.ntmps117 mixed (T := [(2, ti2), (3, ti3), (31, ti31), (33, ti33), (116, ti116), (117, ti117), (118, ti118), (120, ti120)]) (.cons tok2 (.cons tok3 (.cons tok31 (.cons tok33 (.cons tok116 (.cons tok117 (.cons tok118 (.cons tok120 .nil)))))))) (by kernel_rfl) (by simp) rfl rfl rfl rfl rfl ?_; rintro o2 ho2 P hP c K hK; have hm : P.follows .mixedOrders = true := hP ▸ mixed; have hT : TOk P [(2, ti2), (3, ti3), (31, ti31), (33, ti33), (116, ti116), (117, ti117), (118, ti118), (120, ti120)] := hP ▸ (.cons tok2 (.cons tok3 (.cons tok31 (.cons tok33 (.cons tok116 (.cons tok117 (.cons tok118 (.cons tok120 .nil)))))))); (try rw [← ho2]); have e2 : o = o2 := ho.trans ho2.symm; subst e2; cbv)
    repeat' (first | (refine Br.mk (fun hb => ?_) (fun hb => ?_) <;> ((try rw [ho] at hb); (try dsimp only [Ar.real, IX.vo] at hb); (try simp only [castI_eq, ltB_eq, leB_eq, eqIB_eq, inBB_eq, eqNB_eq, leNB_eq, foldOff, foldOff_id, foldOff_frame, foldOff_agent, foldOff_at_, foldOff_end_, foldOff_how, foldPart, foldEv, foldPart_kind, foldPart_role, foldPart_amount, foldEv_kind, foldEv_frame, foldEv_id, foldEv_agent, foldEv_vec, fold_put] at hb); (try simp only [decide_eq_true_eq, Int.ofNat_lt, Int.ofNat_le, decide_eq_false_iff_not, Nat.not_lt, Nat.not_le, Int.not_lt, Int.not_le, beq_iff_eq, beq_eq_false_iff_ne, ne_eq, Bool.not_eq_true, Bool.not_eq_false, Bool.not_eq_true', Bool.not_eq_false'] at hb))) | (refine hK _ _ ?_) | (refine NeedT.mk ?_ ?_) | refine CallN.objs [.out 0, .out 1, .out 2, .out 3, .out 4, .loc 0] hP hc fn173 rfl rfl rfl rfl (by rfl) rfl rfl rfl rfl (by rfl) ⟨⟨_, rfl, rfl⟩, ⟨_, rfl, rfl⟩, ⟨_, rfl, rfl⟩, ⟨_, rfl, rfl⟩, ⟨_, rfl, rfl⟩, ⟨_, rfl, rfl⟩, trivial⟩ ?_; generalize hm1 : many _ of = m1; generalize hm2 : many _ tk = m2; cbv)
    any_goals (first | (refine absurd trivial ?_; assumption) | (refine absurd ?_ ‹¬ e.kind = 3›; assumption) | (refine absurd ?_ ‹¬ e.kind = 4›; assumption) | (exfalso; ((try clear hR3); (try clear hR2); (try clear hR); (try clear hK); (try simp only [ncCast] at *); (try simp only [castI_eq] at *)); omega))
    · exact FinX_bU rfl (up_eq (fun c => .rfl') (up_eq (fun c => .rfl') (up_eq (fun c => EqO.map rfl (MT_put' ho encInt cleanInt fr hn2 _ _ c _ _ _ _ rfl rfl rfl)) (upL_refl _))))
    · exact FinX_bU rfl (up_eq (fun c => .rfl') (up_eq (fun c => .rfl') (up_eq (fun c => EqO.map rfl (MT_put' ho encInt cleanInt fr hn2 _ _ c _ _ _ _ rfl rfl rfl)) (upL_refl _))))
  by_cases hk4 : e.kind = 4
  · rw [show frameS s e = { s with fr := s.fr.put [e.frame] 0 } from (if_neg hk).trans (if_pos hk4), show frameB s e = _ from (if_neg hk).trans (if_pos hk4)]
    obtain ⟨⟨v1, ag, hn1⟩, ⟨v2, fr, hn2⟩, ⟨v3, of, hn3⟩, ⟨v4, tk, hn4⟩, n⟩ := s
    have hc := x_held o ho ⟨⟨v1, ag, hn1⟩, ⟨v2, fr, hn2⟩, ⟨v3, of, hn3⟩, ⟨v4, tk, hn4⟩, n⟩ e 175 (fun x => decide (x.frame = e.frame)) (x_frameF o ho e) fn175 hof htk
    dsimp only at hof htk
    (refine XC.of_body ([(1, []), (5, []), (8, []), (10, [])]) Try.func117 rfl Try.ntmps117 mixed (T := [(2, ti2), (3, ti3), (31, ti31), (33, ti33), (116, ti116), (117, ti117), (118, ti118), (120, ti120)]) (.cons tok2 (.cons tok3 (.cons tok31 (.cons tok33 (.cons tok116 (.cons tok117 (.cons tok118 (.cons tok120 .nil)))))))) (by kernel_rfl) (by simp) rfl rfl rfl rfl rfl ?_; rintro o2 ho2 P hP c K hK; have hm : P.follows .mixedOrders = true := hP ▸ mixed; have hT : TOk P [(2, ti2), (3, ti3), (31, ti31), (33, ti33), (116, ti116), (117, ti117), (118, ti118), (120, ti120)] := hP ▸ (.cons tok2 (.cons tok3 (.cons tok31 (.cons tok33 (.cons tok116 (.cons tok117 (.cons tok118 (.cons tok120 .nil)))))))); (try rw [← ho2]); have e2 : o = o2 := ho.trans ho2.symm; subst e2; cbv)
    repeat' (first | (refine Br.mk (fun hb => ?_) (fun hb => ?_) <;> ((try rw [ho] at hb); (try dsimp only [Ar.real, IX.vo] at hb); (try simp only [castI_eq, ltB_eq, leB_eq, eqIB_eq, inBB_eq, eqNB_eq, leNB_eq, foldOff, foldOff_id, foldOff_frame, foldOff_agent, foldOff_at_, foldOff_end_, foldOff_how, foldPart, foldEv, foldPart_kind, foldPart_role, foldPart_amount, foldEv_kind, foldEv_frame, foldEv_id, foldEv_agent, foldEv_vec, fold_put] at hb); (try simp only [decide_eq_true_eq, Int.ofNat_lt, Int.ofNat_le, decide_eq_false_iff_not, Nat.not_lt, Nat.not_le, Int.not_lt, Int.not_le, beq_iff_eq, beq_eq_false_iff_ne, ne_eq, Bool.not_eq_true, Bool.not_eq_false, Bool.not_eq_true', Bool.not_eq_false'] at hb))) | (refine hK _ _ ?_) | (refine NeedT.mk ?_ ?_) | refine CallN.objs [.out 0, .out 1, .out 2, .out 3, .out 4, .loc 0] hP hc fn173 rfl rfl rfl rfl (by rfl) rfl rfl rfl rfl (by rfl) ⟨⟨_, rfl, rfl⟩, ⟨_, rfl, rfl⟩, ⟨_, rfl, rfl⟩, ⟨_, rfl, rfl⟩, ⟨_, rfl, rfl⟩, ⟨_, rfl, rfl⟩, trivial⟩ ?_; generalize hm1 : many _ of = m1; generalize hm2 : many _ tk = m2; cbv)
    any_goals (first | (refine absurd trivial ?_; assumption) | (refine absurd ?_ ‹¬ e.kind = 3›; assumption) | (refine absurd ?_ ‹¬ e.kind = 4›; assumption) | (exfalso; ((try clear hR3); (try clear hR2); (try clear hR); (try clear hK); (try simp only [ncCast] at *); (try simp only [castI_eq] at *)); omega))
    · refine FinX_bU ?_ (up_eq (fun c => .rfl') (up_eq (fun c => .rfl') (up_eq (fun c => EqO.map rfl (MT_put' ho encInt cleanInt fr hn2 _ _ c _ _ _ _ rfl rfl rfl)) (upL_refl _))))
      have h1 : (lkp fr [e.frame]).getD 0 = 1 := by assumption
      ((try clear hR3); (try clear hR2); (try clear hR); (try clear hK); (try simp only [ncCast] at *); (try simp only [castI_eq] at *); (try rw [ho]); (try dsimp only [Ar.real, IX.vo, IX.val, BX.val, IX.toN]); (try simp only [castI_eq, ltB_eq, leB_eq, eqIB_eq, inBB_eq, eqNB_eq, leNB_eq, foldOff, foldOff_id, foldOff_frame, foldOff_agent, foldOff_at_, foldOff_end_, foldOff_how, foldPart, foldEv, foldPart_kind, foldPart_role, foldPart_amount, foldEv_kind, foldEv_frame, foldEv_id, foldEv_agent, foldEv_vec, fold_put]))
      rw [hm1, decide_eq_true h1, Bool.true_and]
      apply decide_eq_decide.2
      omega
    · refine FinX_bU ?_ (up_eq (fun c => .rfl') (up_eq (fun c => .rfl') (up_eq (fun c => EqO.map rfl (MT_put' ho encInt cleanInt fr hn2 _ _ c _ _ _ _ rfl rfl rfl)) (upL_refl _))))
      have h1 : ¬ (lkp fr [e.frame]).getD 0 = 1 := by assumption
      dsimp only
      rw [decide_eq_false h1]
      rfl
    · refine FinX_bU ?_ (up_eq (fun c => .rfl') (up_eq (fun c => .rfl') (up_eq (fun c => EqO.map rfl (MT_put' ho encInt cleanInt fr hn2 _ _ c _ _ _ _ rfl rfl rfl)) (upL_refl _))))
      have h1 : lkp fr [e.frame] = none := mhas_none encInt fr _ (by assumption)
      dsimp only
      rw [h1]
      rfl
  · rw [show frameS s e = { s with fr := s.fr.del [e.frame] } from (if_neg hk).trans (if_neg hk4), show frameB s e = _ from (if_neg hk).trans (if_neg hk4)]
    obtain ⟨⟨v1, ag, hn1⟩, ⟨v2, fr, hn2⟩, ⟨v3, of, hn3⟩, ⟨v4, tk, hn4⟩, n⟩ := s
    have hc := x_held o ho ⟨⟨v1, ag, hn1⟩, ⟨v2, fr, hn2⟩, ⟨v3, of, hn3⟩, ⟨v4, tk, hn4⟩, n⟩ e 175 (fun x => decide (x.frame = e.frame)) (x_frameF o ho e) fn175 hof htk
    dsimp only at hof htk
    (refine XC.of_body ([(1, []), (5, []), (8, []), (10, [])]) Try.func117 rfl Try.ntmps117 mixed (T := [(2, ti2), (3, ti3), (31, ti31), (33, ti33), (116, ti116), (117, ti117), (118, ti118), (120, ti120)]) (.cons tok2 (.cons tok3 (.cons tok31 (.cons tok33 (.cons tok116 (.cons tok117 (.cons tok118 (.cons tok120 .nil)))))))) (by kernel_rfl) (by simp) rfl rfl rfl rfl rfl ?_; rintro o2 ho2 P hP c K hK; have hm : P.follows .mixedOrders = true := hP ▸ mixed; have hT : TOk P [(2, ti2), (3, ti3), (31, ti31), (33, ti33), (116, ti116), (117, ti117), (118, ti118), (120, ti120)] := hP ▸ (.cons tok2 (.cons tok3 (.cons tok31 (.cons tok33 (.cons tok116 (.cons tok117 (.cons tok118 (.cons tok120 .nil)))))))); (try rw [← ho2]); have e2 : o = o2 := ho.trans ho2.symm; subst e2; cbv)
    repeat' (first | (refine Br.mk (fun hb => ?_) (fun hb => ?_) <;> ((try rw [ho] at hb); (try dsimp only [Ar.real, IX.vo] at hb); (try simp only [castI_eq, ltB_eq, leB_eq, eqIB_eq, inBB_eq, eqNB_eq, leNB_eq, foldOff, foldOff_id, foldOff_frame, foldOff_agent, foldOff_at_, foldOff_end_, foldOff_how, foldPart, foldEv, foldPart_kind, foldPart_role, foldPart_amount, foldEv_kind, foldEv_frame, foldEv_id, foldEv_agent, foldEv_vec, fold_put] at hb); (try simp only [decide_eq_true_eq, Int.ofNat_lt, Int.ofNat_le, decide_eq_false_iff_not, Nat.not_lt, Nat.not_le, Int.not_lt, Int.not_le, beq_iff_eq, beq_eq_false_iff_ne, ne_eq, Bool.not_eq_true, Bool.not_eq_false, Bool.not_eq_true', Bool.not_eq_false'] at hb))) | (refine hK _ _ ?_) | (refine NeedT.mk ?_ ?_) | refine CallN.objs [.out 0, .out 1, .out 2, .out 3, .out 4, .loc 0] hP hc fn173 rfl rfl rfl rfl (by rfl) rfl rfl rfl rfl (by rfl) ⟨⟨_, rfl, rfl⟩, ⟨_, rfl, rfl⟩, ⟨_, rfl, rfl⟩, ⟨_, rfl, rfl⟩, ⟨_, rfl, rfl⟩, ⟨_, rfl, rfl⟩, trivial⟩ ?_; generalize hm1 : many _ of = m1; generalize hm2 : many _ tk = m2; cbv)
    any_goals (first | (refine absurd trivial ?_; assumption) | (refine absurd ?_ ‹¬ e.kind = 3›; assumption) | (refine absurd ?_ ‹¬ e.kind = 4›; assumption) | (exfalso; ((try clear hR3); (try clear hR2); (try clear hR); (try clear hK); (try simp only [ncCast] at *); (try simp only [castI_eq] at *)); omega))
    · have hl1 := many_le (fun x => decide (x.frame = e.frame)) of
      have hl2 := many_le (fun x => decide (x.frame = e.frame)) tk
      refine FinX_bU ?_ (up_eq (fun c => .rfl') (up_eq (fun c => .rfl') (up_eq (fun c => EqO.map rfl (MT_del' ho encInt cleanInt fr hn2 _ _ c _ _ rfl rfl)) (upL_refl _))))
      obtain ⟨a, h1⟩ := mhas_some encInt fr [e.frame] (by assumption)
      ((try clear hR3); (try clear hR2); (try clear hR); (try clear hK); (try simp only [ncCast] at *); (try simp only [castI_eq] at *); (try rw [ho]); (try dsimp only [Ar.real, IX.vo, IX.val, BX.val, IX.toN]); (try simp only [castI_eq, ltB_eq, leB_eq, eqIB_eq, inBB_eq, eqNB_eq, leNB_eq, foldOff, foldOff_id, foldOff_frame, foldOff_agent, foldOff_at_, foldOff_end_, foldOff_how, foldPart, foldEv, foldPart_kind, foldPart_role, foldPart_amount, foldEv_kind, foldEv_frame, foldEv_id, foldEv_agent, foldEv_vec, fold_put]))
      rw [h1]
      rw [hm1] at hl1 ⊢
      rw [hm2] at hl2 ⊢
      rw [Option.isSome_some, Bool.true_and, wrap_i64 (by omega) (by omega)]
      apply decide_eq_decide.2
      omega
    · refine FinX_bU ?_ (up_eq (fun c => .rfl') (up_eq (fun c => .rfl') (up_eq (fun c => EqO.map rfl (MT_del' ho encInt cleanInt fr hn2 _ _ c _ _ rfl rfl)) (upL_refl _))))
      have h1 : lkp fr [e.frame] = none := mhas_none encInt fr _ (by assumption)
      dsimp only
      rw [h1]
      rfl
end Go.Proofs.Ytddgcegimmcbgaa.Sy

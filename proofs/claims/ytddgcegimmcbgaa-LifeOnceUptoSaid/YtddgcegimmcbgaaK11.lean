/-
  The life of offers: the method for offers. Plain theorems.
-/
import Derived.Test.YtddgcegimmcbgaaK10
set_option linter.unusedSectionVars false
namespace Go.Proofs.Ytddgcegimmcbgaa.Sy
open Go Go.Sy Go.Proofs.Ytddgcegimmcbgaa
set_option maxRecDepth 100000
set_option maxHeartbeats 8000000
set_option linter.unusedVariables false
set_option linter.unusedSimpArgs false

def TM.put2 {α : Type} (t : TM α) (k : List Int) (a : α) : TM α := ⟨t.ver + 2, putp t.ms k a, nodup_put t.hn k a⟩
def offerS (s : There) (e : Ev) : There :=
  if e.kind = 6 then { s with n := e.id, of := s.of.put2 [e.id] e } else { s with of := s.of.del [e.id] }
def offerB (s : There) (e : Ev) : Bool :=
  if e.kind = 6 then decide (s.n < e.id) && readyB s e && someR e.vec
  else match lkp s.of.ms [e.id] with | some a => sameB a e | none => false
theorem x_offer (o : Ar) (ho : o = Ar.real) (s : There) (e : Ev) (he : e.vec.length ≤ 1048576) (hv : ∀ k a, lkp s.of.ms k = some a → a.vec.length ≤ 1048576) : XC Try.prog 118 [.ptr (.out 0) 0, .agg (Ev.X o e)] (s.O o ho) (xb (offerB s e)) ((offerS s e).O o ho) := by
  by_cases hk : e.kind = 6
  · rw [show offerS s e = { s with n := e.id, of := s.of.put2 [e.id] e } from if_pos hk, show offerB s e = _ from if_pos hk]
    have hc := x_ready o ho s e
    obtain ⟨⟨v1, ag, hn1⟩, ⟨v2, fr, hn2⟩, ⟨v3, of, hn3⟩, ⟨v4, tk, hn4⟩, n⟩ := s
    (refine XC.of_body ([(2, []), (3, [(5, 12), (6, 12), (9, 12), (9, 13)]), (5, [(2, 10), (3, 10), (4, 10), (5, 10), (6, 10)]), (6, [])]) Try.func118 rfl Try.ntmps118 mixed (T := [(2, ti2), (3, ti3), (31, ti31), (33, ti33), (116, ti116), (117, ti117), (118, ti118), (120, ti120), (123, ti123)]) (.cons tok2 (.cons tok3 (.cons tok31 (.cons tok33 (.cons tok116 (.cons tok117 (.cons tok118 (.cons tok120 (.cons tok123 .nil))))))))) (by kernel_rfl) (by simp) rfl rfl rfl rfl rfl ?_; rintro o2 ho2 P hP c K hK; have hm : P.follows .mixedOrders = true := hP ▸ mixed; have hT : TOk P [(2, ti2), (3, ti3), (31, ti31), (33, ti33), (116, ti116), (117, ti117), (118, ti118), (120, ti120), (123, ti123)] := hP ▸ (.cons tok2 (.cons tok3 (.cons tok31 (.cons tok33 (.cons tok116 (.cons tok117 (.cons tok118 (.cons tok120 (.cons tok123 .nil))))))))); (try rw [← ho2]); have e2 : o = o2 := ho.trans ho2.symm; subst e2; cbv)
    repeat' (first | (refine Br.mk (fun hb => ?_) (fun hb => ?_) <;> ((try rw [ho] at hb); (try dsimp only [Ar.real, IX.vo] at hb); (try simp only [castI_eq, ltB_eq, leB_eq, eqIB_eq, inBB_eq, eqNB_eq, leNB_eq, foldOff, foldOff_id, foldOff_frame, foldOff_agent, foldOff_at_, foldOff_end_, foldOff_how, foldPart, foldEv, foldPart_kind, foldPart_role, foldPart_amount, foldEv_kind, foldEv_frame, foldEv_id, foldEv_agent, foldEv_vec, fold_put] at hb); (try simp only [decide_eq_true_eq, Int.ofNat_lt, Int.ofNat_le, decide_eq_false_iff_not, Nat.not_lt, Nat.not_le, Int.not_lt, Int.not_le, beq_iff_eq, beq_eq_false_iff_ne, ne_eq, Bool.not_eq_true, Bool.not_eq_false, Bool.not_eq_true', Bool.not_eq_false'] at hb))) | (refine CallN.pure hP (x_some _ ‹_›) fn176 (by first | rfl | (rw [ho]; done) | (rw [ho]; rfl)) (by rfl) (by first | rfl | (rw [ho]; done) | (rw [ho]; rfl)) ?_; (try rw [← ho]); generalize hr : someR _ = r; (try rw [ho] at hr); (try dsimp only [Ar.real, IX.vo] at hr); (try simp only [castI_eq, ltB_eq, leB_eq, eqIB_eq, inBB_eq, eqNB_eq, leNB_eq, foldOff, foldOff_id, foldOff_frame, foldOff_agent, foldOff_at_, foldOff_end_, foldOff_how, foldPart, foldEv, foldPart_kind, foldPart_role, foldPart_amount, foldEv_kind, foldEv_frame, foldEv_id, foldEv_agent, foldEv_vec, fold_put] at hr); cbv) | (refine CallN.pure hP (x_same _ _ ‹_›) fn177 (by first | rfl | (rw [ho]; done) | (rw [ho]; rfl)) (by rfl) (by first | rfl | (rw [ho]; done) | (rw [ho]; rfl)) ?_; (try rw [← ho]); generalize hr : sameB _ _ = r; (try rw [ho] at hr); (try dsimp only [Ar.real, IX.vo] at hr); (try simp only [castI_eq, ltB_eq, leB_eq, eqIB_eq, inBB_eq, eqNB_eq, leNB_eq, foldOff, foldOff_id, foldOff_frame, foldOff_agent, foldOff_at_, foldOff_end_, foldOff_how, foldPart, foldEv, foldPart_kind, foldPart_role, foldPart_amount, foldEv_kind, foldEv_frame, foldEv_id, foldEv_agent, foldEv_vec, fold_put] at hr); cbv) | (refine hK _ _ ?_) | (refine NeedT.mk ?_ ?_) | refine CallN.objs [.out 0, .out 1, .out 2, .out 3, .out 4] hP hc fn120 rfl rfl rfl rfl (by rfl) rfl rfl rfl rfl (by rfl) ⟨⟨_, rfl, rfl⟩, ⟨_, rfl, rfl⟩, ⟨_, rfl, rfl⟩, ⟨_, rfl, rfl⟩, ⟨_, rfl, rfl⟩, trivial⟩ ?_; generalize hrb : readyB _ _ = rb; cbv)
    any_goals (first | (refine absurd trivial ?_; assumption) | (refine absurd hk ?_; assumption))
    any_goals (rw [ho]; exact decide_eq_true rfl)
    all_goals (
      refine FinX_bU ?_ (up_eq (fun c => .rfl') (up_eq (fun c => .rfl') (up_eq (fun c => .rfl') (up_eq (fun c => EqO.map rfl (MT_put' ho encEv cleanEv of hn3 _ _ c _ _ e _ rfl (by first | (rw [ho]; done) | (rw [ho]; rfl)) rfl)) (upL_refl _)))))
      ((try clear hR3); (try clear hR2); (try clear hR); (try clear hK); (try simp only [ncCast] at *); (try simp only [castI_eq] at *); (try rw [ho]); (try dsimp only [Ar.real, IX.vo, IX.val, BX.val, IX.toN]); (try simp only [castI_eq, ltB_eq, leB_eq, eqIB_eq, inBB_eq, eqNB_eq, leNB_eq, foldOff, foldOff_id, foldOff_frame, foldOff_agent, foldOff_at_, foldOff_end_, foldOff_how, foldPart, foldEv, foldPart_kind, foldPart_role, foldPart_amount, foldEv_kind, foldEv_frame, foldEv_id, foldEv_agent, foldEv_vec, fold_put]))
      first
        | (have h0 : ¬ n < e.id := Int.not_lt.2 (by assumption)
           simp only [decide_eq_false h0, Bool.false_and]
           done)
        | (simp_all; done))
  · rw [show offerS s e = { s with of := s.of.del [e.id] } from if_neg hk, show offerB s e = _ from if_neg hk]
    obtain ⟨⟨v1, ag, hn1⟩, ⟨v2, fr, hn2⟩, ⟨v3, of, hn3⟩, ⟨v4, tk, hn4⟩, n⟩ := s
    dsimp only at hv
    by_cases hs : (lkp of [e.id]).isSome = true
    · obtain ⟨a, ha⟩ := Option.isSome_iff_exists.1 hs
      have hme : o.mgetT of [e.id] = a := by rw [ho, real_mgetT, ha]; rfl
      have hab : (o.mgetT of [e.id]).vec.length ≤ 1048576 ∧ e.vec.length ≤ 1048576 := ⟨by rw [hme]; exact hv _ _ ha, he⟩
      rw [ha]
      dsimp only
      (refine XC.of_body ([(2, []), (3, [(5, 12), (6, 12), (9, 12), (9, 13)]), (5, [(2, 10), (3, 10), (4, 10), (5, 10), (6, 10)]), (6, [])]) Try.func118 rfl Try.ntmps118 mixed (T := [(2, ti2), (3, ti3), (31, ti31), (33, ti33), (116, ti116), (117, ti117), (118, ti118), (120, ti120), (123, ti123)]) (.cons tok2 (.cons tok3 (.cons tok31 (.cons tok33 (.cons tok116 (.cons tok117 (.cons tok118 (.cons tok120 (.cons tok123 .nil))))))))) (by kernel_rfl) (by simp) rfl rfl rfl rfl rfl ?_; rintro o2 ho2 P hP c K hK; have hm : P.follows .mixedOrders = true := hP ▸ mixed; have hT : TOk P [(2, ti2), (3, ti3), (31, ti31), (33, ti33), (116, ti116), (117, ti117), (118, ti118), (120, ti120), (123, ti123)] := hP ▸ (.cons tok2 (.cons tok3 (.cons tok31 (.cons tok33 (.cons tok116 (.cons tok117 (.cons tok118 (.cons tok120 (.cons tok123 .nil))))))))); (try rw [← ho2]); have e2 : o = o2 := ho.trans ho2.symm; subst e2; cbv)
      repeat' (first | (refine Br.mk (fun hb => ?_) (fun hb => ?_) <;> ((try rw [ho] at hb); (try dsimp only [Ar.real, IX.vo] at hb); (try simp only [castI_eq, ltB_eq, leB_eq, eqIB_eq, inBB_eq, eqNB_eq, leNB_eq, foldOff, foldOff_id, foldOff_frame, foldOff_agent, foldOff_at_, foldOff_end_, foldOff_how, foldPart, foldEv, foldPart_kind, foldPart_role, foldPart_amount, foldEv_kind, foldEv_frame, foldEv_id, foldEv_agent, foldEv_vec, fold_put] at hb); (try simp only [decide_eq_true_eq, Int.ofNat_lt, Int.ofNat_le, decide_eq_false_iff_not, Nat.not_lt, Nat.not_le, Int.not_lt, Int.not_le, beq_iff_eq, beq_eq_false_iff_ne, ne_eq, Bool.not_eq_true, Bool.not_eq_false, Bool.not_eq_true', Bool.not_eq_false'] at hb))) | (refine CallN.pure hP (x_some _ ‹_›) fn176 (by first | rfl | (rw [ho]; done) | (rw [ho]; rfl)) (by rfl) (by first | rfl | (rw [ho]; done) | (rw [ho]; rfl)) ?_; (try rw [← ho]); generalize hr : someR _ = r; (try rw [ho] at hr); (try dsimp only [Ar.real, IX.vo] at hr); (try simp only [castI_eq, ltB_eq, leB_eq, eqIB_eq, inBB_eq, eqNB_eq, leNB_eq, foldOff, foldOff_id, foldOff_frame, foldOff_agent, foldOff_at_, foldOff_end_, foldOff_how, foldPart, foldEv, foldPart_kind, foldPart_role, foldPart_amount, foldEv_kind, foldEv_frame, foldEv_id, foldEv_agent, foldEv_vec, fold_put] at hr); cbv) | (refine CallN.pure hP (x_same _ _ ‹_›) fn177 (by first | rfl | (rw [ho]; done) | (rw [ho]; rfl)) (by rfl) (by first | rfl | (rw [ho]; done) | (rw [ho]; rfl)) ?_; (try rw [← ho]); generalize hr : sameB _ _ = r; (try rw [ho] at hr); (try dsimp only [Ar.real, IX.vo] at hr); (try simp only [castI_eq, ltB_eq, leB_eq, eqIB_eq, inBB_eq, eqNB_eq, leNB_eq, foldOff, foldOff_id, foldOff_frame, foldOff_agent, foldOff_at_, foldOff_end_, foldOff_how, foldPart, foldEv, foldPart_kind, foldPart_role, foldPart_amount, foldEv_kind, foldEv_frame, foldEv_id, foldEv_agent, foldEv_vec, fold_put] at hr); cbv) | (refine hK _ _ ?_) | (refine NeedT.mk ?_ ?_))
      any_goals (first | (refine absurd trivial ?_; assumption) | (refine absurd ?_ hk; assumption))
      · refine FinX_bU ?_ (up_eq (fun c => .rfl') (up_eq (fun c => .rfl') (up_eq (fun c => .rfl') (up_eq (fun c => EqO.map rfl (MT_del' ho encEv cleanEv of hn3 _ _ c _ _ rfl rfl)) (upL_refl _)))))
        rw [ha, Option.getD_some] at hr
        exact hr.symm
      · exfalso
        have h1 : lkp of [e.id] = none := mhas_none encEv of _ (by assumption)
        rw [ha] at h1
        cases h1
    · have ha : lkp of [e.id] = none := by simpa using hs
      rw [ha]
      dsimp only
      (refine XC.of_body ([(2, []), (3, [(5, 12), (6, 12), (9, 12), (9, 13)]), (5, [(2, 10), (3, 10), (4, 10), (5, 10), (6, 10)]), (6, [])]) Try.func118 rfl Try.ntmps118 mixed (T := [(2, ti2), (3, ti3), (31, ti31), (33, ti33), (116, ti116), (117, ti117), (118, ti118), (120, ti120), (123, ti123)]) (.cons tok2 (.cons tok3 (.cons tok31 (.cons tok33 (.cons tok116 (.cons tok117 (.cons tok118 (.cons tok120 (.cons tok123 .nil))))))))) (by kernel_rfl) (by simp) rfl rfl rfl rfl rfl ?_; rintro o2 ho2 P hP c K hK; have hm : P.follows .mixedOrders = true := hP ▸ mixed; have hT : TOk P [(2, ti2), (3, ti3), (31, ti31), (33, ti33), (116, ti116), (117, ti117), (118, ti118), (120, ti120), (123, ti123)] := hP ▸ (.cons tok2 (.cons tok3 (.cons tok31 (.cons tok33 (.cons tok116 (.cons tok117 (.cons tok118 (.cons tok120 (.cons tok123 .nil))))))))); (try rw [← ho2]); have e2 : o = o2 := ho.trans ho2.symm; subst e2; cbv)
      repeat' (first | (refine Br.mk (fun hb => ?_) (fun hb => ?_) <;> ((try rw [ho] at hb); (try dsimp only [Ar.real, IX.vo] at hb); (try simp only [castI_eq, ltB_eq, leB_eq, eqIB_eq, inBB_eq, eqNB_eq, leNB_eq, foldOff, foldOff_id, foldOff_frame, foldOff_agent, foldOff_at_, foldOff_end_, foldOff_how, foldPart, foldEv, foldPart_kind, foldPart_role, foldPart_amount, foldEv_kind, foldEv_frame, foldEv_id, foldEv_agent, foldEv_vec, fold_put] at hb); (try simp only [decide_eq_true_eq, Int.ofNat_lt, Int.ofNat_le, decide_eq_false_iff_not, Nat.not_lt, Nat.not_le, Int.not_lt, Int.not_le, beq_iff_eq, beq_eq_false_iff_ne, ne_eq, Bool.not_eq_true, Bool.not_eq_false, Bool.not_eq_true', Bool.not_eq_false'] at hb))) | (refine CallN.pure hP (x_some _ ‹_›) fn176 (by first | rfl | (rw [ho]; done) | (rw [ho]; rfl)) (by rfl) (by first | rfl | (rw [ho]; done) | (rw [ho]; rfl)) ?_; (try rw [← ho]); generalize hr : someR _ = r; (try rw [ho] at hr); (try dsimp only [Ar.real, IX.vo] at hr); (try simp only [castI_eq, ltB_eq, leB_eq, eqIB_eq, inBB_eq, eqNB_eq, leNB_eq, foldOff, foldOff_id, foldOff_frame, foldOff_agent, foldOff_at_, foldOff_end_, foldOff_how, foldPart, foldEv, foldPart_kind, foldPart_role, foldPart_amount, foldEv_kind, foldEv_frame, foldEv_id, foldEv_agent, foldEv_vec, fold_put] at hr); cbv) | (refine CallN.pure hP (x_same _ _ ‹_›) fn177 (by first | rfl | (rw [ho]; done) | (rw [ho]; rfl)) (by rfl) (by first | rfl | (rw [ho]; done) | (rw [ho]; rfl)) ?_; (try rw [← ho]); generalize hr : sameB _ _ = r; (try rw [ho] at hr); (try dsimp only [Ar.real, IX.vo] at hr); (try simp only [castI_eq, ltB_eq, leB_eq, eqIB_eq, inBB_eq, eqNB_eq, leNB_eq, foldOff, foldOff_id, foldOff_frame, foldOff_agent, foldOff_at_, foldOff_end_, foldOff_how, foldPart, foldEv, foldPart_kind, foldPart_role, foldPart_amount, foldEv_kind, foldEv_frame, foldEv_id, foldEv_agent, foldEv_vec, fold_put] at hr); cbv) | (refine hK _ _ ?_) | (refine NeedT.mk ?_ ?_))
      any_goals (first | (refine absurd trivial ?_; assumption) | (refine absurd ?_ hk; assumption))
      · exfalso
        obtain ⟨b, h1⟩ := mhas_some encEv of [e.id] (by assumption)
        rw [ha] at h1
        cases h1
      · exact FinX_bU rfl (up_eq (fun c => .rfl') (up_eq (fun c => .rfl') (up_eq (fun c => .rfl') (up_eq (fun c => EqO.map rfl (MT_del' ho encEv cleanEv of hn3 _ _ c _ _ rfl rfl)) (upL_refl _)))))
end Go.Proofs.Ytddgcegimmcbgaa.Sy

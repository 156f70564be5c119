/-
  The life of offers: the method for tasks. Plain theorems.
-/
import Derived.Test.YtddgcegimmcbgaaK11
set_option linter.unusedSectionVars false
namespace Go.Proofs.Ytddgcegimmcbgaa.Sy
open Go Go.Sy Go.Proofs.Ytddgcegimmcbgaa
set_option maxRecDepth 100000
set_option maxHeartbeats 8000000
set_option linter.unusedVariables false
set_option linter.unusedSimpArgs false

def taskS (s : There) (e : Ev) : There :=
  if e.kind = 13 then { s with tk := s.tk.put [e.frame, e.id] e } else { s with tk := s.tk.del [e.frame, e.id] }
def taskB (s : There) (e : Ev) : Bool :=
  if e.kind = 13 then !(lkp s.tk.ms [e.frame, e.id]).isSome && readyB s e && someR e.vec
  else match lkp s.tk.ms [e.frame, e.id] with | some a => sameB a e | none => false
theorem x_task (o : Ar) (ho : o = Ar.real) (s : There) (e : Ev) (he : e.vec.length ≤ 1048576) (hv : ∀ k a, lkp s.tk.ms k = some a → a.vec.length ≤ 1048576) : XC Try.prog 119 [.ptr (.out 0) 0, .agg (Ev.X o e)] (s.O o ho) (xb (taskB s e)) ((taskS s e).O o ho) := by
  by_cases hk : e.kind = 13
  · rw [show taskS s e = { s with tk := s.tk.put [e.frame, e.id] e } from if_pos hk, show taskB s e = _ from if_pos hk]
    obtain ⟨⟨v5, tk5, hn5⟩, htn⟩ : ∃ q, q = s.tk.put [e.frame, e.id] e := ⟨_, rfl⟩
    rw [← htn]
    have hc := x_ready o ho { s with tk := ⟨v5, tk5, hn5⟩ } e
    have hrq : readyB { s with tk := ⟨v5, tk5, hn5⟩ } e = readyB s e := rfl
    rw [hrq] at hc
    obtain ⟨⟨v1, ag, hn1⟩, ⟨v2, fr, hn2⟩, ⟨v3, of, hn3⟩, ⟨v4, tk, hn4⟩, n⟩ := s
    simp only [TM.put, TM.mk.injEq] at htn
    obtain ⟨hv5, hq5⟩ := htn
    have hE : ∀ c : Cx, EqO c (.map (v4 + 1) true 2 (.put (MT o ho encEv cleanEv tk hn4) [.s e.frame, .s e.id] (encEv o e))) (.map v5 true 2 (MT o ho encEv cleanEv tk5 hn5)) := fun c => EqO.map hv5.symm (MT_put' ho encEv cleanEv tk hn4 tk5 hn5 c _ _ e _ rfl (by rw [ho]) hq5)
    generalize hrb : readyB _ e = rb at hc
    (refine XC.of_body ([(2, [(2, 9), (3, 9), (4, 9), (5, 9)]), (4, []), (6, [])]) Try.func119 rfl Try.ntmps119 mixed (T := [(2, ti2), (3, ti3), (4, ti4), (31, ti31), (33, ti33), (41, ti41), (116, ti116), (117, ti117), (118, ti118), (120, ti120), (123, ti123)]) (.cons tok2 (.cons tok3 (.cons tok4 (.cons tok31 (.cons tok33 (.cons tok41 (.cons tok116 (.cons tok117 (.cons tok118 (.cons tok120 (.cons tok123 .nil))))))))))) (by kernel_rfl) (by simp) rfl rfl rfl rfl rfl ?_; rintro o2 ho2 P hP c K hK; have hm : P.follows .mixedOrders = true := hP ▸ mixed; have hT : TOk P [(2, ti2), (3, ti3), (4, ti4), (31, ti31), (33, ti33), (41, ti41), (116, ti116), (117, ti117), (118, ti118), (120, ti120), (123, ti123)] := hP ▸ (.cons tok2 (.cons tok3 (.cons tok4 (.cons tok31 (.cons tok33 (.cons tok41 (.cons tok116 (.cons tok117 (.cons tok118 (.cons tok120 (.cons tok123 .nil))))))))))); (try rw [← ho2]); have e2 : o = o2 := ho.trans ho2.symm; subst e2; cbv)
    repeat' (first | (refine Br.mk (fun hb => ?_) (fun hb => ?_) <;> ((try rw [ho] at hb); (try dsimp only [Ar.real, IX.vo] at hb); (try simp only [castI_eq, ltB_eq, leB_eq, eqIB_eq, inBB_eq, eqNB_eq, leNB_eq, foldOff, foldOff_id, foldOff_frame, foldOff_agent, foldOff_at_, foldOff_end_, foldOff_how, foldPart, foldEv, foldPart_kind, foldPart_role, foldPart_amount, foldEv_kind, foldEv_frame, foldEv_id, foldEv_agent, foldEv_vec, fold_put] at hb); (try simp only [decide_eq_true_eq, Int.ofNat_lt, Int.ofNat_le, decide_eq_false_iff_not, Nat.not_lt, Nat.not_le, Int.not_lt, Int.not_le, beq_iff_eq, beq_eq_false_iff_ne, ne_eq, Bool.not_eq_true, Bool.not_eq_false, Bool.not_eq_true', Bool.not_eq_false'] at hb))) | (refine CallN.pure hP (x_some _ ‹_›) fn176 (by first | rfl | (rw [ho]; done) | (rw [ho]; rfl)) (by rfl) (by first | rfl | (rw [ho]; done) | (rw [ho]; rfl)) ?_; (try rw [← ho]); generalize hr : someR _ = r; (try rw [ho] at hr); (try dsimp only [Ar.real, IX.vo] at hr); (try simp only [castI_eq, ltB_eq, leB_eq, eqIB_eq, inBB_eq, eqNB_eq, leNB_eq, foldOff, foldOff_id, foldOff_frame, foldOff_agent, foldOff_at_, foldOff_end_, foldOff_how, foldPart, foldEv, foldPart_kind, foldPart_role, foldPart_amount, foldEv_kind, foldEv_frame, foldEv_id, foldEv_agent, foldEv_vec, fold_put] at hr); cbv) | (refine CallN.pure hP (x_same _ _ ‹_›) fn177 (by first | rfl | (rw [ho]; done) | (rw [ho]; rfl)) (by rfl) (by first | rfl | (rw [ho]; done) | (rw [ho]; rfl)) ?_; (try rw [← ho]); generalize hr : sameB _ _ = r; (try rw [ho] at hr); (try dsimp only [Ar.real, IX.vo] at hr); (try simp only [castI_eq, ltB_eq, leB_eq, eqIB_eq, inBB_eq, eqNB_eq, leNB_eq, foldOff, foldOff_id, foldOff_frame, foldOff_agent, foldOff_at_, foldOff_end_, foldOff_how, foldPart, foldEv, foldPart_kind, foldPart_role, foldPart_amount, foldEv_kind, foldEv_frame, foldEv_id, foldEv_agent, foldEv_vec, fold_put] at hr); cbv) | (refine hK _ _ ?_) | (refine NeedT.mk ?_ ?_) | refine CallN.objs [.out 0, .out 1, .out 2, .out 3, .out 4] hP hc fn120 rfl rfl rfl rfl (by rfl) rfl rfl rfl rfl (by rfl) ⟨⟨_, rfl, rfl⟩, ⟨_, rfl, rfl⟩, ⟨_, rfl, rfl⟩, ⟨_, rfl, rfl⟩, ⟨_, rfl, (hE c).1⟩, trivial⟩ ?_; cbv)
    any_goals (first | (refine absurd trivial ?_; assumption) | (refine absurd hk ?_; assumption))
    · refine FinX_bU ?_ (up_eq (fun c => .rfl') (up_eq (fun c => .rfl') (up_eq (fun c => .rfl') (up_eq (fun c => .rfl') (up_eq (fun c => hE c) (upL_refl _))))))
      obtain ⟨b, h1⟩ := mhas_some encEv tk [e.frame, e.id] (by assumption)
      dsimp only
      rw [h1]
      rfl
    · have h1 : lkp tk [e.frame, e.id] = none := mhas_none encEv tk _ (by assumption)
      refine FinX_bU ?_ (upL_refl _)
      dsimp only
      rw [h1, hr, ‹rb = true›]
      rfl
    · have h1 : lkp tk [e.frame, e.id] = none := mhas_none encEv tk _ (by assumption)
      refine FinX_bU ?_ (upL_refl _)
      dsimp only
      rw [h1, ‹rb = false›]
      rfl
  · rw [show taskS s e = { s with tk := s.tk.del [e.frame, e.id] } from if_neg hk, show taskB s e = _ from if_neg hk]
    obtain ⟨⟨v1, ag, hn1⟩, ⟨v2, fr, hn2⟩, ⟨v3, of, hn3⟩, ⟨v4, tk, hn4⟩, n⟩ := s
    dsimp only at hv
    by_cases hs : (lkp tk [e.frame, e.id]).isSome = true
    · obtain ⟨a, ha⟩ := Option.isSome_iff_exists.1 hs
      have hme : o.mgetT tk [e.frame, e.id] = a := by rw [ho, real_mgetT, ha]; rfl
      have hab : (o.mgetT tk [e.frame, e.id]).vec.length ≤ 1048576 ∧ e.vec.length ≤ 1048576 := ⟨by rw [hme]; exact hv _ _ ha, he⟩
      rw [ha]
      dsimp only
      (refine XC.of_body ([(2, [(2, 9), (3, 9), (4, 9), (5, 9)]), (4, []), (6, [])]) Try.func119 rfl Try.ntmps119 mixed (T := [(2, ti2), (3, ti3), (4, ti4), (31, ti31), (33, ti33), (41, ti41), (116, ti116), (117, ti117), (118, ti118), (120, ti120), (123, ti123)]) (.cons tok2 (.cons tok3 (.cons tok4 (.cons tok31 (.cons tok33 (.cons tok41 (.cons tok116 (.cons tok117 (.cons tok118 (.cons tok120 (.cons tok123 .nil))))))))))) (by kernel_rfl) (by simp) rfl rfl rfl rfl rfl ?_; rintro o2 ho2 P hP c K hK; have hm : P.follows .mixedOrders = true := hP ▸ mixed; have hT : TOk P [(2, ti2), (3, ti3), (4, ti4), (31, ti31), (33, ti33), (41, ti41), (116, ti116), (117, ti117), (118, ti118), (120, ti120), (123, ti123)] := hP ▸ (.cons tok2 (.cons tok3 (.cons tok4 (.cons tok31 (.cons tok33 (.cons tok41 (.cons tok116 (.cons tok117 (.cons tok118 (.cons tok120 (.cons tok123 .nil))))))))))); (try rw [← ho2]); have e2 : o = o2 := ho.trans ho2.symm; subst e2; cbv)
      repeat' (first | (refine Br.mk (fun hb => ?_) (fun hb => ?_) <;> ((try rw [ho] at hb); (try dsimp only [Ar.real, IX.vo] at hb); (try simp only [castI_eq, ltB_eq, leB_eq, eqIB_eq, inBB_eq, eqNB_eq, leNB_eq, foldOff, foldOff_id, foldOff_frame, foldOff_agent, foldOff_at_, foldOff_end_, foldOff_how, foldPart, foldEv, foldPart_kind, foldPart_role, foldPart_amount, foldEv_kind, foldEv_frame, foldEv_id, foldEv_agent, foldEv_vec, fold_put] at hb); (try simp only [decide_eq_true_eq, Int.ofNat_lt, Int.ofNat_le, decide_eq_false_iff_not, Nat.not_lt, Nat.not_le, Int.not_lt, Int.not_le, beq_iff_eq, beq_eq_false_iff_ne, ne_eq, Bool.not_eq_true, Bool.not_eq_false, Bool.not_eq_true', Bool.not_eq_false'] at hb))) | (refine CallN.pure hP (x_some _ ‹_›) fn176 (by first | rfl | (rw [ho]; done) | (rw [ho]; rfl)) (by rfl) (by first | rfl | (rw [ho]; done) | (rw [ho]; rfl)) ?_; (try rw [← ho]); generalize hr : someR _ = r; (try rw [ho] at hr); (try dsimp only [Ar.real, IX.vo] at hr); (try simp only [castI_eq, ltB_eq, leB_eq, eqIB_eq, inBB_eq, eqNB_eq, leNB_eq, foldOff, foldOff_id, foldOff_frame, foldOff_agent, foldOff_at_, foldOff_end_, foldOff_how, foldPart, foldEv, foldPart_kind, foldPart_role, foldPart_amount, foldEv_kind, foldEv_frame, foldEv_id, foldEv_agent, foldEv_vec, fold_put] at hr); cbv) | (refine CallN.pure hP (x_same _ _ ‹_›) fn177 (by first | rfl | (rw [ho]; done) | (rw [ho]; rfl)) (by rfl) (by first | rfl | (rw [ho]; done) | (rw [ho]; rfl)) ?_; (try rw [← ho]); generalize hr : sameB _ _ = r; (try rw [ho] at hr); (try dsimp only [Ar.real, IX.vo] at hr); (try simp only [castI_eq, ltB_eq, leB_eq, eqIB_eq, inBB_eq, eqNB_eq, leNB_eq, foldOff, foldOff_id, foldOff_frame, foldOff_agent, foldOff_at_, foldOff_end_, foldOff_how, foldPart, foldEv, foldPart_kind, foldPart_role, foldPart_amount, foldEv_kind, foldEv_frame, foldEv_id, foldEv_agent, foldEv_vec, fold_put] at hr); cbv) | (refine hK _ _ ?_) | (refine NeedT.mk ?_ ?_))
      any_goals (first | (refine absurd trivial ?_; assumption) | (refine absurd ?_ hk; assumption))
      · refine FinX_bU ?_ (up_eq (fun c => .rfl') (up_eq (fun c => .rfl') (up_eq (fun c => .rfl') (up_eq (fun c => .rfl') (up_eq (fun c => EqO.map rfl (MT_del' ho encEv cleanEv tk hn4 _ _ c _ _ rfl rfl)) (upL_refl _))))))
        rw [ha, Option.getD_some] at hr
        exact hr.symm
      · exfalso
        have h1 : lkp tk [e.frame, e.id] = none := mhas_none encEv tk _ (by assumption)
        rw [ha] at h1
        cases h1
    · have ha : lkp tk [e.frame, e.id] = none := by simpa using hs
      rw [ha]
      dsimp only
      (refine XC.of_body ([(2, [(2, 9), (3, 9), (4, 9), (5, 9)]), (4, []), (6, [])]) Try.func119 rfl Try.ntmps119 mixed (T := [(2, ti2), (3, ti3), (4, ti4), (31, ti31), (33, ti33), (41, ti41), (116, ti116), (117, ti117), (118, ti118), (120, ti120), (123, ti123)]) (.cons tok2 (.cons tok3 (.cons tok4 (.cons tok31 (.cons tok33 (.cons tok41 (.cons tok116 (.cons tok117 (.cons tok118 (.cons tok120 (.cons tok123 .nil))))))))))) (by kernel_rfl) (by simp) rfl rfl rfl rfl rfl ?_; rintro o2 ho2 P hP c K hK; have hm : P.follows .mixedOrders = true := hP ▸ mixed; have hT : TOk P [(2, ti2), (3, ti3), (4, ti4), (31, ti31), (33, ti33), (41, ti41), (116, ti116), (117, ti117), (118, ti118), (120, ti120), (123, ti123)] := hP ▸ (.cons tok2 (.cons tok3 (.cons tok4 (.cons tok31 (.cons tok33 (.cons tok41 (.cons tok116 (.cons tok117 (.cons tok118 (.cons tok120 (.cons tok123 .nil))))))))))); (try rw [← ho2]); have e2 : o = o2 := ho.trans ho2.symm; subst e2; cbv)
      repeat' (first | (refine Br.mk (fun hb => ?_) (fun hb => ?_) <;> ((try rw [ho] at hb); (try dsimp only [Ar.real, IX.vo] at hb); (try simp only [castI_eq, ltB_eq, leB_eq, eqIB_eq, inBB_eq, eqNB_eq, leNB_eq, foldOff, foldOff_id, foldOff_frame, foldOff_agent, foldOff_at_, foldOff_end_, foldOff_how, foldPart, foldEv, foldPart_kind, foldPart_role, foldPart_amount, foldEv_kind, foldEv_frame, foldEv_id, foldEv_agent, foldEv_vec, fold_put] at hb); (try simp only [decide_eq_true_eq, Int.ofNat_lt, Int.ofNat_le, decide_eq_false_iff_not, Nat.not_lt, Nat.not_le, Int.not_lt, Int.not_le, beq_iff_eq, beq_eq_false_iff_ne, ne_eq, Bool.not_eq_true, Bool.not_eq_false, Bool.not_eq_true', Bool.not_eq_false'] at hb))) | (refine CallN.pure hP (x_some _ ‹_›) fn176 (by first | rfl | (rw [ho]; done) | (rw [ho]; rfl)) (by rfl) (by first | rfl | (rw [ho]; done) | (rw [ho]; rfl)) ?_; (try rw [← ho]); generalize hr : someR _ = r; (try rw [ho] at hr); (try dsimp only [Ar.real, IX.vo] at hr); (try simp only [castI_eq, ltB_eq, leB_eq, eqIB_eq, inBB_eq, eqNB_eq, leNB_eq, foldOff, foldOff_id, foldOff_frame, foldOff_agent, foldOff_at_, foldOff_end_, foldOff_how, foldPart, foldEv, foldPart_kind, foldPart_role, foldPart_amount, foldEv_kind, foldEv_frame, foldEv_id, foldEv_agent, foldEv_vec, fold_put] at hr); cbv) | (refine CallN.pure hP (x_same _ _ ‹_›) fn177 (by first | rfl | (rw [ho]; done) | (rw [ho]; rfl)) (by rfl) (by first | rfl | (rw [ho]; done) | (rw [ho]; rfl)) ?_; (try rw [← ho]); generalize hr : sameB _ _ = r; (try rw [ho] at hr); (try dsimp only [Ar.real, IX.vo] at hr); (try simp only [castI_eq, ltB_eq, leB_eq, eqIB_eq, inBB_eq, eqNB_eq, leNB_eq, foldOff, foldOff_id, foldOff_frame, foldOff_agent, foldOff_at_, foldOff_end_, foldOff_how, foldPart, foldEv, foldPart_kind, foldPart_role, foldPart_amount, foldEv_kind, foldEv_frame, foldEv_id, foldEv_agent, foldEv_vec, fold_put] at hr); cbv) | (refine hK _ _ ?_) | (refine NeedT.mk ?_ ?_))
      any_goals (first | (refine absurd trivial ?_; assumption) | (refine absurd ?_ hk; assumption))
      · exfalso
        obtain ⟨b, h1⟩ := mhas_some encEv tk [e.frame, e.id] (by assumption)
        rw [ha] at h1
        cases h1
      · exact FinX_bU rfl (up_eq (fun c => .rfl') (up_eq (fun c => .rfl') (up_eq (fun c => .rfl') (up_eq (fun c => .rfl') (up_eq (fun c => EqO.map rfl (MT_del' ho encEv cleanEv tk hn4 _ _ c _ _ rfl rfl)) (upL_refl _))))))
end Go.Proofs.Ytddgcegimmcbgaa.Sy

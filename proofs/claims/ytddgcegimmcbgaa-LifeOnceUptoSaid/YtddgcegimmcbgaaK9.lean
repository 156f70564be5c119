/-
  The life of offers: the methods of what is there. Plain theorems.
-/
import Derived.Test.YtddgcegimmcbgaaK8
set_option linter.unusedSectionVars false
namespace Go.Proofs.Ytddgcegimmcbgaa.Sy
open Go Go.Sy Go.Proofs.Ytddgcegimmcbgaa
set_option maxRecDepth 100000
set_option maxHeartbeats 8000000
set_option linter.unusedVariables false
set_option linter.unusedSimpArgs false

def TM.put {α : Type} (t : TM α) (k : List Int) (a : α) : TM α := ⟨t.ver + 1, putp t.ms k a, nodup_put t.hn k a⟩
def TM.del {α : Type} (t : TM α) (k : List Int) : TM α := ⟨t.ver + 1, delp t.ms k, nodup_del t.hn k⟩
theorem up_eq {a b : OX} {l r : List OX} (h : ∀ c, EqO c a b) (hr : upL l r) : upL (a :: l) (b :: r) := ⟨fun c => by obtain ⟨e⟩ := h c; rw [e]; exact upO_refl _, hr⟩
theorem FinX_bU {r : Bool} {x : BX} {O O' : List OX} (h : x.val = r) (hu : upL O' O) : FinX (xb r) O (.b x) O' := ⟨fun _ => by simp only [X.toD, h]; rfl, hu⟩
def plus1 (x : Int) : Int := IntKind.i64.wrap (x + 1)
def agentS (s : There) (e : Ev) : There :=
  if e.kind = 1 then { s with ag := s.ag.put [e.agent] (plus1 ((lkp s.ag.ms [e.agent]).getD 0)) }
  else { s with ag := s.ag.del [e.agent] }
def agentB (s : There) (e : Ev) : Bool :=
  if e.kind = 1 then decide (plus1 ((lkp s.ag.ms [e.agent]).getD 0) = 1)
  else decide ((lkp s.ag.ms [e.agent]).getD 0 = 1) && decide (many (fun x => decide (x.agent = e.agent)) s.of.ms + many (fun x => decide (x.agent = e.agent)) s.tk.ms = 0)
theorem many_le (p : Ev → Bool) (es : List (List Int × Ev)) : many p es ≤ es.length := List.length_filter_le _ _
theorem x_agent (o : Ar) (ho : o = Ar.real) (s : There) (e : Ev) (hof : s.of.ms.length ≤ 1048576) (htk : s.tk.ms.length ≤ 1048576) : XC Try.prog 116 [.ptr (.out 0) 0, .agg (Ev.X o e)] (s.O o ho) (xb (agentB s e)) ((agentS s e).O o ho) := by
  by_cases hk : e.kind = 1
  · have h1 : agentS s e = { s with ag := s.ag.put [e.agent] (plus1 ((lkp s.ag.ms [e.agent]).getD 0)) } := if_pos hk
    have h2 : agentB s e = decide (plus1 ((lkp s.ag.ms [e.agent]).getD 0) = 1) := if_pos hk
    rw [h1, h2]
    obtain ⟨⟨v1, ag, hn1⟩, ⟨v2, fr, hn2⟩, ⟨v3, of, hn3⟩, ⟨v4, tk, hn4⟩, n⟩ := s
    clear h1 h2
    (refine XC.of_body ([(2, []), (3, []), (5, []), (6, [])]) Try.func116 rfl Try.ntmps116 mixed (T := [(2, ti2), (3, ti3), (31, ti31), (33, ti33), (116, ti116), (117, ti117), (118, ti118), (120, ti120)]) (.cons tok2 (.cons tok3 (.cons tok31 (.cons tok33 (.cons tok116 (.cons tok117 (.cons tok118 (.cons tok120 .nil)))))))) (by kernel_rfl) (by simp) rfl rfl rfl rfl rfl ?_; rintro o2 ho2 P hP c K hK; have hm : P.follows .mixedOrders = true := hP ▸ mixed; have hT : TOk P [(2, ti2), (3, ti3), (31, ti31), (33, ti33), (116, ti116), (117, ti117), (118, ti118), (120, ti120)] := hP ▸ (.cons tok2 (.cons tok3 (.cons tok31 (.cons tok33 (.cons tok116 (.cons tok117 (.cons tok118 (.cons tok120 .nil)))))))); (try rw [← ho2]); have e2 : o = o2 := ho.trans ho2.symm; subst e2; cbv)
    repeat' (first | (refine Br.mk (fun hb => ?_) (fun hb => ?_) <;> ((try rw [ho] at hb); (try dsimp only [Ar.real, IX.vo] at hb); (try simp only [castI_eq, ltB_eq, leB_eq, eqIB_eq, inBB_eq, eqNB_eq, leNB_eq, foldOff, foldOff_id, foldOff_frame, foldOff_agent, foldOff_at_, foldOff_end_, foldOff_how, foldPart, foldEv, foldPart_kind, foldPart_role, foldPart_amount, foldEv_kind, foldEv_frame, foldEv_id, foldEv_agent, foldEv_vec, fold_put] at hb); (try simp only [decide_eq_true_eq, Int.ofNat_lt, Int.ofNat_le, decide_eq_false_iff_not, Nat.not_lt, Nat.not_le, Int.not_lt, Int.not_le, beq_iff_eq, beq_eq_false_iff_ne, ne_eq, Bool.not_eq_true, Bool.not_eq_false, Bool.not_eq_true', Bool.not_eq_false'] at hb))) | (refine hK _ _ ?_) | (refine NeedT.mk ?_ ?_))
    any_goals (first | (refine absurd trivial ?_; assumption) | (refine absurd hk ?_; assumption))
    · refine FinX_bU ?_ (up_eq (fun c => .rfl') (up_eq (fun c => EqO.map rfl (MT_put' ho encInt cleanInt ag hn1 _ _ c _ _ _ _ rfl ?_ rfl)) (upL_refl _)))
      · ((try clear hR3); (try clear hR2); (try clear hR); (try clear hK); (try simp only [ncCast] at *); (try simp only [castI_eq] at *); (try rw [ho]); (try dsimp only [Ar.real, IX.vo, IX.val, BX.val, IX.toN]); (try simp only [castI_eq, ltB_eq, leB_eq, eqIB_eq, inBB_eq, eqNB_eq, leNB_eq, foldOff, foldOff_id, foldOff_frame, foldOff_agent, foldOff_at_, foldOff_end_, foldOff_how, foldPart, foldEv, foldPart_kind, foldPart_role, foldPart_amount, foldEv_kind, foldEv_frame, foldEv_id, foldEv_agent, foldEv_vec, fold_put]))
        rfl
      · rw [ho]; rfl
    · have h1 : lkp ag [e.agent] = none := mhas_none encInt ag _ (by assumption)
      refine FinX_bU ?_ (up_eq (fun c => .rfl') (up_eq (fun c => EqO.map rfl (MT_put' ho encInt cleanInt ag hn1 _ _ c _ _ _ _ rfl ?_ rfl)) (upL_refl _)))
      · dsimp only
        rw [h1]
        decide
      · dsimp only
        rw [h1]
        rfl
  · have h1 : agentS s e = { s with ag := s.ag.del [e.agent] } := if_neg hk
    have h2 : agentB s e = (decide ((lkp s.ag.ms [e.agent]).getD 0 = 1) && decide (many (fun x => decide (x.agent = e.agent)) s.of.ms + many (fun x => decide (x.agent = e.agent)) s.tk.ms = 0)) := if_neg hk
    rw [h1, h2]
    obtain ⟨⟨v1, ag, hn1⟩, ⟨v2, fr, hn2⟩, ⟨v3, of, hn3⟩, ⟨v4, tk, hn4⟩, n⟩ := s
    clear h1 h2
    have hc := x_held o ho ⟨⟨v1, ag, hn1⟩, ⟨v2, fr, hn2⟩, ⟨v3, of, hn3⟩, ⟨v4, tk, hn4⟩, n⟩ e 174 (fun x => decide (x.agent = e.agent)) (x_agentF o ho e) fn174 hof htk
    dsimp only at hof htk
    (refine XC.of_body ([(2, []), (3, []), (5, []), (6, [])]) Try.func116 rfl Try.ntmps116 mixed (T := [(2, ti2), (3, ti3), (31, ti31), (33, ti33), (116, ti116), (117, ti117), (118, ti118), (120, ti120)]) (.cons tok2 (.cons tok3 (.cons tok31 (.cons tok33 (.cons tok116 (.cons tok117 (.cons tok118 (.cons tok120 .nil)))))))) (by kernel_rfl) (by simp) rfl rfl rfl rfl rfl ?_; rintro o2 ho2 P hP c K hK; have hm : P.follows .mixedOrders = true := hP ▸ mixed; have hT : TOk P [(2, ti2), (3, ti3), (31, ti31), (33, ti33), (116, ti116), (117, ti117), (118, ti118), (120, ti120)] := hP ▸ (.cons tok2 (.cons tok3 (.cons tok31 (.cons tok33 (.cons tok116 (.cons tok117 (.cons tok118 (.cons tok120 .nil)))))))); (try rw [← ho2]); have e2 : o = o2 := ho.trans ho2.symm; subst e2; cbv)
    repeat' (first | (refine Br.mk (fun hb => ?_) (fun hb => ?_) <;> ((try rw [ho] at hb); (try dsimp only [Ar.real, IX.vo] at hb); (try simp only [castI_eq, ltB_eq, leB_eq, eqIB_eq, inBB_eq, eqNB_eq, leNB_eq, foldOff, foldOff_id, foldOff_frame, foldOff_agent, foldOff_at_, foldOff_end_, foldOff_how, foldPart, foldEv, foldPart_kind, foldPart_role, foldPart_amount, foldEv_kind, foldEv_frame, foldEv_id, foldEv_agent, foldEv_vec, fold_put] at hb); (try simp only [decide_eq_true_eq, Int.ofNat_lt, Int.ofNat_le, decide_eq_false_iff_not, Nat.not_lt, Nat.not_le, Int.not_lt, Int.not_le, beq_iff_eq, beq_eq_false_iff_ne, ne_eq, Bool.not_eq_true, Bool.not_eq_false, Bool.not_eq_true', Bool.not_eq_false'] at hb))) | (refine hK _ _ ?_) | (refine NeedT.mk ?_ ?_) | refine CallN.objs [.out 0, .out 1, .out 2, .out 3, .out 4, .loc 0] hP hc fn173 rfl rfl rfl rfl (by rfl) rfl rfl rfl rfl (by rfl) ⟨⟨_, rfl, rfl⟩, ⟨_, rfl, rfl⟩, ⟨_, rfl, rfl⟩, ⟨_, rfl, rfl⟩, ⟨_, rfl, rfl⟩, ⟨_, rfl, rfl⟩, trivial⟩ ?_; generalize hm1 : many _ of = m1; generalize hm2 : many _ tk = m2; cbv)
    any_goals (first | (refine absurd trivial ?_; assumption) | (refine absurd ?_ hk; assumption))
    · have hl1 := many_le (fun x => decide (x.agent = e.agent)) of
      have hl2 := many_le (fun x => decide (x.agent = e.agent)) tk
      refine FinX_bU ?_ (up_eq (fun c => .rfl') (up_eq (fun c => EqO.map rfl (MT_del' ho encInt cleanInt ag hn1 _ _ c _ _ rfl rfl)) (upL_refl _)))
      have h1 : (lkp ag [e.agent]).getD 0 = 1 := by assumption
      ((try clear hR3); (try clear hR2); (try clear hR); (try clear hK); (try simp only [ncCast] at *); (try simp only [castI_eq] at *); (try rw [ho]); (try dsimp only [Ar.real, IX.vo, IX.val, BX.val, IX.toN]); (try simp only [castI_eq, ltB_eq, leB_eq, eqIB_eq, inBB_eq, eqNB_eq, leNB_eq, foldOff, foldOff_id, foldOff_frame, foldOff_agent, foldOff_at_, foldOff_end_, foldOff_how, foldPart, foldEv, foldPart_kind, foldPart_role, foldPart_amount, foldEv_kind, foldEv_frame, foldEv_id, foldEv_agent, foldEv_vec, fold_put]))
      rw [hm1] at hl1 ⊢
      rw [hm2] at hl2 ⊢
      rw [decide_eq_true h1, Bool.true_and, wrap_i64 (by omega) (by omega)]
      apply decide_eq_decide.2
      omega
    · have h1 : ¬ (lkp ag [e.agent]).getD 0 = 1 := by assumption
      refine FinX_bU ?_ (up_eq (fun c => .rfl') (up_eq (fun c => EqO.map rfl (MT_del' ho encInt cleanInt ag hn1 _ _ c _ _ rfl rfl)) (upL_refl _)))
      dsimp only
      rw [decide_eq_false h1]
      rfl
    · have h1 : lkp ag [e.agent] = none := mhas_none encInt ag _ (by assumption)
      refine FinX_bU ?_ (up_eq (fun c => .rfl') (up_eq (fun c => EqO.map rfl (MT_del' ho encInt cleanInt ag hn1 _ _ c _ _ rfl rfl)) (upL_refl _)))
      dsimp only
      rw [h1]
      rfl
end Go.Proofs.Ytddgcegimmcbgaa.Sy

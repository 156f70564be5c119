/-
  The life of offers: what is held. Plain theorems.
-/
import Derived.Test.YtddgcegimmcbgaaK6
set_option linter.unusedSectionVars false
namespace Go.Proofs.Ytddgcegimmcbgaa.Sy
open Go Go.Sy Go.Proofs.Ytddgcegimmcbgaa
set_option maxRecDepth 100000
set_option maxHeartbeats 8000000
set_option linter.unusedVariables false
set_option linter.unusedSimpArgs false

theorem x_agentF (o : Ar) (ho : o = Ar.real) (w e : Ev) : XC Try.prog 174 [.agg (Ev.X o e), .ptr (.out 0) 0] [.var (Ev.X o w) 33] (xb (decide (e.agent = w.agent))) [.var (Ev.X o w) 33] := by
  (refine XC.of_body ([]) Try.func174 rfl Try.ntmps174 mixed (T := [(2, ti2), (3, ti3), (31, ti31), (33, ti33)]) (.cons tok2 (.cons tok3 (.cons tok31 (.cons tok33 .nil)))) (by kernel_rfl) (by simp) rfl rfl rfl rfl rfl ?_; rintro o2 ho2 P hP c K hK; have hm : P.follows .mixedOrders = true := hP ▸ mixed; have hT : TOk P [(2, ti2), (3, ti3), (31, ti31), (33, ti33)] := hP ▸ (.cons tok2 (.cons tok3 (.cons tok31 (.cons tok33 .nil)))); (try rw [← ho2]); have e2 : o = o2 := ho.trans ho2.symm; subst e2; cbv)
  repeat' (first | (refine Br.mk (fun hb => ?_) (fun hb => ?_) <;> ((try rw [ho] at hb); (try dsimp only [Ar.real, IX.vo] at hb); (try simp only [castI_eq, ltB_eq, leB_eq, eqIB_eq, inBB_eq, eqNB_eq, leNB_eq, foldOff, foldOff_id, foldOff_frame, foldOff_agent, foldOff_at_, foldOff_end_, foldOff_how, foldPart, foldEv, foldPart_kind, foldPart_role, foldPart_amount, foldEv_kind, foldEv_frame, foldEv_id, foldEv_agent, foldEv_vec, fold_put] at hb); (try simp only [decide_eq_true_eq, Int.ofNat_lt, Int.ofNat_le, decide_eq_false_iff_not, Nat.not_lt, Nat.not_le, Int.not_lt, Int.not_le, beq_iff_eq, beq_eq_false_iff_ne, ne_eq, Bool.not_eq_true, Bool.not_eq_false, Bool.not_eq_true', Bool.not_eq_false'] at hb))) | (refine hK _ _ ?_) | (refine NeedT.mk ?_ ?_))
  refine FinX_bO ?_ rfl
  ((try clear hR3); (try clear hR2); (try clear hR); (try clear hK); (try simp only [ncCast] at *); (try simp only [castI_eq] at *); (try rw [ho]); (try dsimp only [Ar.real, IX.vo, IX.val, BX.val, IX.toN]); (try simp only [castI_eq, ltB_eq, leB_eq, eqIB_eq, inBB_eq, eqNB_eq, leNB_eq, foldOff, foldOff_id, foldOff_frame, foldOff_agent, foldOff_at_, foldOff_end_, foldOff_how, foldPart, foldEv, foldPart_kind, foldPart_role, foldPart_amount, foldEv_kind, foldEv_frame, foldEv_id, foldEv_agent, foldEv_vec, fold_put]))
theorem x_frameF (o : Ar) (ho : o = Ar.real) (w e : Ev) : XC Try.prog 175 [.agg (Ev.X o e), .ptr (.out 0) 0] [.var (Ev.X o w) 33] (xb (decide (e.frame = w.frame))) [.var (Ev.X o w) 33] := by
  (refine XC.of_body ([]) Try.func175 rfl Try.ntmps175 mixed (T := [(2, ti2), (3, ti3), (31, ti31), (33, ti33)]) (.cons tok2 (.cons tok3 (.cons tok31 (.cons tok33 .nil)))) (by kernel_rfl) (by simp) rfl rfl rfl rfl rfl ?_; rintro o2 ho2 P hP c K hK; have hm : P.follows .mixedOrders = true := hP ▸ mixed; have hT : TOk P [(2, ti2), (3, ti3), (31, ti31), (33, ti33)] := hP ▸ (.cons tok2 (.cons tok3 (.cons tok31 (.cons tok33 .nil)))); (try rw [← ho2]); have e2 : o = o2 := ho.trans ho2.symm; subst e2; cbv)
  repeat' (first | (refine Br.mk (fun hb => ?_) (fun hb => ?_) <;> ((try rw [ho] at hb); (try dsimp only [Ar.real, IX.vo] at hb); (try simp only [castI_eq, ltB_eq, leB_eq, eqIB_eq, inBB_eq, eqNB_eq, leNB_eq, foldOff, foldOff_id, foldOff_frame, foldOff_agent, foldOff_at_, foldOff_end_, foldOff_how, foldPart, foldEv, foldPart_kind, foldPart_role, foldPart_amount, foldEv_kind, foldEv_frame, foldEv_id, foldEv_agent, foldEv_vec, fold_put] at hb); (try simp only [decide_eq_true_eq, Int.ofNat_lt, Int.ofNat_le, decide_eq_false_iff_not, Nat.not_lt, Nat.not_le, Int.not_lt, Int.not_le, beq_iff_eq, beq_eq_false_iff_ne, ne_eq, Bool.not_eq_true, Bool.not_eq_false, Bool.not_eq_true', Bool.not_eq_false'] at hb))) | (refine hK _ _ ?_) | (refine NeedT.mk ?_ ?_))
  refine FinX_bO ?_ rfl
  ((try clear hR3); (try clear hR2); (try clear hR); (try clear hK); (try simp only [ncCast] at *); (try simp only [castI_eq] at *); (try rw [ho]); (try dsimp only [Ar.real, IX.vo, IX.val, BX.val, IX.toN]); (try simp only [castI_eq, ltB_eq, leB_eq, eqIB_eq, inBB_eq, eqNB_eq, leNB_eq, foldOff, foldOff_id, foldOff_frame, foldOff_agent, foldOff_at_, foldOff_end_, foldOff_how, foldPart, foldEv, foldPart_kind, foldPart_role, foldPart_amount, foldEv_kind, foldEv_frame, foldEv_id, foldEv_agent, foldEv_vec, fold_put]))
/-- How many of the places have it. -/
def cnt (p : Ev → Bool) (es : List (List Int × Ev)) (seen : List Nat) : Nat := (seen.filter fun i => p (es.getD i default).2).length
theorem cnt_snoc (p : Ev → Bool) (es : List (List Int × Ev)) (seen : List Nat) (i : Nat) : cnt p es (seen ++ [i]) = cnt p es seen + (if p (es.getD i default).2 then 1 else 0) := by
  simp only [cnt, List.filter_append, List.length_append]
  by_cases h : p (es.getD i default).2 = true
  · rw [List.filter_cons_of_pos (by exact h), if_pos h]; rfl
  · rw [List.filter_cons_of_neg (by exact h), if_neg h]; rfl
def many (p : Ev → Bool) (es : List (List Int × Ev)) : Nat := (es.filter fun x => p x.2).length
theorem cnt_all (p : Ev → Bool) (es : List (List Int × Ev)) (seen : List Nat) (hn : seen.Nodup) (hl : ∀ i ∈ seen, i < es.length) (ha : ∀ i, i < es.length → i ∈ seen) : cnt p es seen = many p es := by
  have hp : seen.Perm (List.range es.length) := (List.perm_ext_iff_of_nodup hn List.nodup_range).2 (fun i => by simp only [List.mem_range]; exact ⟨hl i, ha i⟩)
  have h1 : cnt p es seen = ((List.range es.length).filter fun i => p (es.getD i default).2).length := (hp.filter _).length_eq
  rw [h1, many]
  have h2 : es = (List.range es.length).map fun i => es.getD i default := by
    apply List.ext_getElem (by simp)
    intro i h1 h2
    simp [List.getD_eq_getElem?_getD, h1]
  conv => rhs; rw [h2]
  rw [List.filter_map, List.length_map]
  rfl
theorem lkp_at {α : Type} {ms : List (List Int × α)} (hn : (ms.map (·.1)).Nodup) {i : Nat} {k : List Int} {a : α} (h : ms[i]? = some (k, a)) : lkp ms k = some a := by
  induction ms generalizing i with
  | nil => simp at h
  | cons b ms ih =>
    simp only [List.map_cons, List.nodup_cons] at hn
    simp only [lkp]
    cases i with
    | zero =>
      simp at h
      rw [h]
      simp
    | succ i =>
      simp at h
      have hm : k ∈ ms.map (·.1) := List.mem_map.2 ⟨_, List.mem_of_getElem? h, rfl⟩
      rw [if_neg (fun e => hn.1 (by rw [e]; exact hm))]
      exact ih hn.2 h
theorem EqO_iter {c : Cx} {m : Nm} {v i : Nat} {seen sn : List Nat} {ky : List Int} (h : sn = seen ++ [i]) : EqO c (.iter m v seen (some (i, ky))) (.iter m v sn none) := by
  subst h
  exact ⟨by simp [OX.toOb, curL]⟩
theorem cnt_le (p : Ev → Bool) (es : List (List Int × Ev)) (seen : List Nat) : cnt p es seen ≤ seen.length := List.length_filter_le _ _
structure St8 where
  seen : List Nat
  n : Nat
structure In8 (p : Ev → Bool) (es : List (List Int × Ev)) (s : St8) : Prop where
  nd : s.seen.Nodup
  lt : ∀ i ∈ s.seen, i < es.length
  n : s.n = cnt p es s.seen
theorem x_held (o : Ar) (ho : o = Ar.real) (s : There) (w : Ev) (f : FuncId) (p : Ev → Bool) (hx : ∀ e, XC Try.prog f [.agg (Ev.X o e), .ptr (.out 0) 0] [.var (Ev.X o w) 33] (xb (p e)) [.var (Ev.X o w) 33]) (hf : FnOk Try.prog f) (hof : s.of.ms.length ≤ 1048576) (htk : s.tk.ms.length ≤ 1048576) :
    XC Try.prog 173 [.ptr (.out 0) 0, .fn (.func f) [] [.ptr (.out 5) 0]] (s.O o ho ++ [.var (Ev.X o w) 33]) (.tup [xn (many p s.of.ms), xn (many p s.tk.ms)]) (s.O o ho ++ [.var (Ev.X o w) 33]) := by
  obtain ⟨⟨v1, ag, hn1⟩, ⟨v2, fr, hn2⟩, ⟨v3, of, hn3⟩, ⟨v4, tk, hn4⟩, n⟩ := s
  dsimp only at hof htk
  (refine XC.of_body ([]) Try.func173 rfl Try.ntmps173 mixed (T := [(2, ti2), (3, ti3), (31, ti31), (33, ti33), (41, ti41), (116, ti116), (117, ti117), (118, ti118), (120, ti120)]) (.cons tok2 (.cons tok3 (.cons tok31 (.cons tok33 (.cons tok41 (.cons tok116 (.cons tok117 (.cons tok118 (.cons tok120 .nil))))))))) (by kernel_rfl) (by simp) rfl rfl rfl rfl rfl ?_; rintro o2 ho2 P hP c K hK; have hm : P.follows .mixedOrders = true := hP ▸ mixed; have hT : TOk P [(2, ti2), (3, ti3), (31, ti31), (33, ti33), (41, ti41), (116, ti116), (117, ti117), (118, ti118), (120, ti120)] := hP ▸ (.cons tok2 (.cons tok3 (.cons tok31 (.cons tok33 (.cons tok41 (.cons tok116 (.cons tok117 (.cons tok118 (.cons tok120 .nil))))))))); (try rw [← ho2]); have e2 : o = o2 := ho.trans ho2.symm; subst e2; cbv)
  repeat' (first | (refine Br.mk (fun hb => ?_) (fun hb => ?_) <;> ((try rw [ho] at hb); (try dsimp only [Ar.real, IX.vo] at hb); (try simp only [castI_eq, ltB_eq, leB_eq, eqIB_eq, inBB_eq, eqNB_eq, leNB_eq, foldOff, foldOff_id, foldOff_frame, foldOff_agent, foldOff_at_, foldOff_end_, foldOff_how, foldPart, foldEv, foldPart_kind, foldPart_role, foldPart_amount, foldEv_kind, foldEv_frame, foldEv_id, foldEv_agent, foldEv_vec, fold_put] at hb); (try simp only [decide_eq_true_eq, Int.ofNat_lt, Int.ofNat_le, decide_eq_false_iff_not, Nat.not_lt, Nat.not_le, Int.not_lt, Int.not_le, beq_iff_eq, beq_eq_false_iff_ne, ne_eq, Bool.not_eq_true, Bool.not_eq_false, Bool.not_eq_true', Bool.not_eq_false'] at hb))) | (refine hK _ _ ?_) | (refine NeedT.mk ?_ ?_))
  refine LoopN.over (o := o) (D := []) ho hm hT (by kernel_rfl) (fun a : St8 => [(6, xn a.n)]) (fun a => [(0, .iter (.out 3) v3 a.seen none)]) (fun _ => []) (In8 p of) (fun a => of.length - a.seen.length) ⟨[], 0⟩ ⟨List.nodup_nil, fun _ h => by simp at h, rfl⟩ ?_ ?_
  · refine ⟨rfl, by cbv; repeat' (first | trivial | exact EqX.rfl' | exact EqO.rfl' | apply And.intro | ((try clear hR3); (try clear hR2); (try clear hR); (try clear hK); (try simp only [ncCast] at *); (try simp only [castI_eq] at *); refine EqX.i ?_; (try rw [ho]); (try dsimp only [Ar.real, IX.vo, IX.val, BX.val, IX.toN]); (try simp only [castI_eq, ltB_eq, leB_eq, eqIB_eq, inBB_eq, eqNB_eq, leNB_eq, foldOff, foldOff_id, foldOff_frame, foldOff_agent, foldOff_at_, foldOff_end_, foldOff_how, foldPart, foldEv, foldPart_kind, foldPart_role, foldPart_amount, foldEv_kind, foldEv_frame, foldEv_id, foldEv_agent, foldEv_vec, fold_put]); (repeat rw [wrap_i64 (by omega) (by omega)]); omega)), by cbv; repeat' (first | trivial | exact EqO.rfl' | apply And.intro), by cbv; repeat' (first | trivial | exact EqO.rfl' | apply And.intro)⟩
  · rintro ⟨seen, k⟩ ⟨hnd, hlt, hk⟩ R hR
    dsimp only at hnd hlt hk
    have hkl := cnt_le p of seen
    rw [← hk] at hkl
    cbv
    repeat' (first | (refine Br.mk (fun hb => ?_) (fun hb => ?_) <;> ((try rw [ho] at hb); (try dsimp only [Ar.real, IX.vo] at hb); (try simp only [castI_eq, ltB_eq, leB_eq, eqIB_eq, inBB_eq, eqNB_eq, leNB_eq, foldOff, foldOff_id, foldOff_frame, foldOff_agent, foldOff_at_, foldOff_end_, foldOff_how, foldPart, foldEv, foldPart_kind, foldPart_role, foldPart_amount, foldEv_kind, foldEv_frame, foldEv_id, foldEv_agent, foldEv_vec, fold_put] at hb); (try simp only [decide_eq_true_eq, Int.ofNat_lt, Int.ofNat_le, decide_eq_false_iff_not, Nat.not_lt, Nat.not_le, Int.not_lt, Int.not_le, beq_iff_eq, beq_eq_false_iff_ne, ne_eq, Bool.not_eq_true, Bool.not_eq_false, Bool.not_eq_true', Bool.not_eq_false'] at hb))) | (refine hK _ _ ?_) | (refine NeedT.mk ?_ ?_))
    any_goals (((try clear hR3); (try clear hR2); (try clear hR); (try clear hK); (try simp only [ncCast] at *); (try simp only [castI_eq] at *); (try rw [ho]); (try dsimp only [Ar.real, IX.vo, IX.val, BX.val, IX.toN]); (try simp only [castI_eq, ltB_eq, leB_eq, eqIB_eq, inBB_eq, eqNB_eq, leNB_eq, foldOff, foldOff_id, foldOff_frame, foldOff_agent, foldOff_at_, foldOff_end_, foldOff_how, foldPart, foldEv, foldPart_kind, foldPart_role, foldPart_amount, foldEv_kind, foldEv_frame, foldEv_id, foldEv_agent, foldEv_vec, fold_put]); (try simp only [decide_eq_true_eq, Int.ofNat_eq_natCast]); (all_goals (repeat rw [wrap_i64 (by omega) (by omega)])); (all_goals omega)); done)
    refine NextN.mk ?_ (fun hall => ?_) (fun i ky d hi hni => ?_)
    · intro j hj
      ((try clear hR3); (try clear hR2); (try clear hR); (try clear hK); (try simp only [ncCast] at *); (try simp only [castI_eq] at *); (try rw [ho]); (try dsimp only [Ar.real, IX.vo, IX.val, BX.val, IX.toN]); (try simp only [castI_eq, ltB_eq, leB_eq, eqIB_eq, inBB_eq, eqNB_eq, leNB_eq, foldOff, foldOff_id, foldOff_frame, foldOff_agent, foldOff_at_, foldOff_end_, foldOff_how, foldPart, foldEv, foldPart_kind, foldPart_role, foldPart_amount, foldEv_kind, foldEv_frame, foldEv_id, foldEv_agent, foldEv_vec, fold_put]))
      rw [List.length_map]
      exact hlt j hj
    · have hcn1 : k = many p of := by
        rw [hk]
        refine cnt_all p of seen hnd hlt (fun i hi => ?_)
        have := hall i (by ((try clear hR3); (try clear hR2); (try clear hR); (try clear hK); (try simp only [ncCast] at *); (try simp only [castI_eq] at *); (try rw [ho]); (try dsimp only [Ar.real, IX.vo, IX.val, BX.val, IX.toN]); (try simp only [castI_eq, ltB_eq, leB_eq, eqIB_eq, inBB_eq, eqNB_eq, leNB_eq, foldOff, foldOff_id, foldOff_frame, foldOff_agent, foldOff_at_, foldOff_end_, foldOff_how, foldPart, foldEv, foldPart_kind, foldPart_role, foldPart_amount, foldEv_kind, foldEv_frame, foldEv_id, foldEv_agent, foldEv_vec, fold_put])); rw [List.length_map]; exact hi)
        exact this
      clear hR
      refine LoopN.over (o := o) (D := []) ho hm hT (by kernel_rfl) (fun a : St8 => [(7, xn a.n)]) (fun a => [(1, .iter (.out 4) v4 a.seen none)]) (fun _ => []) (In8 p tk) (fun a => tk.length - a.seen.length) ⟨[], 0⟩ ⟨List.nodup_nil, fun _ h => by simp at h, rfl⟩ ?_ ?_
      · refine ⟨rfl, by cbv; repeat' (first | trivial | exact EqX.rfl' | exact EqO.rfl' | apply And.intro | ((try clear hR3); (try clear hR2); (try clear hR); (try clear hK); (try simp only [ncCast] at *); (try simp only [castI_eq] at *); refine EqX.i ?_; (try rw [ho]); (try dsimp only [Ar.real, IX.vo, IX.val, BX.val, IX.toN]); (try simp only [castI_eq, ltB_eq, leB_eq, eqIB_eq, inBB_eq, eqNB_eq, leNB_eq, foldOff, foldOff_id, foldOff_frame, foldOff_agent, foldOff_at_, foldOff_end_, foldOff_how, foldPart, foldEv, foldPart_kind, foldPart_role, foldPart_amount, foldEv_kind, foldEv_frame, foldEv_id, foldEv_agent, foldEv_vec, fold_put]); (repeat rw [wrap_i64 (by omega) (by omega)]); omega)), by cbv; repeat' (first | trivial | exact EqO.rfl' | apply And.intro), by cbv; repeat' (first | trivial | exact EqO.rfl' | apply And.intro)⟩
      · rintro ⟨seen2, k2⟩ ⟨hnd, hlt, hk⟩ R2 hR2
        dsimp only at hnd hlt hk
        have hkl2 := cnt_le p tk seen2
        rw [← hk] at hkl2
        cbv
        repeat' (first | (refine Br.mk (fun hb => ?_) (fun hb => ?_) <;> ((try rw [ho] at hb); (try dsimp only [Ar.real, IX.vo] at hb); (try simp only [castI_eq, ltB_eq, leB_eq, eqIB_eq, inBB_eq, eqNB_eq, leNB_eq, foldOff, foldOff_id, foldOff_frame, foldOff_agent, foldOff_at_, foldOff_end_, foldOff_how, foldPart, foldEv, foldPart_kind, foldPart_role, foldPart_amount, foldEv_kind, foldEv_frame, foldEv_id, foldEv_agent, foldEv_vec, fold_put] at hb); (try simp only [decide_eq_true_eq, Int.ofNat_lt, Int.ofNat_le, decide_eq_false_iff_not, Nat.not_lt, Nat.not_le, Int.not_lt, Int.not_le, beq_iff_eq, beq_eq_false_iff_ne, ne_eq, Bool.not_eq_true, Bool.not_eq_false, Bool.not_eq_true', Bool.not_eq_false'] at hb))) | (refine hK _ _ ?_) | (refine NeedT.mk ?_ ?_))
        any_goals (((try clear hR3); (try clear hR2); (try clear hR); (try clear hK); (try simp only [ncCast] at *); (try simp only [castI_eq] at *); (try rw [ho]); (try dsimp only [Ar.real, IX.vo, IX.val, BX.val, IX.toN]); (try simp only [castI_eq, ltB_eq, leB_eq, eqIB_eq, inBB_eq, eqNB_eq, leNB_eq, foldOff, foldOff_id, foldOff_frame, foldOff_agent, foldOff_at_, foldOff_end_, foldOff_how, foldPart, foldEv, foldPart_kind, foldPart_role, foldPart_amount, foldEv_kind, foldEv_frame, foldEv_id, foldEv_agent, foldEv_vec, fold_put]); (try simp only [decide_eq_true_eq, Int.ofNat_eq_natCast]); (all_goals (repeat rw [wrap_i64 (by omega) (by omega)])); (all_goals omega)); done)
        refine NextN.mk ?_ (fun hall => ?_) (fun i ky d hi hni => ?_)
        · intro j hj
          ((try clear hR3); (try clear hR2); (try clear hR); (try clear hK); (try simp only [ncCast] at *); (try simp only [castI_eq] at *); (try rw [ho]); (try dsimp only [Ar.real, IX.vo, IX.val, BX.val, IX.toN]); (try simp only [castI_eq, ltB_eq, leB_eq, eqIB_eq, inBB_eq, eqNB_eq, leNB_eq, foldOff, foldOff_id, foldOff_frame, foldOff_agent, foldOff_at_, foldOff_end_, foldOff_how, foldPart, foldEv, foldPart_kind, foldPart_role, foldPart_amount, foldEv_kind, foldEv_frame, foldEv_id, foldEv_agent, foldEv_vec, fold_put]))
          rw [List.length_map]
          exact hlt j hj
        · have hcn : k2 = many p tk := by
            rw [hk]
            refine cnt_all p tk seen2 hnd hlt (fun i hi => ?_)
            have := hall i (by ((try clear hR3); (try clear hR2); (try clear hR); (try clear hK); (try simp only [ncCast] at *); (try simp only [castI_eq] at *); (try rw [ho]); (try dsimp only [Ar.real, IX.vo, IX.val, BX.val, IX.toN]); (try simp only [castI_eq, ltB_eq, leB_eq, eqIB_eq, inBB_eq, eqNB_eq, leNB_eq, foldOff, foldOff_id, foldOff_frame, foldOff_agent, foldOff_at_, foldOff_end_, foldOff_how, foldPart, foldEv, foldPart_kind, foldPart_role, foldPart_amount, foldEv_kind, foldEv_frame, foldEv_id, foldEv_agent, foldEv_vec, fold_put])); rw [List.length_map]; exact hi)
            exact this
          refine hK _ _ ?_
          rw [hcn, hcn1]
          exact ⟨fun _ => rfl, upL_refl _⟩
        · have hni' : i ∉ seen2 := hni
          obtain ⟨a, hia, hla⟩ : ∃ a, tk[i]? = some (ky, a) ∧ lkp tk ky = some a := by
            have hi2 : (tk.map (fun x => (x.1, (encEv Ar.real x.2).toD cx0)))[i]? = some (ky, d) := by rw [ho] at hi; exact hi
            rw [List.getElem?_map, Option.map_eq_some_iff] at hi2
            obtain ⟨⟨k1, a⟩, h1, h2⟩ := hi2
            simp only [Prod.mk.injEq] at h2
            obtain ⟨rfl, _⟩ := h2
            exact ⟨a, h1, lkp_at hn4 h1⟩
          have hga : (tk.getD i default).2 = a := by simp [List.getD_eq_getElem?_getD, hia]
          have hil : i < tk.length := (List.getElem?_eq_some_iff.1 hia).1
          have hcs := cnt_snoc p tk seen2 i
          rw [hga, ← hk] at hcs
          have hnd' : (seen2 ++ [i]).Nodup := by
            rw [List.nodup_append]
            exact ⟨hnd, by simp, by intro x hx y hy; simp at hy; subst hy; exact fun e => hni' (e ▸ hx)⟩
          have hlt' : ∀ j ∈ seen2 ++ [i], j < tk.length := by
            intro j hj
            rcases List.mem_append.1 hj with h | h
            · exact hlt j h
            · simp at h; omega
          have hsl : seen2.length < tk.length := by
            have := List.Nodup.length_le_of_subset hnd' (l₂ := List.range tk.length) (fun j hj => List.mem_range.2 (hlt' j hj))
            simp at this
            omega
          have hme : o.mgetT tk ky = a := by rw [ho, real_mgetT, hla]; rfl
          obtain ⟨sn, hsn⟩ : ∃ q, q = seen2 ++ [i] := ⟨_, rfl⟩
          cbv
          repeat' (first | (refine Br.mk (fun hb => ?_) (fun hb => ?_) <;> ((try rw [ho] at hb); (try dsimp only [Ar.real, IX.vo] at hb); (try simp only [castI_eq, ltB_eq, leB_eq, eqIB_eq, inBB_eq, eqNB_eq, leNB_eq, foldOff, foldOff_id, foldOff_frame, foldOff_agent, foldOff_at_, foldOff_end_, foldOff_how, foldPart, foldEv, foldPart_kind, foldPart_role, foldPart_amount, foldEv_kind, foldEv_frame, foldEv_id, foldEv_agent, foldEv_vec, fold_put] at hb); (try simp only [decide_eq_true_eq, Int.ofNat_lt, Int.ofNat_le, decide_eq_false_iff_not, Nat.not_lt, Nat.not_le, Int.not_lt, Int.not_le, beq_iff_eq, beq_eq_false_iff_ne, ne_eq, Bool.not_eq_true, Bool.not_eq_false, Bool.not_eq_true', Bool.not_eq_false'] at hb))) | (refine hK _ _ ?_) | (refine NeedT.mk ?_ ?_) | (refine NeedP.mk ⟨d, hi⟩ ?_) | refine CallN.objs [.out 5] hP (hx (o.mgetT tk ky)) hf rfl rfl rfl rfl (by rfl) rfl rfl rfl rfl (by rfl) ⟨⟨_, rfl, rfl⟩, trivial⟩ ?_; generalize hr : p _ = r; cbv)
          any_goals (((try clear hR3); (try clear hR2); (try clear hR); (try clear hK); (try simp only [ncCast] at *); (try simp only [castI_eq] at *); (try rw [ho]); (try dsimp only [Ar.real, IX.vo, IX.val, BX.val, IX.toN]); (try simp only [castI_eq, ltB_eq, leB_eq, eqIB_eq, inBB_eq, eqNB_eq, leNB_eq, foldOff, foldOff_id, foldOff_frame, foldOff_agent, foldOff_at_, foldOff_end_, foldOff_how, foldPart, foldEv, foldPart_kind, foldPart_role, foldPart_amount, foldEv_kind, foldEv_frame, foldEv_id, foldEv_agent, foldEv_vec, fold_put]); (try simp only [decide_eq_true_eq, Int.ofNat_eq_natCast]); (all_goals (repeat rw [wrap_i64 (by omega) (by omega)])); (all_goals omega)); done)
          · have hpa : p a = r := by rw [← hme]; exact hr
            rw [hpa, hb, if_pos rfl] at hcs
            refine hR2 _ ⟨sn, k2 + 1⟩ (by dsimp only; rw [hsn, List.length_append]; simp; omega) ⟨by rw [hsn]; exact hnd', by rw [hsn]; exact hlt', by dsimp only; rw [hsn]; exact hcs.symm⟩ ?_
            refine ⟨rfl, by cbv; repeat' (first | trivial | exact EqX.rfl' | exact EqO.rfl' | apply And.intro | ((try clear hR3); (try clear hR2); (try clear hR); (try clear hK); (try simp only [ncCast] at *); (try simp only [castI_eq] at *); refine EqX.i ?_; (try rw [ho]); (try dsimp only [Ar.real, IX.vo, IX.val, BX.val, IX.toN]); (try simp only [castI_eq, ltB_eq, leB_eq, eqIB_eq, inBB_eq, eqNB_eq, leNB_eq, foldOff, foldOff_id, foldOff_frame, foldOff_agent, foldOff_at_, foldOff_end_, foldOff_how, foldPart, foldEv, foldPart_kind, foldPart_role, foldPart_amount, foldEv_kind, foldEv_frame, foldEv_id, foldEv_agent, foldEv_vec, fold_put]); (repeat rw [wrap_i64 (by omega) (by omega)]); omega) | exact EqO_iter hsn), by cbv; repeat' (first | trivial | exact EqO.rfl' | apply And.intro | exact EqO_iter hsn), by cbv; repeat' (first | trivial | exact EqO.rfl' | apply And.intro | exact EqO_iter hsn)⟩
          · have hpa : p a = r := by rw [← hme]; exact hr
            rw [hpa, hb, if_neg (by decide), Nat.add_zero] at hcs
            refine hR2 _ ⟨sn, k2⟩ (by dsimp only; rw [hsn, List.length_append]; simp; omega) ⟨by rw [hsn]; exact hnd', by rw [hsn]; exact hlt', by dsimp only; rw [hsn]; exact hcs.symm⟩ ?_
            refine ⟨rfl, by cbv; repeat' (first | trivial | exact EqX.rfl' | exact EqO.rfl' | apply And.intro | ((try clear hR3); (try clear hR2); (try clear hR); (try clear hK); (try simp only [ncCast] at *); (try simp only [castI_eq] at *); refine EqX.i ?_; (try rw [ho]); (try dsimp only [Ar.real, IX.vo, IX.val, BX.val, IX.toN]); (try simp only [castI_eq, ltB_eq, leB_eq, eqIB_eq, inBB_eq, eqNB_eq, leNB_eq, foldOff, foldOff_id, foldOff_frame, foldOff_agent, foldOff_at_, foldOff_end_, foldOff_how, foldPart, foldEv, foldPart_kind, foldPart_role, foldPart_amount, foldEv_kind, foldEv_frame, foldEv_id, foldEv_agent, foldEv_vec, fold_put]); (repeat rw [wrap_i64 (by omega) (by omega)]); omega) | exact EqO_iter hsn), by cbv; repeat' (first | trivial | exact EqO.rfl' | apply And.intro | exact EqO_iter hsn), by cbv; repeat' (first | trivial | exact EqO.rfl' | apply And.intro | exact EqO_iter hsn)⟩
    · have hni' : i ∉ seen := hni
      obtain ⟨a, hia, hla⟩ : ∃ a, of[i]? = some (ky, a) ∧ lkp of ky = some a := by
        have hi2 : (of.map (fun x => (x.1, (encEv Ar.real x.2).toD cx0)))[i]? = some (ky, d) := by rw [ho] at hi; exact hi
        rw [List.getElem?_map, Option.map_eq_some_iff] at hi2
        obtain ⟨⟨k1, a⟩, h1, h2⟩ := hi2
        simp only [Prod.mk.injEq] at h2
        obtain ⟨rfl, _⟩ := h2
        exact ⟨a, h1, lkp_at hn3 h1⟩
      have hga : (of.getD i default).2 = a := by simp [List.getD_eq_getElem?_getD, hia]
      have hil : i < of.length := (List.getElem?_eq_some_iff.1 hia).1
      have hcs := cnt_snoc p of seen i
      rw [hga, ← hk] at hcs
      have hnd' : (seen ++ [i]).Nodup := by
        rw [List.nodup_append]
        exact ⟨hnd, by simp, by intro x hx y hy; simp at hy; subst hy; exact fun e => hni' (e ▸ hx)⟩
      have hlt' : ∀ j ∈ seen ++ [i], j < of.length := by
        intro j hj
        rcases List.mem_append.1 hj with h | h
        · exact hlt j h
        · simp at h; omega
      have hsl : seen.length < of.length := by
        have := List.Nodup.length_le_of_subset hnd' (l₂ := List.range of.length) (fun j hj => List.mem_range.2 (hlt' j hj))
        simp at this
        omega
      have hme : o.mgetT of ky = a := by rw [ho, real_mgetT, hla]; rfl
      obtain ⟨sn, hsn⟩ : ∃ q, q = seen ++ [i] := ⟨_, rfl⟩
      cbv
      repeat' (first | (refine Br.mk (fun hb => ?_) (fun hb => ?_) <;> ((try rw [ho] at hb); (try dsimp only [Ar.real, IX.vo] at hb); (try simp only [castI_eq, ltB_eq, leB_eq, eqIB_eq, inBB_eq, eqNB_eq, leNB_eq, foldOff, foldOff_id, foldOff_frame, foldOff_agent, foldOff_at_, foldOff_end_, foldOff_how, foldPart, foldEv, foldPart_kind, foldPart_role, foldPart_amount, foldEv_kind, foldEv_frame, foldEv_id, foldEv_agent, foldEv_vec, fold_put] at hb); (try simp only [decide_eq_true_eq, Int.ofNat_lt, Int.ofNat_le, decide_eq_false_iff_not, Nat.not_lt, Nat.not_le, Int.not_lt, Int.not_le, beq_iff_eq, beq_eq_false_iff_ne, ne_eq, Bool.not_eq_true, Bool.not_eq_false, Bool.not_eq_true', Bool.not_eq_false'] at hb))) | (refine hK _ _ ?_) | (refine NeedT.mk ?_ ?_) | (refine NeedP.mk ⟨d, hi⟩ ?_) | refine CallN.objs [.out 5] hP (hx (o.mgetT of ky)) hf rfl rfl rfl rfl (by rfl) rfl rfl rfl rfl (by rfl) ⟨⟨_, rfl, rfl⟩, trivial⟩ ?_; generalize hr : p _ = r; cbv)
      any_goals (((try clear hR3); (try clear hR2); (try clear hR); (try clear hK); (try simp only [ncCast] at *); (try simp only [castI_eq] at *); (try rw [ho]); (try dsimp only [Ar.real, IX.vo, IX.val, BX.val, IX.toN]); (try simp only [castI_eq, ltB_eq, leB_eq, eqIB_eq, inBB_eq, eqNB_eq, leNB_eq, foldOff, foldOff_id, foldOff_frame, foldOff_agent, foldOff_at_, foldOff_end_, foldOff_how, foldPart, foldEv, foldPart_kind, foldPart_role, foldPart_amount, foldEv_kind, foldEv_frame, foldEv_id, foldEv_agent, foldEv_vec, fold_put]); (try simp only [decide_eq_true_eq, Int.ofNat_eq_natCast]); (all_goals (repeat rw [wrap_i64 (by omega) (by omega)])); (all_goals omega)); done)
      · have hpa : p a = r := by rw [← hme]; exact hr
        rw [hpa, hb, if_pos rfl] at hcs
        refine hR _ ⟨sn, k + 1⟩ (by dsimp only; rw [hsn, List.length_append]; simp; omega) ⟨by rw [hsn]; exact hnd', by rw [hsn]; exact hlt', by dsimp only; rw [hsn]; exact hcs.symm⟩ ?_
        refine ⟨rfl, by cbv; repeat' (first | trivial | exact EqX.rfl' | exact EqO.rfl' | apply And.intro | ((try clear hR3); (try clear hR2); (try clear hR); (try clear hK); (try simp only [ncCast] at *); (try simp only [castI_eq] at *); refine EqX.i ?_; (try rw [ho]); (try dsimp only [Ar.real, IX.vo, IX.val, BX.val, IX.toN]); (try simp only [castI_eq, ltB_eq, leB_eq, eqIB_eq, inBB_eq, eqNB_eq, leNB_eq, foldOff, foldOff_id, foldOff_frame, foldOff_agent, foldOff_at_, foldOff_end_, foldOff_how, foldPart, foldEv, foldPart_kind, foldPart_role, foldPart_amount, foldEv_kind, foldEv_frame, foldEv_id, foldEv_agent, foldEv_vec, fold_put]); (repeat rw [wrap_i64 (by omega) (by omega)]); omega) | exact EqO_iter hsn), by cbv; repeat' (first | trivial | exact EqO.rfl' | apply And.intro | exact EqO_iter hsn), by cbv; repeat' (first | trivial | exact EqO.rfl' | apply And.intro | exact EqO_iter hsn)⟩
      · have hpa : p a = r := by rw [← hme]; exact hr
        rw [hpa, hb, if_neg (by decide), Nat.add_zero] at hcs
        refine hR _ ⟨sn, k⟩ (by dsimp only; rw [hsn, List.length_append]; simp; omega) ⟨by rw [hsn]; exact hnd', by rw [hsn]; exact hlt', by dsimp only; rw [hsn]; exact hcs.symm⟩ ?_
        refine ⟨rfl, by cbv; repeat' (first | trivial | exact EqX.rfl' | exact EqO.rfl' | apply And.intro | ((try clear hR3); (try clear hR2); (try clear hR); (try clear hK); (try simp only [ncCast] at *); (try simp only [castI_eq] at *); refine EqX.i ?_; (try rw [ho]); (try dsimp only [Ar.real, IX.vo, IX.val, BX.val, IX.toN]); (try simp only [castI_eq, ltB_eq, leB_eq, eqIB_eq, inBB_eq, eqNB_eq, leNB_eq, foldOff, foldOff_id, foldOff_frame, foldOff_agent, foldOff_at_, foldOff_end_, foldOff_how, foldPart, foldEv, foldPart_kind, foldPart_role, foldPart_amount, foldEv_kind, foldEv_frame, foldEv_id, foldEv_agent, foldEv_vec, fold_put]); (repeat rw [wrap_i64 (by omega) (by omega)]); omega) | exact EqO_iter hsn), by cbv; repeat' (first | trivial | exact EqO.rfl' | apply And.intro | exact EqO_iter hsn), by cbv; repeat' (first | trivial | exact EqO.rfl' | apply And.intro | exact EqO_iter hsn)⟩
end Go.Proofs.Ytddgcegimmcbgaa.Sy

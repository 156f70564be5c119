/-
  The life of offers: what is there. Plain theorems.
-/
import Derived.Test.YtddgcegimmcbgaaK5
set_option linter.unusedSectionVars false
namespace Go.Proofs.Ytddgcegimmcbgaa.Sy
open Go Go.Sy Go.Proofs.Ytddgcegimmcbgaa
set_option maxRecDepth 100000
set_option maxHeartbeats 8000000
set_option linter.unusedVariables false
set_option linter.unusedSimpArgs false

def encEv (o : Ar) (e : Ev) : X := .agg (Ev.X o e)
theorem cleanEv : Go.Sy.Clean encEv := fun _ => rfl
/-- A map as it is typed. -/
structure TM (α : Type) where
  ver : Nat
  ms : List (List Int × α)
  hn : (ms.map (·.1)).Nodup
@[reducible] def TM.X {α : Type} [Inhabited α] (o : Ar) (ho : o = Ar.real) (enc : Ar → α → X) (hc : Go.Sy.Clean enc) (ag : Bool) (m : Nat) (t : TM α) : OX := .map t.ver ag m (MT o ho enc hc t.ms t.hn)
structure There where
  ag : TM Int
  fr : TM Int
  of : TM Ev
  tk : TM Ev
  n : Int
@[reducible] def There.O (o : Ar) (ho : o = Ar.real) (s : There) : List OX :=
  [.var [.mp (.out 1), .mp (.out 2), .mp (.out 3), .mp (.out 4), xi s.n] 120, s.ag.X o ho encInt cleanInt false 1, s.fr.X o ho encInt cleanInt false 1, s.of.X o ho encEv cleanEv false 1, s.tk.X o ho encEv cleanEv true 2]
theorem upL_refl : ∀ l : List OX, upL l l
  | [] => trivial
  | a :: l => ⟨fun c => upO_refl _, upL_refl l⟩
theorem FinX_bO {r : Bool} {x : BX} {O O' : List OX} (h : x.val = r) (hO : O' = O) : FinX (xb r) O (.b x) O' := by
  subst hO
  exact ⟨fun _ => by simp only [X.toD, h]; rfl, upL_refl _⟩
theorem mhas_none {α : Type} (enc : Ar → α → X) (ms : List (List Int × α)) (k : List Int) (h : (mget (ms.map fun x => (x.1, (enc Ar.real x.2).toD cx0)) k).isSome = false) : lkp ms k = none := by
  rw [mhas_map] at h
  cases hq : lkp ms k with
  | none => rfl
  | some a => rw [hq] at h; cases h
theorem mhas_some {α : Type} (enc : Ar → α → X) (ms : List (List Int × α)) (k : List Int) (h : (mget (ms.map fun x => (x.1, (enc Ar.real x.2).toD cx0)) k).isSome = true) : ∃ a, lkp ms k = some a := by
  rw [mhas_map] at h
  exact Option.isSome_iff_exists.1 h
def readyB (s : There) (e : Ev) : Bool := decide ((lkp s.fr.ms [e.frame]).getD 0 = 1) && decide ((lkp s.ag.ms [e.agent]).getD 0 = 1)
theorem x_ready (o : Ar) (ho : o = Ar.real) (s : There) (e : Ev) : XC Try.prog 120 [.ptr (.out 0) 0, .agg (Ev.X o e)] (s.O o ho) (xb (readyB s e)) (s.O o ho) := by
  obtain ⟨⟨v1, ag, hn1⟩, ⟨v2, fr, hn2⟩, ⟨v3, of, hn3⟩, ⟨v4, tk, hn4⟩, n⟩ := s
  (refine XC.of_body ([(1, [])]) Try.func120 rfl Try.ntmps120 mixed (T := [(2, ti2), (3, ti3), (31, ti31), (33, ti33), (116, ti116), (117, ti117), (118, ti118), (120, ti120)]) (.cons tok2 (.cons tok3 (.cons tok31 (.cons tok33 (.cons tok116 (.cons tok117 (.cons tok118 (.cons tok120 .nil)))))))) (by kernel_rfl) (by simp) rfl rfl rfl rfl rfl ?_; rintro o2 ho2 P hP c K hK; have hm : P.follows .mixedOrders = true := hP ▸ mixed; have hT : TOk P [(2, ti2), (3, ti3), (31, ti31), (33, ti33), (116, ti116), (117, ti117), (118, ti118), (120, ti120)] := hP ▸ (.cons tok2 (.cons tok3 (.cons tok31 (.cons tok33 (.cons tok116 (.cons tok117 (.cons tok118 (.cons tok120 .nil)))))))); (try rw [← ho2]); have e2 : o = o2 := ho.trans ho2.symm; subst e2; cbv)
  repeat' (first | (refine Br.mk (fun hb => ?_) (fun hb => ?_) <;> ((try rw [ho] at hb); (try dsimp only [Ar.real, IX.vo] at hb); (try simp only [castI_eq, ltB_eq, leB_eq, eqIB_eq, inBB_eq, eqNB_eq, leNB_eq, foldOff, foldOff_id, foldOff_frame, foldOff_agent, foldOff_at_, foldOff_end_, foldOff_how, foldPart, foldEv, foldPart_kind, foldPart_role, foldPart_amount, foldEv_kind, foldEv_frame, foldEv_id, foldEv_agent, foldEv_vec, fold_put] at hb); (try simp only [decide_eq_true_eq, Int.ofNat_lt, Int.ofNat_le, decide_eq_false_iff_not, Nat.not_lt, Nat.not_le, Int.not_lt, Int.not_le, beq_iff_eq, beq_eq_false_iff_ne, ne_eq, Bool.not_eq_true, Bool.not_eq_false, Bool.not_eq_true', Bool.not_eq_false'] at hb))) | (refine hK _ _ ?_) | (refine NeedT.mk ?_ ?_))
  · refine FinX_bO ?_ rfl
    have h1 : (lkp fr [e.frame]).getD 0 = 1 := by assumption
    ((try clear hR3); (try clear hR2); (try clear hR); (try clear hK); (try simp only [ncCast] at *); (try simp only [castI_eq] at *); (try rw [ho]); (try dsimp only [Ar.real, IX.vo, IX.val, BX.val, IX.toN]); (try simp only [castI_eq, ltB_eq, leB_eq, eqIB_eq, inBB_eq, eqNB_eq, leNB_eq, foldOff, foldOff_id, foldOff_frame, foldOff_agent, foldOff_at_, foldOff_end_, foldOff_how, foldPart, foldEv, foldPart_kind, foldPart_role, foldPart_amount, foldEv_kind, foldEv_frame, foldEv_id, foldEv_agent, foldEv_vec, fold_put]))
    simp only [readyB, h1, decide_true, Bool.true_and]
    rfl
  · refine FinX_bO ?_ rfl
    have h1 : lkp ag [e.agent] = none := mhas_none encInt ag _ (by assumption)
    ((try clear hR3); (try clear hR2); (try clear hR); (try clear hK); (try simp only [ncCast] at *); (try simp only [castI_eq] at *); (try rw [ho]); (try dsimp only [Ar.real, IX.vo, IX.val, BX.val, IX.toN]); (try simp only [castI_eq, ltB_eq, leB_eq, eqIB_eq, inBB_eq, eqNB_eq, leNB_eq, foldOff, foldOff_id, foldOff_frame, foldOff_agent, foldOff_at_, foldOff_end_, foldOff_how, foldPart, foldEv, foldPart_kind, foldPart_role, foldPart_amount, foldEv_kind, foldEv_frame, foldEv_id, foldEv_agent, foldEv_vec, fold_put]))
    simp only [readyB, h1, Option.getD_none]
    simp
  · refine FinX_bO ?_ rfl
    have h1 : ¬ (lkp fr [e.frame]).getD 0 = 1 := by assumption
    ((try clear hR3); (try clear hR2); (try clear hR); (try clear hK); (try simp only [ncCast] at *); (try simp only [castI_eq] at *); (try rw [ho]); (try dsimp only [Ar.real, IX.vo, IX.val, BX.val, IX.toN]); (try simp only [castI_eq, ltB_eq, leB_eq, eqIB_eq, inBB_eq, eqNB_eq, leNB_eq, foldOff, foldOff_id, foldOff_frame, foldOff_agent, foldOff_at_, foldOff_end_, foldOff_how, foldPart, foldEv, foldPart_kind, foldPart_role, foldPart_amount, foldEv_kind, foldEv_frame, foldEv_id, foldEv_agent, foldEv_vec, fold_put]))
    simp only [readyB, decide_eq_false h1, Bool.false_and]
  · refine FinX_bO ?_ rfl
    have h1 : lkp fr [e.frame] = none := mhas_none encInt fr _ (by assumption)
    ((try clear hR3); (try clear hR2); (try clear hR); (try clear hK); (try simp only [ncCast] at *); (try simp only [castI_eq] at *); (try rw [ho]); (try dsimp only [Ar.real, IX.vo, IX.val, BX.val, IX.toN]); (try simp only [castI_eq, ltB_eq, leB_eq, eqIB_eq, inBB_eq, eqNB_eq, leNB_eq, foldOff, foldOff_id, foldOff_frame, foldOff_agent, foldOff_at_, foldOff_end_, foldOff_how, foldPart, foldEv, foldPart_kind, foldPart_role, foldPart_amount, foldEv_kind, foldEv_frame, foldEv_id, foldEv_agent, foldEv_vec, fold_put]))
    simp only [readyB, h1, Option.getD_none]
    simp
end Go.Proofs.Ytddgcegimmcbgaa.Sy

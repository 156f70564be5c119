/-
  The life of offers: functions over events: contracts. Plain theorems.
-/
import Derived.Test.YtddgcegimmcbgaaK1
set_option linter.unusedSectionVars false
namespace Go.Proofs.Ytddgcegimmcbgaa.Sy
open Go Go.Sy Go.Proofs.Ytddgcegimmcbgaa
set_option maxRecDepth 100000
set_option maxHeartbeats 4000000
set_option linter.unusedVariables false
set_option linter.unusedSimpArgs false

/-- Events that are of a size to be had. -/
structure EvOk (l : List Ev) : Prop where
  len : l.length ≤ 1048576
  vec : ∀ e ∈ l, e.vec.length ≤ 1048576
theorem EvOk.at_ {l : List Ev} (h : EvOk l) (i : Nat) : (l.getD i default).vec.length ≤ 1048576 := by
  rw [List.getD_eq_getElem?_getD]
  cases hi : l[i]? with
  | none => simp; exact Nat.zero_le _
  | some e => exact h.vec e (List.mem_of_getElem? hi)
def vecs (l : List Ev) : Nat := (l.map fun e => e.vec.length).sum
theorem vecs_snoc {l : List Ev} {i : Nat} (h : i < l.length) : vecs (l.take (i + 1)) = vecs (l.take i) + (l.getD i default).vec.length := by
  have e : l.getD i default = l[i] := by simp [List.getD_eq_getElem?_getD, h]
  rw [List.take_succ_eq_append_getElem h, e]
  simp only [vecs, List.map_append, List.sum_append, List.map_cons, List.map_nil, List.sum_cons, List.sum_nil, Nat.add_zero]
theorem vecs_le {l : List Ev} (h : EvOk l) (i : Nat) (hi : i ≤ l.length) : vecs (l.take i) ≤ i * 1048576 := by
  induction i with
  | zero => simp [vecs]
  | succ i ih =>
    rw [vecs_snoc (by omega)]
    have := ih (by omega)
    have := h.at_ i
    omega
def few (l : List Ev) : Bool := decide (l.length ≤ 300) && decide (vecs l ≤ 1500)
theorem x_Few (l : List Ev) (hl : EvOk l) : XC Try.prog 12 [.ro (SL Ar.real Ev.X l)] [] (xb (few l)) [] := by
  have hlen := hl.len
  (refine XC.of_body ([]) Try.func12 rfl Try.ntmps12 mixed (T := [(2, ti2), (3, ti3), (22, ti22), (31, ti31), (33, ti33), (123, ti123)]) (.cons tok2 (.cons tok3 (.cons tok22 (.cons tok31 (.cons tok33 (.cons tok123 .nil)))))) (by kernel_rfl) (by simp) rfl rfl rfl rfl rfl ?_; rintro o ho P hP c K hK; have hm : P.follows .mixedOrders = true := hP ▸ mixed; have hT : TOk P [(2, ti2), (3, ti3), (22, ti22), (31, ti31), (33, ti33), (123, ti123)] := hP ▸ (.cons tok2 (.cons tok3 (.cons tok22 (.cons tok31 (.cons tok33 (.cons tok123 .nil)))))); (try rw [← ho]); cbv)
  refine LoopN.over (o := o) (D := []) ho hm hT (by kernel_rfl) (fun a : Nat × Nat => [(4, xn a.1), (3, xn a.2)]) (fun _ => []) (fun _ => []) (fun a => a.1 ≤ l.length ∧ a.2 = vecs (l.take a.1)) (fun a => l.length - a.1) (0, 0) ⟨Nat.zero_le _, rfl⟩ ?_ ?_
  · refine ⟨rfl, by cbv; repeat' (first | trivial | exact EqX.rfl' | exact EqO.rfl' | apply And.intro | ((try clear hR3); (try clear hR2); (try clear hR); (try clear hK); (try simp only [ncCast] at *); (try simp only [castI_eq] at *); refine EqX.i ?_; (try rw [ho]); (try dsimp only [Ar.real, IX.vo, IX.val, BX.val, IX.toN]); (try simp only [castI_eq, ltB_eq, leB_eq, eqIB_eq, inBB_eq, eqNB_eq, leNB_eq, foldPart, foldEv, foldPart_kind, foldPart_role, foldPart_amount, foldEv_kind, foldEv_frame, foldEv_id, foldEv_agent, foldEv_vec, fold_put]); (repeat rw [wrap_i64 (by omega) (by omega)]); omega)), by cbv; repeat' (first | trivial | exact EqO.rfl' | apply And.intro), by cbv; repeat' (first | trivial | exact EqO.rfl' | apply And.intro)⟩
  · rintro ⟨i, n⟩ ⟨hi, hn⟩ R hR
    simp only at hi hn
    have hv := vecs_le hl i hi
    have ha := hl.at_ i
    cbv
    repeat' (first | (refine Br.mk (fun hb => ?_) (fun hb => ?_) <;> ((try rw [ho] at hb); (try dsimp only [Ar.real, IX.vo] at hb); (try simp only [castI_eq, ltB_eq, leB_eq, eqIB_eq, inBB_eq, eqNB_eq, leNB_eq, foldPart, foldEv, foldPart_kind, foldPart_role, foldPart_amount, foldEv_kind, foldEv_frame, foldEv_id, foldEv_agent, foldEv_vec, fold_put] at hb); (try simp only [decide_eq_true_eq, Int.ofNat_lt, Int.ofNat_le, decide_eq_false_iff_not, Nat.not_lt, Nat.not_le, Int.not_lt, Int.not_le, beq_iff_eq, beq_eq_false_iff_ne, ne_eq, Bool.not_eq_true, Bool.not_eq_false, Bool.not_eq_true', Bool.not_eq_false'] at hb))) | (refine hK _ _ ?_) | (refine NeedT.mk ?_ ?_))
    · ((try clear hR3); (try clear hR2); (try clear hR); (try clear hK); (try simp only [ncCast] at *); (try simp only [castI_eq] at *); (try rw [ho]); (try dsimp only [Ar.real, IX.vo, IX.val, BX.val, IX.toN]); (try simp only [castI_eq, ltB_eq, leB_eq, eqIB_eq, inBB_eq, eqNB_eq, leNB_eq, foldPart, foldEv, foldPart_kind, foldPart_role, foldPart_amount, foldEv_kind, foldEv_frame, foldEv_id, foldEv_agent, foldEv_vec, fold_put]); (try simp only [decide_eq_true_eq, Int.ofNat_eq_natCast]); (all_goals (repeat rw [wrap_i64 (by omega) (by omega)])); (all_goals omega))
    · have hs := vecs_snoc (l := l) (i := i) (by omega)
      generalize hq : vecs (l.take (i + 1)) = q at hs
      refine hR _ (i + 1, q) (by dsimp only; omega) ⟨by dsimp only; omega, hq.symm⟩ ?_
      refine ⟨rfl, by cbv; repeat' (first | trivial | exact EqX.rfl' | exact EqO.rfl' | apply And.intro | ((try clear hR3); (try clear hR2); (try clear hR); (try clear hK); (try simp only [ncCast] at *); (try simp only [castI_eq] at *); refine EqX.i ?_; (try rw [ho]); (try dsimp only [Ar.real, IX.vo, IX.val, BX.val, IX.toN]); (try simp only [castI_eq, ltB_eq, leB_eq, eqIB_eq, inBB_eq, eqNB_eq, leNB_eq, foldPart, foldEv, foldPart_kind, foldPart_role, foldPart_amount, foldEv_kind, foldEv_frame, foldEv_id, foldEv_agent, foldEv_vec, fold_put]); (repeat rw [wrap_i64 (by omega) (by omega)]); omega)), by cbv; repeat' (first | trivial | exact EqO.rfl' | apply And.intro), by cbv; repeat' (first | trivial | exact EqO.rfl' | apply And.intro)⟩
    · refine .b ?_
      ((try clear hR3); (try clear hR2); (try clear hR); (try clear hK); (try simp only [ncCast] at *); (try simp only [castI_eq] at *); (try rw [ho]); (try dsimp only [Ar.real, IX.vo, IX.val, BX.val, IX.toN]); (try simp only [castI_eq, ltB_eq, leB_eq, eqIB_eq, inBB_eq, eqNB_eq, leNB_eq, foldPart, foldEv, foldPart_kind, foldPart_role, foldPart_amount, foldEv_kind, foldEv_frame, foldEv_id, foldEv_agent, foldEv_vec, fold_put]))
      rw [List.take_of_length_le (by omega)] at hn
      simp only [few, ← hn]
      rw [Bool.eq_iff_iff]
      simp
      omega
    · refine .b ?_
      ((try clear hR3); (try clear hR2); (try clear hR); (try clear hK); (try simp only [ncCast] at *); (try simp only [castI_eq] at *); (try rw [ho]); (try dsimp only [Ar.real, IX.vo, IX.val, BX.val, IX.toN]); (try simp only [castI_eq, ltB_eq, leB_eq, eqIB_eq, inBB_eq, eqNB_eq, leNB_eq, foldPart, foldEv, foldPart_kind, foldPart_role, foldPart_amount, foldEv_kind, foldEv_frame, foldEv_id, foldEv_agent, foldEv_vec, fold_put]))
      simp [few]
      omega

def endsB (k : Int) : Bool := decide (7 ≤ k) && decide (k ≤ 12)
def stopsB (k : Int) : Bool := decide (14 ≤ k) && decide (k ≤ 17)
theorem x_ends (x : Int) : XC Try.prog 61 [xi x] [] (xb (endsB x)) [] := by
  (refine XC.of_body ([]) Try.func61 rfl Try.ntmps61 mixed (T := [(3, ti3)]) (.cons tok3 .nil) (by kernel_rfl) (by simp) rfl rfl rfl rfl rfl ?_; rintro o ho P hP c K hK; have hm : P.follows .mixedOrders = true := hP ▸ mixed; have hT : TOk P [(3, ti3)] := hP ▸ (.cons tok3 .nil); (try rw [← ho]); cbv)
  repeat' (first | (refine Br.mk (fun hb => ?_) (fun hb => ?_) <;> ((try rw [ho] at hb); (try dsimp only [Ar.real, IX.vo] at hb); (try simp only [castI_eq, ltB_eq, leB_eq, eqIB_eq, inBB_eq, eqNB_eq, leNB_eq, foldPart, foldEv, foldPart_kind, foldPart_role, foldPart_amount, foldEv_kind, foldEv_frame, foldEv_id, foldEv_agent, foldEv_vec, fold_put] at hb); (try simp only [decide_eq_true_eq, Int.ofNat_lt, Int.ofNat_le, decide_eq_false_iff_not, Nat.not_lt, Nat.not_le, Int.not_lt, Int.not_le, beq_iff_eq, beq_eq_false_iff_ne, ne_eq, Bool.not_eq_true, Bool.not_eq_false, Bool.not_eq_true', Bool.not_eq_false'] at hb))) | (refine hK _ _ ?_) | (refine NeedT.mk ?_ ?_))
  all_goals (refine .b ?_; ((try clear hR3); (try clear hR2); (try clear hR); (try clear hK); (try simp only [ncCast] at *); (try simp only [castI_eq] at *); (try rw [ho]); (try dsimp only [Ar.real, IX.vo, IX.val, BX.val, IX.toN]); (try simp only [castI_eq, ltB_eq, leB_eq, eqIB_eq, inBB_eq, eqNB_eq, leNB_eq, foldPart, foldEv, foldPart_kind, foldPart_role, foldPart_amount, foldEv_kind, foldEv_frame, foldEv_id, foldEv_agent, foldEv_vec, fold_put])); simp [endsB, *])
  all_goals omega
theorem x_stops (x : Int) : XC Try.prog 62 [xi x] [] (xb (stopsB x)) [] := by
  (refine XC.of_body ([]) Try.func62 rfl Try.ntmps62 mixed (T := [(3, ti3)]) (.cons tok3 .nil) (by kernel_rfl) (by simp) rfl rfl rfl rfl rfl ?_; rintro o ho P hP c K hK; have hm : P.follows .mixedOrders = true := hP ▸ mixed; have hT : TOk P [(3, ti3)] := hP ▸ (.cons tok3 .nil); (try rw [← ho]); cbv)
  repeat' (first | (refine Br.mk (fun hb => ?_) (fun hb => ?_) <;> ((try rw [ho] at hb); (try dsimp only [Ar.real, IX.vo] at hb); (try simp only [castI_eq, ltB_eq, leB_eq, eqIB_eq, inBB_eq, eqNB_eq, leNB_eq, foldPart, foldEv, foldPart_kind, foldPart_role, foldPart_amount, foldEv_kind, foldEv_frame, foldEv_id, foldEv_agent, foldEv_vec, fold_put] at hb); (try simp only [decide_eq_true_eq, Int.ofNat_lt, Int.ofNat_le, decide_eq_false_iff_not, Nat.not_lt, Nat.not_le, Int.not_lt, Int.not_le, beq_iff_eq, beq_eq_false_iff_ne, ne_eq, Bool.not_eq_true, Bool.not_eq_false, Bool.not_eq_true', Bool.not_eq_false'] at hb))) | (refine hK _ _ ?_) | (refine NeedT.mk ?_ ?_))
  all_goals (refine .b ?_; ((try clear hR3); (try clear hR2); (try clear hR); (try clear hK); (try simp only [ncCast] at *); (try simp only [castI_eq] at *); (try rw [ho]); (try dsimp only [Ar.real, IX.vo, IX.val, BX.val, IX.toN]); (try simp only [castI_eq, ltB_eq, leB_eq, eqIB_eq, inBB_eq, eqNB_eq, leNB_eq, foldPart, foldEv, foldPart_kind, foldPart_role, foldPart_amount, foldEv_kind, foldEv_frame, foldEv_id, foldEv_agent, foldEv_vec, fold_put])); simp [stopsB, *])
  all_goals omega

/-- The next end of a number. -/
def nextEnd (l : List Ev) (id : Int) (k : Nat) : Option Nat := nextAt (fun i => endsB (l.getD i default).kind && decide ((l.getD i default).id = id)) k l.length
def endR (l : List Ev) (k : Nat) : Int × Int :=
  match nextEnd l (l.getD k default).id (k + 1) with
  | some i => (i, (l.getD i default).kind)
  | none => (-1, 0)
theorem x_End (l : List Ev) (hl : EvOk l) (k : Nat) (hk : k < l.length) : XC Try.prog 17 [.ro (SL Ar.real Ev.X l), xn k] [] (.tup [xi (endR l k).1, xi (endR l k).2]) [] := by
  have hlen := hl.len
  (refine XC.of_body ([(4, []), (5, [])]) Try.func17 rfl Try.ntmps17 mixed (T := [(2, ti2), (3, ti3), (22, ti22), (31, ti31), (33, ti33)]) (.cons tok2 (.cons tok3 (.cons tok22 (.cons tok31 (.cons tok33 .nil))))) (by kernel_rfl) (by simp) rfl rfl rfl rfl rfl ?_; rintro o ho P hP c K hK; have hm : P.follows .mixedOrders = true := hP ▸ mixed; have hT : TOk P [(2, ti2), (3, ti3), (22, ti22), (31, ti31), (33, ti33)] := hP ▸ (.cons tok2 (.cons tok3 (.cons tok22 (.cons tok31 (.cons tok33 .nil))))); (try rw [← ho]); cbv)
  refine LoopN.over (o := o) (D := [(4, []), (5, [])]) ho hm hT (by kernel_rfl) (fun i : Nat => [(6, xn i)]) (fun _ => []) (fun _ => []) (fun i => k + 1 ≤ i ∧ i ≤ l.length ∧ ∀ j, k + 1 ≤ j → j < i → (endsB (l.getD j default).kind && decide ((l.getD j default).id = (l.getD k default).id)) = false) (fun i => l.length - i) (k + 1) ⟨by omega, by omega, fun j h1 h2 => by omega⟩ ?_ ?_
  · refine ⟨rfl, by cbv; repeat' (first | trivial | exact EqX.rfl' | exact EqO.rfl' | apply And.intro | ((try clear hR3); (try clear hR2); (try clear hR); (try clear hK); (try simp only [ncCast] at *); (try simp only [castI_eq] at *); refine EqX.i ?_; (try rw [ho]); (try dsimp only [Ar.real, IX.vo, IX.val, BX.val, IX.toN]); (try simp only [castI_eq, ltB_eq, leB_eq, eqIB_eq, inBB_eq, eqNB_eq, leNB_eq, foldPart, foldEv, foldPart_kind, foldPart_role, foldPart_amount, foldEv_kind, foldEv_frame, foldEv_id, foldEv_agent, foldEv_vec, fold_put]); (repeat rw [wrap_i64 (by omega) (by omega)]); omega)), by cbv; repeat' (first | trivial | exact EqO.rfl' | apply And.intro), by cbv; repeat' (first | trivial | exact EqO.rfl' | apply And.intro)⟩
  · rintro i ⟨h1, h2, hno⟩ R hR
    cbv
    repeat' (first | (refine Br.mk (fun hb => ?_) (fun hb => ?_) <;> ((try rw [ho] at hb); (try dsimp only [Ar.real, IX.vo] at hb); (try simp only [castI_eq, ltB_eq, leB_eq, eqIB_eq, inBB_eq, eqNB_eq, leNB_eq, foldPart, foldEv, foldPart_kind, foldPart_role, foldPart_amount, foldEv_kind, foldEv_frame, foldEv_id, foldEv_agent, foldEv_vec, fold_put] at hb); (try simp only [decide_eq_true_eq, Int.ofNat_lt, Int.ofNat_le, decide_eq_false_iff_not, Nat.not_lt, Nat.not_le, Int.not_lt, Int.not_le, beq_iff_eq, beq_eq_false_iff_ne, ne_eq, Bool.not_eq_true, Bool.not_eq_false, Bool.not_eq_true', Bool.not_eq_false'] at hb))) | (refine hK _ _ ?_) | (refine NeedT.mk ?_ ?_))
    all_goals first
      | ((try clear hR3); (try clear hR2); (try clear hR); (try clear hK); (try simp only [ncCast] at *); (try simp only [castI_eq] at *); (try rw [ho]); (try dsimp only [Ar.real, IX.vo, IX.val, BX.val, IX.toN]); (try simp only [castI_eq, ltB_eq, leB_eq, eqIB_eq, inBB_eq, eqNB_eq, leNB_eq, foldPart, foldEv, foldPart_kind, foldPart_role, foldPart_amount, foldEv_kind, foldEv_frame, foldEv_id, foldEv_agent, foldEv_vec, fold_put]); (try simp only [decide_eq_true_eq, Int.ofNat_eq_natCast]); (all_goals (repeat rw [wrap_i64 (by omega) (by omega)])); (all_goals omega))
      | (have hlt : i < l.length := by omega
         have hf : nextEnd l (l.getD k default).id (k + 1) = some i := nextAt_some (by omega) hlt (by ((try clear hR3); (try clear hR2); (try clear hR); (try clear hK); (try simp only [ncCast] at *); (try simp only [castI_eq] at *)); simp only [endsB, foldEv_kind, foldEv_id, Bool.and_eq_true, decide_eq_true_eq] at *; omega) hno
         refine .ii ?_ ?_ <;> (((try clear hR3); (try clear hR2); (try clear hR); (try clear hK); (try simp only [ncCast] at *); (try simp only [castI_eq] at *); (try rw [ho]); (try dsimp only [Ar.real, IX.vo, IX.val, BX.val, IX.toN]); (try simp only [castI_eq, ltB_eq, leB_eq, eqIB_eq, inBB_eq, eqNB_eq, leNB_eq, foldPart, foldEv, foldPart_kind, foldPart_role, foldPart_amount, foldEv_kind, foldEv_frame, foldEv_id, foldEv_agent, foldEv_vec, fold_put])); rw [endR, hf]))
      | (have hlt : i < l.length := by omega
         refine hR _ (i + 1) (by omega) ⟨by omega, by omega, fun j g1 g2 => ?_⟩ ?_
         · rcases Nat.lt_or_ge j i with h3 | h3
           · exact hno j g1 h3
           · obtain rfl : j = i := by omega
             ((try clear hR3); (try clear hR2); (try clear hR); (try clear hK); (try simp only [ncCast] at *); (try simp only [castI_eq] at *))
             simp only [endsB, foldEv_kind, foldEv_id] at *
             clear hno
             first | (simp_all; done) | (simp_all; omega)
         · refine ⟨rfl, by cbv; repeat' (first | trivial | exact EqX.rfl' | exact EqO.rfl' | apply And.intro | ((try clear hR3); (try clear hR2); (try clear hR); (try clear hK); (try simp only [ncCast] at *); (try simp only [castI_eq] at *); refine EqX.i ?_; (try rw [ho]); (try dsimp only [Ar.real, IX.vo, IX.val, BX.val, IX.toN]); (try simp only [castI_eq, ltB_eq, leB_eq, eqIB_eq, inBB_eq, eqNB_eq, leNB_eq, foldPart, foldEv, foldPart_kind, foldPart_role, foldPart_amount, foldEv_kind, foldEv_frame, foldEv_id, foldEv_agent, foldEv_vec, fold_put]); (repeat rw [wrap_i64 (by omega) (by omega)]); omega)), by cbv; repeat' (first | trivial | exact EqO.rfl' | apply And.intro), by cbv; repeat' (first | trivial | exact EqO.rfl' | apply And.intro)⟩)
      | (have hf : nextEnd l (l.getD k default).id (k + 1) = none := nextAt_none (fun j g1 g2 => hno j g1 (by omega))
         refine .ii ?_ ?_ <;> (((try clear hR3); (try clear hR2); (try clear hR); (try clear hK); (try simp only [ncCast] at *); (try simp only [castI_eq] at *); (try rw [ho]); (try dsimp only [Ar.real, IX.vo, IX.val, BX.val, IX.toN]); (try simp only [castI_eq, ltB_eq, leB_eq, eqIB_eq, inBB_eq, eqNB_eq, leNB_eq, foldPart, foldEv, foldPart_kind, foldPart_role, foldPart_amount, foldEv_kind, foldEv_frame, foldEv_id, foldEv_agent, foldEv_vec, fold_put])); rw [endR, hf]))

def stopAt (l : List Ev) (fr id : Int) (i : Nat) : Bool := stopsB (l.getD i default).kind && (decide ((l.getD i default).id = id) && decide ((l.getD i default).frame = fr))
def runsR (l : List Ev) (k : Nat) : Bool := (nextAt (stopAt l (l.getD k default).frame (l.getD k default).id) (k + 1) l.length).isNone
theorem x_Runs (l : List Ev) (hl : EvOk l) (k : Nat) (hk : k < l.length) : XC Try.prog 18 [.ro (SL Ar.real Ev.X l), xn k] [] (xb (runsR l k)) [] := by
  have hlen := hl.len
  (refine XC.of_body ([(4, [])]) Try.func18 rfl Try.ntmps18 mixed (T := [(2, ti2), (3, ti3), (22, ti22), (31, ti31), (33, ti33)]) (.cons tok2 (.cons tok3 (.cons tok22 (.cons tok31 (.cons tok33 .nil))))) (by kernel_rfl) (by simp) rfl rfl rfl rfl rfl ?_; rintro o ho P hP c K hK; have hm : P.follows .mixedOrders = true := hP ▸ mixed; have hT : TOk P [(2, ti2), (3, ti3), (22, ti22), (31, ti31), (33, ti33)] := hP ▸ (.cons tok2 (.cons tok3 (.cons tok22 (.cons tok31 (.cons tok33 .nil))))); (try rw [← ho]); cbv)
  refine LoopN.over (o := o) (D := [(4, [])]) ho hm hT (by kernel_rfl) (fun i : Nat => [(5, xn i)]) (fun _ => []) (fun _ => []) (fun i => k + 1 ≤ i ∧ i ≤ l.length ∧ ∀ j, k + 1 ≤ j → j < i → stopAt l (l.getD k default).frame (l.getD k default).id j = false) (fun i => l.length - i) (k + 1) ⟨by omega, by omega, fun j h1 h2 => by omega⟩ ?_ ?_
  · refine ⟨rfl, by cbv; repeat' (first | trivial | exact EqX.rfl' | exact EqO.rfl' | apply And.intro | ((try clear hR3); (try clear hR2); (try clear hR); (try clear hK); (try simp only [ncCast] at *); (try simp only [castI_eq] at *); refine EqX.i ?_; (try rw [ho]); (try dsimp only [Ar.real, IX.vo, IX.val, BX.val, IX.toN]); (try simp only [castI_eq, ltB_eq, leB_eq, eqIB_eq, inBB_eq, eqNB_eq, leNB_eq, foldPart, foldEv, foldPart_kind, foldPart_role, foldPart_amount, foldEv_kind, foldEv_frame, foldEv_id, foldEv_agent, foldEv_vec, fold_put]); (repeat rw [wrap_i64 (by omega) (by omega)]); omega)), by cbv; repeat' (first | trivial | exact EqO.rfl' | apply And.intro), by cbv; repeat' (first | trivial | exact EqO.rfl' | apply And.intro)⟩
  · rintro i ⟨h1, h2, hno⟩ R hR
    cbv
    repeat' (first | (refine Br.mk (fun hb => ?_) (fun hb => ?_) <;> ((try rw [ho] at hb); (try dsimp only [Ar.real, IX.vo] at hb); (try simp only [castI_eq, ltB_eq, leB_eq, eqIB_eq, inBB_eq, eqNB_eq, leNB_eq, foldPart, foldEv, foldPart_kind, foldPart_role, foldPart_amount, foldEv_kind, foldEv_frame, foldEv_id, foldEv_agent, foldEv_vec, fold_put] at hb); (try simp only [decide_eq_true_eq, Int.ofNat_lt, Int.ofNat_le, decide_eq_false_iff_not, Nat.not_lt, Nat.not_le, Int.not_lt, Int.not_le, beq_iff_eq, beq_eq_false_iff_ne, ne_eq, Bool.not_eq_true, Bool.not_eq_false, Bool.not_eq_true', Bool.not_eq_false'] at hb))) | (refine hK _ _ ?_) | (refine NeedT.mk ?_ ?_))
    all_goals first
      | ((try clear hR3); (try clear hR2); (try clear hR); (try clear hK); (try simp only [ncCast] at *); (try simp only [castI_eq] at *); (try rw [ho]); (try dsimp only [Ar.real, IX.vo, IX.val, BX.val, IX.toN]); (try simp only [castI_eq, ltB_eq, leB_eq, eqIB_eq, inBB_eq, eqNB_eq, leNB_eq, foldPart, foldEv, foldPart_kind, foldPart_role, foldPart_amount, foldEv_kind, foldEv_frame, foldEv_id, foldEv_agent, foldEv_vec, fold_put]); (try simp only [decide_eq_true_eq, Int.ofNat_eq_natCast]); (all_goals (repeat rw [wrap_i64 (by omega) (by omega)])); (all_goals omega))
      | (have hlt : i < l.length := by omega
         have hf := nextAt_some (n := l.length) (by omega) hlt (show stopAt l (l.getD k default).frame (l.getD k default).id i = true by ((try clear hR3); (try clear hR2); (try clear hR); (try clear hK); (try simp only [ncCast] at *); (try simp only [castI_eq] at *)); simp only [stopAt, stopsB, foldEv_kind, foldEv_id, foldEv_frame, Bool.and_eq_true, decide_eq_true_eq] at *; omega) hno
         refine .b ?_
         ((try clear hR3); (try clear hR2); (try clear hR); (try clear hK); (try simp only [ncCast] at *); (try simp only [castI_eq] at *); (try rw [ho]); (try dsimp only [Ar.real, IX.vo, IX.val, BX.val, IX.toN]); (try simp only [castI_eq, ltB_eq, leB_eq, eqIB_eq, inBB_eq, eqNB_eq, leNB_eq, foldPart, foldEv, foldPart_kind, foldPart_role, foldPart_amount, foldEv_kind, foldEv_frame, foldEv_id, foldEv_agent, foldEv_vec, fold_put]))
         rw [runsR, hf]
         rfl)
      | (have hlt : i < l.length := by omega
         refine hR _ (i + 1) (by omega) ⟨by omega, by omega, fun j g1 g2 => ?_⟩ ?_
         · rcases Nat.lt_or_ge j i with h3 | h3
           · exact hno j g1 h3
           · obtain rfl : j = i := by omega
             ((try clear hR3); (try clear hR2); (try clear hR); (try clear hK); (try simp only [ncCast] at *); (try simp only [castI_eq] at *))
             simp only [stopAt, stopsB, foldEv_kind, foldEv_id, foldEv_frame] at *
             clear hno
             first | (simp_all; done) | (simp_all; omega)
         · refine ⟨rfl, by cbv; repeat' (first | trivial | exact EqX.rfl' | exact EqO.rfl' | apply And.intro | ((try clear hR3); (try clear hR2); (try clear hR); (try clear hK); (try simp only [ncCast] at *); (try simp only [castI_eq] at *); refine EqX.i ?_; (try rw [ho]); (try dsimp only [Ar.real, IX.vo, IX.val, BX.val, IX.toN]); (try simp only [castI_eq, ltB_eq, leB_eq, eqIB_eq, inBB_eq, eqNB_eq, leNB_eq, foldPart, foldEv, foldPart_kind, foldPart_role, foldPart_amount, foldEv_kind, foldEv_frame, foldEv_id, foldEv_agent, foldEv_vec, fold_put]); (repeat rw [wrap_i64 (by omega) (by omega)]); omega)), by cbv; repeat' (first | trivial | exact EqO.rfl' | apply And.intro), by cbv; repeat' (first | trivial | exact EqO.rfl' | apply And.intro)⟩)
      | (have hf := nextAt_none (p := stopAt l (l.getD k default).frame (l.getD k default).id) (a := k + 1) (n := l.length) (fun j g1 g2 => hno j g1 (by omega))
         refine .b ?_
         ((try clear hR3); (try clear hR2); (try clear hR); (try clear hK); (try simp only [ncCast] at *); (try simp only [castI_eq] at *); (try rw [ho]); (try dsimp only [Ar.real, IX.vo, IX.val, BX.val, IX.toN]); (try simp only [castI_eq, ltB_eq, leB_eq, eqIB_eq, inBB_eq, eqNB_eq, leNB_eq, foldPart, foldEv, foldPart_kind, foldPart_role, foldPart_amount, foldEv_kind, foldEv_frame, foldEv_id, foldEv_agent, foldEv_vec, fold_put]))
         rw [runsR, hf]
         rfl)

/-! ### Which tasks run -/
def lastR (l : List Ev) (k : Nat) (fr id : Int) : Option Nat := ((List.range k).filter (stopAt l fr id)).getLast?
end Go.Proofs.Ytddgcegimmcbgaa.Sy

/-
  The life of offers: the law LifeLives. Plain theorems.
-/
import Derived.Test.YtddgcegimmcbgaaK15
set_option linter.unusedSectionVars false
namespace Go.Proofs.Ytddgcegimmcbgaa.Sy
open Go Go.Sy Go.Proofs.Ytddgcegimmcbgaa
set_option maxRecDepth 100000
set_option maxHeartbeats 8000000
set_option linter.unusedVariables false
set_option linter.unusedSimpArgs false

theorem drop_cons {α : Type} {d : α} {l r : List α} {a : Nat} {x : α} (h : l.drop a = x :: r) : a < l.length ∧ l.getD a d = x ∧ l.drop (a + 1) = r := by
  have h1 : a < l.length := by
    rcases Nat.lt_or_ge a l.length with h1 | h1
    · exact h1
    · rw [List.drop_of_length_le h1] at h; cases h
  rw [List.drop_eq_getElem_cons h1] at h
  simp only [List.cons.injEq] at h
  exact ⟨h1, by simp [List.getD_eq_getElem?_getD, h1, h.1], h.2⟩
theorem drop_nil {α : Type} {l : List α} {a : Nat} (ha : a ≤ l.length) (h : l.drop a = []) : a = l.length := by
  have := List.drop_eq_nil_iff.1 h
  omega
def opsFrom (l : List Ev) (i : Nat) : List Int := ((offsFrom l i).filter openB).map Off.id
def runFrom (l : List Ev) (i : Nat) : List (Int × Int) := ((List.range' i (l.length - i)).filter (runB l)).map (runAt l)
theorem runFrom_step {l : List Ev} {k : Nat} (h : k < l.length) : runFrom l k = (if runB l k = true then [runAt l k] else []) ++ runFrom l (k + 1) := by
  unfold runFrom
  have e : l.length - k = (l.length - (k + 1)) + 1 := by omega
  rw [e, List.range'_succ, List.filter_cons]
  split <;> simp
theorem runFrom_zero (l : List Ev) : runFrom l 0 = runningTo l l.length := by
  unfold runFrom runningTo
  rw [List.range_eq_range', Nat.sub_zero]
structure St7 where
  i : Nat
  a : Nat
  b : Nat
  c : Nat
structure In7 (l : List Ev) (w : List Off) (u : List Int) (v : List (Int × Int)) (s : St7) : Prop where
  i : s.i ≤ l.length
  a : s.a ≤ w.length
  b : s.b ≤ u.length
  c : s.c ≤ v.length
  da : w.drop s.a = offsFrom l s.i
  db : u.drop s.b = opsFrom l s.i
  dc : v.drop s.c = runFrom l s.i
theorem x_LifeLives (l : List Ev) (hl : EvOk l) : XC Try.prog 4 [.ro (SL Ar.real Ev.X l)] [] (xb true) [] := by
  have hlen := hl.len
  have hw0 := offs_len l
  have hv0 := runningTo_len l l.length
  have hu0 : (openR l).length ≤ (offs l).length := by
    unfold openR
    rw [List.length_map]
    exact List.length_filter_le _ _
  have hu1 : openR l = opsFrom l 0 := rfl
  have hw1 : offs l = offsFrom l 0 := rfl
  have hv1 := (runFrom_zero l).symm
  (refine XC.of_body ([(10, []), (13, []), (18, [])]) Try.func4 rfl Try.ntmps4 mixed (T := [(2, ti2), (3, ti3), (4, ti4), (22, ti22), (27, ti27), (30, ti30), (31, ti31), (33, ti33), (34, ti34), (36, ti36), (41, ti41)]) (.cons tok2 (.cons tok3 (.cons tok4 (.cons tok22 (.cons tok27 (.cons tok30 (.cons tok31 (.cons tok33 (.cons tok34 (.cons tok36 (.cons tok41 .nil))))))))))) (by kernel_rfl) (by simp) rfl rfl rfl rfl rfl ?_; rintro o ho P hP c K hK; have hm : P.follows .mixedOrders = true := hP ▸ mixed; have hT : TOk P [(2, ti2), (3, ti3), (4, ti4), (22, ti22), (27, ti27), (30, ti30), (31, ti31), (33, ti33), (34, ti34), (36, ti36), (41, ti41)] := hP ▸ (.cons tok2 (.cons tok3 (.cons tok4 (.cons tok22 (.cons tok27 (.cons tok30 (.cons tok31 (.cons tok33 (.cons tok34 (.cons tok36 (.cons tok41 .nil))))))))))); (try rw [← ho]); cbv)
  repeat' (first | (refine Br.mk (fun hb => ?_) (fun hb => ?_) <;> ((try rw [ho] at hb); (try dsimp only [Ar.real, IX.vo] at hb); (try simp only [castI_eq, ltB_eq, leB_eq, eqIB_eq, inBB_eq, eqNB_eq, leNB_eq, foldOff, foldOff_id, foldOff_frame, foldOff_agent, foldOff_at_, foldOff_end_, foldOff_how, foldPart, foldEv, foldPart_kind, foldPart_role, foldPart_amount, foldEv_kind, foldEv_frame, foldEv_id, foldEv_agent, foldEv_vec, fold_put] at hb); (try simp only [decide_eq_true_eq, Int.ofNat_lt, Int.ofNat_le, decide_eq_false_iff_not, Nat.not_lt, Nat.not_le, Int.not_lt, Int.not_le, beq_iff_eq, beq_eq_false_iff_ne, ne_eq, Bool.not_eq_true, Bool.not_eq_false, Bool.not_eq_true', Bool.not_eq_false'] at hb))) | (refine CallN.pure hP (x_Few _ ‹_›) fn12 (by first | rfl | (rw [ho]; done) | (rw [ho]; rfl)) (by rfl) (by first | rfl | (rw [ho]; done) | (rw [ho]; rfl)) ?_; (try rw [← ho]); generalize hr : few _ = r; (try rw [ho] at hr); (try dsimp only [Ar.real, IX.vo] at hr); (try simp only [castI_eq, ltB_eq, leB_eq, eqIB_eq, inBB_eq, eqNB_eq, leNB_eq, foldOff, foldOff_id, foldOff_frame, foldOff_agent, foldOff_at_, foldOff_end_, foldOff_how, foldPart, foldEv, foldPart_kind, foldPart_role, foldPart_amount, foldEv_kind, foldEv_frame, foldEv_id, foldEv_agent, foldEv_vec, fold_put] at hr); cbv) | (refine CallN.pure hP (x_works) fn13 (by first | rfl | (rw [ho]; done) | (rw [ho]; rfl)) (by rfl) (by first | rfl | (rw [ho]; done) | (rw [ho]; rfl)) ?_; (try rw [← ho]); cbv) | (refine CallN.pure hP (x_Of _ ‹_›) fn14 (by first | rfl | (rw [ho]; done) | (rw [ho]; rfl)) (by rfl) (by first | rfl | (rw [ho]; done) | (rw [ho]; rfl)) ?_; (try rw [← ho]); generalize hr : offs _ = r; (try rw [ho] at hr); (try dsimp only [Ar.real, IX.vo] at hr); (try simp only [castI_eq, ltB_eq, leB_eq, eqIB_eq, inBB_eq, eqNB_eq, leNB_eq, foldOff, foldOff_id, foldOff_frame, foldOff_agent, foldOff_at_, foldOff_end_, foldOff_how, foldPart, foldEv, foldPart_kind, foldPart_role, foldPart_amount, foldEv_kind, foldEv_frame, foldEv_id, foldEv_agent, foldEv_vec, fold_put] at hr); cbv) | (refine CallN.pure hP (x_Open _ ‹_›) fn15 (by first | rfl | (rw [ho]; done) | (rw [ho]; rfl)) (by rfl) (by first | rfl | (rw [ho]; done) | (rw [ho]; rfl)) ?_; (try rw [← ho]); generalize hr : openR _ = r; (try rw [ho] at hr); (try dsimp only [Ar.real, IX.vo] at hr); (try simp only [castI_eq, ltB_eq, leB_eq, eqIB_eq, inBB_eq, eqNB_eq, leNB_eq, foldOff, foldOff_id, foldOff_frame, foldOff_agent, foldOff_at_, foldOff_end_, foldOff_how, foldPart, foldEv, foldPart_kind, foldPart_role, foldPart_amount, foldEv_kind, foldEv_frame, foldEv_id, foldEv_agent, foldEv_vec, fold_put] at hr); cbv) | (refine CallN.pure hP (x_Running _ ‹_›) fn16 (by first | rfl | (rw [ho]; done) | (rw [ho]; rfl)) (by rfl) (by first | rfl | (rw [ho]; done) | (rw [ho]; rfl)) ?_; (try rw [← ho]); generalize hr : runningTo _ _ = r; (try rw [ho] at hr); (try dsimp only [Ar.real, IX.vo] at hr); (try simp only [castI_eq, ltB_eq, leB_eq, eqIB_eq, inBB_eq, eqNB_eq, leNB_eq, foldOff, foldOff_id, foldOff_frame, foldOff_agent, foldOff_at_, foldOff_end_, foldOff_how, foldPart, foldEv, foldPart_kind, foldPart_role, foldPart_amount, foldEv_kind, foldEv_frame, foldEv_id, foldEv_agent, foldEv_vec, fold_put] at hr); cbv) | (refine CallN.pure hP (x_End _ ‹_› _ ‹_›) fn17 (by first | rfl | (rw [ho]; done) | (rw [ho]; rfl)) (by rfl) (by first | rfl | (rw [ho]; done) | (rw [ho]; rfl)) ?_; (try rw [← ho]); generalize hr : endR _ _ = r; (try rw [ho] at hr); (try dsimp only [Ar.real, IX.vo] at hr); (try simp only [castI_eq, ltB_eq, leB_eq, eqIB_eq, inBB_eq, eqNB_eq, leNB_eq, foldOff, foldOff_id, foldOff_frame, foldOff_agent, foldOff_at_, foldOff_end_, foldOff_how, foldPart, foldEv, foldPart_kind, foldPart_role, foldPart_amount, foldEv_kind, foldEv_frame, foldEv_id, foldEv_agent, foldEv_vec, fold_put] at hr); cbv) | (refine CallN.pure hP (x_Runs _ ‹_› _ ‹_›) fn18 (by first | rfl | (rw [ho]; done) | (rw [ho]; rfl)) (by rfl) (by first | rfl | (rw [ho]; done) | (rw [ho]; rfl)) ?_; (try rw [← ho]); generalize hr : runsR _ _ = r; (try rw [ho] at hr); (try dsimp only [Ar.real, IX.vo] at hr); (try simp only [castI_eq, ltB_eq, leB_eq, eqIB_eq, inBB_eq, eqNB_eq, leNB_eq, foldOff, foldOff_id, foldOff_frame, foldOff_agent, foldOff_at_, foldOff_end_, foldOff_how, foldPart, foldEv, foldPart_kind, foldPart_role, foldPart_amount, foldEv_kind, foldEv_frame, foldEv_id, foldEv_agent, foldEv_vec, fold_put] at hr); cbv) | (refine hK _ _ ?_) | (refine NeedT.mk ?_ ?_))
  · exact .b rfl
  rename List (Int × Int) => v
  rename List Int => u
  rename List Off => w
  have e1 : offs l = w := ‹_›
  have e2 : openR l = u := ‹_›
  have e3 : runningTo l l.length = v := ‹_›
  rw [e1] at hw0 hu0 hw1
  rw [e2] at hu0 hu1
  rw [e3] at hv0 hv1
  clear e1 e2 e3
  refine LoopN.over (o := o) (D := [(10, []), (13, []), (18, [])]) ho hm hT (by kernel_rfl) (fun s : St7 => [(9, xn s.i), (6, xn s.a), (7, xn s.b), (8, xn s.c)]) (fun _ => []) (fun _ => []) (In7 l w u v) (fun s => l.length - s.i) ⟨0, 0, 0, 0⟩ ⟨Nat.zero_le _, Nat.zero_le _, Nat.zero_le _, Nat.zero_le _, hw1, hu1, hv1⟩ ?_ ?_
  · refine ⟨rfl, by cbv; repeat' (first | trivial | exact EqX.rfl' | exact EqO.rfl' | apply And.intro | ((try clear hR3); (try clear hR2); (try clear hR); (try clear hK); (try simp only [ncCast] at *); (try simp only [castI_eq] at *); refine EqX.i ?_; (try rw [ho]); (try dsimp only [Ar.real, IX.vo, IX.val, BX.val, IX.toN]); (try simp only [castI_eq, ltB_eq, leB_eq, eqIB_eq, inBB_eq, eqNB_eq, leNB_eq, foldOff, foldOff_id, foldOff_frame, foldOff_agent, foldOff_at_, foldOff_end_, foldOff_how, foldPart, foldEv, foldPart_kind, foldPart_role, foldPart_amount, foldEv_kind, foldEv_frame, foldEv_id, foldEv_agent, foldEv_vec, fold_put]); (repeat rw [wrap_i64 (by omega) (by omega)]); omega)), by cbv; repeat' (first | trivial | exact EqO.rfl' | apply And.intro), by cbv; repeat' (first | trivial | exact EqO.rfl' | apply And.intro)⟩
  · rintro ⟨i, a, b, cc⟩ ⟨hi, ha, hb0, hc0, da, db, dc⟩ R hR
    dsimp only at hi ha hb0 hc0 da db dc
    have h6 : i < l.length → offB l i = true → a < w.length ∧ w.getD a default = offAt l i ∧ w.drop (a + 1) = offsFrom l (i + 1) := fun h h' => by
      rw [offsFrom_step h, if_pos h'] at da
      exact drop_cons da
    have h6' : i < l.length → offB l i = false → w.drop a = offsFrom l (i + 1) := fun h h' => by
      rw [offsFrom_step h, if_neg (by rw [h']; decide), List.nil_append] at da
      exact da
    have h7 : i < l.length → offB l i = true → openB (offAt l i) = true → b < u.length ∧ u.getD b default = (offAt l i).id ∧ u.drop (b + 1) = opsFrom l (i + 1) := fun h h' h2 => by
      unfold opsFrom at db
      rw [offsFrom_step h, if_pos h'] at db
      simp only [List.singleton_append, List.filter_cons, h2, if_true, List.map_cons] at db
      exact drop_cons db
    have h7' : i < l.length → (offB l i = false ∨ openB (offAt l i) = false) → u.drop b = opsFrom l (i + 1) := fun h h' => by
      unfold opsFrom at db
      rw [offsFrom_step h] at db
      rcases h' with h' | h'
      · rw [if_neg (by rw [h']; decide), List.nil_append] at db
        exact db
      · rw [List.filter_append, List.map_append] at db
        have : ((if offB l i = true then [offAt l i] else []).filter openB) = [] := by
          split
          · simp [h']
          · rfl
        rw [this] at db
        exact db
    have h8 : i < l.length → runB l i = true → cc < v.length ∧ v.getD cc default = runAt l i ∧ v.drop (cc + 1) = runFrom l (i + 1) := fun h h' => by
      rw [runFrom_step h, if_pos h'] at dc
      exact drop_cons dc
    have h8' : i < l.length → runB l i = false → v.drop cc = runFrom l (i + 1) := fun h h' => by
      rw [runFrom_step h, if_neg (by rw [h']; decide), List.nil_append] at dc
      exact dc
    have hz : l.length ≤ i → a = w.length ∧ b = u.length ∧ cc = v.length := fun h => by
      have e : l.length - i = 0 := by omega
      refine ⟨drop_nil ha (by rw [da]; simp [offsFrom, e]), drop_nil hb0 (by rw [db]; simp [opsFrom, offsFrom, e]), drop_nil hc0 (by rw [dc]; simp [runFrom, e])⟩
    cbv
    repeat' (first | (refine Br.mk (fun hb => ?_) (fun hb => ?_) <;> ((try rw [ho] at hb); (try dsimp only [Ar.real, IX.vo] at hb); (try simp only [castI_eq, ltB_eq, leB_eq, eqIB_eq, inBB_eq, eqNB_eq, leNB_eq, foldOff, foldOff_id, foldOff_frame, foldOff_agent, foldOff_at_, foldOff_end_, foldOff_how, foldPart, foldEv, foldPart_kind, foldPart_role, foldPart_amount, foldEv_kind, foldEv_frame, foldEv_id, foldEv_agent, foldEv_vec, fold_put] at hb); (try simp only [decide_eq_true_eq, Int.ofNat_lt, Int.ofNat_le, decide_eq_false_iff_not, Nat.not_lt, Nat.not_le, Int.not_lt, Int.not_le, beq_iff_eq, beq_eq_false_iff_ne, ne_eq, Bool.not_eq_true, Bool.not_eq_false, Bool.not_eq_true', Bool.not_eq_false'] at hb))) | (refine CallN.pure hP (x_Few _ ‹_›) fn12 (by first | rfl | (rw [ho]; done) | (rw [ho]; rfl)) (by rfl) (by first | rfl | (rw [ho]; done) | (rw [ho]; rfl)) ?_; (try rw [← ho]); generalize hr : few _ = r; (try rw [ho] at hr); (try dsimp only [Ar.real, IX.vo] at hr); (try simp only [castI_eq, ltB_eq, leB_eq, eqIB_eq, inBB_eq, eqNB_eq, leNB_eq, foldOff, foldOff_id, foldOff_frame, foldOff_agent, foldOff_at_, foldOff_end_, foldOff_how, foldPart, foldEv, foldPart_kind, foldPart_role, foldPart_amount, foldEv_kind, foldEv_frame, foldEv_id, foldEv_agent, foldEv_vec, fold_put] at hr); cbv) | (refine CallN.pure hP (x_works) fn13 (by first | rfl | (rw [ho]; done) | (rw [ho]; rfl)) (by rfl) (by first | rfl | (rw [ho]; done) | (rw [ho]; rfl)) ?_; (try rw [← ho]); cbv) | (refine CallN.pure hP (x_Of _ ‹_›) fn14 (by first | rfl | (rw [ho]; done) | (rw [ho]; rfl)) (by rfl) (by first | rfl | (rw [ho]; done) | (rw [ho]; rfl)) ?_; (try rw [← ho]); generalize hr : offs _ = r; (try rw [ho] at hr); (try dsimp only [Ar.real, IX.vo] at hr); (try simp only [castI_eq, ltB_eq, leB_eq, eqIB_eq, inBB_eq, eqNB_eq, leNB_eq, foldOff, foldOff_id, foldOff_frame, foldOff_agent, foldOff_at_, foldOff_end_, foldOff_how, foldPart, foldEv, foldPart_kind, foldPart_role, foldPart_amount, foldEv_kind, foldEv_frame, foldEv_id, foldEv_agent, foldEv_vec, fold_put] at hr); cbv) | (refine CallN.pure hP (x_Open _ ‹_›) fn15 (by first | rfl | (rw [ho]; done) | (rw [ho]; rfl)) (by rfl) (by first | rfl | (rw [ho]; done) | (rw [ho]; rfl)) ?_; (try rw [← ho]); generalize hr : openR _ = r; (try rw [ho] at hr); (try dsimp only [Ar.real, IX.vo] at hr); (try simp only [castI_eq, ltB_eq, leB_eq, eqIB_eq, inBB_eq, eqNB_eq, leNB_eq, foldOff, foldOff_id, foldOff_frame, foldOff_agent, foldOff_at_, foldOff_end_, foldOff_how, foldPart, foldEv, foldPart_kind, foldPart_role, foldPart_amount, foldEv_kind, foldEv_frame, foldEv_id, foldEv_agent, foldEv_vec, fold_put] at hr); cbv) | (refine CallN.pure hP (x_Running _ ‹_›) fn16 (by first | rfl | (rw [ho]; done) | (rw [ho]; rfl)) (by rfl) (by first | rfl | (rw [ho]; done) | (rw [ho]; rfl)) ?_; (try rw [← ho]); generalize hr : runningTo _ _ = r; (try rw [ho] at hr); (try dsimp only [Ar.real, IX.vo] at hr); (try simp only [castI_eq, ltB_eq, leB_eq, eqIB_eq, inBB_eq, eqNB_eq, leNB_eq, foldOff, foldOff_id, foldOff_frame, foldOff_agent, foldOff_at_, foldOff_end_, foldOff_how, foldPart, foldEv, foldPart_kind, foldPart_role, foldPart_amount, foldEv_kind, foldEv_frame, foldEv_id, foldEv_agent, foldEv_vec, fold_put] at hr); cbv) | (refine CallN.pure hP (x_End _ ‹_› _ ‹_›) fn17 (by first | rfl | (rw [ho]; done) | (rw [ho]; rfl)) (by rfl) (by first | rfl | (rw [ho]; done) | (rw [ho]; rfl)) ?_; (try rw [← ho]); generalize hr : endR _ _ = r; (try rw [ho] at hr); (try dsimp only [Ar.real, IX.vo] at hr); (try simp only [castI_eq, ltB_eq, leB_eq, eqIB_eq, inBB_eq, eqNB_eq, leNB_eq, foldOff, foldOff_id, foldOff_frame, foldOff_agent, foldOff_at_, foldOff_end_, foldOff_how, foldPart, foldEv, foldPart_kind, foldPart_role, foldPart_amount, foldEv_kind, foldEv_frame, foldEv_id, foldEv_agent, foldEv_vec, fold_put] at hr); cbv) | (refine CallN.pure hP (x_Runs _ ‹_› _ ‹_›) fn18 (by first | rfl | (rw [ho]; done) | (rw [ho]; rfl)) (by rfl) (by first | rfl | (rw [ho]; done) | (rw [ho]; rfl)) ?_; (try rw [← ho]); generalize hr : runsR _ _ = r; (try rw [ho] at hr); (try dsimp only [Ar.real, IX.vo] at hr); (try simp only [castI_eq, ltB_eq, leB_eq, eqIB_eq, inBB_eq, eqNB_eq, leNB_eq, foldOff, foldOff_id, foldOff_frame, foldOff_agent, foldOff_at_, foldOff_end_, foldOff_how, foldPart, foldEv, foldPart_kind, foldPart_role, foldPart_amount, foldEv_kind, foldEv_frame, foldEv_id, foldEv_agent, foldEv_vec, fold_put] at hr); cbv) | (refine hK _ _ ?_) | (refine NeedT.mk ?_ ?_))
    any_goals (((try clear hR3); (try clear hR2); (try clear hR); (try clear hK); (try simp only [ncCast] at *); (try simp only [castI_eq] at *); (try rw [ho]); (try dsimp only [Ar.real, IX.vo, IX.val, BX.val, IX.toN]); (try simp only [castI_eq, ltB_eq, leB_eq, eqIB_eq, inBB_eq, eqNB_eq, leNB_eq, foldOff, foldOff_id, foldOff_frame, foldOff_agent, foldOff_at_, foldOff_end_, foldOff_how, foldPart, foldEv, foldPart_kind, foldPart_role, foldPart_amount, foldEv_kind, foldEv_frame, foldEv_id, foldEv_agent, foldEv_vec, fold_put]); (try simp only [decide_eq_true_eq, Int.ofNat_eq_natCast]); (all_goals (repeat rw [wrap_i64 (by omega) (by omega)])); (all_goals omega)); done)
    · exfalso
      have hlt : i < l.length := by assumption
      have hoff : offB l i = true := decide_eq_true ‹_ = (6 : Int)›
      obtain ⟨p1, p2, p3⟩ := h6 hlt hoff
      omega
    · exfalso
      have hlt : i < l.length := by assumption
      have hoff : offB l i = true := decide_eq_true ‹_ = (6 : Int)›
      obtain ⟨p1, p2, p3⟩ := h6 hlt hoff
      ((try clear hR3); (try clear hR2); (try clear hR); (try clear hK); (try simp only [ncCast] at *); (try simp only [castI_eq] at *))
      rw [p2] at hb
      simp [offAt, hr] at hb
    · exfalso
      have hlt : i < l.length := by assumption
      have hoff : offB l i = true := decide_eq_true ‹_ = (6 : Int)›
      obtain ⟨p1, p2, p3⟩ := h6 hlt hoff
      have hop : openB (offAt l i) = true := by
        simp only [openB, offAt, hr]
        exact decide_eq_true (by assumption)
      obtain ⟨q1, q2, q3⟩ := h7 hlt hoff hop
      omega
    · exfalso
      have hlt : i < l.length := by assumption
      have hoff : offB l i = true := decide_eq_true ‹_ = (6 : Int)›
      obtain ⟨p1, p2, p3⟩ := h6 hlt hoff
      have hop : openB (offAt l i) = true := by
        simp only [openB, offAt, hr]
        exact decide_eq_true (by assumption)
      obtain ⟨q1, q2, q3⟩ := h7 hlt hoff hop
      ((try clear hR3); (try clear hR2); (try clear hR); (try clear hK); (try simp only [ncCast] at *); (try simp only [castI_eq] at *))
      apply hb
      exact q2
    · have hlt : i < l.length := by assumption
      have hoff : offB l i = true := decide_eq_true ‹_ = (6 : Int)›
      obtain ⟨p1, p2, p3⟩ := h6 hlt hoff
      have hop : openB (offAt l i) = true := by
        simp only [openB, offAt, hr]
        exact decide_eq_true (by assumption)
      obtain ⟨q1, q2, q3⟩ := h7 hlt hoff hop
      have hrun : runB l i = false := by
        unfold runB
        rw [show (l.getD i default).kind = 6 by assumption]
        rfl
      refine hR _ ⟨i + 1, a + 1, b + 1, cc⟩ (by dsimp only; omega) ⟨by dsimp only; omega, by dsimp only; omega, by dsimp only; omega, hc0, p3, q3, h8' hlt hrun⟩ ?_
      refine ⟨rfl, by cbv; repeat' (first | trivial | exact EqX.rfl' | exact EqO.rfl' | apply And.intro | ((try clear hR3); (try clear hR2); (try clear hR); (try clear hK); (try simp only [ncCast] at *); (try simp only [castI_eq] at *); refine EqX.i ?_; (try rw [ho]); (try dsimp only [Ar.real, IX.vo, IX.val, BX.val, IX.toN]); (try simp only [castI_eq, ltB_eq, leB_eq, eqIB_eq, inBB_eq, eqNB_eq, leNB_eq, foldOff, foldOff_id, foldOff_frame, foldOff_agent, foldOff_at_, foldOff_end_, foldOff_how, foldPart, foldEv, foldPart_kind, foldPart_role, foldPart_amount, foldEv_kind, foldEv_frame, foldEv_id, foldEv_agent, foldEv_vec, fold_put]); (repeat rw [wrap_i64 (by omega) (by omega)]); omega)), by cbv; repeat' (first | trivial | exact EqO.rfl' | apply And.intro), by cbv; repeat' (first | trivial | exact EqO.rfl' | apply And.intro)⟩
    · have hlt : i < l.length := by assumption
      have hoff : offB l i = true := decide_eq_true ‹_ = (6 : Int)›
      obtain ⟨p1, p2, p3⟩ := h6 hlt hoff
      have hrun : runB l i = false := by
        unfold runB
        rw [show (l.getD i default).kind = 6 by assumption]
        rfl
      have hop : openB (offAt l i) = false := by
        simp only [openB, offAt, hr]
        exact decide_eq_false (Int.not_lt.2 (by assumption))
      refine hR _ ⟨i + 1, a + 1, b, cc⟩ (by dsimp only; omega) ⟨by dsimp only; omega, by dsimp only; omega, hb0, hc0, p3, h7' hlt (.inr hop), h8' hlt hrun⟩ ?_
      refine ⟨rfl, by cbv; repeat' (first | trivial | exact EqX.rfl' | exact EqO.rfl' | apply And.intro | ((try clear hR3); (try clear hR2); (try clear hR); (try clear hK); (try simp only [ncCast] at *); (try simp only [castI_eq] at *); refine EqX.i ?_; (try rw [ho]); (try dsimp only [Ar.real, IX.vo, IX.val, BX.val, IX.toN]); (try simp only [castI_eq, ltB_eq, leB_eq, eqIB_eq, inBB_eq, eqNB_eq, leNB_eq, foldOff, foldOff_id, foldOff_frame, foldOff_agent, foldOff_at_, foldOff_end_, foldOff_how, foldPart, foldEv, foldPart_kind, foldPart_role, foldPart_amount, foldEv_kind, foldEv_frame, foldEv_id, foldEv_agent, foldEv_vec, fold_put]); (repeat rw [wrap_i64 (by omega) (by omega)]); omega)), by cbv; repeat' (first | trivial | exact EqO.rfl' | apply And.intro), by cbv; repeat' (first | trivial | exact EqO.rfl' | apply And.intro)⟩
    · exfalso
      have hlt : i < l.length := by assumption
      have hoff : offB l i = false := decide_eq_false ‹¬ _ = (6 : Int)›
      have hrun : runB l i = true := by
        unfold runB
        rw [hr, show (l.getD i default).kind = 13 by assumption]
        simpa using ‹r = true›
      obtain ⟨p1, p2, p3⟩ := h8 hlt hrun
      omega
    · exfalso
      have hlt : i < l.length := by assumption
      have hoff : offB l i = false := decide_eq_false ‹¬ _ = (6 : Int)›
      have hrun : runB l i = true := by
        unfold runB
        rw [hr, show (l.getD i default).kind = 13 by assumption]
        simpa using ‹r = true›
      obtain ⟨p1, p2, p3⟩ := h8 hlt hrun
      ((try clear hR3); (try clear hR2); (try clear hR); (try clear hK); (try simp only [ncCast] at *); (try simp only [castI_eq] at *))
      have hb2 : (decide ((v.getD cc default).1 = (l.getD i default).frame) && decide ((v.getD cc default).2 = (l.getD i default).id)) = false := hb
      rw [p2] at hb2
      simp [runAt] at hb2
    · have hlt : i < l.length := by assumption
      have hoff : offB l i = false := decide_eq_false ‹¬ _ = (6 : Int)›
      have hrun : runB l i = true := by
        unfold runB
        rw [hr, show (l.getD i default).kind = 13 by assumption]
        simpa using ‹r = true›
      obtain ⟨p1, p2, p3⟩ := h8 hlt hrun
      refine hR _ ⟨i + 1, a, b, cc + 1⟩ (by dsimp only; omega) ⟨by dsimp only; omega, ha, hb0, by dsimp only; omega, h6' hlt hoff, h7' hlt (.inl hoff), p3⟩ ?_
      refine ⟨rfl, by cbv; repeat' (first | trivial | exact EqX.rfl' | exact EqO.rfl' | apply And.intro | ((try clear hR3); (try clear hR2); (try clear hR); (try clear hK); (try simp only [ncCast] at *); (try simp only [castI_eq] at *); refine EqX.i ?_; (try rw [ho]); (try dsimp only [Ar.real, IX.vo, IX.val, BX.val, IX.toN]); (try simp only [castI_eq, ltB_eq, leB_eq, eqIB_eq, inBB_eq, eqNB_eq, leNB_eq, foldOff, foldOff_id, foldOff_frame, foldOff_agent, foldOff_at_, foldOff_end_, foldOff_how, foldPart, foldEv, foldPart_kind, foldPart_role, foldPart_amount, foldEv_kind, foldEv_frame, foldEv_id, foldEv_agent, foldEv_vec, fold_put]); (repeat rw [wrap_i64 (by omega) (by omega)]); omega)), by cbv; repeat' (first | trivial | exact EqO.rfl' | apply And.intro), by cbv; repeat' (first | trivial | exact EqO.rfl' | apply And.intro)⟩
    · have hlt : i < l.length := by assumption
      have hoff : offB l i = false := decide_eq_false ‹¬ _ = (6 : Int)›
      have hrun : runB l i = false := by
        unfold runB
        rw [hr, ‹r = false›, Bool.and_false]
      refine hR _ ⟨i + 1, a, b, cc⟩ (by dsimp only; omega) ⟨by dsimp only; omega, ha, hb0, hc0, h6' hlt hoff, h7' hlt (.inl hoff), h8' hlt hrun⟩ ?_
      refine ⟨rfl, by cbv; repeat' (first | trivial | exact EqX.rfl' | exact EqO.rfl' | apply And.intro | ((try clear hR3); (try clear hR2); (try clear hR); (try clear hK); (try simp only [ncCast] at *); (try simp only [castI_eq] at *); refine EqX.i ?_; (try rw [ho]); (try dsimp only [Ar.real, IX.vo, IX.val, BX.val, IX.toN]); (try simp only [castI_eq, ltB_eq, leB_eq, eqIB_eq, inBB_eq, eqNB_eq, leNB_eq, foldOff, foldOff_id, foldOff_frame, foldOff_agent, foldOff_at_, foldOff_end_, foldOff_how, foldPart, foldEv, foldPart_kind, foldPart_role, foldPart_amount, foldEv_kind, foldEv_frame, foldEv_id, foldEv_agent, foldEv_vec, fold_put]); (repeat rw [wrap_i64 (by omega) (by omega)]); omega)), by cbv; repeat' (first | trivial | exact EqO.rfl' | apply And.intro), by cbv; repeat' (first | trivial | exact EqO.rfl' | apply And.intro)⟩
    · have hlt : i < l.length := by assumption
      have hoff : offB l i = false := decide_eq_false ‹¬ _ = (6 : Int)›
      have hrun : runB l i = false := by
        unfold runB
        rw [decide_eq_false ‹¬ _ = (13 : Int)›, Bool.false_and]
      refine hR _ ⟨i + 1, a, b, cc⟩ (by dsimp only; omega) ⟨by dsimp only; omega, ha, hb0, hc0, h6' hlt hoff, h7' hlt (.inl hoff), h8' hlt hrun⟩ ?_
      refine ⟨rfl, by cbv; repeat' (first | trivial | exact EqX.rfl' | exact EqO.rfl' | apply And.intro | ((try clear hR3); (try clear hR2); (try clear hR); (try clear hK); (try simp only [ncCast] at *); (try simp only [castI_eq] at *); refine EqX.i ?_; (try rw [ho]); (try dsimp only [Ar.real, IX.vo, IX.val, BX.val, IX.toN]); (try simp only [castI_eq, ltB_eq, leB_eq, eqIB_eq, inBB_eq, eqNB_eq, leNB_eq, foldOff, foldOff_id, foldOff_frame, foldOff_agent, foldOff_at_, foldOff_end_, foldOff_how, foldPart, foldEv, foldPart_kind, foldPart_role, foldPart_amount, foldEv_kind, foldEv_frame, foldEv_id, foldEv_agent, foldEv_vec, fold_put]); (repeat rw [wrap_i64 (by omega) (by omega)]); omega)), by cbv; repeat' (first | trivial | exact EqO.rfl' | apply And.intro), by cbv; repeat' (first | trivial | exact EqO.rfl' | apply And.intro)⟩
    · exact .b rfl
end Go.Proofs.Ytddgcegimmcbgaa.Sy

/-
  The life of offers: running tasks: contract. Plain theorems.
-/
import Derived.Test.YtddgcegimmcbgaaK2
set_option linter.unusedSectionVars false
namespace Go.Proofs.Ytddgcegimmcbgaa.Sy
open Go Go.Sy Go.Proofs.Ytddgcegimmcbgaa
set_option maxRecDepth 100000
set_option maxHeartbeats 4000000
set_option linter.unusedVariables false
set_option linter.unusedSimpArgs false

theorem lastR_succ (l : List Ev) (k : Nat) (fr id : Int) : lastR l (k + 1) fr id = if stopAt l fr id k = true then some k else lastR l k fr id := by
  unfold lastR
  rw [List.range_succ, List.filter_append]
  by_cases h : stopAt l fr id k = true
  · simp [h]
  · simp [h]
def runB (l : List Ev) (i : Nat) : Bool := decide ((l.getD i default).kind = 13) && runsR l i
def runAt (l : List Ev) (i : Nat) : Int × Int := ((l.getD i default).frame, (l.getD i default).id)
def runningTo (l : List Ev) (k : Nat) : List (Int × Int) := ((List.range k).filter (runB l)).map (runAt l)
theorem runningTo_succ (l : List Ev) (k : Nat) : runningTo l (k + 1) = runningTo l k ++ if runB l k = true then [runAt l k] else [] := by
  unfold runningTo
  rw [List.range_succ, List.filter_append, List.map_append]
  by_cases h : runB l k = true <;> simp [h]
theorem runningTo_len (l : List Ev) (k : Nat) : (runningTo l k).length ≤ k := by
  unfold runningTo
  rw [List.length_map]
  exact Nat.le_trans (List.length_filter_le _ _) (by simp)
theorem lastR_none {l : List Ev} {fr id : Int} : ∀ {k : Nat}, lastR l k fr id = none → ∀ j, j < k → stopAt l fr id j = false
  | 0, _, j, hj => by omega
  | k + 1, h, j, hj => by
    rw [lastR_succ] at h
    split at h
    · cases h
    · rename_i hs
      rcases Nat.lt_or_ge j k with h2 | h2
      · exact lastR_none h j h2
      · obtain rfl : j = k := by omega
        simpa using hs
theorem lastR_some {l : List Ev} {fr id : Int} {a : Nat} : ∀ {k : Nat}, lastR l k fr id = some a → a < k ∧ stopAt l fr id a = true ∧ ∀ j, a < j → j < k → stopAt l fr id j = false
  | 0, h => by simp [lastR] at h
  | k + 1, h => by
    rw [lastR_succ] at h
    split at h
    · rename_i hs
      cases h
      exact ⟨by omega, hs, fun j h1 h2 => by omega⟩
    · rename_i hs
      obtain ⟨h1, h2, h3⟩ := lastR_some h
      refine ⟨by omega, h2, fun j g1 g2 => ?_⟩
      rcases Nat.lt_or_ge j k with h4 | h4
      · exact h3 j g1 h4
      · obtain rfl : j = k := by omega
        simpa using hs
theorem runsR_last {l : List Ev} {i : Nat} (hi : i < l.length) (hk : (l.getD i default).kind = 13) : runsR l i = match lastR l l.length (l.getD i default).frame (l.getD i default).id with | none => true | some j => decide (j < i) := by
  have hi0 : stopAt l (l.getD i default).frame (l.getD i default).id i = false := by
    unfold stopAt
    rw [hk]
    simp [stopsB]
  cases h : lastR l l.length (l.getD i default).frame (l.getD i default).id with
  | none => rw [runsR, nextAt_none (fun j g1 g2 => lastR_none h j g2)]; rfl
  | some a =>
    obtain ⟨h1, h2, h3⟩ := lastR_some h
    by_cases hc : a < i
    · rw [runsR, nextAt_none (fun j g1 g2 => h3 j (by omega) g2)]
      simp [hc]
    · have hne : a ≠ i := fun e => by rw [e, hi0] at h2; cases h2
      simp only [decide_eq_false hc]
      rw [runsR]
      unfold nextAt
      rw [Option.isNone_eq_false_iff, List.find?_isSome]
      exact ⟨a, by simp; omega, h2⟩
theorem x_Running (l : List Ev) (hl : EvOk l) : XC Try.prog 16 [.ro (SL Ar.real Ev.X l)] [] (.ro (SL Ar.real encPair (runningTo l l.length))) [] := by
  have hlen := hl.len
  (refine XC.of_body ([]) Try.func16 rfl Try.ntmps16 mixed (T := [(2, ti2), (3, ti3), (4, ti4), (22, ti22), (31, ti31), (33, ti33), (36, ti36), (41, ti41), (125, ti125)]) (.cons tok2 (.cons tok3 (.cons tok4 (.cons tok22 (.cons tok31 (.cons tok33 (.cons tok36 (.cons tok41 (.cons tok125 .nil))))))))) (by kernel_rfl) (by simp) rfl rfl rfl rfl rfl ?_; rintro o ho P hP c K hK; have hm : P.follows .mixedOrders = true := hP ▸ mixed; have hT : TOk P [(2, ti2), (3, ti3), (4, ti4), (22, ti22), (31, ti31), (33, ti33), (36, ti36), (41, ti41), (125, ti125)] := hP ▸ (.cons tok2 (.cons tok3 (.cons tok4 (.cons tok22 (.cons tok31 (.cons tok33 (.cons tok36 (.cons tok41 (.cons tok125 .nil))))))))); (try rw [← ho]); cbv)
  refine LoopN.over (o := o) (D := []) ho hm hT (by kernel_rfl) (fun a : Nat × Nat × { ms : List (List Int × Nat) // (ms.map (·.1)).Nodup } => [(15, xn a.1)]) (fun a => [(0, .map a.2.1 true 2 (MT o ho encNat cleanNat a.2.2.1 a.2.2.2))]) (fun _ => []) (fun a => a.1 ≤ l.length ∧ ∀ fr id, lkp a.2.2.1 [fr, id] = lastR l a.1 fr id) (fun a => l.length - a.1) (0, 0, ⟨[], by simp⟩) ⟨Nat.zero_le _, fun fr id => rfl⟩ ?_ ?_
  · refine ⟨rfl, by cbv; repeat' (first | trivial | exact EqX.rfl' | exact EqO.rfl' | apply And.intro | ((try clear hR3); (try clear hR2); (try clear hR); (try clear hK); (try simp only [ncCast] at *); (try simp only [castI_eq] at *); refine EqX.i ?_; (try rw [ho]); (try dsimp only [Ar.real, IX.vo, IX.val, BX.val, IX.toN]); (try simp only [castI_eq, ltB_eq, leB_eq, eqIB_eq, inBB_eq, eqNB_eq, leNB_eq, foldPart, foldEv, foldPart_kind, foldPart_role, foldPart_amount, foldEv_kind, foldEv_frame, foldEv_id, foldEv_agent, foldEv_vec, fold_put]); (repeat rw [wrap_i64 (by omega) (by omega)]); omega) | exact EqO.map rfl (MT_nil ho encNat cleanNat c)), by cbv; repeat' (first | trivial | exact EqO.rfl' | apply And.intro | exact EqO.map rfl (MT_nil ho encNat cleanNat c)), by cbv; repeat' (first | trivial | exact EqO.rfl' | apply And.intro | exact EqO.map rfl (MT_nil ho encNat cleanNat c))⟩
  · rintro ⟨i, ver, ms, hn⟩ ⟨hi, hms⟩ R hR
    simp only at hi hms
    cbv
    repeat' (first | (refine Br.mk (fun hb => ?_) (fun hb => ?_) <;> ((try rw [ho] at hb); (try dsimp only [Ar.real, IX.vo] at hb); (try simp only [castI_eq, ltB_eq, leB_eq, eqIB_eq, inBB_eq, eqNB_eq, leNB_eq, foldPart, foldEv, foldPart_kind, foldPart_role, foldPart_amount, foldEv_kind, foldEv_frame, foldEv_id, foldEv_agent, foldEv_vec, fold_put] at hb); (try simp only [decide_eq_true_eq, Int.ofNat_lt, Int.ofNat_le, decide_eq_false_iff_not, Nat.not_lt, Nat.not_le, Int.not_lt, Int.not_le, beq_iff_eq, beq_eq_false_iff_ne, ne_eq, Bool.not_eq_true, Bool.not_eq_false, Bool.not_eq_true', Bool.not_eq_false'] at hb))) | (refine CallN.pure hP (x_stops _) fn62 (by first | rfl | (rw [ho]; done) | (rw [ho]; rfl)) (by rfl) (by first | rfl | (rw [ho]; done) | (rw [ho]; rfl)) ?_; (try rw [← ho]); generalize hr : stopsB _ = r; (try rw [ho] at hr); (try dsimp only [Ar.real, IX.vo] at hr); (try simp only [castI_eq, ltB_eq, leB_eq, eqIB_eq, inBB_eq, eqNB_eq, leNB_eq, foldPart, foldEv, foldPart_kind, foldPart_role, foldPart_amount, foldEv_kind, foldEv_frame, foldEv_id, foldEv_agent, foldEv_vec, fold_put] at hr); cbv) | (refine hK _ _ ?_) | (refine NeedT.mk ?_ ?_))
    · ((try clear hR3); (try clear hR2); (try clear hR); (try clear hK); (try simp only [ncCast] at *); (try simp only [castI_eq] at *); (try rw [ho]); (try dsimp only [Ar.real, IX.vo, IX.val, BX.val, IX.toN]); (try simp only [castI_eq, ltB_eq, leB_eq, eqIB_eq, inBB_eq, eqNB_eq, leNB_eq, foldPart, foldEv, foldPart_kind, foldPart_role, foldPart_amount, foldEv_kind, foldEv_frame, foldEv_id, foldEv_agent, foldEv_vec, fold_put]); (try simp only [decide_eq_true_eq, Int.ofNat_eq_natCast]); (all_goals (repeat rw [wrap_i64 (by omega) (by omega)])); (all_goals omega))
    · have hs : stopAt l (l.getD i default).frame (l.getD i default).id i = true := by
        ((try clear hR3); (try clear hR2); (try clear hR); (try clear hK); (try simp only [ncCast] at *); (try simp only [castI_eq] at *))
        try simp only [foldEv_kind] at hr
        simp only [stopAt, hr, hb, Bool.true_and, decide_true, Bool.and_self]
      obtain ⟨⟨ms', hn'⟩, hq⟩ : ∃ m : { m : List (List Int × Nat) // (m.map (·.1)).Nodup }, m.1 = putp ms [(l.getD i default).frame, (l.getD i default).id] i := ⟨⟨_, nodup_put hn _ _⟩, rfl⟩
      dsimp only at hq
      refine hR _ (i + 1, ver + 1, ⟨ms', hn'⟩) (by dsimp only; omega) ⟨by dsimp only; omega, fun fr id => ?_⟩ ?_
      · dsimp only
        rw [hq, lkp_put, lastR_succ, hms]
        by_cases h : stopAt l fr id i = true
        · have h' := h
          simp only [stopAt, Bool.and_eq_true, decide_eq_true_eq] at h'
          rw [if_pos h, if_pos (by rw [h'.2.1, h'.2.2])]
        · rw [if_neg h, if_neg]
          intro e
          simp only [List.cons.injEq, and_true] at e
          rw [e.1, e.2] at hs
          exact h hs
      · refine ⟨rfl, by cbv; repeat' (first | trivial | exact EqX.rfl' | exact EqO.rfl' | apply And.intro | ((try clear hR3); (try clear hR2); (try clear hR); (try clear hK); (try simp only [ncCast] at *); (try simp only [castI_eq] at *); refine EqX.i ?_; (try rw [ho]); (try dsimp only [Ar.real, IX.vo, IX.val, BX.val, IX.toN]); (try simp only [castI_eq, ltB_eq, leB_eq, eqIB_eq, inBB_eq, eqNB_eq, leNB_eq, foldPart, foldEv, foldPart_kind, foldPart_role, foldPart_amount, foldEv_kind, foldEv_frame, foldEv_id, foldEv_agent, foldEv_vec, fold_put]); (repeat rw [wrap_i64 (by omega) (by omega)]); omega) | (refine EqO.map rfl (MT_put' ho encNat cleanNat ms hn ms' hn' c _ _ i _ ?_ rfl hq); rw [ho]; rfl)), by cbv; repeat' (first | trivial | exact EqO.rfl' | apply And.intro | (refine EqO.map rfl (MT_put' ho encNat cleanNat ms hn ms' hn' c _ _ i _ ?_ rfl hq); rw [ho]; rfl)), by cbv; repeat' (first | trivial | exact EqO.rfl' | apply And.intro | (refine EqO.map rfl (MT_put' ho encNat cleanNat ms hn ms' hn' c _ _ i _ ?_ rfl hq); rw [ho]; rfl))⟩
    · have hs : ∀ fr id, stopAt l fr id i = false := by
        ((try clear hR3); (try clear hR2); (try clear hR); (try clear hK); (try simp only [ncCast] at *); (try simp only [castI_eq] at *))
        try simp only [foldEv_kind] at hr
        intro fr id
        simp only [stopAt, hr, hb, Bool.false_and]
      refine hR _ (i + 1, ver, ⟨ms, hn⟩) (by dsimp only; omega) ⟨by dsimp only; omega, fun fr id => ?_⟩ ?_
      · dsimp only
        rw [lastR_succ, hms, if_neg (by rw [hs]; decide)]
      · refine ⟨rfl, by cbv; repeat' (first | trivial | exact EqX.rfl' | exact EqO.rfl' | apply And.intro | ((try clear hR3); (try clear hR2); (try clear hR); (try clear hK); (try simp only [ncCast] at *); (try simp only [castI_eq] at *); refine EqX.i ?_; (try rw [ho]); (try dsimp only [Ar.real, IX.vo, IX.val, BX.val, IX.toN]); (try simp only [castI_eq, ltB_eq, leB_eq, eqIB_eq, inBB_eq, eqNB_eq, leNB_eq, foldPart, foldEv, foldPart_kind, foldPart_role, foldPart_amount, foldEv_kind, foldEv_frame, foldEv_id, foldEv_agent, foldEv_vec, fold_put]); (repeat rw [wrap_i64 (by omega) (by omega)]); omega)), by cbv; repeat' (first | trivial | exact EqO.rfl' | apply And.intro), by cbv; repeat' (first | trivial | exact EqO.rfl' | apply And.intro)⟩
    · obtain rfl : i = l.length := by omega
      refine LoopN.ghost 6 41 2 rfl ?_
      refine LoopN.over (o := o) (D := []) ho hm hT (by kernel_rfl) (fun a : Nat × Nat × List (Int × Int) => [(33, xn a.1), (6, .own (.loc 1) a.2.1)]) (fun a => [(1, .row a.2.1 41 2 (SL o encPair a.2.2))]) (fun _ => []) (fun a => a.1 ≤ l.length ∧ a.2.2 = runningTo l a.1) (fun a => l.length - a.1) (0, 0, []) ⟨Nat.zero_le _, rfl⟩ ?_ ?_
      · refine ⟨rfl, by cbv; repeat' (first | trivial | exact EqX.rfl' | exact EqO.rfl' | apply And.intro | ((try clear hR3); (try clear hR2); (try clear hR); (try clear hK); (try simp only [ncCast] at *); (try simp only [castI_eq] at *); refine EqX.i ?_; (try rw [ho]); (try dsimp only [Ar.real, IX.vo, IX.val, BX.val, IX.toN]); (try simp only [castI_eq, ltB_eq, leB_eq, eqIB_eq, inBB_eq, eqNB_eq, leNB_eq, foldPart, foldEv, foldPart_kind, foldPart_role, foldPart_amount, foldEv_kind, foldEv_frame, foldEv_id, foldEv_agent, foldEv_vec, fold_put]); (repeat rw [wrap_i64 (by omega) (by omega)]); omega) | exact EqO.row rfl (rows_nil_SL o ho encPair)), by cbv; repeat' (first | trivial | exact EqO.rfl' | apply And.intro | exact EqO.row rfl (rows_nil_SL o ho encPair)), by cbv; repeat' (first | trivial | exact EqO.rfl' | apply And.intro | exact EqO.row rfl (rows_nil_SL o ho encPair))⟩
      · rintro ⟨i, ver2, out⟩ ⟨hi2, hout⟩ R2 hR2
        simp only at hi2 hout
        cbv
        have hol := runningTo_len l i
        rw [← hout] at hol
        have hms' := hms (l.getD i default).frame (l.getD i default).id
        have hsucc := runningTo_succ l i
        rw [← hout] at hsucc
        obtain ⟨out', hout'⟩ : ∃ q, q = runningTo l (i + 1) := ⟨_, rfl⟩
        rw [← hout'] at hsucc
        repeat' (first | (refine Br.mk (fun hb => ?_) (fun hb => ?_) <;> ((try rw [ho] at hb); (try dsimp only [Ar.real, IX.vo] at hb); (try simp only [castI_eq, ltB_eq, leB_eq, eqIB_eq, inBB_eq, eqNB_eq, leNB_eq, foldPart, foldEv, foldPart_kind, foldPart_role, foldPart_amount, foldEv_kind, foldEv_frame, foldEv_id, foldEv_agent, foldEv_vec, fold_put] at hb); (try simp only [decide_eq_true_eq, Int.ofNat_lt, Int.ofNat_le, decide_eq_false_iff_not, Nat.not_lt, Nat.not_le, Int.not_lt, Int.not_le, beq_iff_eq, beq_eq_false_iff_ne, ne_eq, Bool.not_eq_true, Bool.not_eq_false, Bool.not_eq_true', Bool.not_eq_false'] at hb))) | (refine CallN.pure hP (x_stops _) fn62 (by first | rfl | (rw [ho]; done) | (rw [ho]; rfl)) (by rfl) (by first | rfl | (rw [ho]; done) | (rw [ho]; rfl)) ?_; (try rw [← ho]); generalize hr : stopsB _ = r; (try rw [ho] at hr); (try dsimp only [Ar.real, IX.vo] at hr); (try simp only [castI_eq, ltB_eq, leB_eq, eqIB_eq, inBB_eq, eqNB_eq, leNB_eq, foldPart, foldEv, foldPart_kind, foldPart_role, foldPart_amount, foldEv_kind, foldEv_frame, foldEv_id, foldEv_agent, foldEv_vec, fold_put] at hr); cbv) | (refine hK _ _ ?_) | (refine NeedT.mk ?_ ?_))
        any_goals (((try clear hR3); (try clear hR2); (try clear hR); (try clear hK); (try simp only [ncCast] at *); (try simp only [castI_eq] at *); (try rw [ho]); (try dsimp only [Ar.real, IX.vo, IX.val, BX.val, IX.toN]); (try simp only [castI_eq, ltB_eq, leB_eq, eqIB_eq, inBB_eq, eqNB_eq, leNB_eq, foldPart, foldEv, foldPart_kind, foldPart_role, foldPart_amount, foldEv_kind, foldEv_frame, foldEv_id, foldEv_agent, foldEv_vec, fold_put]); (try simp only [decide_eq_true_eq, Int.ofNat_eq_natCast]); (all_goals (repeat rw [wrap_i64 (by omega) (by omega)])); (all_goals omega)); done)
        · have hv : runB l i = true := by
            ((try clear hR3); (try clear hR2); (try clear hR); (try clear hK); (try simp only [ncCast] at *); (try simp only [castI_eq] at *))
            rw [runB, runsR_last ‹i < l.length› ‹_ = (13 : Int)›, ← hms']
            have hsm := (mhas_map encNat ms [(l.getD i default).frame, (l.getD i default).id]).symm.trans ‹_›
            generalize lkp ms [(l.getD i default).frame, (l.getD i default).id] = q at hb hsm ⊢
            cases q with
            | none => cases hsm
            | some a => simp only [Option.getD_some] at hb; simp only [decide_eq_true ‹_ = (13 : Int)›, Bool.true_and]; first | exact decide_eq_true hb | exact decide_eq_false (by omega)
          rw [if_pos hv] at hsucc
          refine hR2 _ (i + 1, ver2 + 1, out') (by dsimp only; omega) ⟨by dsimp only; omega, hout'⟩ ?_
          refine ⟨rfl, by cbv; repeat' (first | trivial | exact EqX.rfl' | exact EqO.rfl' | apply And.intro | ((try clear hR3); (try clear hR2); (try clear hR); (try clear hK); (try simp only [ncCast] at *); (try simp only [castI_eq] at *); refine EqX.i ?_; (try rw [ho]); (try dsimp only [Ar.real, IX.vo, IX.val, BX.val, IX.toN]); (try simp only [castI_eq, ltB_eq, leB_eq, eqIB_eq, inBB_eq, eqNB_eq, leNB_eq, foldPart, foldEv, foldPart_kind, foldPart_role, foldPart_amount, foldEv_kind, foldEv_frame, foldEv_id, foldEv_agent, foldEv_vec, fold_put]); (repeat rw [wrap_i64 (by omega) (by omega)]); omega) | (refine EqO.snoc ho encPair _ _ _ _ rfl hsucc ?_; rw [ho]; rfl)), by cbv; repeat' (first | trivial | exact EqO.rfl' | apply And.intro | (refine EqO.snoc ho encPair _ _ _ _ rfl hsucc ?_; rw [ho]; rfl)), by cbv; repeat' (first | trivial | exact EqO.rfl' | apply And.intro | (refine EqO.snoc ho encPair _ _ _ _ rfl hsucc ?_; rw [ho]; rfl))⟩
        · have hv : runB l i = false := by
            ((try clear hR3); (try clear hR2); (try clear hR); (try clear hK); (try simp only [ncCast] at *); (try simp only [castI_eq] at *))
            rw [runB, runsR_last ‹i < l.length› ‹_ = (13 : Int)›, ← hms']
            have hsm := (mhas_map encNat ms [(l.getD i default).frame, (l.getD i default).id]).symm.trans ‹_›
            generalize lkp ms [(l.getD i default).frame, (l.getD i default).id] = q at hb hsm ⊢
            cases q with
            | none => cases hsm
            | some a => simp only [Option.getD_some] at hb; simp only [decide_eq_true ‹_ = (13 : Int)›, Bool.true_and]; first | exact decide_eq_true hb | exact decide_eq_false (by omega)
          rw [if_neg (by rw [hv]; decide), List.append_nil] at hsucc
          refine hR2 _ (i + 1, ver2, out') (by dsimp only; omega) ⟨by dsimp only; omega, hout'⟩ ?_
          subst hsucc
          refine ⟨rfl, by cbv; repeat' (first | trivial | exact EqX.rfl' | exact EqO.rfl' | apply And.intro | ((try clear hR3); (try clear hR2); (try clear hR); (try clear hK); (try simp only [ncCast] at *); (try simp only [castI_eq] at *); refine EqX.i ?_; (try rw [ho]); (try dsimp only [Ar.real, IX.vo, IX.val, BX.val, IX.toN]); (try simp only [castI_eq, ltB_eq, leB_eq, eqIB_eq, inBB_eq, eqNB_eq, leNB_eq, foldPart, foldEv, foldPart_kind, foldPart_role, foldPart_amount, foldEv_kind, foldEv_frame, foldEv_id, foldEv_agent, foldEv_vec, fold_put]); (repeat rw [wrap_i64 (by omega) (by omega)]); omega)), by cbv; repeat' (first | trivial | exact EqO.rfl' | apply And.intro), by cbv; repeat' (first | trivial | exact EqO.rfl' | apply And.intro)⟩
        · have hv : runB l i = false := by
            simp only [runB, decide_eq_false ‹¬ _ = (13 : Int)›, Bool.false_and]
          rw [if_neg (by rw [hv]; decide), List.append_nil] at hsucc
          refine hR2 _ (i + 1, ver2, out') (by dsimp only; omega) ⟨by dsimp only; omega, hout'⟩ ?_
          subst hsucc
          refine ⟨rfl, by cbv; repeat' (first | trivial | exact EqX.rfl' | exact EqO.rfl' | apply And.intro | ((try clear hR3); (try clear hR2); (try clear hR); (try clear hK); (try simp only [ncCast] at *); (try simp only [castI_eq] at *); refine EqX.i ?_; (try rw [ho]); (try dsimp only [Ar.real, IX.vo, IX.val, BX.val, IX.toN]); (try simp only [castI_eq, ltB_eq, leB_eq, eqIB_eq, inBB_eq, eqNB_eq, leNB_eq, foldPart, foldEv, foldPart_kind, foldPart_role, foldPart_amount, foldEv_kind, foldEv_frame, foldEv_id, foldEv_agent, foldEv_vec, fold_put]); (repeat rw [wrap_i64 (by omega) (by omega)]); omega)), by cbv; repeat' (first | trivial | exact EqO.rfl' | apply And.intro), by cbv; repeat' (first | trivial | exact EqO.rfl' | apply And.intro)⟩
        · have hv : runB l i = true := by
            ((try clear hR3); (try clear hR2); (try clear hR); (try clear hK); (try simp only [ncCast] at *); (try simp only [castI_eq] at *))
            rw [runB, runsR_last ‹i < l.length› ‹_ = (13 : Int)›, ← hms']
            have hsm := (mhas_map encNat ms [(l.getD i default).frame, (l.getD i default).id]).symm.trans ‹_›
            generalize lkp ms [(l.getD i default).frame, (l.getD i default).id] = q at hsm ⊢
            cases q with
            | none => simp only [decide_eq_true ‹_ = (13 : Int)›, Bool.true_and]
            | some a => cases hsm
          rw [if_pos hv] at hsucc
          refine hR2 _ (i + 1, ver2 + 1, out') (by dsimp only; omega) ⟨by dsimp only; omega, hout'⟩ ?_
          refine ⟨rfl, by cbv; repeat' (first | trivial | exact EqX.rfl' | exact EqO.rfl' | apply And.intro | ((try clear hR3); (try clear hR2); (try clear hR); (try clear hK); (try simp only [ncCast] at *); (try simp only [castI_eq] at *); refine EqX.i ?_; (try rw [ho]); (try dsimp only [Ar.real, IX.vo, IX.val, BX.val, IX.toN]); (try simp only [castI_eq, ltB_eq, leB_eq, eqIB_eq, inBB_eq, eqNB_eq, leNB_eq, foldPart, foldEv, foldPart_kind, foldPart_role, foldPart_amount, foldEv_kind, foldEv_frame, foldEv_id, foldEv_agent, foldEv_vec, fold_put]); (repeat rw [wrap_i64 (by omega) (by omega)]); omega) | (refine EqO.snoc ho encPair _ _ _ _ rfl hsucc ?_; rw [ho]; rfl)), by cbv; repeat' (first | trivial | exact EqO.rfl' | apply And.intro | (refine EqO.snoc ho encPair _ _ _ _ rfl hsucc ?_; rw [ho]; rfl)), by cbv; repeat' (first | trivial | exact EqO.rfl' | apply And.intro | (refine EqO.snoc ho encPair _ _ _ _ rfl hsucc ?_; rw [ho]; rfl))⟩
        · have hv : runB l i = false := by
            simp only [runB, decide_eq_false ‹¬ _ = (13 : Int)›, Bool.false_and]
          rw [if_neg (by rw [hv]; decide), List.append_nil] at hsucc
          refine hR2 _ (i + 1, ver2, out') (by dsimp only; omega) ⟨by dsimp only; omega, hout'⟩ ?_
          subst hsucc
          refine ⟨rfl, by cbv; repeat' (first | trivial | exact EqX.rfl' | exact EqO.rfl' | apply And.intro | ((try clear hR3); (try clear hR2); (try clear hR); (try clear hK); (try simp only [ncCast] at *); (try simp only [castI_eq] at *); refine EqX.i ?_; (try rw [ho]); (try dsimp only [Ar.real, IX.vo, IX.val, BX.val, IX.toN]); (try simp only [castI_eq, ltB_eq, leB_eq, eqIB_eq, inBB_eq, eqNB_eq, leNB_eq, foldPart, foldEv, foldPart_kind, foldPart_role, foldPart_amount, foldEv_kind, foldEv_frame, foldEv_id, foldEv_agent, foldEv_vec, fold_put]); (repeat rw [wrap_i64 (by omega) (by omega)]); omega)), by cbv; repeat' (first | trivial | exact EqO.rfl' | apply And.intro), by cbv; repeat' (first | trivial | exact EqO.rfl' | apply And.intro)⟩
        · obtain rfl : i = l.length := by omega
          subst hout
          exact .ro (by rw [ho])
end Go.Proofs.Ytddgcegimmcbgaa.Sy

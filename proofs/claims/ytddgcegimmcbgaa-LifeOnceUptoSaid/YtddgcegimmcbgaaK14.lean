/-
  The life of offers: Check. Plain theorems.
-/
import Derived.Test.YtddgcegimmcbgaaK13
set_option linter.unusedSectionVars false
namespace Go.Proofs.Ytddgcegimmcbgaa.Sy
open Go Go.Sy Go.Proofs.Ytddgcegimmcbgaa
set_option maxRecDepth 100000
set_option maxHeartbeats 8000000
set_option linter.unusedVariables false
set_option linter.unusedSimpArgs false

theorem putp_len {α : Type} (ms : List (List Int × α)) (k : List Int) (a : α) : (putp ms k a).length ≤ ms.length + 1 := by
  induction ms with
  | nil => simp [putp]
  | cons b ms ih =>
    simp only [putp]
    split
    · simp
    · simp; omega
theorem delp_len {α : Type} (ms : List (List Int × α)) (k : List Int) : (delp ms k).length ≤ ms.length := (delp_sub ms k).length_le
/-- How a typed map may have changed by one event. -/
structure Chg (s t : TM Ev) (e : Ev) : Prop where
  len : t.ms.length ≤ s.ms.length + 1
  val : ∀ k a, lkp t.ms k = some a → a = e ∨ ∃ k', lkp s.ms k' = some a
theorem Chg.refl (s : TM Ev) (e : Ev) : Chg s s e := ⟨by omega, fun k a h => .inr ⟨k, h⟩⟩
theorem Chg.put (s t : TM Ev) (k : List Int) (e : Ev) (h : t.ms = putp s.ms k e) : Chg s t e := by
  refine ⟨by rw [h]; exact putp_len _ _ _, fun k' a ha => ?_⟩
  rw [h, lkp_put] at ha
  split at ha
  · cases ha; exact .inl rfl
  · exact .inr ⟨_, ha⟩
theorem Chg.del (s : TM Ev) (k : List Int) (e : Ev) : Chg s (s.del k) e := by
  refine ⟨Nat.le_trans (delp_len _ _) (by omega), fun k' a ha => ?_⟩
  have ha' : lkp (delp s.ms k) k' = some a := ha
  rw [lkp_del s.hn] at ha'
  split at ha'
  · cases ha'
  · exact .inr ⟨_, ha'⟩
theorem chg_of (s : There) (e : Ev) : Chg s.of (nextS s e).of e := by
  unfold nextS agentS frameS offerS taskS
  split
  · split <;> exact .refl _ _
  · split
    · split
      · exact .refl _ _
      · split <;> exact .refl _ _
    · split
      · split
        · exact .put _ _ [e.id] _ rfl
        · exact .del _ _ _
      · split
        · split <;> exact .refl _ _
        · exact .refl _ _
theorem chg_tk (s : There) (e : Ev) : Chg s.tk (nextS s e).tk e := by
  unfold nextS agentS frameS offerS taskS
  split
  · split <;> exact .refl _ _
  · split
    · split
      · exact .refl _ _
      · split <;> exact .refl _ _
    · split
      · split <;> exact .refl _ _
      · split
        · split
          · exact .put _ _ [e.frame, e.id] _ rfl
          · exact .del _ _ _
        · exact .refl _ _
def There0 : There := ⟨⟨0, [], by simp⟩, ⟨0, [], by simp⟩, ⟨0, [], by simp⟩, ⟨0, [], by simp⟩, 0⟩
/-- What is there after so many events. -/
def stS (l : List Ev) : Nat → There
  | 0 => There0
  | k + 1 => nextS (stS l k) (l.getD k default)
def okAt (l : List Ev) (k : Nat) : Bool := nextB (stS l k) (l.getD k default)
def firstBad (l : List Ev) : Option Nat := nextAt (fun k => !okAt l k) 0 l.length
def checkR (l : List Ev) : Int × Bool := match firstBad l with | some k => (k, false) | none => (l.length, true)
theorem getD_mem {l : List Ev} {k : Nat} (h : k < l.length) : l.getD k default ∈ l := by
  rw [List.getD_eq_getElem?_getD, List.getElem?_eq_getElem h]
  exact List.getElem_mem h
theorem stS_of (l : List Ev) : ∀ k, k ≤ l.length → (stS l k).of.ms.length ≤ k ∧ (∀ x a, lkp (stS l k).of.ms x = some a → a ∈ l) ∧ (stS l k).tk.ms.length ≤ k ∧ (∀ x a, lkp (stS l k).tk.ms x = some a → a ∈ l)
  | 0, _ => by
    refine ⟨Nat.le_refl _, ?_, Nat.le_refl _, ?_⟩ <;> (intro x a h; cases h)
  | k + 1, hk => by
    obtain ⟨h1, h2, h3, h4⟩ := stS_of l k (by omega)
    have c1 := chg_of (stS l k) (l.getD k default)
    have c2 := chg_tk (stS l k) (l.getD k default)
    refine ⟨?_, fun x a h => ?_, ?_, fun x a h => ?_⟩
    · have := c1.len; show (nextS _ _).of.ms.length ≤ _; omega
    · rcases c1.val x a h with e | ⟨x', e⟩
      · rw [e]; exact getD_mem (by omega)
      · exact h2 _ _ e
    · have := c2.len; show (nextS _ _).tk.ms.length ≤ _; omega
    · rcases c2.val x a h with e | ⟨x', e⟩
      · rw [e]; exact getD_mem (by omega)
      · exact h4 _ _ e
theorem FinX.ib {k : IntKind} {r : Int} {s : Bool} {x : IX} {y : BX} (h : x.val = r) (h' : y.val = s) : FinX (.tup [.i k (.s r), xb s]) [] (.tup [.i k x, .b y]) [] := .pure fun _ => by simp only [X.toD, X.toDL, h, h']; rfl
theorem FinX.ibO {k : IntKind} {r : Int} {s : Bool} {x : IX} {y : BX} {O : List OX} (h : x.val = r) (h' : y.val = s) : FinX (.tup [.i k (.s r), xb s]) O (.tup [.i k x, .b y]) O := ⟨fun _ => by simp only [X.toD, X.toDL, h, h']; rfl, upL_refl _⟩
structure St14 where
  i : Nat
  s : There
structure In14 (l : List Ev) (a : St14) : Prop where
  i : a.i ≤ l.length
  s : a.s = stS l a.i
  ok : ∀ j, j < a.i → okAt l j = true
theorem checkR_bad {l : List Ev} {i : Nat} (hi : i < l.length) (hok : ∀ j, j < i → okAt l j = true) (h : okAt l i = false) : checkR l = ((i : Int), false) := by
  unfold checkR firstBad
  rw [nextAt_some (k := i) (Nat.zero_le _) hi (by rw [h]; rfl) (fun j _ hj => by rw [hok j hj]; rfl)]
theorem checkR_good {l : List Ev} (hok : ∀ j, j < l.length → okAt l j = true) : checkR l = ((l.length : Int), true) := by
  unfold checkR firstBad
  rw [nextAt_none (fun j _ hj => by rw [hok j hj]; rfl)]
theorem checkR_ok {l : List Ev} (h : (checkR l).2 = true) : ∀ j, j < l.length → okAt l j = true := by
  intro j hj
  unfold checkR firstBad at h
  cases hq : nextAt (fun k => !okAt l k) 0 l.length with
  | some k => rw [hq] at h; cases h
  | none =>
    unfold nextAt at hq
    rw [List.find?_range'_eq_none] at hq
    have := hq j (Nat.zero_le _) (by omega)
    simpa using this
theorem checkR_le (l : List Ev) : 0 ≤ (checkR l).1 ∧ (checkR l).1 ≤ l.length := by
  unfold checkR firstBad
  cases hq : nextAt (fun k => !okAt l k) 0 l.length with
  | some k =>
    unfold nextAt at hq
    rw [List.find?_range'_eq_some] at hq
    have := hq.2.1
    simp at this
    dsimp only
    omega
  | none => dsimp only; omega
theorem x_Check (l : List Ev) (hl : EvOk l) : XC Try.prog 11 [.ro (SL Ar.real Ev.X l)] [] (.tup [xi (checkR l).1, xb (checkR l).2]) [] := by
  have hlen := hl.len
  (refine XC.of_body ([]) Try.func11 rfl Try.ntmps11 mixed (T := [(2, ti2), (3, ti3), (4, ti4), (22, ti22), (31, ti31), (33, ti33), (41, ti41), (116, ti116), (117, ti117), (118, ti118), (120, ti120)]) (.cons tok2 (.cons tok3 (.cons tok4 (.cons tok22 (.cons tok31 (.cons tok33 (.cons tok41 (.cons tok116 (.cons tok117 (.cons tok118 (.cons tok120 .nil))))))))))) (by kernel_rfl) (by simp) rfl rfl rfl rfl rfl ?_; rintro o ho P hP c K hK; have hm : P.follows .mixedOrders = true := hP ▸ mixed; have hT : TOk P [(2, ti2), (3, ti3), (4, ti4), (22, ti22), (31, ti31), (33, ti33), (41, ti41), (116, ti116), (117, ti117), (118, ti118), (120, ti120)] := hP ▸ (.cons tok2 (.cons tok3 (.cons tok4 (.cons tok22 (.cons tok31 (.cons tok33 (.cons tok41 (.cons tok116 (.cons tok117 (.cons tok118 (.cons tok120 .nil))))))))))); (try rw [← ho]); cbv)
  refine LoopN.over (o := o) (D := []) ho hm hT (by kernel_rfl) (fun a : St14 => [(14, xn a.i)]) (fun a => [(4, .var [.mp (.loc 0), .mp (.loc 1), .mp (.loc 2), .mp (.loc 3), xi a.s.n] 120), (0, .map a.s.ag.ver false 1 (MT o ho encInt cleanInt a.s.ag.ms a.s.ag.hn)), (1, .map a.s.fr.ver false 1 (MT o ho encInt cleanInt a.s.fr.ms a.s.fr.hn)), (2, .map a.s.of.ver false 1 (MT o ho encEv cleanEv a.s.of.ms a.s.of.hn)), (3, .map a.s.tk.ver true 2 (MT o ho encEv cleanEv a.s.tk.ms a.s.tk.hn))]) (fun _ => []) (In14 l) (fun a => l.length - a.i) ⟨0, There0⟩ ⟨Nat.zero_le _, rfl, fun j h => by dsimp only at h; omega⟩ ?_ ?_
  · refine ⟨rfl, by cbv; repeat' (first | trivial | exact EqX.rfl' | exact EqO.rfl' | apply And.intro | ((try clear hR3); (try clear hR2); (try clear hR); (try clear hK); (try simp only [ncCast] at *); (try simp only [castI_eq] at *); refine EqX.i ?_; (try rw [ho]); (try dsimp only [Ar.real, IX.vo, IX.val, BX.val, IX.toN]); (try simp only [castI_eq, ltB_eq, leB_eq, eqIB_eq, inBB_eq, eqNB_eq, leNB_eq, foldOff, foldOff_id, foldOff_frame, foldOff_agent, foldOff_at_, foldOff_end_, foldOff_how, foldPart, foldEv, foldPart_kind, foldPart_role, foldPart_amount, foldEv_kind, foldEv_frame, foldEv_id, foldEv_agent, foldEv_vec, fold_put]); (repeat rw [wrap_i64 (by omega) (by omega)]); omega) | exact EqO.map rfl (MT_nil ho encInt cleanInt c) | exact EqO.map rfl (MT_nil ho encEv cleanEv c) | exact ⟨rfl⟩), by cbv; repeat' (first | trivial | exact EqO.rfl' | apply And.intro | exact EqO.map rfl (MT_nil ho encInt cleanInt c) | exact EqO.map rfl (MT_nil ho encEv cleanEv c) | exact ⟨rfl⟩), by cbv; repeat' (first | trivial | exact EqO.rfl' | apply And.intro | exact EqO.map rfl (MT_nil ho encInt cleanInt c) | exact EqO.map rfl (MT_nil ho encEv cleanEv c) | exact ⟨rfl⟩)⟩
  · rintro ⟨i, s⟩ ⟨hi, hs, hok⟩ R hR
    dsimp only at hi hs hok
    have hnth : o.nth l i = l.getD i default := by rw [ho, real_nth]
    obtain ⟨f1, f2, f3, f4⟩ := stS_of l i hi
    rw [← hs] at f1 f2 f3 f4
    obtain ⟨s', hs'⟩ : ∃ q, q = nextS s (l.getD i default) := ⟨_, rfl⟩
    obtain ⟨b, hb'⟩ : ∃ q, q = nextB s (l.getD i default) := ⟨_, rfl⟩
    have hc := x_next o ho s (o.nth l i) (by rw [hnth]; exact hl.at_ i) (by omega) (by omega) (fun k a h => hl.vec a (f2 k a h)) (fun k a h => hl.vec a (f4 k a h))
    rw [hnth, ← hs', ← hb', ← hnth] at hc
    have hbk : okAt l i = b := by rw [hb', hs]; rfl
    have hsk : s' = stS l (i + 1) := by rw [hs', hs]; rfl
    have hbad := checkR_bad (l := l) (i := i)
    have hgood := checkR_good (l := l)
    clear hs hs' hb' f1 f2 f3 f4
    obtain ⟨⟨v1, ag, hn1⟩, ⟨v2, fr, hn2⟩, ⟨v3, of, hn3⟩, ⟨v4, tk, hn4⟩, n⟩ := s
    obtain ⟨⟨w1, ag', hm1⟩, ⟨w2, fr', hm2⟩, ⟨w3, of', hm3⟩, ⟨w4, tk', hm4⟩, n'⟩ := s'
    cbv
    repeat' (first | (refine Br.mk (fun hb => ?_) (fun hb => ?_) <;> ((try rw [ho] at hb); (try dsimp only [Ar.real, IX.vo] at hb); (try simp only [castI_eq, ltB_eq, leB_eq, eqIB_eq, inBB_eq, eqNB_eq, leNB_eq, foldOff, foldOff_id, foldOff_frame, foldOff_agent, foldOff_at_, foldOff_end_, foldOff_how, foldPart, foldEv, foldPart_kind, foldPart_role, foldPart_amount, foldEv_kind, foldEv_frame, foldEv_id, foldEv_agent, foldEv_vec, fold_put] at hb); (try simp only [decide_eq_true_eq, Int.ofNat_lt, Int.ofNat_le, decide_eq_false_iff_not, Nat.not_lt, Nat.not_le, Int.not_lt, Int.not_le, beq_iff_eq, beq_eq_false_iff_ne, ne_eq, Bool.not_eq_true, Bool.not_eq_false, Bool.not_eq_true', Bool.not_eq_false'] at hb))) | (refine hK _ _ ?_) | (refine NeedT.mk ?_ ?_) | refine CallN.objs [.loc 4, .loc 0, .loc 1, .loc 2, .loc 3] hP hc fn60 rfl rfl rfl rfl (by rfl) rfl rfl rfl rfl (by rfl) ⟨⟨_, rfl, rfl⟩, ⟨_, rfl, rfl⟩, ⟨_, rfl, rfl⟩, ⟨_, rfl, rfl⟩, ⟨_, rfl, rfl⟩, trivial⟩ ?_; cbv)
    any_goals (((try clear hR3); (try clear hR2); (try clear hR); (try clear hK); (try simp only [ncCast] at *); (try simp only [castI_eq] at *); (try rw [ho]); (try dsimp only [Ar.real, IX.vo, IX.val, BX.val, IX.toN]); (try simp only [castI_eq, ltB_eq, leB_eq, eqIB_eq, inBB_eq, eqNB_eq, leNB_eq, foldOff, foldOff_id, foldOff_frame, foldOff_agent, foldOff_at_, foldOff_end_, foldOff_how, foldPart, foldEv, foldPart_kind, foldPart_role, foldPart_amount, foldEv_kind, foldEv_frame, foldEv_id, foldEv_agent, foldEv_vec, fold_put]); (try simp only [decide_eq_true_eq, Int.ofNat_eq_natCast]); (all_goals (repeat rw [wrap_i64 (by omega) (by omega)])); (all_goals omega)); done)
    · have e := hbad (by assumption) hok (by rw [hbk]; exact ‹b = false›)
      rw [e]
      exact FinX.ibO rfl rfl
    · refine hR _ ⟨i + 1, _⟩ (by dsimp only; omega) ⟨by dsimp only; omega, hsk, fun j h => ?_⟩ ?_
      · dsimp only at h
        rcases Nat.lt_or_ge j i with h3 | h3
        · exact hok j h3
        · obtain rfl : j = i := by omega
          rw [hbk]; exact ‹b = true›
      · refine ⟨rfl, by cbv; repeat' (first | trivial | exact EqX.rfl' | exact EqO.rfl' | apply And.intro | ((try clear hR3); (try clear hR2); (try clear hR); (try clear hK); (try simp only [ncCast] at *); (try simp only [castI_eq] at *); refine EqX.i ?_; (try rw [ho]); (try dsimp only [Ar.real, IX.vo, IX.val, BX.val, IX.toN]); (try simp only [castI_eq, ltB_eq, leB_eq, eqIB_eq, inBB_eq, eqNB_eq, leNB_eq, foldOff, foldOff_id, foldOff_frame, foldOff_agent, foldOff_at_, foldOff_end_, foldOff_how, foldPart, foldEv, foldPart_kind, foldPart_role, foldPart_amount, foldEv_kind, foldEv_frame, foldEv_id, foldEv_agent, foldEv_vec, fold_put]); (repeat rw [wrap_i64 (by omega) (by omega)]); omega)), by cbv; repeat' (first | trivial | exact EqO.rfl' | apply And.intro), by cbv; repeat' (first | trivial | exact EqO.rfl' | apply And.intro)⟩
    · have e := hgood fun j hj => hok j (by omega)
      rw [e]
      refine FinX.ibO ?_ rfl
      ((try clear hR3); (try clear hR2); (try clear hR); (try clear hK); (try simp only [ncCast] at *); (try simp only [castI_eq] at *); (try rw [ho]); (try dsimp only [Ar.real, IX.vo, IX.val, BX.val, IX.toN]); (try simp only [castI_eq, ltB_eq, leB_eq, eqIB_eq, inBB_eq, eqNB_eq, leNB_eq, foldOff, foldOff_id, foldOff_frame, foldOff_agent, foldOff_at_, foldOff_end_, foldOff_how, foldPart, foldEv, foldPart_kind, foldPart_role, foldPart_amount, foldEv_kind, foldEv_frame, foldEv_id, foldEv_agent, foldEv_vec, fold_put]))
theorem x_CheckO (l : List Ev) (hl : EvOk l) (v : Nat) (o : Ar) (ho : o = Ar.real) : XC Try.prog 11 [.own (.out 0) v] [.row v 33 5 (SL o Ev.X l)] (.tup [xi (checkR l).1, xb (checkR l).2]) [.row v 33 5 (SL o Ev.X l)] := by
  have hlen := hl.len
  (refine XC.of_body ([]) Try.func11 rfl Try.ntmps11 mixed (T := [(2, ti2), (3, ti3), (4, ti4), (22, ti22), (31, ti31), (33, ti33), (41, ti41), (116, ti116), (117, ti117), (118, ti118), (120, ti120)]) (.cons tok2 (.cons tok3 (.cons tok4 (.cons tok22 (.cons tok31 (.cons tok33 (.cons tok41 (.cons tok116 (.cons tok117 (.cons tok118 (.cons tok120 .nil))))))))))) (by kernel_rfl) (by simp) rfl rfl rfl rfl rfl ?_; rintro o2 ho2 P hP c K hK; have hm : P.follows .mixedOrders = true := hP ▸ mixed; have hT : TOk P [(2, ti2), (3, ti3), (4, ti4), (22, ti22), (31, ti31), (33, ti33), (41, ti41), (116, ti116), (117, ti117), (118, ti118), (120, ti120)] := hP ▸ (.cons tok2 (.cons tok3 (.cons tok4 (.cons tok22 (.cons tok31 (.cons tok33 (.cons tok41 (.cons tok116 (.cons tok117 (.cons tok118 (.cons tok120 .nil))))))))))); (try rw [← ho2]); have e2 : o = o2 := ho.trans ho2.symm; subst e2; cbv)
  refine NeedT.mk (by rw [ho]; exact decide_eq_true rfl) ?_
  refine LoopN.over (o := o) (D := []) ho hm hT (by kernel_rfl) (fun a : St14 => [(14, xn a.i)]) (fun a => [(4, .var [.mp (.loc 0), .mp (.loc 1), .mp (.loc 2), .mp (.loc 3), xi a.s.n] 120), (0, .map a.s.ag.ver false 1 (MT o ho encInt cleanInt a.s.ag.ms a.s.ag.hn)), (1, .map a.s.fr.ver false 1 (MT o ho encInt cleanInt a.s.fr.ms a.s.fr.hn)), (2, .map a.s.of.ver false 1 (MT o ho encEv cleanEv a.s.of.ms a.s.of.hn)), (3, .map a.s.tk.ver true 2 (MT o ho encEv cleanEv a.s.tk.ms a.s.tk.hn))]) (fun _ => []) (In14 l) (fun a => l.length - a.i) ⟨0, There0⟩ ⟨Nat.zero_le _, rfl, fun j h => by dsimp only at h; omega⟩ ?_ ?_
  · refine ⟨rfl, by cbv; repeat' (first | trivial | exact EqX.rfl' | exact EqO.rfl' | apply And.intro | ((try clear hR3); (try clear hR2); (try clear hR); (try clear hK); (try simp only [ncCast] at *); (try simp only [castI_eq] at *); refine EqX.i ?_; (try rw [ho]); (try dsimp only [Ar.real, IX.vo, IX.val, BX.val, IX.toN]); (try simp only [castI_eq, ltB_eq, leB_eq, eqIB_eq, inBB_eq, eqNB_eq, leNB_eq, foldOff, foldOff_id, foldOff_frame, foldOff_agent, foldOff_at_, foldOff_end_, foldOff_how, foldPart, foldEv, foldPart_kind, foldPart_role, foldPart_amount, foldEv_kind, foldEv_frame, foldEv_id, foldEv_agent, foldEv_vec, fold_put]); (repeat rw [wrap_i64 (by omega) (by omega)]); omega) | exact EqO.map rfl (MT_nil ho encInt cleanInt c) | exact EqO.map rfl (MT_nil ho encEv cleanEv c) | exact ⟨rfl⟩), by cbv; repeat' (first | trivial | exact EqO.rfl' | apply And.intro | exact EqO.map rfl (MT_nil ho encInt cleanInt c) | exact EqO.map rfl (MT_nil ho encEv cleanEv c) | exact ⟨rfl⟩), by cbv; repeat' (first | trivial | exact EqO.rfl' | apply And.intro | exact EqO.map rfl (MT_nil ho encInt cleanInt c) | exact EqO.map rfl (MT_nil ho encEv cleanEv c) | exact ⟨rfl⟩)⟩
  · rintro ⟨i, s⟩ ⟨hi, hs, hok⟩ R hR
    dsimp only at hi hs hok
    have hnth : o.nth l i = l.getD i default := by rw [ho, real_nth]
    obtain ⟨f1, f2, f3, f4⟩ := stS_of l i hi
    rw [← hs] at f1 f2 f3 f4
    obtain ⟨s', hs'⟩ : ∃ q, q = nextS s (l.getD i default) := ⟨_, rfl⟩
    obtain ⟨b, hb'⟩ : ∃ q, q = nextB s (l.getD i default) := ⟨_, rfl⟩
    have hc := x_next o ho s (o.nth l i) (by rw [hnth]; exact hl.at_ i) (by omega) (by omega) (fun k a h => hl.vec a (f2 k a h)) (fun k a h => hl.vec a (f4 k a h))
    rw [hnth, ← hs', ← hb', ← hnth] at hc
    have hbk : okAt l i = b := by rw [hb', hs]; rfl
    have hsk : s' = stS l (i + 1) := by rw [hs', hs]; rfl
    have hbad := checkR_bad (l := l) (i := i)
    have hgood := checkR_good (l := l)
    clear hs hs' hb' f1 f2 f3 f4
    obtain ⟨⟨v1, ag, hn1⟩, ⟨v2, fr, hn2⟩, ⟨v3, of, hn3⟩, ⟨v4, tk, hn4⟩, n⟩ := s
    obtain ⟨⟨w1, ag', hm1⟩, ⟨w2, fr', hm2⟩, ⟨w3, of', hm3⟩, ⟨w4, tk', hm4⟩, n'⟩ := s'
    cbv
    repeat' (first | (refine Br.mk (fun hb => ?_) (fun hb => ?_) <;> ((try rw [ho] at hb); (try dsimp only [Ar.real, IX.vo] at hb); (try simp only [castI_eq, ltB_eq, leB_eq, eqIB_eq, inBB_eq, eqNB_eq, leNB_eq, foldOff, foldOff_id, foldOff_frame, foldOff_agent, foldOff_at_, foldOff_end_, foldOff_how, foldPart, foldEv, foldPart_kind, foldPart_role, foldPart_amount, foldEv_kind, foldEv_frame, foldEv_id, foldEv_agent, foldEv_vec, fold_put] at hb); (try simp only [decide_eq_true_eq, Int.ofNat_lt, Int.ofNat_le, decide_eq_false_iff_not, Nat.not_lt, Nat.not_le, Int.not_lt, Int.not_le, beq_iff_eq, beq_eq_false_iff_ne, ne_eq, Bool.not_eq_true, Bool.not_eq_false, Bool.not_eq_true', Bool.not_eq_false'] at hb))) | (refine hK _ _ ?_) | (refine NeedT.mk ?_ ?_) | refine CallN.objs [.loc 4, .loc 0, .loc 1, .loc 2, .loc 3] hP hc fn60 rfl rfl rfl rfl (by rfl) rfl rfl rfl rfl (by rfl) ⟨⟨_, rfl, rfl⟩, ⟨_, rfl, rfl⟩, ⟨_, rfl, rfl⟩, ⟨_, rfl, rfl⟩, ⟨_, rfl, rfl⟩, trivial⟩ ?_; cbv)
    any_goals (((try clear hR3); (try clear hR2); (try clear hR); (try clear hK); (try simp only [ncCast] at *); (try simp only [castI_eq] at *); (try rw [ho]); (try dsimp only [Ar.real, IX.vo, IX.val, BX.val, IX.toN]); (try simp only [castI_eq, ltB_eq, leB_eq, eqIB_eq, inBB_eq, eqNB_eq, leNB_eq, foldOff, foldOff_id, foldOff_frame, foldOff_agent, foldOff_at_, foldOff_end_, foldOff_how, foldPart, foldEv, foldPart_kind, foldPart_role, foldPart_amount, foldEv_kind, foldEv_frame, foldEv_id, foldEv_agent, foldEv_vec, fold_put]); (try simp only [decide_eq_true_eq, Int.ofNat_eq_natCast]); (all_goals (repeat rw [wrap_i64 (by omega) (by omega)])); (all_goals omega)); done)
    · have e := hbad (by assumption) hok (by rw [hbk]; exact ‹b = false›)
      rw [e]
      exact FinX.ibO rfl rfl
    · refine hR _ ⟨i + 1, _⟩ (by dsimp only; omega) ⟨by dsimp only; omega, hsk, fun j h => ?_⟩ ?_
      · dsimp only at h
        rcases Nat.lt_or_ge j i with h3 | h3
        · exact hok j h3
        · obtain rfl : j = i := by omega
          rw [hbk]; exact ‹b = true›
      · refine ⟨rfl, by cbv; repeat' (first | trivial | exact EqX.rfl' | exact EqO.rfl' | apply And.intro | ((try clear hR3); (try clear hR2); (try clear hR); (try clear hK); (try simp only [ncCast] at *); (try simp only [castI_eq] at *); refine EqX.i ?_; (try rw [ho]); (try dsimp only [Ar.real, IX.vo, IX.val, BX.val, IX.toN]); (try simp only [castI_eq, ltB_eq, leB_eq, eqIB_eq, inBB_eq, eqNB_eq, leNB_eq, foldOff, foldOff_id, foldOff_frame, foldOff_agent, foldOff_at_, foldOff_end_, foldOff_how, foldPart, foldEv, foldPart_kind, foldPart_role, foldPart_amount, foldEv_kind, foldEv_frame, foldEv_id, foldEv_agent, foldEv_vec, fold_put]); (repeat rw [wrap_i64 (by omega) (by omega)]); omega)), by cbv; repeat' (first | trivial | exact EqO.rfl' | apply And.intro), by cbv; repeat' (first | trivial | exact EqO.rfl' | apply And.intro)⟩
    · have e := hgood fun j hj => hok j (by omega)
      rw [e]
      refine FinX.ibO ?_ rfl
      ((try clear hR3); (try clear hR2); (try clear hR); (try clear hK); (try simp only [ncCast] at *); (try simp only [castI_eq] at *); (try rw [ho]); (try dsimp only [Ar.real, IX.vo, IX.val, BX.val, IX.toN]); (try simp only [castI_eq, ltB_eq, leB_eq, eqIB_eq, inBB_eq, eqNB_eq, leNB_eq, foldOff, foldOff_id, foldOff_frame, foldOff_agent, foldOff_at_, foldOff_end_, foldOff_how, foldPart, foldEv, foldPart_kind, foldPart_role, foldPart_amount, foldEv_kind, foldEv_frame, foldEv_id, foldEv_agent, foldEv_vec, fold_put]))
end Go.Proofs.Ytddgcegimmcbgaa.Sy

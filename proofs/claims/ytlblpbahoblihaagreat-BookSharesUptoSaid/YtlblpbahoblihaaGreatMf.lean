/-
  Books, the document's answers: configs, numbers, whose a vector is. Plain theorems.
-/
import Derived.Test.YtlblpbahoblihaaGreatMe
set_option linter.unusedSectionVars false
set_option maxRecDepth 100000
set_option maxHeartbeats 8000000
set_option linter.unusedVariables false
set_option linter.unusedSimpArgs false
namespace Go.Proofs.YtlblpbahoblihaaGreat.Sy
open Go Go.Sy Go.Proofs.YtlblpbahoblihaaGreat
theorem x_r13within (x y z : Int) : XC Tryz.prog 45 [xi x, xi y, xi z] [] (xb (wthB x y z)) [] := by
  (refine XC.of_body ([]) Tryz.func45 rfl Tryz.ntmps45 mixed (T := tl45) tk45 (by kernel_rfl) (by simp) rfl rfl rfl rfl rfl ?_; rintro o ho P hP c K hK; have hm : P.follows .mixedOrders = true := hP ▸ mixed; have hT : TOk P tl45 := hP ▸ tk45; (try rw [← ho]); cbv; (repeat (refine StopN.mk ?_; cbv)))
  repeat' (first | (refine Br.mk (fun hb => ?_) (fun hb => ?_) <;> ((try rw [ho] at hb); (try dsimp only [Ar.real, IX.vo] at hb); (try simp only [QP1, QB7] at hb); (try simp only [QBo, beq_iff_eq, beq_eq_false_iff_ne, ne_eq] at hb))) | (refine StopN.mk ?_; cbv) | (refine hK _ _ ?_) | (refine NeedT.mk ?_ ?_))
  all_goals
    refine .b ?_
    unfold wthB
    ((try clear hR3); (try clear hR2); (try clear hR); (try clear hK); (try simp only [ncCast] at *); (try simp only [castI_eq] at *); (try rw [ho]); (try dsimp only [Ar.real, IX.vo, IX.val, BX.val, IX.toN]); (try simp only [QP1, QB7]))
    simp [*]
  all_goals omega
theorem x_r16id (x : Int) : XC Tryz.prog 46 [xi x] [] (xb (numB x)) [] := by
  (refine XC.of_body ([]) Tryz.func46 rfl Tryz.ntmps46 mixed (T := tl46) tk46 (by kernel_rfl) (by simp) rfl rfl rfl rfl rfl ?_; rintro o ho P hP c K hK; have hm : P.follows .mixedOrders = true := hP ▸ mixed; have hT : TOk P tl46 := hP ▸ tk46; (try rw [← ho]); cbv; (repeat (refine StopN.mk ?_; cbv)))
  repeat' (first | (refine Br.mk (fun hb => ?_) (fun hb => ?_) <;> ((try rw [ho] at hb); (try dsimp only [Ar.real, IX.vo] at hb); (try simp only [QP1, QB7] at hb); (try simp only [QBo, beq_iff_eq, beq_eq_false_iff_ne, ne_eq] at hb))) | (refine StopN.mk ?_; cbv) | (refine hK _ _ ?_) | (refine NeedT.mk ?_ ?_))
  all_goals
    refine .b ?_
    unfold numB
    ((try clear hR3); (try clear hR2); (try clear hR); (try clear hK); (try simp only [ncCast] at *); (try simp only [castI_eq] at *); (try rw [ho]); (try dsimp only [Ar.real, IX.vo, IX.val, BX.val, IX.toN]); (try simp only [QP1, QB7]))
    simp [*]
  all_goals omega
theorem x_r13Right (c : Cfg) : XC Tryz.prog 19 [.agg (Cfg.X Ar.real c)] [] (xb (cfgB c)) [] := by
  have hw := fun x => x_r13within x 0 9007199254740992
  have h1 := hw c.min.a
  have h2 := hw c.min.b
  have h3 := hw c.min.c
  have h4 := hw c.min.d
  have h5 := hw c.hor
  have h6 := x_r13within c.most 1 9007199254740992
  have h7 := hw c.ids
  have h8 := hw c.life
  clear hw
  have hr : cfgB c = (wthB c.min.a 0 9007199254740992 && (wthB c.min.b 0 9007199254740992 && (wthB c.min.c 0 9007199254740992 && wthB c.min.d 0 9007199254740992)) && (wthB c.hor 0 9007199254740992 && (wthB c.most 1 9007199254740992 && (wthB c.ids 0 9007199254740992 && (wthB c.life 0 9007199254740992 && (decide (1 ≤ c.cap) && decide (c.cap ≤ 4096))))))) := rfl
  generalize wthB c.min.a 0 9007199254740992 = b1 at *
  generalize wthB c.min.b 0 9007199254740992 = b2 at *
  generalize wthB c.min.c 0 9007199254740992 = b3 at *
  generalize wthB c.min.d 0 9007199254740992 = b4 at *
  generalize wthB c.hor 0 9007199254740992 = b5 at *
  generalize wthB c.most 1 9007199254740992 = b6 at *
  generalize wthB c.ids 0 9007199254740992 = b7 at *
  generalize wthB c.life 0 9007199254740992 = b8 at *
  generalize cfgB c = r at *
  obtain ⟨c1, c2, c3, c4, c5, ⟨m1, m2, m3, m4⟩⟩ := c
  dsimp only at *
  (refine XC.of_body ([]) Tryz.func19 rfl Tryz.ntmps19 mixed (T := tl19) tk19 (by kernel_rfl) (by simp) rfl rfl rfl rfl rfl ?_; rintro o ho P hP c K hK; have hm : P.follows .mixedOrders = true := hP ▸ mixed; have hT : TOk P tl19 := hP ▸ tk19; (try rw [← ho]); cbv; (repeat (refine StopN.mk ?_; cbv)))
  repeat' (first | (refine Br.mk (fun hb => ?_) (fun hb => ?_) <;> ((try rw [ho] at hb); (try dsimp only [Ar.real, IX.vo] at hb); (try simp only [QP1, QB7] at hb); (try simp only [QBo, beq_iff_eq, beq_eq_false_iff_ne, ne_eq] at hb))) | (refine StopN.mk ?_; cbv) | (first | refine NeedT.mk (by rw [ho]; rfl) ?_ | (first | refine CallI.pure hP h1 fn45 rfl rfl rfl ?_ | refine CallI.pure hP h2 fn45 rfl rfl rfl ?_ | refine CallI.pure hP h3 fn45 rfl rfl rfl ?_ | refine CallI.pure hP h4 fn45 rfl rfl rfl ?_ | refine CallI.pure hP h5 fn45 rfl rfl rfl ?_ | refine CallI.pure hP h6 fn45 rfl rfl rfl ?_ | refine CallI.pure hP h7 fn45 rfl rfl rfl ?_ | refine CallI.pure hP h8 fn45 rfl rfl rfl ?_); cbv) | (refine hK _ _ ?_) | (refine NeedT.mk ?_ ?_) | (refine LoopN.lay (o := o) (D := []) 6 ho hm hT (by kernel_rfl) ?_; cbv))
  all_goals
    clear h1 h2 h3 h4 h5 h6 h7 h8
    refine .b ?_
    rw [hr]
    ((try clear hR3); (try clear hR2); (try clear hR); (try clear hK); (try simp only [ncCast] at *); (try simp only [castI_eq] at *); (try rw [ho]); (try dsimp only [Ar.real, IX.vo, IX.val, BX.val, IX.toN]); (try simp only [QP1, QB7]))
    simp [*]
  all_goals omega
def ownB (v : List Part) (r : Int) : Bool := (nextAt (fun i => decide ((v.getD i default).role ≠ 0) && decide ((v.getD i default).role ≠ r)) 0 v.length).isNone && (decide (0 < v.length) && vecRight v)
theorem x_r16own (v : List Part) (r : Int) (hv : v.length ≤ 1048576) : XC Tryz.prog 49 [.ro (SL Ar.real Part.X v), xi r] [] (xb (ownB v r)) [] := by
  have h1 := x_r05Right v hv
  have q0 : ∀ i, i < v.length → ¬ (v.getD i default).role = 0 → ¬ (v.getD i default).role = r → ownB v r = false := fun i hi h h' => by
    unfold ownB
    have : (nextAt (fun i => decide ((v.getD i default).role ≠ 0) && decide ((v.getD i default).role ≠ r)) 0 v.length).isNone = false := by
      cases e : (nextAt (fun i => decide ((v.getD i default).role ≠ 0) && decide ((v.getD i default).role ≠ r)) 0 v.length).isNone with
      | false => rfl
      | true =>
        have := nextAt_isNone.1 e i hi
        rw [decide_eq_true h, decide_eq_true h'] at this
        cases this
    rw [this]
    rfl
  have q1 : (∀ i, i < v.length → (v.getD i default).role = 0 ∨ (v.getD i default).role = r) → ownB v r = (decide (0 < v.length) && vecRight v) := fun h => by
    unfold ownB
    rw [nextAt_isNone.2 fun i hi => ?_, Bool.true_and]
    rcases h i hi with e | e
    · rw [decide_eq_false (fun h => h e)]
      rfl
    · rw [decide_eq_false (p := (v.getD i default).role ≠ r) (fun h => h e), Bool.and_false]
  generalize ownB v r = res at *
  generalize vecRight v = vr at *
  (refine XC.of_body ([]) Tryz.func49 rfl Tryz.ntmps49 mixed (T := tl49) tk49 (by kernel_rfl) (by simp) rfl rfl rfl rfl rfl ?_; rintro o ho P hP c K hK; have hm : P.follows .mixedOrders = true := hP ▸ mixed; have hT : TOk P tl49 := hP ▸ tk49; (try rw [← ho]); cbv; (repeat (refine StopN.mk ?_; cbv)))
  rw [← ho] at h1
  refine LoopN.over (o := o) (D := []) ho hm hT (by kernel_rfl) (fun i : Nat => [(5, xn i)]) (fun _ => []) (fun _ => []) (fun i => i ≤ v.length ∧ ∀ j, j < i → (v.getD j default).role = 0 ∨ (v.getD j default).role = r) (fun i => v.length - i) 0 ⟨Nat.zero_le _, fun j hj => absurd hj (Nat.not_lt_zero j)⟩ ?_ ?_
  · (refine ⟨?_, ?_, ?_, ?_⟩ <;> cbv <;> repeat' (first | trivial | exact EqX.rfl' | exact EqO.rfl' | apply And.intro | ((try clear hR3); (try clear hR2); (try clear hR); (try clear hK); (try simp only [ncCast] at *); (try simp only [castI_eq] at *); refine EqX.i ?_; (try rw [ho]); (try dsimp only [Ar.real, IX.vo, IX.val, BX.val, IX.toN]); (try simp only [QP1, QB7]); (repeat rw [wrap_i64 (by omega) (by omega)]); omega)))
  · rintro i ⟨hi, hno⟩ R hR
    have q2 := q0 i
    cbv
    repeat' (first | (refine Br.mk (fun hb => ?_) (fun hb => ?_) <;> ((try rw [ho] at hb); (try dsimp only [Ar.real, IX.vo] at hb); (try simp only [QP1, QB7] at hb); (try simp only [QBo, beq_iff_eq, beq_eq_false_iff_ne, ne_eq] at hb))) | (refine StopN.mk ?_; cbv) | (refine CallI.pure hP h1 fn47 rfl rfl rfl ?_; cbv) | (refine hK _ _ ?_) | (refine NeedT.mk ?_ ?_))
    any_goals (((try clear hR3); (try clear hR2); (try clear hR); (try clear hK); (try simp only [ncCast] at *); (try simp only [castI_eq] at *); (try rw [ho]); (try dsimp only [Ar.real, IX.vo, IX.val, BX.val, IX.toN]); (try simp only [QP1, QB7]); (try simp only [decide_eq_true_eq]); (all_goals (repeat rw [wrap_i64 (by omega) (by omega)])); (all_goals (first | omega | (simp only [Int.ofNat_eq_natCast]; omega)))); done)
    · rw [q2 (by assumption) (by assumption) (by assumption)]
      exact .b rfl
    · refine hR _ (i + 1) (by show v.length - (i + 1) < v.length - i; omega) ⟨by show i + 1 ≤ v.length; omega, all_step hno (.inr (by assumption))⟩ ?_
      (refine ⟨?_, ?_, ?_, ?_⟩ <;> cbv <;> repeat' (first | trivial | exact EqX.rfl' | exact EqO.rfl' | apply And.intro | ((try clear hR3); (try clear hR2); (try clear hR); (try clear hK); (try simp only [ncCast] at *); (try simp only [castI_eq] at *); refine EqX.i ?_; (try rw [ho]); (try dsimp only [Ar.real, IX.vo, IX.val, BX.val, IX.toN]); (try simp only [QP1, QB7]); (repeat rw [wrap_i64 (by omega) (by omega)]); omega)))
    · refine hR _ (i + 1) (by show v.length - (i + 1) < v.length - i; omega) ⟨by show i + 1 ≤ v.length; omega, all_step hno (.inl (by assumption))⟩ ?_
      (refine ⟨?_, ?_, ?_, ?_⟩ <;> cbv <;> repeat' (first | trivial | exact EqX.rfl' | exact EqO.rfl' | apply And.intro | ((try clear hR3); (try clear hR2); (try clear hR); (try clear hK); (try simp only [ncCast] at *); (try simp only [castI_eq] at *); refine EqX.i ?_; (try rw [ho]); (try dsimp only [Ar.real, IX.vo, IX.val, BX.val, IX.toN]); (try simp only [QP1, QB7]); (repeat rw [wrap_i64 (by omega) (by omega)]); omega)))
    · have h0 : 0 < v.length := by ((try clear hR3); (try clear hR2); (try clear hR); (try clear hK); (try simp only [ncCast] at *); (try simp only [castI_eq] at *)); omega
      rw [q1 fun j hj => hno j (by omega), decide_eq_true h0, Bool.true_and]
      exact .b rfl
    · have h0 : ¬ 0 < v.length := by ((try clear hR3); (try clear hR2); (try clear hR); (try clear hK); (try simp only [ncCast] at *); (try simp only [castI_eq] at *)); omega
      rw [q1 fun j hj => hno j (by omega), decide_eq_false h0, Bool.false_and]
      exact .b rfl
end Go.Proofs.YtlblpbahoblihaaGreat.Sy
namespace Go.Proofs.YtlblpbahoblihaaGreat.Sy
open Go Go.Sy Go.Proofs.YtlblpbahoblihaaGreat
theorem x_r16agents (b : Bk) (hbk : BkOk b) : XC Tryz.prog 21 [.agg (Bk.X Ar.real b)] [] (xb (agentsB b)) [] := by
  have hn0 := hbk.n_ag
  have q0 : ∀ i, i < b.ag.length → ¬ AgtOk b.ag i → agentsB b = false := fun i hi h => pB_f fun h2 => h (h2.1 i hi)
  have q1 : (∀ i, i < b.ag.length → AgtOk b.ag i) → agentsB b = decide ((b.ag.length : Int) ≤ b.cfg.cap) := fun h => pB_and h
  have hv1 := fun i => x_r05Right (b.ag.getD i default).total (hbk.a1 i)
  have hv2 := fun i => x_r05Right (b.ag.getD i default).free (hbk.a2 i)
  have l1 := hbk.a1
  generalize agentsB b = r at *
  obtain ⟨⟨c1, c2, c3, c4, c5, ⟨c6, c7, c8, c9⟩⟩, now, last, fr, ag, of, tk, fl⟩ := b
  dsimp only at *
  clear hbk
  (refine XC.of_body (dt21) Tryz.func21 rfl Tryz.ntmps21 mixed (T := tl21) tk21 (by kernel_rfl) (by simp) rfl rfl rfl rfl rfl ?_; rintro o ho P hP c K hK; have hm : P.follows .mixedOrders = true := hP ▸ mixed; have hT : TOk P tl21 := hP ▸ tk21; (try rw [← ho]); cbv; (repeat (refine StopN.mk ?_; cbv)))
  refine LoopN.over (o := o) (D := dt21) ho hm hT (by kernel_rfl) (fun i : Nat => [(3, xn i)]) (fun _ => []) (fun _ => []) (fun i => i ≤ ag.length ∧ ∀ j, j < i → AgtOk ag j) (fun i => ag.length - i) 0 ⟨Nat.zero_le _, fun j hj => absurd hj (Nat.not_lt_zero j)⟩ ?_ ?_
  · (refine ⟨?_, ?_, ?_, ?_⟩ <;> cbv <;> repeat' (first | trivial | exact EqX.rfl' | exact EqO.rfl' | apply And.intro | ((try clear hR3); (try clear hR2); (try clear hR); (try clear hK); (try simp only [ncCast] at *); (try simp only [castI_eq] at *); refine EqX.i ?_; (try rw [ho]); (try dsimp only [Ar.real, IX.vo, IX.val, BX.val, IX.toN]); (try simp only [QP1, QB7]); (repeat rw [wrap_i64 (by omega) (by omega)]); omega)))
  · rintro i ⟨hi, hok⟩ R hR
    have hN := x_r16id (ag.getD i default).id
    have hV1 := hv1 i
    have hV2 := hv2 i
    have hl1 := l1 i
    have ei : o.nth ag i = ag.getD i default := by rw [ho, real_nth]
    have q2 := q0 i
    have F1 : i < ag.length → numB (ag.getD i default).id = false → r = false := fun hl h => q2 hl fun k => by rw [k.id] at h; cases h
    have F2 : i < ag.length → (0 : Int) < i → (ag.getD i default).id ≤ (ag.getD (IntKind.i64.wrap ((i : Int) - 1)).toNat default).id → r = false := fun hl h h' => q2 hl fun k => by
      have := k.up (by omega)
      rw [prev_eq h (by omega)] at h'
      omega
    have F3 : i < ag.length → ((ag.getD i default).total.length : Int) = 0 → r = false := fun hl h => q2 hl fun k => by have := k.pos; omega
    have F4 : i < ag.length → vecRight (ag.getD i default).total = false → r = false := fun hl h => q2 hl fun k => by rw [k.tot] at h; cases h
    have F5 : i < ag.length → vecRight (ag.getD i default).free = false → r = false := fun hl h => q2 hl fun k => by rw [k.fre] at h; cases h
    have F0 : numB (ag.getD i default).id = true → ((0 : Int) < i → (ag.getD (IntKind.i64.wrap ((i : Int) - 1)).toNat default).id < (ag.getD i default).id) → ¬ ((ag.getD i default).total.length : Int) = 0 → vecRight (ag.getD i default).total = true → vecRight (ag.getD i default).free = true → i < ag.length → AgtOk ag i := fun a1 a2 a3 a4 a5 hl => ⟨a1, fun h => by
      have := a2 (by omega)
      rw [prev_eq (by omega) (by omega)] at this
      exact this, by omega, a4, a5⟩
    generalize numB (ag.getD i default).id = n1 at *
    generalize vecRight (ag.getD i default).total = v1 at *
    generalize vecRight (ag.getD i default).free = v2 at *
    rw [← ei] at hN
    rw [← ei, ← ho] at hV1 hV2
    cbv
    repeat' (first | (refine Br.mk (fun hb => ?_) (fun hb => ?_) <;> ((try rw [ho] at hb); (try dsimp only [Ar.real, IX.vo] at hb); (try simp only [QP1, QB7] at hb); (try simp only [QBo, beq_iff_eq, beq_eq_false_iff_ne, ne_eq] at hb))) | (refine StopN.mk ?_; cbv) | ((first | refine CallN.pure hP hN fn46 rfl rfl rfl ?_ | refine CallN.pure hP hV1 fn47 rfl rfl rfl ?_ | refine CallN.pure hP hV2 fn47 rfl rfl rfl ?_); cbv) | (refine hK _ _ ?_) | (refine NeedT.mk ?_ ?_))
    all_goals (try (((try clear hR3); (try clear hR2); (try clear hR); (try clear hK); (try simp only [ncCast] at *); (try simp only [castI_eq] at *); (try rw [ho]); (try dsimp only [Ar.real, IX.vo, IX.val, BX.val, IX.toN]); (try simp only [QP1, QB7]); (try simp only [decide_eq_true_eq]); (all_goals (repeat rw [wrap_i64 (by omega) (by omega)])); (all_goals (first | omega | (simp only [Int.ofNat_eq_natCast]; omega)))); done))
    all_goals try first
      | (rw [F1 (by assumption) (by assumption)]; exact .b rfl)
      | (rw [F2 (by assumption) (by assumption) (by assumption)]; exact .b rfl)
      | (rw [F3 (by assumption) (by assumption)]; exact .b rfl)
      | (rw [F4 (by assumption) (by assumption)]; exact .b rfl)
      | (rw [F5 (by assumption) (by assumption)]; exact .b rfl)
    all_goals
      by_cases hlt : i < ag.length
      · first
          | (exfalso; clear hR; omega)
          | (have hk : AgtOk ag i := by
               refine F0 (by assumption) ?_ (by assumption) (by assumption) (by assumption) hlt
               intro h0
               first | assumption | exact absurd h0 (Int.not_lt.2 (by assumption))
             refine hR _ (i + 1) (by show ag.length - (i + 1) < ag.length - i; omega) ⟨by show i + 1 ≤ ag.length; omega, all_step hok hk⟩ ?_
             (refine ⟨?_, ?_, ?_, ?_⟩ <;> cbv <;> repeat' (first | trivial | exact EqX.rfl' | exact EqO.rfl' | apply And.intro | ((try clear hR3); (try clear hR2); (try clear hR); (try clear hK); (try simp only [ncCast] at *); (try simp only [castI_eq] at *); refine EqX.i ?_; (try rw [ho]); (try dsimp only [Ar.real, IX.vo, IX.val, BX.val, IX.toN]); (try simp only [QP1, QB7]); (repeat rw [wrap_i64 (by omega) (by omega)]); omega))))
      · first
          | (exfalso; clear hR; omega)
          | (have hie : i = ag.length := by clear hR; omega
             subst hie
             rw [q1 hok]
             refine .b ?_
             ((try clear hR3); (try clear hR2); (try clear hR); (try clear hK); (try simp only [ncCast] at *); (try simp only [castI_eq] at *); (try rw [ho]); (try dsimp only [Ar.real, IX.vo, IX.val, BX.val, IX.toN]); (try simp only [QP1, QB7])))
theorem x_r16frames (b : Bk) (hbk : BkOk b) : XC Tryz.prog 20 [.agg (Bk.X Ar.real b)] [] (xb (framesB b)) [] := by
  have hn0 := hbk.n_fr
  have q0 : ∀ i, i < b.fr.length → ¬ FrmOk b.fr i → framesB b = false := fun i hi h => pB_f fun h2 => h (h2.1 i hi)
  have q1 : (∀ i, i < b.fr.length → FrmOk b.fr i) → framesB b = decide ((b.fr.length : Int) ≤ b.cfg.cap) := fun h => pB_and h
  generalize framesB b = r at *
  obtain ⟨⟨c1, c2, c3, c4, c5, ⟨c6, c7, c8, c9⟩⟩, now, last, fr, ag, of, tk, fl⟩ := b
  dsimp only at *
  clear hbk
  (refine XC.of_body (dt20) Tryz.func20 rfl Tryz.ntmps20 mixed (T := tl20) tk20 (by kernel_rfl) (by simp) rfl rfl rfl rfl rfl ?_; rintro o ho P hP c K hK; have hm : P.follows .mixedOrders = true := hP ▸ mixed; have hT : TOk P tl20 := hP ▸ tk20; (try rw [← ho]); cbv; (repeat (refine StopN.mk ?_; cbv)))
  refine LoopN.over (o := o) (D := dt20) ho hm hT (by kernel_rfl) (fun i : Nat => [(3, xn i)]) (fun _ => []) (fun _ => []) (fun i => i ≤ fr.length ∧ ∀ j, j < i → FrmOk fr j) (fun i => fr.length - i) 0 ⟨Nat.zero_le _, fun j hj => absurd hj (Nat.not_lt_zero j)⟩ ?_ ?_
  · (refine ⟨?_, ?_, ?_, ?_⟩ <;> cbv <;> repeat' (first | trivial | exact EqX.rfl' | exact EqO.rfl' | apply And.intro | ((try clear hR3); (try clear hR2); (try clear hR); (try clear hK); (try simp only [ncCast] at *); (try simp only [castI_eq] at *); refine EqX.i ?_; (try rw [ho]); (try dsimp only [Ar.real, IX.vo, IX.val, BX.val, IX.toN]); (try simp only [QP1, QB7]); (repeat rw [wrap_i64 (by omega) (by omega)]); omega)))
  · rintro i ⟨hi, hok⟩ R hR
    have hN := x_r16id (fr.getD i default).id
    have ei : o.nth fr i = fr.getD i default := by rw [ho, real_nth]
    have q2 := q0 i
    have F1 : i < fr.length → numB (fr.getD i default).id = false → r = false := fun hl h => q2 hl fun k => by rw [k.id] at h; cases h
    have F2 : i < fr.length → (0 : Int) < i → (fr.getD i default).id ≤ (fr.getD (IntKind.i64.wrap ((i : Int) - 1)).toNat default).id → r = false := fun hl h h' => q2 hl fun k => by
      have := k.up (by omega)
      rw [prev_eq h (by omega)] at h'
      omega
    have F3 : i < fr.length → (fr.getD i default).time < 0 → r = false := fun hl h => q2 hl fun k => by
      rcases k.tm with e | e
      · omega
      · have := (Bool.and_eq_true _ _).mp e
        have := of_decide_eq_true this.1
        omega
    have F4 : i < fr.length → 9007199254740992 < (fr.getD i default).time → r = false := fun hl h => q2 hl fun k => by
      rcases k.tm with e | e
      · omega
      · have := (Bool.and_eq_true _ _).mp e
        have := of_decide_eq_true this.2
        omega
    have F5 : i < fr.length → (fr.getD i default).role < 1 → r = false := fun hl h => q2 hl fun k => by have := k.r0; omega
    have F6 : i < fr.length → 32 < (fr.getD i default).role → r = false := fun hl h => q2 hl fun k => by have := k.r1; omega
    have F7 : i < fr.length → (fr.getD i default).weight < 1 → r = false := fun hl h => q2 hl fun k => by have := k.w0; omega
    have F8 : i < fr.length → 1000 < (fr.getD i default).weight → r = false := fun hl h => q2 hl fun k => by have := k.w1; omega
    have F9 : i < fr.length → (fr.getD i default).til < 0 → r = false := fun hl h => q2 hl fun k => by have := k.u0; omega
    have F10 : i < fr.length → 18014398509481984 < (fr.getD i default).til → r = false := fun hl h => q2 hl fun k => by have := k.u1; omega
    have F11 : i < fr.length → (fr.getD i default).up = true → ¬ (fr.getD i default).til = 0 → r = false := fun hl h h' => q2 hl fun k => by have h1 := k.u2 h; have h2 := k.u0; omega
    have F12 : i < fr.length → ∀ k, k < i → (fr.getD k default).role = (fr.getD i default).role → ¬ (fr.getD k default).weight = (fr.getD i default).weight → r = false := fun hl k hk h1 h2 => q2 hl fun h => h2 (clashB_false.1 h.cl k hk h1)
    have F0 : numB (fr.getD i default).id = true → ((0 : Int) < i → (fr.getD (IntKind.i64.wrap ((i : Int) - 1)).toNat default).id < (fr.getD i default).id) → 0 ≤ (fr.getD i default).time → (fr.getD i default).time ≤ 9007199254740992 → 1 ≤ (fr.getD i default).role → (fr.getD i default).role ≤ 32 → 1 ≤ (fr.getD i default).weight → (fr.getD i default).weight ≤ 1000 →
        0 ≤ (fr.getD i default).til → (fr.getD i default).til ≤ 18014398509481984 → ((fr.getD i default).up = true → (fr.getD i default).til = 0) → i < fr.length → (∀ k, k < i → (fr.getD k default).role = (fr.getD i default).role → (fr.getD k default).weight = (fr.getD i default).weight) → FrmOk fr i := fun a1 a2 a3 a4 a5 a6 a7 a8 a9 a10 a11 hl a12 => ⟨a1, fun h => by
      have := a2 (by omega)
      rw [prev_eq (by omega) (by omega)] at this
      exact this, by
        by_cases h : (fr.getD i default).time = 0
        · exact .inl h
        · refine .inr ((Bool.and_eq_true _ _).mpr ⟨decide_eq_true (by omega), decide_eq_true a4⟩), a5, a6, clashB_false.2 a12, a7, a8, a9, a10, fun h => by rw [a11 h]; exact Int.le_refl 0⟩
    generalize numB (fr.getD i default).id = n1 at *
    rw [← ei] at hN
    cbv
    repeat' (first | (refine Br.mk (fun hb => ?_) (fun hb => ?_) <;> ((try rw [ho] at hb); (try dsimp only [Ar.real, IX.vo] at hb); (try simp only [QP1, QB7] at hb); (try simp only [QBo, beq_iff_eq, beq_eq_false_iff_ne, ne_eq] at hb))) | (refine StopN.mk ?_; cbv) | (refine CallN.pure hP hN fn46 rfl rfl rfl ?_; cbv) | (refine hK _ _ ?_) | (refine NeedT.mk ?_ ?_))
    all_goals (try (((try clear hR3); (try clear hR2); (try clear hR); (try clear hK); (try simp only [ncCast] at *); (try simp only [castI_eq] at *); (try rw [ho]); (try dsimp only [Ar.real, IX.vo, IX.val, BX.val, IX.toN]); (try simp only [QP1, QB7]); (try simp only [decide_eq_true_eq]); (all_goals (repeat rw [wrap_i64 (by omega) (by omega)])); (all_goals (first | omega | (simp only [Int.ofNat_eq_natCast]; omega)))); done))
    all_goals try first
      | (rw [F1 (by assumption) (by assumption)]; exact .b rfl)
      | (rw [F2 (by assumption) (by assumption) (by assumption)]; exact .b rfl)
      | (rw [F3 (by assumption) (by assumption)]; exact .b rfl)
      | (rw [F4 (by assumption) (by assumption)]; exact .b rfl)
      | (rw [F5 (by assumption) (by assumption)]; exact .b rfl)
      | (rw [F6 (by assumption) (by assumption)]; exact .b rfl)
      | (rw [F7 (by assumption) (by assumption)]; exact .b rfl)
      | (rw [F8 (by assumption) (by assumption)]; exact .b rfl)
      | (rw [F9 (by assumption) (by assumption)]; exact .b rfl)
      | (rw [F10 (by assumption) (by assumption)]; exact .b rfl)
      | (rw [F11 (by assumption) (by assumption) (by assumption)]; exact .b rfl)
    all_goals try (rw [q1 (fun j hj => hok j (Nat.lt_of_lt_of_le hj ‹fr.length ≤ i›))]; refine .b ?_; ((try clear hR3); (try clear hR2); (try clear hR); (try clear hK); (try simp only [ncCast] at *); (try simp only [castI_eq] at *); (try rw [ho]); (try dsimp only [Ar.real, IX.vo, IX.val, BX.val, IX.toN]); (try simp only [QP1, QB7])); done)
    all_goals
      have hl : i < fr.length := by assumption
      have F12 := F12 hl
      have hk : (∀ k, k < i → (fr.getD k default).role = (fr.getD i default).role → (fr.getD k default).weight = (fr.getD i default).weight) → FrmOk fr i := fun h => by
        refine F0 (by assumption) ?_ (by assumption) (by assumption) (by assumption) (by assumption) (by assumption) (by assumption) (by assumption) (by assumption) ?_ hl h
        · intro h0
          first | assumption | exact absurd h0 (Int.not_lt.2 (by assumption))
        · intro h0
          first | assumption | exact absurd (h0.symm.trans (show (fr.getD i default).up = false by assumption)) (by decide)
      clear F0 F1 F2 F3 F4 F5 F6 F7 F8 F9 F10 F11
      refine LoopN.over (o := o) (D := dt20) ho hm hT (by kernel_rfl) (fun k : Nat => [(5, xn k)]) (fun _ => []) (fun _ => []) (fun k => k ≤ i ∧ ∀ m, m < k → (fr.getD m default).role = (fr.getD i default).role → (fr.getD m default).weight = (fr.getD i default).weight) (fun k => i - k) 0 ⟨Nat.zero_le _, fun m hm => absurd hm (Nat.not_lt_zero m)⟩ ?_ ?_
      · (refine ⟨?_, ?_, ?_, ?_⟩ <;> cbv <;> repeat' (first | trivial | exact EqX.rfl' | exact EqO.rfl' | apply And.intro | ((try clear hR3); (try clear hR2); (try clear hR); (try clear hK); (try simp only [ncCast] at *); (try simp only [castI_eq] at *); refine EqX.i ?_; (try rw [ho]); (try dsimp only [Ar.real, IX.vo, IX.val, BX.val, IX.toN]); (try simp only [QP1, QB7]); (repeat rw [wrap_i64 (by omega) (by omega)]); omega)))
      · rintro k ⟨hki, hno⟩ R2 hR2
        have F13 := F12 k
        cbv
        repeat' (first | (refine Br.mk (fun hb => ?_) (fun hb => ?_) <;> ((try rw [ho] at hb); (try dsimp only [Ar.real, IX.vo] at hb); (try simp only [QP1, QB7] at hb); (try simp only [QBo, beq_iff_eq, beq_eq_false_iff_ne, ne_eq] at hb))) | (refine StopN.mk ?_; cbv) | ((first | refine CallI.pure hP (x_r16id _) fn46 (by first | rfl | (rw [ho]; try rfl)) (by rfl) (by first | rfl | (rw [ho]; try rfl)) ?_ | refine CallN.pure hP (x_r16id _) fn46 (by first | rfl | (rw [ho]; try rfl)) (by rfl) (by first | rfl | (rw [ho]; try rfl)) ?_); (try rw [← ho]); generalize hr : numB _ = r; (try rw [ho] at hr); (try dsimp only [Ar.real, IX.vo] at hr); (try simp only [QP1, QB7] at hr); cbv) | (refine hK _ _ ?_) | (refine NeedT.mk ?_ ?_))
        all_goals (try (((try clear hR3); (try clear hR2); (try clear hR); (try clear hK); (try simp only [ncCast] at *); (try simp only [castI_eq] at *); (try rw [ho]); (try dsimp only [Ar.real, IX.vo, IX.val, BX.val, IX.toN]); (try simp only [QP1, QB7]); (try simp only [decide_eq_true_eq]); (all_goals (repeat rw [wrap_i64 (by omega) (by omega)])); (all_goals (first | omega | (simp only [Int.ofNat_eq_natCast]; omega)))); done))
        all_goals first
          | (rw [F13 (by assumption) (by assumption) (by assumption)]
             exact .b rfl)
          | (refine hR2 _ (k + 1) (by show i - (k + 1) < i - k; omega) ⟨by show k + 1 ≤ i; omega, all_step hno fun _ => by assumption⟩ ?_
             clear hk
             (refine ⟨?_, ?_, ?_, ?_⟩ <;> cbv <;> repeat' (first | trivial | exact EqX.rfl' | exact EqO.rfl' | apply And.intro | ((try clear hR3); (try clear hR2); (try clear hR); (try clear hK); (try simp only [ncCast] at *); (try simp only [castI_eq] at *); refine EqX.i ?_; (try rw [ho]); (try dsimp only [Ar.real, IX.vo, IX.val, BX.val, IX.toN]); (try simp only [QP1, QB7]); (repeat rw [wrap_i64 (by omega) (by omega)]); omega))))
          | (refine hR2 _ (k + 1) (by show i - (k + 1) < i - k; omega) ⟨by show k + 1 ≤ i; omega, all_step hno fun h => absurd h (by assumption)⟩ ?_
             clear hk
             (refine ⟨?_, ?_, ?_, ?_⟩ <;> cbv <;> repeat' (first | trivial | exact EqX.rfl' | exact EqO.rfl' | apply And.intro | ((try clear hR3); (try clear hR2); (try clear hR); (try clear hK); (try simp only [ncCast] at *); (try simp only [castI_eq] at *); refine EqX.i ?_; (try rw [ho]); (try dsimp only [Ar.real, IX.vo, IX.val, BX.val, IX.toN]); (try simp only [QP1, QB7]); (repeat rw [wrap_i64 (by omega) (by omega)]); omega))))
          | (refine hR _ (i + 1) (by show fr.length - (i + 1) < fr.length - i; omega) ⟨by show i + 1 ≤ fr.length; omega, all_step hok (hk fun m hm => hno m (Nat.lt_of_lt_of_le hm ‹i ≤ k›))⟩ ?_
             clear hk
             (refine ⟨?_, ?_, ?_, ?_⟩ <;> cbv <;> repeat' (first | trivial | exact EqX.rfl' | exact EqO.rfl' | apply And.intro | ((try clear hR3); (try clear hR2); (try clear hR); (try clear hK); (try simp only [ncCast] at *); (try simp only [castI_eq] at *); refine EqX.i ?_; (try rw [ho]); (try dsimp only [Ar.real, IX.vo, IX.val, BX.val, IX.toN]); (try simp only [QP1, QB7]); (repeat rw [wrap_i64 (by omega) (by omega)]); omega))))
end Go.Proofs.YtlblpbahoblihaaGreat.Sy
namespace Go.Proofs.YtlblpbahoblihaaGreat.Sy
open Go Go.Sy Go.Proofs.YtlblpbahoblihaaGreat
theorem ownB_iff (v : List Part) (r : Int) : ownB v r = true ↔ (∀ p ∈ v, p.role = 0 ∨ p.role = r) ∧ 0 < v.length ∧ vecRight v = true := by
  unfold ownB
  rw [Bool.and_eq_true, Bool.and_eq_true, nextAt_isNone, decide_eq_true_eq]
  refine and_congr ⟨fun h p hp => ?_, fun h i hi => ?_⟩ Iff.rfl
  · obtain ⟨i, hi, rfl⟩ := List.mem_iff_getElem.1 hp
    have := h i hi
    rw [getD_el hi] at this
    by_cases h0 : v[i].role = 0
    · exact .inl h0
    · rw [decide_eq_true h0, Bool.true_and] at this
      exact .inr (Classical.byContradiction fun h1 => by
        have h2 := of_decide_eq_false this
        exact h2 h1)
  · rw [getD_el hi]
    rcases h _ (List.getElem_mem hi) with e | e
    · rw [decide_eq_false (fun h => h e)]
      rfl
    · rw [decide_eq_false (p := v[i].role ≠ r) (fun h => h e), Bool.and_false]
theorem only_iff (v : List Part) (r : Int) (h : vecRight v = true) : (onlyR v [0, r]).length = v.length ↔ ∀ p ∈ v, p.role = 0 ∨ p.role = r := by
  unfold onlyR
  rw [if_pos h, List.length_filter_eq_length_iff]
  simp [inR]
theorem held_own (b : Bk) (f a : Int) (v : List Part) : heldB b f a v = (decide (0 ≤ atFrame b.fr f) && (decide (0 ≤ atAgent b.ag a) && ownB v (b.fr.getD (atFrame b.fr f).toNat default).role)) := by
  unfold heldB
  congr 1
  congr 1
  rw [Bool.eq_iff_iff, ownB_iff, Bool.and_eq_true, Bool.and_eq_true, decide_eq_true_eq, decide_eq_true_eq]
  constructor
  · rintro ⟨h1, h2, h3⟩
    exact ⟨(only_iff v _ h2).1 h3, h1, h2⟩
  · rintro ⟨h1, h2, h3⟩
    exact ⟨h2, h3, (only_iff v _ h3).2 h1⟩
end Go.Proofs.YtlblpbahoblihaaGreat.Sy
namespace Go.Proofs.YtlblpbahoblihaaGreat.Sy
open Go Go.Sy Go.Proofs.YtlblpbahoblihaaGreat
theorem atFrame_lt (l : List Frm) (f : Int) (h : 0 ≤ atFrame l f) : (atFrame l f).toNat < l.length := by
  have hsp := ixR_spec (fun x : Frm => decide (x.id = f)) l
  change (atFrame l f = -1 ∧ _) ∨ (∃ i, i < l.length ∧ atFrame l f = (i : Int) ∧ _) at hsp
  rcases hsp with ⟨e, _⟩ | ⟨i, h1, e, _⟩ <;> omega
theorem x_r16tasks (b : Bk) (hbk : BkOk b) : XC Tryz.prog 24 [.agg (Bk.X Ar.real b)] [] (xb (tasksB b)) [] := by
  have hn0 := hbk.n_tk
  have hn1 := hbk.n_fr
  have q0 : ∀ i, i < b.tk.length → ¬ TskOk b i → tasksB b = false := fun i hi h => pB_f fun h2 => h (h2.1 i hi)
  have q1 : (∀ i, i < b.tk.length → TskOk b i) → tasksB b = decide ((b.tk.length : Int) ≤ b.cfg.cap) := fun h => pB_and h
  have hF := fun i => x_r16Frame b hbk (b.tk.getD i default).frame
  have hA := fun i => x_r16Agent b hbk (b.tk.getD i default).agent
  have hOw := fun i => x_r16own (b.tk.getD i default).vec (b.fr.getD (atFrame b.fr (b.tk.getD i default).frame).toNat default).role (hbk.t1 i)
  have hlt := fun i => atFrame_lt b.fr (b.tk.getD i default).frame
  have k0 : ∀ i, TskOk b i ↔ (0 ≤ atFrame b.fr (b.tk.getD i default).frame ∧ 0 ≤ atAgent b.ag (b.tk.getD i default).agent ∧ ownB (b.tk.getD i default).vec (b.fr.getD (atFrame b.fr (b.tk.getD i default).frame).toNat default).role = true) ∧ numB (b.tk.getD i default).id = true ∧
      (0 < i → (b.tk.getD (i - 1) default).frame < (b.tk.getD i default).frame ∨ ((b.tk.getD (i - 1) default).frame = (b.tk.getD i default).frame ∧ (b.tk.getD (i - 1) default).id < (b.tk.getD i default).id)) := fun i => by
    constructor
    · intro k
      have h := k.held
      rw [held_own, Bool.and_eq_true, Bool.and_eq_true, decide_eq_true_eq, decide_eq_true_eq] at h
      exact ⟨h, k.id, k.asc⟩
    · rintro ⟨h, c, d⟩
      refine ⟨?_, c, d⟩
      rw [held_own, Bool.and_eq_true, Bool.and_eq_true, decide_eq_true_eq, decide_eq_true_eq]
      exact h
  generalize tasksB b = r at *
  generalize TskOk b = Ok at *
  generalize atFrame b.fr = AF at *
  generalize atAgent b.ag = AA at *
  obtain ⟨⟨c1, c2, c3, c4, c5, ⟨c6, c7, c8, c9⟩⟩, now, last, fr, ag, of, tk, fl⟩ := b
  dsimp only at *
  clear hbk
  (refine XC.of_body (dt24) Tryz.func24 rfl Tryz.ntmps24 mixed (T := tl24) tk24 (by kernel_rfl) (by simp) rfl rfl rfl rfl rfl ?_; rintro o ho P hP c K hK; have hm : P.follows .mixedOrders = true := hP ▸ mixed; have hT : TOk P tl24 := hP ▸ tk24; (try rw [← ho]); cbv; (repeat (refine StopN.mk ?_; cbv)))
  refine LoopN.over (o := o) (D := dt24) ho hm hT (by kernel_rfl) (fun i : Nat => [(3, xn i)]) (fun _ => []) (fun _ => []) (fun i => i ≤ tk.length ∧ ∀ j, j < i → Ok j) (fun i => tk.length - i) 0 ⟨Nat.zero_le _, fun j hj => absurd hj (Nat.not_lt_zero j)⟩ ?_ ?_
  · (refine ⟨?_, ?_, ?_, ?_⟩ <;> cbv <;> repeat' (first | trivial | exact EqX.rfl' | exact EqO.rfl' | apply And.intro | ((try clear hR3); (try clear hR2); (try clear hR); (try clear hK); (try simp only [ncCast] at *); (try simp only [castI_eq] at *); refine EqX.i ?_; (try rw [ho]); (try dsimp only [Ar.real, IX.vo, IX.val, BX.val, IX.toN]); (try simp only [QP1, QB7]); (repeat rw [wrap_i64 (by omega) (by omega)]); omega)))
  · rintro i ⟨hi, hok⟩ R hR
    have ei : o.nth tk i = tk.getD i default := by rw [ho, real_nth]
    have q2 := q0 i
    have k := k0 i
    have h1 := hF i
    have h2 := hA i
    have h3 := hOw i
    have h4 := x_r16id (tk.getD i default).id
    have hz := hlt i
    have hp : (0 : Int) < i → (IntKind.i64.wrap ((i : Int) - 1)).toNat = i - 1 := fun h => prev_eq h (by omega)
    generalize AF (tk.getD i default).frame = z1 at *
    generalize AA (tk.getD i default).agent = z2 at *
    generalize ownB (tk.getD i default).vec (fr.getD z1.toNat default).role = w1 at *
    generalize numB (tk.getD i default).id = n1 at *
    have F1 : i < tk.length → n1 = false → r = false := fun hl h => q2 hl fun h' => by rw [(k.1 h').2.1] at h; cases h
    have F2 : i < tk.length → z1 < 0 → r = false := fun hl h => q2 hl fun h' => by have := (k.1 h').1.1; omega
    have F3 : i < tk.length → z2 < 0 → r = false := fun hl h => q2 hl fun h' => by have := (k.1 h').1.2.1; omega
    have F4 : i < tk.length → w1 = false → r = false := fun hl h => q2 hl fun h' => by rw [(k.1 h').1.2.2] at h; cases h
    have F5 : i < tk.length → (0 : Int) < i → (tk.getD i default).frame < (tk.getD (IntKind.i64.wrap ((i : Int) - 1)).toNat default).frame → r = false := fun hl h hz => q2 hl fun h' => by
      have := (k.1 h').2.2 (by omega)
      rw [hp h] at hz
      omega
    have F6 : i < tk.length → (0 : Int) < i → (tk.getD i default).frame = (tk.getD (IntKind.i64.wrap ((i : Int) - 1)).toNat default).frame → (tk.getD i default).id ≤ (tk.getD (IntKind.i64.wrap ((i : Int) - 1)).toNat default).id → r = false := fun hl h hz hy => q2 hl fun h' => by
      have := (k.1 h').2.2 (by omega)
      rw [hp h] at hz hy
      omega
    have F0 : i < tk.length → n1 = true → 0 ≤ z1 → 0 ≤ z2 → w1 = true → ((0 : Int) < i → (tk.getD (IntKind.i64.wrap ((i : Int) - 1)).toNat default).frame < (tk.getD i default).frame ∨ ((tk.getD (IntKind.i64.wrap ((i : Int) - 1)).toNat default).frame = (tk.getD i default).frame ∧ (tk.getD (IntKind.i64.wrap ((i : Int) - 1)).toNat default).id < (tk.getD i default).id)) → Ok i := fun hl a1 a2 a3 a4 a5 => k.2 ⟨⟨a2, a3, a4⟩, a1, fun h => by
      have := a5 (by omega)
      rw [hp (by omega)] at this
      exact this⟩
    have G1 : ¬ (tk.getD i default).frame = (tk.getD (IntKind.i64.wrap ((i : Int) - 1)).toNat default).frame → (tk.getD (IntKind.i64.wrap ((i : Int) - 1)).toNat default).frame ≤ (tk.getD i default).frame → (tk.getD (IntKind.i64.wrap ((i : Int) - 1)).toNat default).frame < (tk.getD i default).frame := fun h h' => by omega
    have hz' : z1 < (fr.length : Int) := by
      by_cases h : 0 ≤ z1
      · have := hz h
        omega
      · omega
    clear hp k
    rw [← ei, ← ho] at h1 h2
    rw [← ei] at h4
    cbv
    repeat' (first | (refine Br.mk (fun hb => ?_) (fun hb => ?_) <;> ((try rw [ho] at hb); (try dsimp only [Ar.real, IX.vo] at hb); (try simp only [QP1, QB7] at hb); (try simp only [QBo, beq_iff_eq, beq_eq_false_iff_ne, ne_eq] at hb))) | (refine StopN.mk ?_; cbv) | ((first | refine CallI.pure hP h1 fn17 rfl rfl rfl ?_ | refine CallN.pure hP h2 fn48 rfl rfl rfl ?_ | refine CallN.pure hP h3 fn49 rfl rfl (by rw [ho]; rfl) ?_ | refine CallN.pure hP h4 fn46 rfl rfl rfl ?_); cbv) | (refine hK _ _ ?_) | (refine NeedT.mk ?_ ?_))
    all_goals (try (((try clear hR3); (try clear hR2); (try clear hR); (try clear hK); (try simp only [ncCast] at *); (try simp only [castI_eq] at *); (try rw [ho]); (try dsimp only [Ar.real, IX.vo, IX.val, BX.val, IX.toN]); (try simp only [QP1, QB7]); (try simp only [decide_eq_true_eq]); (all_goals (repeat rw [wrap_i64 (by omega) (by omega)])); (all_goals (first | omega | (simp only [Int.ofNat_eq_natCast]; omega)))); done))
    all_goals try first
      | (rw [F1 (by assumption) (by assumption)]; exact .b rfl)
      | (rw [F2 (by assumption) (by assumption)]; exact .b rfl)
      | (rw [F3 (by assumption) (by assumption)]; exact .b rfl)
      | (rw [F4 (by assumption) (by assumption)]; exact .b rfl)
      | (rw [F5 (by assumption) (by assumption) (by assumption)]; exact .b rfl)
      | (rw [F6 (by assumption) (by assumption) (by assumption) (by assumption)]; exact .b rfl)
    all_goals
      by_cases hlt : i < tk.length
      · first
          | (exfalso; clear hR; omega)
          | (have hk : Ok i := by
               refine F0 hlt (by assumption) (by assumption) (by assumption) (by assumption) ?_
               intro h0
               first
                 | exact .inr ⟨Eq.symm (by assumption), by assumption⟩
                 | exact .inl (G1 (by assumption) (by assumption))
                 | exact absurd h0 (Int.not_lt.2 (by assumption))
             refine hR _ (i + 1) (by show tk.length - (i + 1) < tk.length - i; omega) ⟨by show i + 1 ≤ tk.length; omega, all_step hok hk⟩ ?_
             (refine ⟨?_, ?_, ?_, ?_⟩ <;> cbv <;> repeat' (first | trivial | exact EqX.rfl' | exact EqO.rfl' | apply And.intro | ((try clear hR3); (try clear hR2); (try clear hR); (try clear hK); (try simp only [ncCast] at *); (try simp only [castI_eq] at *); refine EqX.i ?_; (try rw [ho]); (try dsimp only [Ar.real, IX.vo, IX.val, BX.val, IX.toN]); (try simp only [QP1, QB7]); (repeat rw [wrap_i64 (by omega) (by omega)]); omega))))
      · first
          | (exfalso; clear hR; omega)
          | (have hie : i = tk.length := by clear hR; omega
             subst hie
             rw [q1 hok]
             refine .b ?_
             ((try clear hR3); (try clear hR2); (try clear hR); (try clear hK); (try simp only [ncCast] at *); (try simp only [castI_eq] at *); (try rw [ho]); (try dsimp only [Ar.real, IX.vo, IX.val, BX.val, IX.toN]); (try simp only [QP1, QB7])))
end Go.Proofs.YtlblpbahoblihaaGreat.Sy
namespace Go.Proofs.YtlblpbahoblihaaGreat.Sy
open Go Go.Sy Go.Proofs.YtlblpbahoblihaaGreat
theorem x_Ahead9 (x y : Flt) (hx : x.vec.length ≤ 1048576) (hy : y.vec.length ≤ 1048576) : XC Tryz.prog 50 [.agg (Flt.X Ar.real x), .agg (Flt.X Ar.real y)] [] (xb (decide (ahdR x y < 0))) [] := by
  have h1 := x_r16Order x.vec y.vec hx hy
  have e : decide (ahdR x y < 0) = decide (x.frame < y.frame ∨ (x.frame = y.frame ∧ (x.agent < y.agent ∨ (x.agent = y.agent ∧ (x.til < y.til ∨ (x.til = y.til ∧ ordV x.vec y.vec < 0)))))) := by
    rw [decide_eq_decide]
    exact or4_lt
  rw [e]
  clear e
  generalize ordV x.vec y.vec = z at *
  obtain ⟨x1, x2, x3, x4⟩ := x
  obtain ⟨y1, y2, y3, y4⟩ := y
  dsimp only at *
  generalize hq : decide (x1 < y1 ∨ (x1 = y1 ∧ (x2 < y2 ∨ (x2 = y2 ∧ (x3 < y3 ∨ (x3 = y3 ∧ z < 0)))))) = q at *
  (refine XC.of_body ([]) Tryz.func50 rfl Tryz.ntmps50 mixed (T := tl50) tk50 (by kernel_rfl) (by simp) rfl rfl rfl rfl rfl ?_; rintro o ho P hP c K hK; have hm : P.follows .mixedOrders = true := hP ▸ mixed; have hT : TOk P tl50 := hP ▸ tk50; (try rw [← ho]); cbv; (repeat (refine StopN.mk ?_; cbv)))
  rw [← ho] at h1
  repeat' (first | (refine Br.mk (fun hb => ?_) (fun hb => ?_) <;> ((try rw [ho] at hb); (try dsimp only [Ar.real, IX.vo] at hb); (try simp only [QP1, QB7] at hb); (try simp only [QBo, beq_iff_eq, beq_eq_false_iff_ne, ne_eq] at hb))) | (refine StopN.mk ?_; cbv) | (first | refine CallI.pure hP h1 fn79 rfl rfl rfl ?_ | refine CallN.pure hP h1 fn79 rfl rfl rfl ?_); cbv | (refine hK _ _ ?_) | (refine NeedT.mk ?_ ?_))
  all_goals
    refine .b ?_
    rw [← hq]
    ((try clear hR3); (try clear hR2); (try clear hR); (try clear hK); (try simp only [ncCast] at *); (try simp only [castI_eq] at *); (try rw [ho]); (try dsimp only [Ar.real, IX.vo, IX.val, BX.val, IX.toN]); (try simp only [QP1, QB7]))
    first
      | (rw [eq_comm, decide_eq_true_eq]; omega)
      | (rw [eq_comm, decide_eq_false_iff_not]; omega)
      | (rw [decide_eq_decide]; omega)
theorem x_r16filters (b : Bk) (hbk : BkOk b) : XC Tryz.prog 25 [.agg (Bk.X Ar.real b)] [] (xb (filtersB b)) [] := by
  have hn0 := hbk.n_fl
  have q0 : ∀ i, i < b.fl.length → ¬ FltOk b i → filtersB b = false := fun i hi h => pB_f fun h2 => h (h2.1 i hi)
  have q1 : (∀ i, i < b.fl.length → FltOk b i) → filtersB b = decide ((b.fl.length : Int) ≤ b.cfg.cap) := fun h => pB_and h
  have hF := fun i => x_r16Frame b hbk (b.fl.getD i default).frame
  have hA := fun i => x_r16Agent b hbk (b.fl.getD i default).agent
  have hV := fun i => x_r05Right (b.fl.getD i default).vec (hbk.l1 i)
  have hH := fun i j => x_Ahead9 (b.fl.getD i default) (b.fl.getD j default) (hbk.l1 i) (hbk.l1 j)
  have k0 : ∀ i, FltOk b i ↔ 0 ≤ atFrame b.fr (b.fl.getD i default).frame ∧ 0 ≤ atAgent b.ag (b.fl.getD i default).agent ∧ 0 < (b.fl.getD i default).vec.length ∧ vecRight (b.fl.getD i default).vec = true ∧ b.now < (b.fl.getD i default).til ∧ (b.fl.getD i default).til ≤ 18014398509481984 ∧
      (0 < i → ahdR (b.fl.getD (i - 1) default) (b.fl.getD i default) < 0) := fun i => ⟨fun k => ⟨k.fr, k.ag, k.pos, k.vec, k.u0, k.u1, k.asc⟩, fun ⟨a, b, c, d, e, f, g⟩ => ⟨a, b, c, d, e, f, g⟩⟩
  have l1 := hbk.l1
  generalize filtersB b = r at *
  generalize FltOk b = Ok at *
  generalize atFrame b.fr = AF at *
  generalize atAgent b.ag = AA at *
  obtain ⟨⟨c1, c2, c3, c4, c5, ⟨c6, c7, c8, c9⟩⟩, now, last, fr, ag, of, tk, fl⟩ := b
  dsimp only at *
  clear hbk
  (refine XC.of_body (dt25) Tryz.func25 rfl Tryz.ntmps25 mixed (T := tl25) tk25 (by kernel_rfl) (by simp) rfl rfl rfl rfl rfl ?_; rintro o ho P hP c K hK; have hm : P.follows .mixedOrders = true := hP ▸ mixed; have hT : TOk P tl25 := hP ▸ tk25; (try rw [← ho]); cbv; (repeat (refine StopN.mk ?_; cbv)))
  refine LoopN.over (o := o) (D := dt25) ho hm hT (by kernel_rfl) (fun i : Nat => [(3, xn i)]) (fun _ => []) (fun _ => []) (fun i => i ≤ fl.length ∧ ∀ j, j < i → Ok j) (fun i => fl.length - i) 0 ⟨Nat.zero_le _, fun j hj => absurd hj (Nat.not_lt_zero j)⟩ ?_ ?_
  · (refine ⟨?_, ?_, ?_, ?_⟩ <;> cbv <;> repeat' (first | trivial | exact EqX.rfl' | exact EqO.rfl' | apply And.intro | ((try clear hR3); (try clear hR2); (try clear hR); (try clear hK); (try simp only [ncCast] at *); (try simp only [castI_eq] at *); refine EqX.i ?_; (try rw [ho]); (try dsimp only [Ar.real, IX.vo, IX.val, BX.val, IX.toN]); (try simp only [QP1, QB7]); (repeat rw [wrap_i64 (by omega) (by omega)]); omega)))
  · rintro i ⟨hi, hok⟩ R hR
    have ei : o.nth fl i = fl.getD i default := by rw [ho, real_nth]
    have q2 := q0 i
    have k := k0 i
    have h1 := hF i
    have h2 := hA i
    have h3 := hV i
    have h4 := hH (IntKind.i64.wrap ((i : Int) - 1)).toNat i
    have hp : (0 : Int) < i → (IntKind.i64.wrap ((i : Int) - 1)).toNat = i - 1 := fun h => prev_eq h (by omega)
    have hl1 := l1 i
    have kz : (0 : Int) < i → ahdR (fl.getD (IntKind.i64.wrap ((i : Int) - 1)).toNat default) (fl.getD i default) = ahdR (fl.getD (i - 1) default) (fl.getD i default) := fun h => by rw [hp h]
    have kd : decide (ahdR (fl.getD (IntKind.i64.wrap ((i : Int) - 1)).toNat default) (fl.getD i default) < 0) = true ↔ ahdR (fl.getD (IntKind.i64.wrap ((i : Int) - 1)).toNat default) (fl.getD i default) < 0 := decide_eq_true_iff
    generalize decide (ahdR (fl.getD (IntKind.i64.wrap ((i : Int) - 1)).toNat default) (fl.getD i default) < 0) = zb at *
    generalize ahdR (fl.getD (IntKind.i64.wrap ((i : Int) - 1)).toNat default) (fl.getD i default) = z at *
    generalize AF (fl.getD i default).frame = z1 at *
    generalize AA (fl.getD i default).agent = z2 at *
    generalize vecRight (fl.getD i default).vec = v1 at *
    have F1 : i < fl.length → z1 < 0 → r = false := fun hl h => q2 hl fun h' => by have := (k.1 h').1; omega
    have F2 : i < fl.length → z2 < 0 → r = false := fun hl h => q2 hl fun h' => by have := (k.1 h').2.1; omega
    have F3 : i < fl.length → ((fl.getD i default).vec.length : Int) = 0 → r = false := fun hl h => q2 hl fun h' => by have := (k.1 h').2.2.1; omega
    have F4 : i < fl.length → v1 = false → r = false := fun hl h => q2 hl fun h' => by rw [(k.1 h').2.2.2.1] at h; cases h
    have F5 : i < fl.length → (fl.getD i default).til ≤ now → r = false := fun hl h => q2 hl fun h' => by have := (k.1 h').2.2.2.2.1; omega
    have F6 : i < fl.length → 18014398509481984 < (fl.getD i default).til → r = false := fun hl h => q2 hl fun h' => by have := (k.1 h').2.2.2.2.2.1; omega
    have F7 : i < fl.length → (0 : Int) < i → zb = false → r = false := fun hl h hz => q2 hl fun h' => by
      have := (k.1 h').2.2.2.2.2.2 (by omega)
      rw [← kz h] at this
      rw [kd.2 this] at hz
      cases hz
    have F0 : i < fl.length → 0 ≤ z1 → 0 ≤ z2 → ¬ ((fl.getD i default).vec.length : Int) = 0 → v1 = true → now < (fl.getD i default).til → (fl.getD i default).til ≤ 18014398509481984 → ((0 : Int) < i → zb = true) → Ok i := fun hl a1 a2 a3 a4 a5 a6 a7 => k.2 ⟨a1, a2, by omega, a4, a5, a6, fun h => by
      have := kd.1 (a7 (by omega))
      rw [kz (by omega)] at this
      exact this⟩
    clear kz hp k kd
    rw [← ei, ← ho] at h1 h2 h3
    cbv
    repeat' (first | (refine Br.mk (fun hb => ?_) (fun hb => ?_) <;> ((try rw [ho] at hb); (try dsimp only [Ar.real, IX.vo] at hb); (try simp only [QP1, QB7] at hb); (try simp only [QBo, beq_iff_eq, beq_eq_false_iff_ne, ne_eq] at hb))) | (refine StopN.mk ?_; cbv) | ((first | refine CallN.pure hP h1 fn17 rfl rfl rfl ?_ | refine CallN.pure hP h2 fn48 rfl rfl rfl ?_ | refine CallN.pure hP h3 fn47 rfl rfl rfl ?_ | refine CallN.pure hP h4 fn50 rfl rfl (by rw [ho]; rfl) ?_); cbv) | (refine hK _ _ ?_) | (refine NeedT.mk ?_ ?_))
    all_goals (try (((try clear hR3); (try clear hR2); (try clear hR); (try clear hK); (try simp only [ncCast] at *); (try simp only [castI_eq] at *); (try rw [ho]); (try dsimp only [Ar.real, IX.vo, IX.val, BX.val, IX.toN]); (try simp only [QP1, QB7]); (try simp only [decide_eq_true_eq]); (all_goals (repeat rw [wrap_i64 (by omega) (by omega)])); (all_goals (first | omega | (simp only [Int.ofNat_eq_natCast]; omega)))); done))
    all_goals try first
      | (rw [F1 (by assumption) (by assumption)]; exact .b rfl)
      | (rw [F2 (by assumption) (by assumption)]; exact .b rfl)
      | (rw [F3 (by assumption) (by assumption)]; exact .b rfl)
      | (rw [F4 (by assumption) (by assumption)]; exact .b rfl)
      | (rw [F5 (by assumption) (by assumption)]; exact .b rfl)
      | (rw [F6 (by assumption) (by assumption)]; exact .b rfl)
      | (rw [F7 (by assumption) (by assumption) (by assumption)]; exact .b rfl)
    all_goals
      by_cases hlt : i < fl.length
      · first
          | (exfalso; clear hR; omega)
          | (have hk : Ok i := by
               refine F0 hlt (by assumption) (by assumption) (by assumption) (by assumption) (by assumption) (by assumption) ?_
               intro h0
               first | assumption | exact absurd h0 (Int.not_lt.2 (by assumption))
             refine hR _ (i + 1) (by show fl.length - (i + 1) < fl.length - i; omega) ⟨by show i + 1 ≤ fl.length; omega, all_step hok hk⟩ ?_
             (refine ⟨?_, ?_, ?_, ?_⟩ <;> cbv <;> repeat' (first | trivial | exact EqX.rfl' | exact EqO.rfl' | apply And.intro | ((try clear hR3); (try clear hR2); (try clear hR); (try clear hK); (try simp only [ncCast] at *); (try simp only [castI_eq] at *); refine EqX.i ?_; (try rw [ho]); (try dsimp only [Ar.real, IX.vo, IX.val, BX.val, IX.toN]); (try simp only [QP1, QB7]); (repeat rw [wrap_i64 (by omega) (by omega)]); omega))))
      · first
          | (exfalso; clear hR; omega)
          | (have hie : i = fl.length := by clear hR; omega
             subst hie
             rw [q1 hok]
             refine .b ?_
             ((try clear hR3); (try clear hR2); (try clear hR); (try clear hK); (try simp only [ncCast] at *); (try simp only [castI_eq] at *); (try rw [ho]); (try dsimp only [Ar.real, IX.vo, IX.val, BX.val, IX.toN]); (try simp only [QP1, QB7])))
end Go.Proofs.YtlblpbahoblihaaGreat.Sy
namespace Go.Proofs.YtlblpbahoblihaaGreat.Sy
open Go Go.Sy Go.Proofs.YtlblpbahoblihaaGreat
theorem OfrOk_iff (b : Bk) (i : Nat) : OfrOk b i ↔ (0 ≤ atFrame b.fr (b.of.getD i default).frame ∧ 0 ≤ atAgent b.ag (b.of.getD i default).agent ∧ ownB (b.of.getD i default).vec (b.fr.getD (atFrame b.fr (b.of.getD i default).frame).toNat default).role = true) ∧ (b.fr.getD (atFrame b.fr (b.of.getD i default).frame).toNat default).up = true ∧
    1 ≤ (b.of.getD i default).id ∧ (b.of.getD i default).id ≤ b.last ∧ (0 < i → (b.of.getD (i - 1) default).id < (b.of.getD i default).id) ∧ (b.cfg.life = 0 → (b.of.getD i default).til = 0) ∧ (0 < b.cfg.life → b.now < (b.of.getD i default).til ∧ (b.of.getD i default).til ≤ b.now + b.cfg.life) := by
  have hf : ∀ f a v, 0 ≤ atFrame b.fr f ∧ 0 ≤ atAgent b.ag a ∧ ownB v (b.fr.getD (atFrame b.fr f).toNat default).role = true → heldF b f a v = b.fr.getD (atFrame b.fr f).toNat default := fun f a v h => by
    have ho := (ownB_iff v _).1 h.2.2
    exact if_pos ⟨h.1, h.2.1, ho.2.1, ho.2.2⟩
  constructor
  · intro k
    have h := k.held
    rw [held_own, Bool.and_eq_true, Bool.and_eq_true, decide_eq_true_eq, decide_eq_true_eq] at h
    have hu := k.up
    rw [hf _ _ _ h] at hu
    exact ⟨h, hu, k.id0, k.id1, k.asc, k.u0, k.u1⟩
  · rintro ⟨h, hu, c, d, e, f, g⟩
    refine ⟨?_, ?_, c, d, e, f, g⟩
    · rw [held_own, Bool.and_eq_true, Bool.and_eq_true, decide_eq_true_eq, decide_eq_true_eq]
      exact h
    · rw [hf _ _ _ h]
      exact hu
theorem x_r16offers (b : Bk) (hbk : BkOk b) (hlf : (0 ≤ b.now ∧ b.now ≤ 9007199254740992) ∧ 0 ≤ b.cfg.life ∧ b.cfg.life ≤ 9007199254740992) : XC Tryz.prog 23 [.agg (Bk.X Ar.real b)] [] (xb (offersB b)) [] := by
  have hn0 := hbk.n_of
  have hn1 := hbk.n_fr
  have q0 : ∀ i, i < b.of.length → ¬ OfrOk b i → offersB b = false := fun i hi h => pB_f fun h2 => h (h2 i hi)
  have q1 : (∀ i, i < b.of.length → OfrOk b i) → offersB b = true := fun h => pB_t h
  have hF := fun i => x_r16Frame b hbk (b.of.getD i default).frame
  have hA := fun i => x_r16Agent b hbk (b.of.getD i default).agent
  have hOw := fun i => x_r16own (b.of.getD i default).vec (b.fr.getD (atFrame b.fr (b.of.getD i default).frame).toNat default).role (hbk.o1 i)
  have hlt := fun i => atFrame_lt b.fr (b.of.getD i default).frame
  have k0 := OfrOk_iff b
  generalize offersB b = r at *
  generalize OfrOk b = Ok at *
  generalize atFrame b.fr = AF at *
  generalize atAgent b.ag = AA at *
  obtain ⟨⟨c1, c2, c3, c4, c5, ⟨c6, c7, c8, c9⟩⟩, now, last, fr, ag, of, tk, fl⟩ := b
  dsimp only at *
  clear hbk
  (refine XC.of_body (dt23) Tryz.func23 rfl Tryz.ntmps23 mixed (T := tl23) tk23 (by kernel_rfl) (by simp) rfl rfl rfl rfl rfl ?_; rintro o ho P hP c K hK; have hm : P.follows .mixedOrders = true := hP ▸ mixed; have hT : TOk P tl23 := hP ▸ tk23; (try rw [← ho]); cbv; (repeat (refine StopN.mk ?_; cbv)))
  refine LoopN.over (o := o) (D := dt23) ho hm hT (by kernel_rfl) (fun i : Nat => [(3, xn i)]) (fun _ => []) (fun _ => []) (fun i => i ≤ of.length ∧ ∀ j, j < i → Ok j) (fun i => of.length - i) 0 ⟨Nat.zero_le _, fun j hj => absurd hj (Nat.not_lt_zero j)⟩ ?_ ?_
  · (refine ⟨?_, ?_, ?_, ?_⟩ <;> cbv <;> repeat' (first | trivial | exact EqX.rfl' | exact EqO.rfl' | apply And.intro | ((try clear hR3); (try clear hR2); (try clear hR); (try clear hK); (try simp only [ncCast] at *); (try simp only [castI_eq] at *); refine EqX.i ?_; (try rw [ho]); (try dsimp only [Ar.real, IX.vo, IX.val, BX.val, IX.toN]); (try simp only [QP1, QB7]); (repeat rw [wrap_i64 (by omega) (by omega)]); omega)))
  · rintro i ⟨hi, hok⟩ R hR
    have ei : o.nth of i = of.getD i default := by rw [ho, real_nth]
    have q2 := q0 i
    have k := k0 i
    have h1 := hF i
    have h2 := hA i
    have h3 := hOw i
    have hz := hlt i
    have hw : IntKind.i64.wrap (now + c4) = now + c4 := wrap_i64 (by omega) (by omega)
    generalize AF (of.getD i default).frame = z1 at *
    generalize AA (of.getD i default).agent = z2 at *
    generalize ownB (of.getD i default).vec (fr.getD z1.toNat default).role = w1 at *
    have hz' : z1 < (fr.length : Int) := by
      by_cases h : 0 ≤ z1
      · have := hz h
        omega
      · omega
    have F1 : i < of.length → z1 < 0 → r = false := fun hl h => q2 hl fun h' => by have := (k.1 h').1.1; omega
    have F2 : i < of.length → z2 < 0 → r = false := fun hl h => q2 hl fun h' => by have := (k.1 h').1.2.1; omega
    have F3 : i < of.length → w1 = false → r = false := fun hl h => q2 hl fun h' => by rw [(k.1 h').1.2.2] at h; cases h
    have F4 : i < of.length → (fr.getD z1.toNat default).up = false → r = false := fun hl h => q2 hl fun h' => by rw [(k.1 h').2.1] at h; cases h
    have F5 : i < of.length → (of.getD i default).id < 1 → r = false := fun hl h => q2 hl fun h' => by have := (k.1 h').2.2.1; omega
    have F6 : i < of.length → last < (of.getD i default).id → r = false := fun hl h => q2 hl fun h' => by have := (k.1 h').2.2.2.1; omega
    have F7 : i < of.length → (0 : Int) < i → (of.getD i default).id ≤ (of.getD (IntKind.i64.wrap ((i : Int) - 1)).toNat default).id → r = false := fun hl h h2 => q2 hl fun h' => by
      have := (k.1 h').2.2.2.2.1 (by omega)
      rw [prev_eq h (by omega)] at h2
      omega
    have F8 : i < of.length → c4 = 0 → ¬ (of.getD i default).til = 0 → r = false := fun hl h h2 => q2 hl fun h' => h2 ((k.1 h').2.2.2.2.2.1 h)
    have F9 : i < of.length → 0 < c4 → (of.getD i default).til ≤ now → r = false := fun hl h h2 => q2 hl fun h' => by have := ((k.1 h').2.2.2.2.2.2 h).1; omega
    have F10 : i < of.length → 0 < c4 → IntKind.i64.wrap (now + c4) < (of.getD i default).til → r = false := fun hl h h2 => q2 hl fun h' => by have := ((k.1 h').2.2.2.2.2.2 h).2; omega
    have F0 : i < of.length → 0 ≤ z1 → 0 ≤ z2 → w1 = true → (fr.getD z1.toNat default).up = true → 1 ≤ (of.getD i default).id → (of.getD i default).id ≤ last → ((0 : Int) < i → (of.getD (IntKind.i64.wrap ((i : Int) - 1)).toNat default).id < (of.getD i default).id) → (c4 = 0 → (of.getD i default).til = 0) → (0 < c4 → now < (of.getD i default).til ∧ (of.getD i default).til ≤ IntKind.i64.wrap (now + c4)) → Ok i := fun hl a1 a2 a3 a4 a5 a6 a7 a8 a9 => k.2 ⟨⟨a1, a2, a3⟩, a4, a5, a6, fun h => by
      have := a7 (by omega)
      rw [prev_eq (by omega) (by omega)] at this
      exact this, a8, fun h => by rw [hw] at a9; exact a9 h⟩
    clear k
    rw [← ei, ← ho] at h1 h2
    cbv
    repeat' (first | (refine Br.mk (fun hb => ?_) (fun hb => ?_) <;> ((try rw [ho] at hb); (try dsimp only [Ar.real, IX.vo] at hb); (try simp only [QP1, QB7] at hb); (try simp only [QBo, beq_iff_eq, beq_eq_false_iff_ne, ne_eq] at hb))) | (refine StopN.mk ?_; cbv) | ((first | refine CallI.pure hP h1 fn17 rfl rfl rfl ?_ | refine CallN.pure hP h2 fn48 rfl rfl rfl ?_ | refine CallN.pure hP h3 fn49 rfl rfl (by rw [ho]; rfl) ?_); cbv) | (refine hK _ _ ?_) | (refine NeedT.mk ?_ ?_))
    all_goals (try (((try clear hR3); (try clear hR2); (try clear hR); (try clear hK); (try simp only [ncCast] at *); (try simp only [castI_eq] at *); (try rw [ho]); (try dsimp only [Ar.real, IX.vo, IX.val, BX.val, IX.toN]); (try simp only [QP1, QB7]); (try simp only [decide_eq_true_eq]); (all_goals (repeat rw [wrap_i64 (by omega) (by omega)])); (all_goals (first | omega | (simp only [Int.ofNat_eq_natCast]; omega)))); done))
    all_goals try first
      | (rw [F1 (by assumption) (by assumption)]; exact .b rfl)
      | (rw [F2 (by assumption) (by assumption)]; exact .b rfl)
      | (rw [F3 (by assumption) (by assumption)]; exact .b rfl)
      | (rw [F4 (by assumption) (by assumption)]; exact .b rfl)
      | (rw [F5 (by assumption) (by assumption)]; exact .b rfl)
      | (rw [F6 (by assumption) (by assumption)]; exact .b rfl)
      | (rw [F7 (by assumption) (by assumption) (by assumption)]; exact .b rfl)
      | (rw [F8 (by assumption) (by assumption) (by assumption)]; exact .b rfl)
      | (rw [F9 (by assumption) (by assumption) (by assumption)]; exact .b rfl)
      | (rw [F10 (by assumption) (by assumption) (by assumption)]; exact .b rfl)
    all_goals
      by_cases hlt : i < of.length
      · first
          | (exfalso; clear hR; omega)
          | (have hk : Ok i := by
               refine F0 hlt (by assumption) (by assumption) (by assumption) (by assumption) (by assumption) (by assumption) ?_ ?_ ?_
               · intro h0
                 first | assumption | exact absurd h0 (Int.not_lt.2 (by assumption))
               · intro h0
                 first | assumption | exact absurd h0 (by assumption)
               · intro h0
                 first | exact ⟨by assumption, by assumption⟩ | exact absurd h0 (Int.not_lt.2 (by assumption))
             refine hR _ (i + 1) (by show of.length - (i + 1) < of.length - i; omega) ⟨by show i + 1 ≤ of.length; omega, all_step hok hk⟩ ?_
             (refine ⟨?_, ?_, ?_, ?_⟩ <;> cbv <;> repeat' (first | trivial | exact EqX.rfl' | exact EqO.rfl' | apply And.intro | ((try clear hR3); (try clear hR2); (try clear hR); (try clear hK); (try simp only [ncCast] at *); (try simp only [castI_eq] at *); refine EqX.i ?_; (try rw [ho]); (try dsimp only [Ar.real, IX.vo, IX.val, BX.val, IX.toN]); (try simp only [QP1, QB7]); (repeat rw [wrap_i64 (by omega) (by omega)]); omega))))
      · first
          | (exfalso; clear hR; omega)
          | (have hie : i = of.length := by clear hR; omega
             subst hie
             rw [q1 hok]
             exact .b rfl)
end Go.Proofs.YtlblpbahoblihaaGreat.Sy
namespace Go.Proofs.YtlblpbahoblihaaGreat.Sy
open Go Go.Sy Go.Proofs.YtlblpbahoblihaaGreat
theorem agT_succ {l : List Agt} {i : Nat} (h : AgtOk l i) : agT l (i + 1) = ⟨(agT l i).a + (sumsOf (l.getD i default).total).a, (agT l i).b + (sumsOf (l.getD i default).total).b, (agT l i).c + (sumsOf (l.getD i default).total).c, (agT l i).d + (sumsOf (l.getD i default).total).d⟩ := by
  rw [sumsOf_sk ((vecRight_iff _).1 h.tot)]
  rfl
theorem sumsOf_bd {l : List Agt} {i : Nat} (h : AgtOk l i) : (0 ≤ (sumsOf (l.getD i default).total).a ∧ (sumsOf (l.getD i default).total).a ≤ 297237575406452736) ∧ (0 ≤ (sumsOf (l.getD i default).total).b ∧ (sumsOf (l.getD i default).total).b ≤ 297237575406452736) ∧ (0 ≤ (sumsOf (l.getD i default).total).c ∧ (sumsOf (l.getD i default).total).c ≤ 297237575406452736) ∧ (0 ≤ (sumsOf (l.getD i default).total).d ∧ (sumsOf (l.getD i default).total).d ≤ 297237575406452736) := by
  rw [sumsOf_sk ((vecRight_iff _).1 h.tot)]
  have a0 := h.sk 0
  have a1 := h.sk 1
  have a2 := h.sk 2
  have a3 := h.sk 3
  simp only [S4.of]
  omega
theorem x_r16most (b : Bk) (hbk : BkOk b) (hA : ∀ i, i < b.ag.length → AgtOk b.ag i) (hm : 1 ≤ b.cfg.most ∧ b.cfg.most ≤ 9007199254740992) : XC Tryz.prog 22 [.agg (Bk.X Ar.real b)] [] (xb (mostB b)) [] := by
  have hn0 := hbk.n_ag
  have q0 : ∀ i, i ≤ b.ag.length → ¬ leM (agT b.ag i) b.cfg.most → mostB b = false := fun i hi h => pB_f fun h2 => h (h2 i hi)
  have q1 : (∀ i, i ≤ b.ag.length → leM (agT b.ag i) b.cfg.most) → mostB b = true := fun h => pB_t h
  have hO := fun i => x_r06Of (b.ag.getD i default).total (hbk.a1 i)
  have hS := fun i hi => agT_succ (hA i hi)
  have hB := fun i hi => sumsOf_bd (hA i hi)
  have hnn := fun i (hi : i ≤ b.ag.length) => And.intro (agS_nn hA 0 i hi) (And.intro (agS_nn hA 1 i hi) (And.intro (agS_nn hA 2 i hi) (agS_nn hA 3 i hi)))
  change ∀ i, i ≤ b.ag.length → 0 ≤ (agT b.ag i).a ∧ 0 ≤ (agT b.ag i).b ∧ 0 ≤ (agT b.ag i).c ∧ 0 ≤ (agT b.ag i).d at hnn
  have hT0 : agT b.ag 0 = ⟨0, 0, 0, 0⟩ := rfl
  have hl0 : leM (agT b.ag 0) b.cfg.most := by
    rw [hT0]
    exact ⟨show (0 : Int) ≤ b.cfg.most by omega, show (0 : Int) ≤ b.cfg.most by omega, show (0 : Int) ≤ b.cfg.most by omega, show (0 : Int) ≤ b.cfg.most by omega⟩
  generalize mostB b = r at *
  obtain ⟨⟨c1, c2, c3, c4, c5, ⟨c6, c7, c8, c9⟩⟩, now, last, fr, ag, of, tk, fl⟩ := b
  dsimp only at *
  clear hbk hA
  generalize agT ag = M at *
  (refine XC.of_body (dt22) Tryz.func22 rfl Tryz.ntmps22 mixed (T := tl22) tk22 (by kernel_rfl) (by simp) rfl rfl rfl rfl rfl ?_; rintro o ho P hP c K hK; have hm : P.follows .mixedOrders = true := hP ▸ mixed; have hT : TOk P tl22 := hP ▸ tk22; (try rw [← ho]); cbv; (repeat (refine StopN.mk ?_; cbv)))
  refine LoopN.over (o := o) (D := dt22) ho hm hT (by kernel_rfl) (fun i : Nat => [(4, xn i)]) (fun i => [(1, .var [xi (c2 - (M i).a), xi (c2 - (M i).b), xi (c2 - (M i).c), xi (c2 - (M i).d)] 22)]) (fun _ => []) (fun i => i ≤ ag.length ∧ ∀ j, j < i + 1 → leM (M j) c2) (fun i => ag.length - i) 0 ⟨Nat.zero_le _, fun j hj => (show j = 0 by omega) ▸ hl0⟩ ?_ ?_
  · have e0 : (c2 - (M 0).a = c2 ∧ c2 - (M 0).b = c2) ∧ c2 - (M 0).c = c2 ∧ c2 - (M 0).d = c2 := by
      rw [hT0]
      exact ⟨⟨Int.sub_zero _, Int.sub_zero _⟩, Int.sub_zero _, Int.sub_zero _⟩
    rw [e0.1.1, e0.1.2, e0.2.1, e0.2.2]
    (refine ⟨?_, ?_, ?_, ?_⟩ <;> cbv <;> repeat' (first | trivial | exact EqX.rfl' | exact EqO.rfl' | apply And.intro | ((try clear hR3); (try clear hR2); (try clear hR); (try clear hK); (try simp only [ncCast] at *); (try simp only [castI_eq] at *); refine EqX.i ?_; (try rw [ho]); (try dsimp only [Ar.real, IX.vo, IX.val, BX.val, IX.toN]); (try simp only [QP1, QB7]); (repeat rw [wrap_i64 (by omega) (by omega)]); omega)))
  · rintro i ⟨hi, hok⟩ R hR
    have ei : o.nth ag i = ag.getD i default := by rw [ho, real_nth]
    rcases Nat.lt_or_ge i ag.length with hlt | hge
    · have h1 := hO i
      have h2 := hS i hlt
      have h3 := hB i hlt
      have h4 := hnn i hi
      have h5 := hok i (Nat.lt_succ_self i)
      have q2 := q0 (i + 1) hlt
      have q3 : leM (M (i + 1)) c2 → ∀ j, j < i + 1 + 1 → leM (M j) c2 := all_step hok
      generalize sumsOf (ag.getD i default).total = sv at *
      generalize hMi : M i = s at *
      generalize hMs : M (i + 1) = s' at *
      obtain ⟨x1, x2, x3, x4⟩ := s
      obtain ⟨z1, z2, z3, z4⟩ := sv
      obtain ⟨l1, l2, l3, l4⟩ := h5
      dsimp only at h2 h3 h4 l1 l2 l3 l4
      subst h2
      have w1 : IntKind.i64.wrap (c2 - x1 - z1) = c2 - (x1 + z1) := by rw [wrap_i64 (by omega) (by omega)]; omega
      have w2 : IntKind.i64.wrap (c2 - x2 - z2) = c2 - (x2 + z2) := by rw [wrap_i64 (by omega) (by omega)]; omega
      have w3 : IntKind.i64.wrap (c2 - x3 - z3) = c2 - (x3 + z3) := by rw [wrap_i64 (by omega) (by omega)]; omega
      have w4 : IntKind.i64.wrap (c2 - x4 - z4) = c2 - (x4 + z4) := by rw [wrap_i64 (by omega) (by omega)]; omega
      have q4 : leM ⟨x1 + z1, x2 + z2, x3 + z3, x4 + z4⟩ c2 ↔ 0 ≤ c2 - (x1 + z1) ∧ 0 ≤ c2 - (x2 + z2) ∧ 0 ≤ c2 - (x3 + z3) ∧ 0 ≤ c2 - (x4 + z4) := by
        unfold leM
        dsimp only
        omega
      obtain ⟨d1, hd1⟩ : ∃ d, d = c2 - x1 := ⟨_, rfl⟩
      obtain ⟨d2, hd2⟩ : ∃ d, d = c2 - x2 := ⟨_, rfl⟩
      obtain ⟨d3, hd3⟩ : ∃ d, d = c2 - x3 := ⟨_, rfl⟩
      obtain ⟨d4, hd4⟩ : ∃ d, d = c2 - x4 := ⟨_, rfl⟩
      rw [← hd1] at w1
      rw [← hd2] at w2
      rw [← hd3] at w3
      rw [← hd4] at w4
      dsimp only
      rw [← hd1, ← hd2, ← hd3, ← hd4]
      rw [← ei, ← ho] at h1
      cbv
      repeat' (first | (refine Br.mk (fun hb => ?_) (fun hb => ?_) <;> ((try rw [ho] at hb); (try dsimp only [Ar.real, IX.vo] at hb); (try simp only [QP1, QB7] at hb); (try simp only [QBo, beq_iff_eq, beq_eq_false_iff_ne, ne_eq] at hb))) | (refine StopN.mk ?_; cbv) | ((first | refine CallI.pure hP h1 fn33 rfl rfl rfl ?_ | refine CallN.pure hP h1 fn33 rfl rfl rfl ?_); cbv) | (refine hK _ _ ?_) | (refine NeedT.mk ?_ ?_) | (refine LoopN.lay (o := o) (D := dt22) 5 ho hm hT (by kernel_rfl) ?_; cbv))
      · ((try clear hR3); (try clear hR2); (try clear hR); (try clear hK); (try simp only [ncCast] at *); (try simp only [castI_eq] at *); (try rw [ho]); (try dsimp only [Ar.real, IX.vo, IX.val, BX.val, IX.toN]); (try simp only [QP1, QB7]); (try simp only [decide_eq_true_eq]); (all_goals (repeat rw [wrap_i64 (by omega) (by omega)])); (all_goals (first | omega | (simp only [Int.ofNat_eq_natCast]; omega))))
      · rename_i hb
        rw [w1] at hb
        rw [q2 fun h => absurd (q4.1 h) (by omega)]
        exact .b rfl
      · rename_i hb
        rw [w2] at hb
        rw [q2 fun h => absurd (q4.1 h) (by omega)]
        exact .b rfl
      · rename_i hb
        rw [w3] at hb
        rw [q2 fun h => absurd (q4.1 h) (by omega)]
        exact .b rfl
      · rename_i hb
        rw [w4] at hb
        rw [q2 fun h => absurd (q4.1 h) (by omega)]
        exact .b rfl
      · rename_i hb0 hb1 hb2 hb3
        rw [w1] at hb1
        rw [w2] at hb2
        rw [w3] at hb3
        rw [w4] at hb
        have e5 : OX.toOb c (.var [xi (IntKind.i64.wrap (d1 - z1)), xi (IntKind.i64.wrap (d2 - z2)), xi (IntKind.i64.wrap (d3 - z3)), xi (IntKind.i64.wrap (d4 - z4))] 22) = OX.toOb c (.var [xi (c2 - (x1 + z1)), xi (c2 - (x2 + z2)), xi (c2 - (x3 + z3)), xi (c2 - (x4 + z4))] 22) := by rw [w1, w2, w3, w4]
        refine hR _ (i + 1) (by omega) ⟨hlt, q3 (q4.2 ⟨by omega, by omega, by omega, by omega⟩)⟩ ?_
        rw [hMs]
        (refine ⟨?_, ?_, ?_, ?_⟩ <;> cbv <;> repeat' (first | trivial | exact EqX.rfl' | exact EqO.rfl' | apply And.intro | ((try clear hR3); (try clear hR2); (try clear hR); (try clear hK); (try simp only [ncCast] at *); (try simp only [castI_eq] at *); refine EqX.i ?_; (try rw [ho]); (try dsimp only [Ar.real, IX.vo, IX.val, BX.val, IX.toN]); (try simp only [QP1, QB7]); (repeat rw [wrap_i64 (by omega) (by omega)]); omega) | (exact ⟨by subst ho; exact e5⟩)))
      · exfalso
        omega
    · cbv
      repeat' (first | (refine Br.mk (fun hb => ?_) (fun hb => ?_) <;> ((try rw [ho] at hb); (try dsimp only [Ar.real, IX.vo] at hb); (try simp only [QP1, QB7] at hb); (try simp only [QBo, beq_iff_eq, beq_eq_false_iff_ne, ne_eq] at hb))) | (refine StopN.mk ?_; cbv) | ((first | refine CallI.pure hP (x_r06Of _ ‹_›) fn33 (by first | rfl | (rw [ho]; try rfl)) (by rfl) (by first | rfl | (rw [ho]; try rfl)) ?_ | refine CallN.pure hP (x_r06Of _ ‹_›) fn33 (by first | rfl | (rw [ho]; try rfl)) (by rfl) (by first | rfl | (rw [ho]; try rfl)) ?_); (try rw [← ho]); generalize hr : sumsOf _ = r; (try rw [ho] at hr); (try dsimp only [Ar.real, IX.vo] at hr); (try simp only [QP1, QB7] at hr); cbv) | (refine hK _ _ ?_) | (refine NeedT.mk ?_ ?_))
      all_goals first
        | (exfalso; clear hR; omega)
        | (rw [q1 fun j hj => hok j (by omega)]; exact .b rfl)
end Go.Proofs.YtlblpbahoblihaaGreat.Sy
namespace Go.Proofs.YtlblpbahoblihaaGreat.Sy
open Go Go.Sy Go.Proofs.YtlblpbahoblihaaGreat
def rSumT (most : Int) (l : List Int) : Nat → Int
  | 0 => most
  | i + 1 => rSumT most l i - l.getD i default
def rSumOk (most : Int) (l : List Int) : Prop := 0 ≤ most ∧ ∀ i, i < l.length → 0 ≤ l.getD i default ∧ l.getD i default ≤ rSumT most l i
open Classical in
noncomputable def rSum (most : Int) (l : List Int) : Int × Bool := if rSumOk most l then (most - rSumT most l l.length, true) else (0, false)
theorem rSumT_nn {most : Int} {l : List Int} : ∀ i, i ≤ l.length → (∀ j, j < i → 0 ≤ l.getD j default ∧ l.getD j default ≤ rSumT most l j) → rSumT most l i ≤ most ∧ (0 ≤ most → 0 ≤ rSumT most l i)
  | 0, _, _ => ⟨Int.le_refl _, fun h => h⟩
  | i + 1, h, hj => by
    have h1 := rSumT_nn i (by omega) (fun j hji => hj j (by omega))
    have h2 := hj i (by omega)
    simp only [rSumT]
    omega
theorem x_r03Sum (most : Int) (l : List Int) (hl : l.length ≤ 1048576) (hm : most ≤ 9007199254740992) : XC Tryz.prog 117 [xi most, .ro (SL Ar.real encI l)] [] (.tup [xi (rSum most l).1, xb (rSum most l).2]) [] := by
  have q1 : ∀ i, i < l.length → ¬ (0 ≤ l.getD i default ∧ l.getD i default ≤ rSumT most l i) → rSum most l = (0, false) := fun i hi h => if_neg fun h2 => h (h2.2 i hi)
  have q2 : most < 0 → rSum most l = (0, false) := fun h => if_neg fun h2 => by have := h2.1; omega
  have q3 : 0 ≤ most → (∀ i, i < l.length → 0 ≤ l.getD i default ∧ l.getD i default ≤ rSumT most l i) → rSum most l = (most - rSumT most l l.length, true) := fun h h2 => if_pos ⟨h, h2⟩
  have hM0 : rSumT most l 0 = most := rfl
  have hM1 : ∀ i, rSumT most l (i + 1) = rSumT most l i - l.getD i default := fun _ => rfl
  have hnn := rSumT_nn (most := most) (l := l)
  generalize rSum most l = g at *
  generalize rSumT most l = M at *
  (refine XC.of_body ([]) Tryz.func117 rfl Tryz.ntmps117 mixed (T := tl117) tk117 (by kernel_rfl) (by simp) rfl rfl rfl rfl rfl ?_; rintro o ho P hP c K hK; have hm : P.follows .mixedOrders = true := hP ▸ mixed; have hT : TOk P tl117 := hP ▸ tk117; (try rw [← ho]); cbv; (repeat (refine StopN.mk ?_; cbv)))
  refine LoopN.over (o := o) (D := []) ho hm hT (by kernel_rfl) (fun i : Nat => [(7, xn i), (6, xi (M i))]) (fun _ => []) (fun _ => []) (fun i => i ≤ l.length ∧ ∀ j, j < i → 0 ≤ l.getD j default ∧ l.getD j default ≤ M j) (fun i => l.length - i) 0 ⟨Nat.zero_le _, fun j hj => absurd hj (Nat.not_lt_zero j)⟩ ?_ ?_
  · rw [hM0]
    (refine ⟨?_, ?_, ?_, ?_⟩ <;> cbv <;> repeat' (first | trivial | exact EqX.rfl' | exact EqO.rfl' | apply And.intro | ((try clear hR3); (try clear hR2); (try clear hR); (try clear hK); (try simp only [ncCast] at *); (try simp only [castI_eq] at *); refine EqX.i ?_; (try rw [ho]); (try dsimp only [Ar.real, IX.vo, IX.val, BX.val, IX.toN]); (try simp only [QP1, QB7]); (repeat rw [wrap_i64 (by omega) (by omega)]); omega)))
  · rintro i ⟨hi, hok⟩ R hR
    have ei : o.nth l i = l.getD i default := by rw [ho, real_nth]
    have h1 : M (i + 1) = M i - l.getD i (Int.ofNat 0) := hM1 i
    have h2 : i < l.length → ¬ (0 ≤ l.getD i (Int.ofNat 0) ∧ l.getD i (Int.ofNat 0) ≤ M i) → g = (0, false) := q1 i
    have h3 := hnn i hi hok
    have h4 : 0 ≤ l.getD i (Int.ofNat 0) ∧ l.getD i (Int.ofNat 0) ≤ M i → ∀ j, j < i + 1 → 0 ≤ l.getD j default ∧ l.getD j default ≤ M j := all_step hok
    cbv
    repeat' (first | (refine Br.mk (fun hb => ?_) (fun hb => ?_) <;> ((try rw [ho] at hb); (try dsimp only [Ar.real, IX.vo] at hb); (try simp only [QP1, QB7] at hb); (try simp only [QBo, beq_iff_eq, beq_eq_false_iff_ne, ne_eq] at hb))) | (refine StopN.mk ?_; cbv) | (refine hK _ _ ?_) | (refine NeedT.mk ?_ ?_) | (refine LoopN.lay (o := o) (D := []) 5 ho hm hT (by kernel_rfl) ?_; cbv))
    any_goals (((try clear hR3); (try clear hR2); (try clear hR); (try clear hK); (try simp only [ncCast] at *); (try simp only [castI_eq] at *); (try rw [ho]); (try dsimp only [Ar.real, IX.vo, IX.val, BX.val, IX.toN]); (try simp only [QP1, QB7]); (try simp only [decide_eq_true_eq]); (all_goals (repeat rw [wrap_i64 (by omega) (by omega)])); (all_goals (first | omega | (simp only [Int.ofNat_eq_natCast]; omega)))); done)
    · rw [h2 (by assumption) (by omega)]
      exact .pure fun _ => rfl
    · rw [h2 (by assumption) (by omega)]
      exact .pure fun _ => rfl
    · rw [h2 (by assumption) (by omega)]
      exact .pure fun _ => rfl
    · refine hR _ (i + 1) (by omega) ⟨by omega, h4 ⟨by omega, by omega⟩⟩ ?_
      have e6 : IntKind.i64.wrap (M i - l.getD i (Int.ofNat 0)) = M (i + 1) := by rw [h1]; exact wrap_i64 (by omega) (by omega)
      (refine ⟨?_, ?_, ?_, ?_⟩ <;> cbv <;> repeat' (first | trivial | exact EqX.rfl' | exact EqO.rfl' | apply And.intro | ((try clear hR3); (try clear hR2); (try clear hR); (try clear hK); (try simp only [ncCast] at *); (try simp only [castI_eq] at *); refine EqX.i ?_; (try rw [ho]); (try dsimp only [Ar.real, IX.vo, IX.val, BX.val, IX.toN]); (try simp only [QP1, QB7]); (repeat rw [wrap_i64 (by omega) (by omega)]); omega) | (refine EqX.i ?_; subst ho; exact e6)))
    · rw [q2 (by omega)]
      exact .pure fun _ => rfl
    · obtain rfl : i = l.length := by ((try clear hR3); (try clear hR2); (try clear hR); (try clear hK); (try simp only [ncCast] at *); (try simp only [castI_eq] at *)); omega
      rw [q3 (by omega) (fun j hj => hok j hj)]
      have e : IntKind.i64.wrap (most - M l.length) = most - M l.length := wrap_i64 (by omega) (by omega)
      subst ho
      first
        | exact .pure fun c => congrArg (fun z => X.toD c (.tup [xi z, xb true])) e
        | exact .pure fun c => congrArg (fun z => X.toD c (.tup [xi z, xb true])) e.symm
end Go.Proofs.YtlblpbahoblihaaGreat.Sy
namespace Go.Proofs.YtlblpbahoblihaaGreat.Sy
open Go Go.Sy Go.Proofs.YtlblpbahoblihaaGreat
def encSlot (_ : Ar) (p : Int × Int) : List X := [xi p.1, xi p.2]
def slotN (n : Nat) : Int × Int := (((n / 33 : Nat) : Int), ((n % 33 : Nat) : Int))
def slotsTo (n : Nat) : List (Int × Int) := (List.range n).map slotN
theorem slotsTo_succ (n : Nat) : slotsTo (n + 1) = slotsTo n ++ [slotN n] := by
  unfold slotsTo
  rw [List.range_succ, List.map_append]
  rfl
theorem slotsTo_len (n : Nat) : (slotsTo n).length = n := by simp [slotsTo]
theorem x_r04All : XC Tryz.prog 116 [] [] (.ro (SL Ar.real encSlot (slotsTo 132))) [] := by
  have hM0 : slotsTo 0 = [] := rfl
  have hM1 := slotsTo_succ
  have hMl := slotsTo_len
  generalize slotsTo = M at *
  (refine XC.of_body ([]) Tryz.func116 rfl Tryz.ntmps116 mixed (T := tl116) tk116 (by kernel_rfl) (by simp) rfl rfl rfl rfl rfl ?_; rintro o ho P hP c K hK; have hm : P.follows .mixedOrders = true := hP ▸ mixed; have hT : TOk P tl116 := hP ▸ tk116; (try rw [← ho]); cbv; (repeat (refine StopN.mk ?_; cbv)))
  refine LoopN.ghost 1 112 2 rfl ?_
  refine LoopN.over (o := o) (D := []) ho hm hT (by kernel_rfl) (fun a : StL (Int × Int) => [(2, xn a.i), (1, .own (.loc 0) a.rv)]) (fun a => [(0, .row a.rv 112 2 (SL o encSlot a.out))]) (fun _ => []) (fun s => s.i ≤ 4 ∧ s.out = M (33 * s.i)) (fun s => 4 - s.i) ⟨0, 0, []⟩ ⟨Nat.zero_le _, hM0.symm⟩ ?_ ?_
  · (refine ⟨?_, ?_, ?_, ?_⟩ <;> cbv <;> repeat' (first | trivial | exact EqX.rfl' | exact EqO.rfl' | apply And.intro | ((try clear hR3); (try clear hR2); (try clear hR); (try clear hK); (try simp only [ncCast] at *); (try simp only [castI_eq] at *); refine EqX.i ?_; (try rw [ho]); (try dsimp only [Ar.real, IX.vo, IX.val, BX.val, IX.toN]); (try simp only [QP1, QB7]); (repeat rw [wrap_i64 (by omega) (by omega)]); omega) | exact EqO.row rfl (rows_nil_SL o ho encSlot)))
  · rintro ⟨i, rv, out⟩ ⟨hi, hout⟩ R hR
    dsimp only at hi hout
    cbv
    repeat' (first | (refine Br.mk (fun hb => ?_) (fun hb => ?_) <;> ((try rw [ho] at hb); (try dsimp only [Ar.real, IX.vo] at hb); (try simp only [QP1, QB7] at hb); (try simp only [QBo, beq_iff_eq, beq_eq_false_iff_ne, ne_eq] at hb))) | (refine StopN.mk ?_; cbv) | (refine hK _ _ ?_) | (refine NeedT.mk ?_ ?_))
    any_goals (((try clear hR3); (try clear hR2); (try clear hR); (try clear hK); (try simp only [ncCast] at *); (try simp only [castI_eq] at *); (try rw [ho]); (try dsimp only [Ar.real, IX.vo, IX.val, BX.val, IX.toN]); (try simp only [QP1, QB7]); (try simp only [decide_eq_true_eq]); (all_goals (repeat rw [wrap_i64 (by omega) (by omega)])); (all_goals (first | omega | (simp only [Int.ofNat_eq_natCast]; omega)))); done)
    · have hi4 : i < 4 := by ((try clear hR3); (try clear hR2); (try clear hR); (try clear hK); (try simp only [ncCast] at *); (try simp only [castI_eq] at *)); omega
      refine LoopN.over (o := o) (D := []) ho hm hT (by kernel_rfl) (fun a : StL (Int × Int) => [(3, xn a.i), (1, .own (.loc 0) a.rv)]) (fun a => [(0, .row a.rv 112 2 (SL o encSlot a.out))]) (fun _ => []) (fun s => s.i ≤ 33 ∧ s.out = M (33 * i + s.i)) (fun s => 33 - s.i) ⟨0, rv, out⟩ ⟨Nat.zero_le _, hout⟩ ?_ ?_
      · (refine ⟨?_, ?_, ?_, ?_⟩ <;> cbv <;> repeat' (first | trivial | exact EqX.rfl' | exact EqO.rfl' | apply And.intro | ((try clear hR3); (try clear hR2); (try clear hR); (try clear hK); (try simp only [ncCast] at *); (try simp only [castI_eq] at *); refine EqX.i ?_; (try rw [ho]); (try dsimp only [Ar.real, IX.vo, IX.val, BX.val, IX.toN]); (try simp only [QP1, QB7]); (repeat rw [wrap_i64 (by omega) (by omega)]); omega)))
      · rintro ⟨j, rv', out'⟩ ⟨hj, hout'⟩ R2 hR2
        dsimp only at hj hout'
        have hs := hM1 (33 * i + j)
        rw [← hout'] at hs
        have hlen := hMl (33 * i + j)
        rw [← hout'] at hlen
        have e : slotN (33 * i + j) = ((i : Int), (j : Int)) ∨ 33 ≤ j := by
          rcases Nat.lt_or_ge j 33 with h | h
          · left
            unfold slotN
            rw [show (33 * i + j) / 33 = i by omega, show (33 * i + j) % 33 = j by omega]
          · exact .inr h
        cbv
        repeat' (first | (refine Br.mk (fun hb => ?_) (fun hb => ?_) <;> ((try rw [ho] at hb); (try dsimp only [Ar.real, IX.vo] at hb); (try simp only [QP1, QB7] at hb); (try simp only [QBo, beq_iff_eq, beq_eq_false_iff_ne, ne_eq] at hb))) | (refine StopN.mk ?_; cbv) | (refine hK _ _ ?_) | (refine NeedT.mk ?_ ?_))
        any_goals (((try clear hR3); (try clear hR2); (try clear hR); (try clear hK); (try simp only [ncCast] at *); (try simp only [castI_eq] at *); (try rw [ho]); (try dsimp only [Ar.real, IX.vo, IX.val, BX.val, IX.toN]); (try simp only [QP1, QB7]); (try simp only [decide_eq_true_eq]); (all_goals (repeat rw [wrap_i64 (by omega) (by omega)])); (all_goals (first | omega | (simp only [Int.ofNat_eq_natCast]; omega)))); done)
        · have hj32 : j ≤ 32 := by ((try clear hR3); (try clear hR2); (try clear hR); (try clear hK); (try simp only [ncCast] at *); (try simp only [castI_eq] at *)); omega
          rw [e.resolve_right (by omega)] at hs
          generalize hz : M (33 * i + j + 1) = z at hs
          refine hR2 _ ⟨j + 1, rv' + 1, z⟩ (by dsimp only; omega) ⟨by dsimp only; omega, hz.symm⟩ ?_
          (refine ⟨?_, ?_, ?_, ?_⟩ <;> cbv <;> repeat' (first | trivial | exact EqX.rfl' | exact EqO.rfl' | apply And.intro | ((try clear hR3); (try clear hR2); (try clear hR); (try clear hK); (try simp only [ncCast] at *); (try simp only [castI_eq] at *); refine EqX.i ?_; (try rw [ho]); (try dsimp only [Ar.real, IX.vo, IX.val, BX.val, IX.toN]); (try simp only [QP1, QB7]); (repeat rw [wrap_i64 (by omega) (by omega)]); omega) | (exact EqO.snoc ho encSlot out' _ _ _ rfl hs rfl)))
        · obtain rfl : j = 33 := by ((try clear hR3); (try clear hR2); (try clear hR); (try clear hK); (try simp only [ncCast] at *); (try simp only [castI_eq] at *)); omega
          refine hR _ ⟨i + 1, rv', out'⟩ (by dsimp only; omega) ⟨by dsimp only; omega, by dsimp only; rw [hout', Nat.mul_succ]⟩ ?_
          (refine ⟨?_, ?_, ?_, ?_⟩ <;> cbv <;> repeat' (first | trivial | exact EqX.rfl' | exact EqO.rfl' | apply And.intro | ((try clear hR3); (try clear hR2); (try clear hR); (try clear hK); (try simp only [ncCast] at *); (try simp only [castI_eq] at *); refine EqX.i ?_; (try rw [ho]); (try dsimp only [Ar.real, IX.vo, IX.val, BX.val, IX.toN]); (try simp only [QP1, QB7]); (repeat rw [wrap_i64 (by omega) (by omega)]); omega)))
    · obtain rfl : i = 4 := by ((try clear hR3); (try clear hR2); (try clear hR); (try clear hK); (try simp only [ncCast] at *); (try simp only [castI_eq] at *)); omega
      rw [← (show out = M 132 from hout)]
      exact .pure fun _ => by rw [ho]
end Go.Proofs.YtlblpbahoblihaaGreat.Sy

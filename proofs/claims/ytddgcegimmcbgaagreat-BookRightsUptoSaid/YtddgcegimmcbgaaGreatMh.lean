/-
  Books: alike, by the document. Plain theorems.
-/
import Derived.Test.YtddgcegimmcbgaaGreatMg
import Derived.Test.YtddgcegimmcbgaaGreatSyZg
import Derived.Test.YtddgcegimmcbgaaGreatMd
set_option linter.unusedSectionVars false
set_option maxRecDepth 100000
set_option maxHeartbeats 8000000
set_option linter.unusedVariables false
set_option linter.unusedSimpArgs false
namespace Go.Proofs.YtddgcegimmcbgaaGreat.Sy
open Go Go.Sy Go.Proofs.YtddgcegimmcbgaaGreat
theorem bk_all (a b : Bk) (h1 : a.cfg = b.cfg) (h2 : a.now = b.now) (h3 : a.last = b.last) (h4 : a.fr = b.fr) (h5 : a.ag = b.ag) (h6 : a.of = b.of) (h7 : a.tk = b.tk) (h8 : a.fl = b.fl) : pB (a = b) = true := pB_t (by
  obtain ⟨a1, a2, a3, a4, a5, a6, a7, a8⟩ := a
  obtain ⟨b1, b2, b3, b4, b5, b6, b7, b8⟩ := b
  dsimp only at *
  rw [h1, h2, h3, h4, h5, h6, h7, h8])
theorem cfg_of {c1 c2 c3 c4 c5 c6 c7 c8 c9 d1 d2 d3 d4 d5 d6 d7 d8 d9 : Int} (h : c1 = d1 ∧ c2 = d2 ∧ c3 = d3 ∧ c4 = d4 ∧ c5 = d5 ∧ c6 = d6 ∧ c7 = d7 ∧ c8 = d8 ∧ c9 = d9) : (⟨c1, c2, c3, c4, c5, ⟨c6, c7, c8, c9⟩⟩ : Cfg) = ⟨d1, d2, d3, d4, d5, ⟨d6, d7, d8, d9⟩⟩ := by
  obtain ⟨rfl, rfl, rfl, rfl, rfl, rfl, rfl, rfl, rfl⟩ := h
  rfl
theorem x_r16Same (a b : Bk) (ha : BkOk a) (hb : BkOk b) : XC Tryz.prog 8 [.agg (Bk.X Ar.real a), .agg (Bk.X Ar.real b)] [] (xb (pB (a = b))) [] := by
  have hE := bk_all a b
  have na1 := ha.n_fr
  have na2 := ha.n_ag
  have na3 := ha.n_of
  have na4 := ha.n_tk
  have na5 := ha.n_fl
  have nb1 := hb.n_fr
  have nb2 := hb.n_ag
  have nb3 := hb.n_of
  have nb4 := hb.n_tk
  have nb5 := hb.n_fl
  have hS1 := fun i => x_r05Same (a.ag.getD i default).total (b.ag.getD i default).total ⟨ha.a1 i, hb.a1 i⟩
  have hS2 := fun i => x_r05Same (a.ag.getD i default).free (b.ag.getD i default).free ⟨ha.a2 i, hb.a2 i⟩
  have hS3 := fun i => x_r05Same (a.of.getD i default).vec (b.of.getD i default).vec ⟨ha.o1 i, hb.o1 i⟩
  have hS4 := fun i => x_r05Same (a.tk.getD i default).vec (b.tk.getD i default).vec ⟨ha.t1 i, hb.t1 i⟩
  have hS5 := fun i => x_r05Same (a.fl.getD i default).vec (b.fl.getD i default).vec ⟨ha.l1 i, hb.l1 i⟩
  have g1 : a.fr.length = b.fr.length → (∀ j, j < a.fr.length → a.fr.getD j default = b.fr.getD j default) → a.fr = b.fr := same_of
  have g2 : a.ag.length = b.ag.length → (∀ j, j < a.ag.length → a.ag.getD j default = b.ag.getD j default) → a.ag = b.ag := same_of
  have g3 : a.of.length = b.of.length → (∀ j, j < a.of.length → a.of.getD j default = b.of.getD j default) → a.of = b.of := same_of
  have g4 : a.tk.length = b.tk.length → (∀ j, j < a.tk.length → a.tk.getD j default = b.tk.getD j default) → a.tk = b.tk := same_of
  have g5 : a.fl.length = b.fl.length → (∀ j, j < a.fl.length → a.fl.getD j default = b.fl.getD j default) → a.fl = b.fl := same_of
  have hne : a ≠ b → pB (a = b) = false := fun h => pB_f h
  have m1 : ¬ a.fr.length = b.fr.length → pB (a = b) = false := fun h => hne fun e => h (by rw [e])
  have m2 : ¬ a.ag.length = b.ag.length → pB (a = b) = false := fun h => hne fun e => h (by rw [e])
  have m3 : ¬ a.of.length = b.of.length → pB (a = b) = false := fun h => hne fun e => h (by rw [e])
  have m4 : ¬ a.tk.length = b.tk.length → pB (a = b) = false := fun h => hne fun e => h (by rw [e])
  have m5 : ¬ a.fl.length = b.fl.length → pB (a = b) = false := fun h => hne fun e => h (by rw [e])
  have m6 : ¬ a.now = b.now → pB (a = b) = false := fun h => hne fun e => h (by rw [e])
  have m7 : ¬ a.last = b.last → pB (a = b) = false := fun h => hne fun e => h (by rw [e])
  have m8 : ¬ a.cfg = b.cfg → pB (a = b) = false := fun h => hne fun e => h (by rw [e])
  have e1 : ∀ i, ¬ a.fr.getD i default = b.fr.getD i default → pB (a = b) = false := fun i h => hne fun e => h (by rw [e])
  have e2 : ∀ i, ¬ a.ag.getD i default = b.ag.getD i default → pB (a = b) = false := fun i h => hne fun e => h (by rw [e])
  have e3 : ∀ i, ¬ a.of.getD i default = b.of.getD i default → pB (a = b) = false := fun i h => hne fun e => h (by rw [e])
  have e4 : ∀ i, ¬ a.tk.getD i default = b.tk.getD i default → pB (a = b) = false := fun i h => hne fun e => h (by rw [e])
  have e5 : ∀ i, ¬ a.fl.getD i default = b.fl.getD i default → pB (a = b) = false := fun i h => hne fun e => h (by rw [e])
  clear hne
  generalize pB (a = b) = r at *
  obtain ⟨⟨c1, c2, c3, c4, c5, ⟨c6, c7, c8, c9⟩⟩, now, last, fr, ag, of, tk, fl⟩ := a
  obtain ⟨⟨d1, d2, d3, d4, d5, ⟨d6, d7, d8, d9⟩⟩, now', last', fr', ag', of', tk', fl'⟩ := b
  clear ha hb
  dsimp only at *
  simp only [Cfg.mk.injEq, S4.mk.injEq] at m8
  (refine XC.of_body (dt8) Tryz.func8 rfl Tryz.ntmps8 mixed (T := tl8) tk8 (by kernel_rfl) (by simp) rfl rfl rfl rfl rfl ?_; rintro o ho P hP c K hK; have hm : P.follows .mixedOrders = true := hP ▸ mixed; have hT : TOk P tl8 := hP ▸ tk8; (try rw [← ho]); cbv; (repeat (refine StopN.mk ?_; cbv)))
  repeat' (first | (refine Br.mk (fun hb => ?_) (fun hb => ?_) <;> ((try rw [ho] at hb); (try dsimp only [Ar.real, IX.vo] at hb); (try simp only [QR3] at hb); (try simp only [QBo, beq_iff_eq, beq_eq_false_iff_ne, ne_eq] at hb))) | (refine StopN.mk ?_; cbv) | ((first | refine CallI.pure hP (x_r05Same _ _ ‹_›) fn38 (by first | rfl | (rw [ho]; try rfl)) (by rfl) (by first | rfl | (rw [ho]; try rfl)) ?_ | refine CallN.pure hP (x_r05Same _ _ ‹_›) fn38 (by first | rfl | (rw [ho]; try rfl)) (by rfl) (by first | rfl | (rw [ho]; try rfl)) ?_); (try rw [← ho]); generalize hr : vEq _ _ = r; (try rw [ho] at hr); (try dsimp only [Ar.real, IX.vo] at hr); (try simp only [QR3] at hr); cbv) | (refine hK _ _ ?_) | (refine NeedT.mk ?_ ?_))
  · have h9 : ¬ (c1 = d1 ∧ c2 = d2 ∧ c3 = d3 ∧ c4 = d4 ∧ c5 = d5 ∧ c6 = d6 ∧ c7 = d7 ∧ c8 = d8 ∧ c9 = d9) := by
      simp only [Bool.and_eq_false_iff, decide_eq_false_iff_not] at hb
      omega
    rw [m8 h9]
    exact .b rfl
  · rw [m6 (by assumption)]
    exact .b rfl
  · rw [m7 (by assumption)]
    exact .b rfl
  · rw [m1 (by assumption)]
    exact .b rfl
  · rw [m2 (by assumption)]
    exact .b rfl
  · rw [m3 (by assumption)]
    exact .b rfl
  · rw [m4 (by assumption)]
    exact .b rfl
  · rw [m5 (by assumption)]
    exact .b rfl
  have hl1 : fr.length = fr'.length := by assumption
  have hl2 : ag.length = ag'.length := by assumption
  have hl3 : of.length = of'.length := by assumption
  have hl4 : tk.length = tk'.length := by assumption
  have hl5 : fl.length = fl'.length := by assumption
  have hnow : now = now' := by assumption
  have hlast : last = last' := by assumption
  have hcfg : c1 = d1 ∧ c2 = d2 ∧ c3 = d3 ∧ c4 = d4 ∧ c5 = d5 ∧ c6 = d6 ∧ c7 = d7 ∧ c8 = d8 ∧ c9 = d9 := by
    have h9 := ‹(decide (c1 = d1) && _) = true›
    simp only [Bool.and_eq_true, decide_eq_true_eq] at h9
    omega
  clear m1 m2 m3 m4 m5 m6 m7 m8
  replace g1 := g1 hl1
  replace g2 := g2 hl2
  replace g3 := g3 hl3
  replace g4 := g4 hl4
  replace g5 := g5 hl5
  have hr := hE (cfg_of hcfg) hnow hlast
  clear hE hnow hlast hcfg
  refine LoopN.over (o := o) (D := dt8) ho hm hT (by kernel_rfl) (fun i : Nat => [(5, xn i)]) (fun _ => []) (fun _ => []) (fun i => i ≤ fr.length ∧ ∀ j, j < i → fr.getD j default = fr'.getD j default) (fun i => fr.length - i) 0 ⟨Nat.zero_le _, fun j hj => absurd hj (Nat.not_lt_zero j)⟩ ?_ ?_
  · (refine ⟨?_, ?_, ?_, ?_⟩ <;> cbv <;> repeat' (first | trivial | exact EqX.rfl' | exact EqO.rfl' | apply And.intro | ((try clear hR3); (try clear hR2); (try clear hR); (try clear hK); (try simp only [ncCast] at *); (try simp only [castI_eq] at *); refine EqX.i ?_; (try rw [ho]); (try dsimp only [Ar.real, IX.vo, IX.val, BX.val, IX.toN]); (try simp only [QR3]); (repeat rw [wrap_i64 (by omega) (by omega)]); omega)))
  · rintro i ⟨hi, hok⟩ R hR
    have e := e1 i
    have ok' := all_step hok
    have en1 : o.nth fr i = fr.getD i default := by rw [ho, real_nth]
    have en2 : o.nth fr' i = fr'.getD i default := by rw [ho, real_nth]
    cbv
    repeat' (first | (refine Br.mk (fun hb => ?_) (fun hb => ?_) <;> ((try rw [ho] at hb); (try dsimp only [Ar.real, IX.vo] at hb); (try simp only [QR3] at hb); (try simp only [QBo, beq_iff_eq, beq_eq_false_iff_ne, ne_eq] at hb))) | (refine StopN.mk ?_; cbv) | ((first | refine CallI.pure hP (x_r05Same _ _ ‹_›) fn38 (by first | rfl | (rw [ho]; try rfl)) (by rfl) (by first | rfl | (rw [ho]; try rfl)) ?_ | refine CallN.pure hP (x_r05Same _ _ ‹_›) fn38 (by first | rfl | (rw [ho]; try rfl)) (by rfl) (by first | rfl | (rw [ho]; try rfl)) ?_); (try rw [← ho]); generalize hr : vEq _ _ = r; (try rw [ho] at hr); (try dsimp only [Ar.real, IX.vo] at hr); (try simp only [QR3] at hr); cbv) | (refine hK _ _ ?_) | (refine NeedT.mk ?_ ?_))
    any_goals (((try clear hR3); (try clear hR2); (try clear hR); (try clear hK); (try simp only [ncCast] at *); (try simp only [castI_eq] at *); (try rw [ho]); (try dsimp only [Ar.real, IX.vo, IX.val, BX.val, IX.toN]); (try simp only [QR3]); (try simp only [decide_eq_true_eq]); (all_goals (repeat rw [wrap_i64 (by omega) (by omega)])); (all_goals (first | omega | (simp only [Int.ofNat_eq_natCast]; omega)))); done)
    · have hne : ¬ fr.getD i default = fr'.getD i default := fun he => by
        rw [he] at hb
        simp at hb
      rw [e hne]
      exact .b rfl
    · have he : fr.getD i default = fr'.getD i default := by
        ((try clear hR3); (try clear hR2); (try clear hR); (try clear hK); (try simp only [ncCast] at *); (try simp only [castI_eq] at *))
        simp only [Bool.and_eq_true, decide_eq_true_eq, beq_iff_eq] at hb
        exact Frm.ext9 hb
      refine hR _ (i + 1) (by show fr.length - (i + 1) < fr.length - i; ((try clear hR3); (try clear hR2); (try clear hR); (try clear hK); (try simp only [ncCast] at *); (try simp only [castI_eq] at *)); omega) ⟨by show i + 1 ≤ fr.length; ((try clear hR3); (try clear hR2); (try clear hR); (try clear hK); (try simp only [ncCast] at *); (try simp only [castI_eq] at *)); omega, ok' he⟩ ?_
      (refine ⟨?_, ?_, ?_, ?_⟩ <;> cbv <;> repeat' (first | trivial | exact EqX.rfl' | exact EqO.rfl' | apply And.intro | ((try clear hR3); (try clear hR2); (try clear hR); (try clear hK); (try simp only [ncCast] at *); (try simp only [castI_eq] at *); refine EqX.i ?_; (try rw [ho]); (try dsimp only [Ar.real, IX.vo, IX.val, BX.val, IX.toN]); (try simp only [QR3]); (repeat rw [wrap_i64 (by omega) (by omega)]); omega)))
    · obtain rfl : i = fr.length := by ((try clear hR3); (try clear hR2); (try clear hR); (try clear hK); (try simp only [ncCast] at *); (try simp only [castI_eq] at *)); omega
      have h1 := g1 hok
      clear hR ok' hok en1 en2 e e1 g1
      refine LoopN.over (o := o) (D := dt8) ho hm hT (by kernel_rfl) (fun i : Nat => [(6, xn i)]) (fun _ => []) (fun _ => []) (fun i => i ≤ ag.length ∧ ∀ j, j < i → ag.getD j default = ag'.getD j default) (fun i => ag.length - i) 0 ⟨Nat.zero_le _, fun j hj => absurd hj (Nat.not_lt_zero j)⟩ ?_ ?_
      · (refine ⟨?_, ?_, ?_, ?_⟩ <;> cbv <;> repeat' (first | trivial | exact EqX.rfl' | exact EqO.rfl' | apply And.intro | ((try clear hR3); (try clear hR2); (try clear hR); (try clear hK); (try simp only [ncCast] at *); (try simp only [castI_eq] at *); refine EqX.i ?_; (try rw [ho]); (try dsimp only [Ar.real, IX.vo, IX.val, BX.val, IX.toN]); (try simp only [QR3]); (repeat rw [wrap_i64 (by omega) (by omega)]); omega)))
      · rintro i ⟨hi, hok⟩ R hR
        have e := e2 i
        have ok' := all_step hok
        have en1 : o.nth ag i = ag.getD i default := by rw [ho, real_nth]
        have en2 : o.nth ag' i = ag'.getD i default := by rw [ho, real_nth]
        have s0 := hS1 i
        have f0 : vEq (ag.getD i default).total (ag'.getD i default).total = false → r = false := fun h => e fun he => by rw [he] at h; exact absurd rfl (of_decide_eq_false h)
        have s1 := hS2 i
        have f1 : vEq (ag.getD i default).free (ag'.getD i default).free = false → r = false := fun h => e fun he => by rw [he] at h; exact absurd rfl (of_decide_eq_false h)
        have n0 : ¬ (ag.getD i default).id = (ag'.getD i default).id → r = false := fun h => e fun he => h (by rw [he])
        have F0 : (ag.getD i default).id = (ag'.getD i default).id → vEq (ag.getD i default).total (ag'.getD i default).total = true → vEq (ag.getD i default).free (ag'.getD i default).free = true → ag.getD i default = ag'.getD i default := fun aid atotal afree => by
          generalize ag.getD i default = p at *
          generalize ag'.getD i default = q at *
          rw [Agt.mk.injEq]
          exact ⟨aid, of_decide_eq_true atotal, of_decide_eq_true afree⟩
        generalize vEq (ag.getD i default).total (ag'.getD i default).total = w0 at *
        generalize vEq (ag.getD i default).free (ag'.getD i default).free = w1 at *
        rw [← en1, ← en2, ← ho] at s0 s1
        clear e
        cbv
        repeat' (first | (refine Br.mk (fun hb => ?_) (fun hb => ?_) <;> ((try rw [ho] at hb); (try dsimp only [Ar.real, IX.vo] at hb); (try simp only [QR3] at hb); (try simp only [QBo, beq_iff_eq, beq_eq_false_iff_ne, ne_eq] at hb))) | (refine StopN.mk ?_; cbv) | ((first | refine CallI.pure hP s0 fn38 rfl rfl rfl ?_ | refine CallI.pure hP s1 fn38 rfl rfl rfl ?_); cbv) | (refine hK _ _ ?_) | (refine NeedT.mk ?_ ?_))
        any_goals (((try clear hR3); (try clear hR2); (try clear hR); (try clear hK); (try simp only [ncCast] at *); (try simp only [castI_eq] at *); (try rw [ho]); (try dsimp only [Ar.real, IX.vo, IX.val, BX.val, IX.toN]); (try simp only [QR3]); (try simp only [decide_eq_true_eq]); (all_goals (repeat rw [wrap_i64 (by omega) (by omega)])); (all_goals (first | omega | (simp only [Int.ofNat_eq_natCast]; omega)))); done)
        all_goals try first
          | (rw [f0 (by assumption)]; exact .b rfl)
          | (rw [f1 (by assumption)]; exact .b rfl)
          | (rw [n0 (by assumption)]; exact .b rfl)
        · have he := F0 (by assumption) (by assumption) (by assumption)
          refine hR _ (i + 1) (by show ag.length - (i + 1) < ag.length - i; ((try clear hR3); (try clear hR2); (try clear hR); (try clear hK); (try simp only [ncCast] at *); (try simp only [castI_eq] at *)); omega) ⟨by show i + 1 ≤ ag.length; ((try clear hR3); (try clear hR2); (try clear hR); (try clear hK); (try simp only [ncCast] at *); (try simp only [castI_eq] at *)); omega, ok' he⟩ ?_
          (refine ⟨?_, ?_, ?_, ?_⟩ <;> cbv <;> repeat' (first | trivial | exact EqX.rfl' | exact EqO.rfl' | apply And.intro | ((try clear hR3); (try clear hR2); (try clear hR); (try clear hK); (try simp only [ncCast] at *); (try simp only [castI_eq] at *); refine EqX.i ?_; (try rw [ho]); (try dsimp only [Ar.real, IX.vo, IX.val, BX.val, IX.toN]); (try simp only [QR3]); (repeat rw [wrap_i64 (by omega) (by omega)]); omega)))
        · obtain rfl : i = ag.length := by ((try clear hR3); (try clear hR2); (try clear hR); (try clear hK); (try simp only [ncCast] at *); (try simp only [castI_eq] at *)); omega
          have h2 := g2 hok
          clear hR ok' hok en1 en2 e2 g2
          refine LoopN.over (o := o) (D := dt8) ho hm hT (by kernel_rfl) (fun i : Nat => [(9, xn i)]) (fun _ => []) (fun _ => []) (fun i => i ≤ of.length ∧ ∀ j, j < i → of.getD j default = of'.getD j default) (fun i => of.length - i) 0 ⟨Nat.zero_le _, fun j hj => absurd hj (Nat.not_lt_zero j)⟩ ?_ ?_
          · (refine ⟨?_, ?_, ?_, ?_⟩ <;> cbv <;> repeat' (first | trivial | exact EqX.rfl' | exact EqO.rfl' | apply And.intro | ((try clear hR3); (try clear hR2); (try clear hR); (try clear hK); (try simp only [ncCast] at *); (try simp only [castI_eq] at *); refine EqX.i ?_; (try rw [ho]); (try dsimp only [Ar.real, IX.vo, IX.val, BX.val, IX.toN]); (try simp only [QR3]); (repeat rw [wrap_i64 (by omega) (by omega)]); omega)))
          · rintro i ⟨hi, hok⟩ R hR
            have e := e3 i
            have ok' := all_step hok
            have en1 : o.nth of i = of.getD i default := by rw [ho, real_nth]
            have en2 : o.nth of' i = of'.getD i default := by rw [ho, real_nth]
            have s0 := hS3 i
            have f0 : vEq (of.getD i default).vec (of'.getD i default).vec = false → r = false := fun h => e fun he => by rw [he] at h; exact absurd rfl (of_decide_eq_false h)
            have n0 : ¬ (of.getD i default).id = (of'.getD i default).id → r = false := fun h => e fun he => h (by rw [he])
            have n1 : ¬ (of.getD i default).frame = (of'.getD i default).frame → r = false := fun h => e fun he => h (by rw [he])
            have n2 : ¬ (of.getD i default).agent = (of'.getD i default).agent → r = false := fun h => e fun he => h (by rw [he])
            have n3 : ¬ (of.getD i default).til = (of'.getD i default).til → r = false := fun h => e fun he => h (by rw [he])
            have F0 : (of.getD i default).id = (of'.getD i default).id → (of.getD i default).frame = (of'.getD i default).frame → (of.getD i default).agent = (of'.getD i default).agent → (of.getD i default).til = (of'.getD i default).til → vEq (of.getD i default).vec (of'.getD i default).vec = true → of.getD i default = of'.getD i default := fun aid aframe aagent atil avec => by
              generalize of.getD i default = p at *
              generalize of'.getD i default = q at *
              rw [Ofr.mk.injEq]
              exact ⟨aid, aframe, aagent, of_decide_eq_true avec, atil⟩
            generalize vEq (of.getD i default).vec (of'.getD i default).vec = w0 at *
            rw [← en1, ← en2, ← ho] at s0
            clear e
            cbv
            repeat' (first | (refine Br.mk (fun hb => ?_) (fun hb => ?_) <;> ((try rw [ho] at hb); (try dsimp only [Ar.real, IX.vo] at hb); (try simp only [QR3] at hb); (try simp only [QBo, beq_iff_eq, beq_eq_false_iff_ne, ne_eq] at hb))) | (refine StopN.mk ?_; cbv) | ((first | refine CallI.pure hP s0 fn38 rfl rfl rfl ?_); cbv) | (refine hK _ _ ?_) | (refine NeedT.mk ?_ ?_))
            any_goals (((try clear hR3); (try clear hR2); (try clear hR); (try clear hK); (try simp only [ncCast] at *); (try simp only [castI_eq] at *); (try rw [ho]); (try dsimp only [Ar.real, IX.vo, IX.val, BX.val, IX.toN]); (try simp only [QR3]); (try simp only [decide_eq_true_eq]); (all_goals (repeat rw [wrap_i64 (by omega) (by omega)])); (all_goals (first | omega | (simp only [Int.ofNat_eq_natCast]; omega)))); done)
            all_goals try first
              | (rw [f0 (by assumption)]; exact .b rfl)
              | (rw [n0 (by assumption)]; exact .b rfl)
              | (rw [n1 (by assumption)]; exact .b rfl)
              | (rw [n2 (by assumption)]; exact .b rfl)
              | (rw [n3 (by assumption)]; exact .b rfl)
            · have he := F0 (by assumption) (by assumption) (by assumption) (by assumption) (by assumption)
              refine hR _ (i + 1) (by show of.length - (i + 1) < of.length - i; ((try clear hR3); (try clear hR2); (try clear hR); (try clear hK); (try simp only [ncCast] at *); (try simp only [castI_eq] at *)); omega) ⟨by show i + 1 ≤ of.length; ((try clear hR3); (try clear hR2); (try clear hR); (try clear hK); (try simp only [ncCast] at *); (try simp only [castI_eq] at *)); omega, ok' he⟩ ?_
              (refine ⟨?_, ?_, ?_, ?_⟩ <;> cbv <;> repeat' (first | trivial | exact EqX.rfl' | exact EqO.rfl' | apply And.intro | ((try clear hR3); (try clear hR2); (try clear hR); (try clear hK); (try simp only [ncCast] at *); (try simp only [castI_eq] at *); refine EqX.i ?_; (try rw [ho]); (try dsimp only [Ar.real, IX.vo, IX.val, BX.val, IX.toN]); (try simp only [QR3]); (repeat rw [wrap_i64 (by omega) (by omega)]); omega)))
            · obtain rfl : i = of.length := by ((try clear hR3); (try clear hR2); (try clear hR); (try clear hK); (try simp only [ncCast] at *); (try simp only [castI_eq] at *)); omega
              have h3 := g3 hok
              clear hR ok' hok en1 en2 e3 g3
              refine LoopN.over (o := o) (D := dt8) ho hm hT (by kernel_rfl) (fun i : Nat => [(12, xn i)]) (fun _ => []) (fun _ => []) (fun i => i ≤ tk.length ∧ ∀ j, j < i → tk.getD j default = tk'.getD j default) (fun i => tk.length - i) 0 ⟨Nat.zero_le _, fun j hj => absurd hj (Nat.not_lt_zero j)⟩ ?_ ?_
              · (refine ⟨?_, ?_, ?_, ?_⟩ <;> cbv <;> repeat' (first | trivial | exact EqX.rfl' | exact EqO.rfl' | apply And.intro | ((try clear hR3); (try clear hR2); (try clear hR); (try clear hK); (try simp only [ncCast] at *); (try simp only [castI_eq] at *); refine EqX.i ?_; (try rw [ho]); (try dsimp only [Ar.real, IX.vo, IX.val, BX.val, IX.toN]); (try simp only [QR3]); (repeat rw [wrap_i64 (by omega) (by omega)]); omega)))
              · rintro i ⟨hi, hok⟩ R hR
                have e := e4 i
                have ok' := all_step hok
                have en1 : o.nth tk i = tk.getD i default := by rw [ho, real_nth]
                have en2 : o.nth tk' i = tk'.getD i default := by rw [ho, real_nth]
                have s0 := hS4 i
                have f0 : vEq (tk.getD i default).vec (tk'.getD i default).vec = false → r = false := fun h => e fun he => by rw [he] at h; exact absurd rfl (of_decide_eq_false h)
                have n0 : ¬ (tk.getD i default).frame = (tk'.getD i default).frame → r = false := fun h => e fun he => h (by rw [he])
                have n1 : ¬ (tk.getD i default).id = (tk'.getD i default).id → r = false := fun h => e fun he => h (by rw [he])
                have n2 : ¬ (tk.getD i default).agent = (tk'.getD i default).agent → r = false := fun h => e fun he => h (by rw [he])
                have F0 : (tk.getD i default).frame = (tk'.getD i default).frame → (tk.getD i default).id = (tk'.getD i default).id → (tk.getD i default).agent = (tk'.getD i default).agent → vEq (tk.getD i default).vec (tk'.getD i default).vec = true → tk.getD i default = tk'.getD i default := fun aframe aid aagent avec => by
                  generalize tk.getD i default = p at *
                  generalize tk'.getD i default = q at *
                  rw [Tsk.mk.injEq]
                  exact ⟨aframe, aid, aagent, of_decide_eq_true avec⟩
                generalize vEq (tk.getD i default).vec (tk'.getD i default).vec = w0 at *
                rw [← en1, ← en2, ← ho] at s0
                clear e
                cbv
                repeat' (first | (refine Br.mk (fun hb => ?_) (fun hb => ?_) <;> ((try rw [ho] at hb); (try dsimp only [Ar.real, IX.vo] at hb); (try simp only [QR3] at hb); (try simp only [QBo, beq_iff_eq, beq_eq_false_iff_ne, ne_eq] at hb))) | (refine StopN.mk ?_; cbv) | ((first | refine CallI.pure hP s0 fn38 rfl rfl rfl ?_); cbv) | (refine hK _ _ ?_) | (refine NeedT.mk ?_ ?_))
                any_goals (((try clear hR3); (try clear hR2); (try clear hR); (try clear hK); (try simp only [ncCast] at *); (try simp only [castI_eq] at *); (try rw [ho]); (try dsimp only [Ar.real, IX.vo, IX.val, BX.val, IX.toN]); (try simp only [QR3]); (try simp only [decide_eq_true_eq]); (all_goals (repeat rw [wrap_i64 (by omega) (by omega)])); (all_goals (first | omega | (simp only [Int.ofNat_eq_natCast]; omega)))); done)
                all_goals try first
                  | (rw [f0 (by assumption)]; exact .b rfl)
                  | (rw [n0 (by assumption)]; exact .b rfl)
                  | (rw [n1 (by assumption)]; exact .b rfl)
                  | (rw [n2 (by assumption)]; exact .b rfl)
                · have he := F0 (by assumption) (by assumption) (by assumption) (by assumption)
                  refine hR _ (i + 1) (by show tk.length - (i + 1) < tk.length - i; ((try clear hR3); (try clear hR2); (try clear hR); (try clear hK); (try simp only [ncCast] at *); (try simp only [castI_eq] at *)); omega) ⟨by show i + 1 ≤ tk.length; ((try clear hR3); (try clear hR2); (try clear hR); (try clear hK); (try simp only [ncCast] at *); (try simp only [castI_eq] at *)); omega, ok' he⟩ ?_
                  (refine ⟨?_, ?_, ?_, ?_⟩ <;> cbv <;> repeat' (first | trivial | exact EqX.rfl' | exact EqO.rfl' | apply And.intro | ((try clear hR3); (try clear hR2); (try clear hR); (try clear hK); (try simp only [ncCast] at *); (try simp only [castI_eq] at *); refine EqX.i ?_; (try rw [ho]); (try dsimp only [Ar.real, IX.vo, IX.val, BX.val, IX.toN]); (try simp only [QR3]); (repeat rw [wrap_i64 (by omega) (by omega)]); omega)))
                · obtain rfl : i = tk.length := by ((try clear hR3); (try clear hR2); (try clear hR); (try clear hK); (try simp only [ncCast] at *); (try simp only [castI_eq] at *)); omega
                  have h4 := g4 hok
                  clear hR ok' hok en1 en2 e4 g4
                  refine LoopN.over (o := o) (D := dt8) ho hm hT (by kernel_rfl) (fun i : Nat => [(15, xn i)]) (fun _ => []) (fun _ => []) (fun i => i ≤ fl.length ∧ ∀ j, j < i → fl.getD j default = fl'.getD j default) (fun i => fl.length - i) 0 ⟨Nat.zero_le _, fun j hj => absurd hj (Nat.not_lt_zero j)⟩ ?_ ?_
                  · (refine ⟨?_, ?_, ?_, ?_⟩ <;> cbv <;> repeat' (first | trivial | exact EqX.rfl' | exact EqO.rfl' | apply And.intro | ((try clear hR3); (try clear hR2); (try clear hR); (try clear hK); (try simp only [ncCast] at *); (try simp only [castI_eq] at *); refine EqX.i ?_; (try rw [ho]); (try dsimp only [Ar.real, IX.vo, IX.val, BX.val, IX.toN]); (try simp only [QR3]); (repeat rw [wrap_i64 (by omega) (by omega)]); omega)))
                  · rintro i ⟨hi, hok⟩ R hR
                    have e := e5 i
                    have ok' := all_step hok
                    have en1 : o.nth fl i = fl.getD i default := by rw [ho, real_nth]
                    have en2 : o.nth fl' i = fl'.getD i default := by rw [ho, real_nth]
                    have s0 := hS5 i
                    have f0 : vEq (fl.getD i default).vec (fl'.getD i default).vec = false → r = false := fun h => e fun he => by rw [he] at h; exact absurd rfl (of_decide_eq_false h)
                    have n0 : ¬ (fl.getD i default).frame = (fl'.getD i default).frame → r = false := fun h => e fun he => h (by rw [he])
                    have n1 : ¬ (fl.getD i default).agent = (fl'.getD i default).agent → r = false := fun h => e fun he => h (by rw [he])
                    have n2 : ¬ (fl.getD i default).til = (fl'.getD i default).til → r = false := fun h => e fun he => h (by rw [he])
                    have F0 : (fl.getD i default).frame = (fl'.getD i default).frame → (fl.getD i default).agent = (fl'.getD i default).agent → (fl.getD i default).til = (fl'.getD i default).til → vEq (fl.getD i default).vec (fl'.getD i default).vec = true → fl.getD i default = fl'.getD i default := fun aframe aagent atil avec => by
                      generalize fl.getD i default = p at *
                      generalize fl'.getD i default = q at *
                      rw [Flt.mk.injEq]
                      exact ⟨aframe, aagent, atil, of_decide_eq_true avec⟩
                    generalize vEq (fl.getD i default).vec (fl'.getD i default).vec = w0 at *
                    rw [← en1, ← en2, ← ho] at s0
                    clear e
                    cbv
                    repeat' (first | (refine Br.mk (fun hb => ?_) (fun hb => ?_) <;> ((try rw [ho] at hb); (try dsimp only [Ar.real, IX.vo] at hb); (try simp only [QR3] at hb); (try simp only [QBo, beq_iff_eq, beq_eq_false_iff_ne, ne_eq] at hb))) | (refine StopN.mk ?_; cbv) | ((first | refine CallI.pure hP s0 fn38 rfl rfl rfl ?_); cbv) | (refine hK _ _ ?_) | (refine NeedT.mk ?_ ?_))
                    any_goals (((try clear hR3); (try clear hR2); (try clear hR); (try clear hK); (try simp only [ncCast] at *); (try simp only [castI_eq] at *); (try rw [ho]); (try dsimp only [Ar.real, IX.vo, IX.val, BX.val, IX.toN]); (try simp only [QR3]); (try simp only [decide_eq_true_eq]); (all_goals (repeat rw [wrap_i64 (by omega) (by omega)])); (all_goals (first | omega | (simp only [Int.ofNat_eq_natCast]; omega)))); done)
                    all_goals try first
                      | (rw [f0 (by assumption)]; exact .b rfl)
                      | (rw [n0 (by assumption)]; exact .b rfl)
                      | (rw [n1 (by assumption)]; exact .b rfl)
                      | (rw [n2 (by assumption)]; exact .b rfl)
                    · have he := F0 (by assumption) (by assumption) (by assumption) (by assumption)
                      refine hR _ (i + 1) (by show fl.length - (i + 1) < fl.length - i; ((try clear hR3); (try clear hR2); (try clear hR); (try clear hK); (try simp only [ncCast] at *); (try simp only [castI_eq] at *)); omega) ⟨by show i + 1 ≤ fl.length; ((try clear hR3); (try clear hR2); (try clear hR); (try clear hK); (try simp only [ncCast] at *); (try simp only [castI_eq] at *)); omega, ok' he⟩ ?_
                      (refine ⟨?_, ?_, ?_, ?_⟩ <;> cbv <;> repeat' (first | trivial | exact EqX.rfl' | exact EqO.rfl' | apply And.intro | ((try clear hR3); (try clear hR2); (try clear hR); (try clear hK); (try simp only [ncCast] at *); (try simp only [castI_eq] at *); refine EqX.i ?_; (try rw [ho]); (try dsimp only [Ar.real, IX.vo, IX.val, BX.val, IX.toN]); (try simp only [QR3]); (repeat rw [wrap_i64 (by omega) (by omega)]); omega)))
                    · obtain rfl : i = fl.length := by ((try clear hR3); (try clear hR2); (try clear hR); (try clear hK); (try simp only [ncCast] at *); (try simp only [castI_eq] at *)); omega
                      have h5 := g5 hok
                      clear hR ok' hok en1 en2 e5 g5
                      rw [hr h1 h2 h3 h4 h5]
                      exact .b rfl
end Go.Proofs.YtddgcegimmcbgaaGreat.Sy
namespace Go.Proofs.YtddgcegimmcbgaaGreat.Sy
open Go Go.Sy Go.Proofs.YtddgcegimmcbgaaGreat Go.RowKit
theorem cloneF0 (A : Option Addr) (c : Nat) (w : World) : Calls Tryz.prog 39 #[.slice A 0 c] w fun e w' => ∃ A', e = .returned (.slice A' 0 0) ∧ (w' = w ∨ ∃ x, w' = w.alloc x) := by
  have h : Tryz.prog.underlying 25 = some (.slice 61) := by kernel_rfl
  have h1 := run_eq_nil0 h A c
  cases A with
  | none =>
    go_enter Tryz.func39, Tryz.ntmps39
    go_wp2
    go_ret
    exact ⟨_, rfl, .inl rfl⟩
  | some ad =>
    go_enter Tryz.func39, Tryz.ntmps39
    go_wp2
    go_ret
    exact ⟨_, rfl, .inr ⟨_, rfl⟩⟩
theorem fits_Frm (o : Ar) (ho : o = Ar.real) (v : List Frm) : (SL o Frm.X v).fits 7 := by
  intro row hr
  rw [rows_SL o ho] at hr
  obtain ⟨a, _, rfl⟩ := List.mem_map.1 hr
  exact ⟨rfl, rfl⟩
theorem rows_app0 {α : Type} [Inhabited α] {o : Ar} (ho : o = Ar.real) (enc : Ar → α → List X) (l : List α) : (RR.app (.lits []) (SL o enc l)).rows = (SL o enc l).rows := by
  subst ho
  simp [RR.rows, X.toCLL]
theorem x_CloneF (l : List Frm) (hl : l.length ≤ 1048576) : XC Tryz.prog 39 [.ro (SL Ar.real Frm.X l)] [] (.ro (SL Ar.real Frm.X l)) [] := by
  rcases Nat.eq_zero_or_pos l.length with h0 | h0
  · obtain rfl := List.length_eq_zero_iff.1 h0
    exact XC_at (XC.empty cloneF0) (fun _ => rfl) (fun _ => rfl)
  · (refine XC.of_body ([]) Tryz.func39 rfl Tryz.ntmps39 mixed (T := tl39) tk39 (by kernel_rfl) (by simp) rfl rfl rfl rfl rfl ?_; rintro o ho P hP c K hK; have hm : P.follows .mixedOrders = true := hP ▸ mixed; have hT : TOk P tl39 := hP ▸ tk39; (try rw [← ho]); cbv; (repeat (refine StopN.mk ?_; cbv)))
    repeat' (first | (refine Br.mk (fun hb => ?_) (fun hb => ?_) <;> ((try rw [ho] at hb); (try dsimp only [Ar.real, IX.vo] at hb); (try simp only [QR3] at hb); (try simp only [QBo, beq_iff_eq, beq_eq_false_iff_ne, ne_eq] at hb))) | (refine StopN.mk ?_; cbv) | (refine hK _ _ ?_) | (refine NeedT.mk ?_ ?_))
    any_goals (((try clear hR3); (try clear hR2); (try clear hR); (try clear hK); (try simp only [ncCast] at *); (try simp only [castI_eq] at *); (try rw [ho]); (try dsimp only [Ar.real, IX.vo, IX.val, BX.val, IX.toN]); (try simp only [QR3]); (try simp only [decide_eq_true_eq]); (all_goals (repeat rw [wrap_i64 (by omega) (by omega)])); (all_goals (first | omega | (simp only [Int.ofNat_eq_natCast]; omega)))); done)
    have hr : 0 < (SL o Frm.X l).rows.length := by rw [rows_SL o ho, List.length_map]; exact h0
    refine OpN.app0 ho hT rfl rfl (by rw [hP]; exact tok25.k) (by rw [hP]; exact tok61.sz) (fun h => absurd h (Nat.ne_of_gt hr)) (fun _ => ?_)
    cbv
    repeat' (first | (refine Br.mk (fun hb => ?_) (fun hb => ?_) <;> ((try rw [ho] at hb); (try dsimp only [Ar.real, IX.vo] at hb); (try simp only [QR3] at hb); (try simp only [QBo, beq_iff_eq, beq_eq_false_iff_ne, ne_eq] at hb))) | (refine StopN.mk ?_; cbv) | (refine hK _ _ ?_) | (refine NeedT.mk ?_ ?_) | (refine NeedP.mk (fits_Frm o ho l) ?_))
    any_goals (((try clear hR3); (try clear hR2); (try clear hR); (try clear hK); (try simp only [ncCast] at *); (try simp only [castI_eq] at *); (try rw [ho]); (try dsimp only [Ar.real, IX.vo, IX.val, BX.val, IX.toN]); (try simp only [QR3]); (try simp only [decide_eq_true_eq]); (all_goals (repeat rw [wrap_i64 (by omega) (by omega)])); (all_goals (first | omega | (simp only [Int.ofNat_eq_natCast]; omega)))); done)
    exact .ro ((rows_app0 ho Frm.X l).trans (by rw [ho]))
def nilX : X := .v (.slice none 0 0)
theorem x_bCopy (b : Bk) (hbk : BkOk b) : XC Tryz.prog 9 [.agg (Bk.X Ar.real b)] [] (.agg (Bk.X Ar.real b)) [] := by
  have n1 := hbk.n_ag
  have n2 := hbk.n_of
  have n3 := hbk.n_tk
  have n4 := hbk.n_fl
  have hC := x_CloneF b.fr hbk.n_fr
  have hA1 := fun i => x_Copy (b.ag.getD i default).total (hbk.a1 i)
  have hA2 := fun i => x_Copy (b.ag.getD i default).free (hbk.a2 i)
  have hO := fun i => x_Copy (b.of.getD i default).vec (hbk.o1 i)
  have hT1 := fun i => x_Copy (b.tk.getD i default).vec (hbk.t1 i)
  have hL := fun i => x_Copy (b.fl.getD i default).vec (hbk.l1 i)
  obtain ⟨⟨c1, c2, c3, c4, c5, ⟨c6, c7, c8, c9⟩⟩, now, last, fr, ag, of, tk, fl⟩ := b
  dsimp only at *
  clear hbk
  (refine XC.of_body (dt9) Tryz.func9 rfl Tryz.ntmps9 mixed (T := tl9) tk9 (by kernel_rfl) (by simp) rfl rfl rfl rfl rfl ?_; rintro o ho P hP c K hK; have hm : P.follows .mixedOrders = true := hP ▸ mixed; have hT : TOk P tl9 := hP ▸ tk9; (try rw [← ho]); cbv; (repeat (refine StopN.mk ?_; cbv)))
  rw [← ho] at hC
  repeat' (first | (refine Br.mk (fun hb => ?_) (fun hb => ?_) <;> ((try rw [ho] at hb); (try dsimp only [Ar.real, IX.vo] at hb); (try simp only [QR3] at hb); (try simp only [QBo, beq_iff_eq, beq_eq_false_iff_ne, ne_eq] at hb))) | (refine StopN.mk ?_; cbv) | (first | refine CallI.pure hP hC fn39 rfl rfl rfl ?_ | refine CallN.pure hP hC fn39 rfl rfl rfl ?_); cbv | ((first | refine CallI.pure hP (x_Copy _ ‹_›) fn40 (by first | rfl | (rw [ho]; try rfl)) (by rfl) (by first | rfl | (rw [ho]; try rfl)) ?_ | refine CallN.pure hP (x_Copy _ ‹_›) fn40 (by first | rfl | (rw [ho]; try rfl)) (by rfl) (by first | rfl | (rw [ho]; try rfl)) ?_); (try rw [← ho]); cbv) | (refine hK _ _ ?_) | (refine NeedT.mk ?_ ?_))
  refine LoopN.ghostv 2 12 41 3 31 _ rfl rfl ?_
  refine LoopN.over (o := o) (D := dt9) ho hm hT (by kernel_rfl) (fun s : StL Agt => [(25, xn s.i)]) (fun s => [(2, .var [xi c1, xi c2, xi c3, xi c4, xi c5, xi c6, xi c7, xi c8, xi c9, xi now, xi last, .ro (SL o Frm.X fr), .own (.loc 3) s.rv, nilX, nilX, nilX] 31), (3, .row s.rv 41 3 (SL o Agt.X s.out))]) (fun _ => []) (fun s => s.i ≤ ag.length ∧ s.out = ag.take s.i) (fun s => ag.length - s.i) ⟨0, 0, []⟩ ⟨Nat.zero_le _, rfl⟩ ?_ ?_
  · (refine ⟨?_, ?_, ?_, ?_⟩ <;> cbv <;> repeat' (first | trivial | exact EqX.rfl' | exact EqO.rfl' | apply And.intro | ((try clear hR3); (try clear hR2); (try clear hR); (try clear hK); (try simp only [ncCast] at *); (try simp only [castI_eq] at *); refine EqX.i ?_; (try rw [ho]); (try dsimp only [Ar.real, IX.vo, IX.val, BX.val, IX.toN]); (try simp only [QR3]); (repeat rw [wrap_i64 (by omega) (by omega)]); omega) | (exact EqO.row rfl (rows_nil_SL o ho Agt.X))))
  · rintro ⟨i0, rv0, out0⟩ ⟨hi, hout0⟩ R hR
    dsimp only at hi hout0
    have ei : o.nth ag i0 = ag.getD i0 default := by rw [ho, real_nth]
    have hol : out0.length ≤ 1048576 := by rw [hout0, List.length_take]; omega
    have h1 := hA1 i0
    have h2 := hA2 i0
    have hs : i0 < ag.length → ag.take (i0 + 1) = out0 ++ [ag.getD i0 default] := fun h => by
      rw [List.take_succ_eq_append_getElem h, hout0, getD_el h]
    have hend : ag.length ≤ i0 → out0 = ag := fun h => by rw [hout0, List.take_of_length_le h]
    obtain ⟨z, hz⟩ : ∃ z, z = ag.take (i0 + 1) := ⟨_, rfl⟩
    rw [← hz] at hs
    rw [← ei, ← ho] at h1 h2
    cbv
    repeat' (first | (refine Br.mk (fun hb => ?_) (fun hb => ?_) <;> ((try rw [ho] at hb); (try dsimp only [Ar.real, IX.vo] at hb); (try simp only [QR3] at hb); (try simp only [QBo, beq_iff_eq, beq_eq_false_iff_ne, ne_eq] at hb))) | (refine StopN.mk ?_; cbv) | (first | refine CallI.pure hP h1 fn40 rfl rfl rfl ?_ | refine CallN.pure hP h1 fn40 rfl rfl rfl ?_ | refine CallI.pure hP h2 fn40 rfl rfl rfl ?_ | refine CallN.pure hP h2 fn40 rfl rfl rfl ?_); cbv | ((first | refine CallI.pure hP (x_CloneF _ ‹_›) fn39 (by first | rfl | (rw [ho]; try rfl)) (by rfl) (by first | rfl | (rw [ho]; try rfl)) ?_ | refine CallN.pure hP (x_CloneF _ ‹_›) fn39 (by first | rfl | (rw [ho]; try rfl)) (by rfl) (by first | rfl | (rw [ho]; try rfl)) ?_); (try rw [← ho]); cbv) | (refine hK _ _ ?_) | (refine NeedT.mk ?_ ?_))
    any_goals (((try clear hR3); (try clear hR2); (try clear hR); (try clear hK); (try simp only [ncCast] at *); (try simp only [castI_eq] at *); (try rw [ho]); (try dsimp only [Ar.real, IX.vo, IX.val, BX.val, IX.toN]); (try simp only [QR3]); (try simp only [decide_eq_true_eq]); (all_goals (repeat rw [wrap_i64 (by omega) (by omega)])); (all_goals (first | omega | (simp only [Int.ofNat_eq_natCast]; omega)))); done)
    · have hs := hs (by assumption)
      refine hR _ ⟨i0 + 1, rv0 + 1, z⟩ (by show ag.length - (i0 + 1) < ag.length - i0; ((try clear hR3); (try clear hR2); (try clear hR); (try clear hK); (try simp only [ncCast] at *); (try simp only [castI_eq] at *)); omega) ⟨by show i0 + 1 ≤ ag.length; ((try clear hR3); (try clear hR2); (try clear hR); (try clear hK); (try simp only [ncCast] at *); (try simp only [castI_eq] at *)); omega, hz⟩ ?_
      (refine ⟨?_, ?_, ?_, ?_⟩ <;> cbv <;> repeat' (first | trivial | exact EqX.rfl' | exact EqO.rfl' | apply And.intro | ((try clear hR3); (try clear hR2); (try clear hR); (try clear hK); (try simp only [ncCast] at *); (try simp only [castI_eq] at *); refine EqX.i ?_; (try rw [ho]); (try dsimp only [Ar.real, IX.vo, IX.val, BX.val, IX.toN]); (try simp only [QR3]); (repeat rw [wrap_i64 (by omega) (by omega)]); omega) | (refine EqO.snoc ho Agt.X out0 _ _ _ rfl hs ?_; rw [ho]; rfl)))
    · have he0 := hend (by assumption)
      clear hend hs hR hz z ei h1 h2 hol hout0
      refine LoopN.ghostv 2 13 43 5 31 _ rfl rfl ?_
      refine LoopN.over (o := o) (D := dt9) ho hm hT (by kernel_rfl) (fun s : StL Ofr => [(47, xn s.i)]) (fun s => [(2, .var [xi c1, xi c2, xi c3, xi c4, xi c5, xi c6, xi c7, xi c8, xi c9, xi now, xi last, .ro (SL o Frm.X fr), .own (.loc 3) rv0, .own (.loc 4) s.rv, nilX, nilX] 31), (4, .row s.rv 43 5 (SL o Ofr.X s.out))]) (fun _ => []) (fun s => s.i ≤ of.length ∧ s.out = of.take s.i) (fun s => of.length - s.i) ⟨0, 0, []⟩ ⟨Nat.zero_le _, rfl⟩ ?_ ?_
      · (refine ⟨?_, ?_, ?_, ?_⟩ <;> cbv <;> repeat' (first | trivial | exact EqX.rfl' | exact EqO.rfl' | apply And.intro | ((try clear hR3); (try clear hR2); (try clear hR); (try clear hK); (try simp only [ncCast] at *); (try simp only [castI_eq] at *); refine EqX.i ?_; (try rw [ho]); (try dsimp only [Ar.real, IX.vo, IX.val, BX.val, IX.toN]); (try simp only [QR3]); (repeat rw [wrap_i64 (by omega) (by omega)]); omega) | (exact EqO.row rfl (rows_nil_SL o ho Ofr.X))))
      · rintro ⟨i1, rv1, out1⟩ ⟨hi, hout1⟩ R hR
        dsimp only at hi hout1
        have ei : o.nth of i1 = of.getD i1 default := by rw [ho, real_nth]
        have hol : out1.length ≤ 1048576 := by rw [hout1, List.length_take]; omega
        have h1 := hO i1
        have hs : i1 < of.length → of.take (i1 + 1) = out1 ++ [of.getD i1 default] := fun h => by
          rw [List.take_succ_eq_append_getElem h, hout1, getD_el h]
        have hend : of.length ≤ i1 → out1 = of := fun h => by rw [hout1, List.take_of_length_le h]
        obtain ⟨z, hz⟩ : ∃ z, z = of.take (i1 + 1) := ⟨_, rfl⟩
        rw [← hz] at hs
        rw [← ei, ← ho] at h1
        cbv
        repeat' (first | (refine Br.mk (fun hb => ?_) (fun hb => ?_) <;> ((try rw [ho] at hb); (try dsimp only [Ar.real, IX.vo] at hb); (try simp only [QR3] at hb); (try simp only [QBo, beq_iff_eq, beq_eq_false_iff_ne, ne_eq] at hb))) | (refine StopN.mk ?_; cbv) | (first | refine CallI.pure hP h1 fn40 rfl rfl rfl ?_ | refine CallN.pure hP h1 fn40 rfl rfl rfl ?_); cbv | ((first | refine CallI.pure hP (x_CloneF _ ‹_›) fn39 (by first | rfl | (rw [ho]; try rfl)) (by rfl) (by first | rfl | (rw [ho]; try rfl)) ?_ | refine CallN.pure hP (x_CloneF _ ‹_›) fn39 (by first | rfl | (rw [ho]; try rfl)) (by rfl) (by first | rfl | (rw [ho]; try rfl)) ?_); (try rw [← ho]); cbv) | (refine hK _ _ ?_) | (refine NeedT.mk ?_ ?_))
        any_goals (((try clear hR3); (try clear hR2); (try clear hR); (try clear hK); (try simp only [ncCast] at *); (try simp only [castI_eq] at *); (try rw [ho]); (try dsimp only [Ar.real, IX.vo, IX.val, BX.val, IX.toN]); (try simp only [QR3]); (try simp only [decide_eq_true_eq]); (all_goals (repeat rw [wrap_i64 (by omega) (by omega)])); (all_goals (first | omega | (simp only [Int.ofNat_eq_natCast]; omega)))); done)
        · have hs := hs (by assumption)
          refine hR _ ⟨i1 + 1, rv1 + 1, z⟩ (by show of.length - (i1 + 1) < of.length - i1; ((try clear hR3); (try clear hR2); (try clear hR); (try clear hK); (try simp only [ncCast] at *); (try simp only [castI_eq] at *)); omega) ⟨by show i1 + 1 ≤ of.length; ((try clear hR3); (try clear hR2); (try clear hR); (try clear hK); (try simp only [ncCast] at *); (try simp only [castI_eq] at *)); omega, hz⟩ ?_
          (refine ⟨?_, ?_, ?_, ?_⟩ <;> cbv <;> repeat' (first | trivial | exact EqX.rfl' | exact EqO.rfl' | apply And.intro | ((try clear hR3); (try clear hR2); (try clear hR); (try clear hK); (try simp only [ncCast] at *); (try simp only [castI_eq] at *); refine EqX.i ?_; (try rw [ho]); (try dsimp only [Ar.real, IX.vo, IX.val, BX.val, IX.toN]); (try simp only [QR3]); (repeat rw [wrap_i64 (by omega) (by omega)]); omega) | (refine EqO.snoc ho Ofr.X out1 _ _ _ rfl hs ?_; rw [ho]; rfl)))
        · have he1 := hend (by assumption)
          clear hend hs hR hz z ei h1 hol hout1
          refine LoopN.ghostv 2 14 45 4 31 _ rfl rfl ?_
          refine LoopN.over (o := o) (D := dt9) ho hm hT (by kernel_rfl) (fun s : StL Tsk => [(65, xn s.i)]) (fun s => [(2, .var [xi c1, xi c2, xi c3, xi c4, xi c5, xi c6, xi c7, xi c8, xi c9, xi now, xi last, .ro (SL o Frm.X fr), .own (.loc 3) rv0, .own (.loc 4) rv1, .own (.loc 5) s.rv, nilX] 31), (5, .row s.rv 45 4 (SL o Tsk.X s.out))]) (fun _ => []) (fun s => s.i ≤ tk.length ∧ s.out = tk.take s.i) (fun s => tk.length - s.i) ⟨0, 0, []⟩ ⟨Nat.zero_le _, rfl⟩ ?_ ?_
          · (refine ⟨?_, ?_, ?_, ?_⟩ <;> cbv <;> repeat' (first | trivial | exact EqX.rfl' | exact EqO.rfl' | apply And.intro | ((try clear hR3); (try clear hR2); (try clear hR); (try clear hK); (try simp only [ncCast] at *); (try simp only [castI_eq] at *); refine EqX.i ?_; (try rw [ho]); (try dsimp only [Ar.real, IX.vo, IX.val, BX.val, IX.toN]); (try simp only [QR3]); (repeat rw [wrap_i64 (by omega) (by omega)]); omega) | (exact EqO.row rfl (rows_nil_SL o ho Tsk.X))))
          · rintro ⟨i2, rv2, out2⟩ ⟨hi, hout2⟩ R hR
            dsimp only at hi hout2
            have ei : o.nth tk i2 = tk.getD i2 default := by rw [ho, real_nth]
            have hol : out2.length ≤ 1048576 := by rw [hout2, List.length_take]; omega
            have h1 := hT1 i2
            have hs : i2 < tk.length → tk.take (i2 + 1) = out2 ++ [tk.getD i2 default] := fun h => by
              rw [List.take_succ_eq_append_getElem h, hout2, getD_el h]
            have hend : tk.length ≤ i2 → out2 = tk := fun h => by rw [hout2, List.take_of_length_le h]
            obtain ⟨z, hz⟩ : ∃ z, z = tk.take (i2 + 1) := ⟨_, rfl⟩
            rw [← hz] at hs
            rw [← ei, ← ho] at h1
            cbv
            repeat' (first | (refine Br.mk (fun hb => ?_) (fun hb => ?_) <;> ((try rw [ho] at hb); (try dsimp only [Ar.real, IX.vo] at hb); (try simp only [QR3] at hb); (try simp only [QBo, beq_iff_eq, beq_eq_false_iff_ne, ne_eq] at hb))) | (refine StopN.mk ?_; cbv) | (first | refine CallI.pure hP h1 fn40 rfl rfl rfl ?_ | refine CallN.pure hP h1 fn40 rfl rfl rfl ?_); cbv | ((first | refine CallI.pure hP (x_CloneF _ ‹_›) fn39 (by first | rfl | (rw [ho]; try rfl)) (by rfl) (by first | rfl | (rw [ho]; try rfl)) ?_ | refine CallN.pure hP (x_CloneF _ ‹_›) fn39 (by first | rfl | (rw [ho]; try rfl)) (by rfl) (by first | rfl | (rw [ho]; try rfl)) ?_); (try rw [← ho]); cbv) | (refine hK _ _ ?_) | (refine NeedT.mk ?_ ?_))
            any_goals (((try clear hR3); (try clear hR2); (try clear hR); (try clear hK); (try simp only [ncCast] at *); (try simp only [castI_eq] at *); (try rw [ho]); (try dsimp only [Ar.real, IX.vo, IX.val, BX.val, IX.toN]); (try simp only [QR3]); (try simp only [decide_eq_true_eq]); (all_goals (repeat rw [wrap_i64 (by omega) (by omega)])); (all_goals (first | omega | (simp only [Int.ofNat_eq_natCast]; omega)))); done)
            · have hs := hs (by assumption)
              refine hR _ ⟨i2 + 1, rv2 + 1, z⟩ (by show tk.length - (i2 + 1) < tk.length - i2; ((try clear hR3); (try clear hR2); (try clear hR); (try clear hK); (try simp only [ncCast] at *); (try simp only [castI_eq] at *)); omega) ⟨by show i2 + 1 ≤ tk.length; ((try clear hR3); (try clear hR2); (try clear hR); (try clear hK); (try simp only [ncCast] at *); (try simp only [castI_eq] at *)); omega, hz⟩ ?_
              (refine ⟨?_, ?_, ?_, ?_⟩ <;> cbv <;> repeat' (first | trivial | exact EqX.rfl' | exact EqO.rfl' | apply And.intro | ((try clear hR3); (try clear hR2); (try clear hR); (try clear hK); (try simp only [ncCast] at *); (try simp only [castI_eq] at *); refine EqX.i ?_; (try rw [ho]); (try dsimp only [Ar.real, IX.vo, IX.val, BX.val, IX.toN]); (try simp only [QR3]); (repeat rw [wrap_i64 (by omega) (by omega)]); omega) | (refine EqO.snoc ho Tsk.X out2 _ _ _ rfl hs ?_; rw [ho]; rfl)))
            · have he2 := hend (by assumption)
              clear hend hs hR hz z ei h1 hol hout2
              refine LoopN.ghostv 2 15 47 4 31 _ rfl rfl ?_
              refine LoopN.over (o := o) (D := dt9) ho hm hT (by kernel_rfl) (fun s : StL Flt => [(83, xn s.i)]) (fun s => [(2, .var [xi c1, xi c2, xi c3, xi c4, xi c5, xi c6, xi c7, xi c8, xi c9, xi now, xi last, .ro (SL o Frm.X fr), .own (.loc 3) rv0, .own (.loc 4) rv1, .own (.loc 5) rv2, .own (.loc 6) s.rv] 31), (6, .row s.rv 47 4 (SL o Flt.X s.out))]) (fun _ => []) (fun s => s.i ≤ fl.length ∧ s.out = fl.take s.i) (fun s => fl.length - s.i) ⟨0, 0, []⟩ ⟨Nat.zero_le _, rfl⟩ ?_ ?_
              · (refine ⟨?_, ?_, ?_, ?_⟩ <;> cbv <;> repeat' (first | trivial | exact EqX.rfl' | exact EqO.rfl' | apply And.intro | ((try clear hR3); (try clear hR2); (try clear hR); (try clear hK); (try simp only [ncCast] at *); (try simp only [castI_eq] at *); refine EqX.i ?_; (try rw [ho]); (try dsimp only [Ar.real, IX.vo, IX.val, BX.val, IX.toN]); (try simp only [QR3]); (repeat rw [wrap_i64 (by omega) (by omega)]); omega) | (exact EqO.row rfl (rows_nil_SL o ho Flt.X))))
              · rintro ⟨i3, rv3, out3⟩ ⟨hi, hout3⟩ R hR
                dsimp only at hi hout3
                have ei : o.nth fl i3 = fl.getD i3 default := by rw [ho, real_nth]
                have hol : out3.length ≤ 1048576 := by rw [hout3, List.length_take]; omega
                have h1 := hL i3
                have hs : i3 < fl.length → fl.take (i3 + 1) = out3 ++ [fl.getD i3 default] := fun h => by
                  rw [List.take_succ_eq_append_getElem h, hout3, getD_el h]
                have hend : fl.length ≤ i3 → out3 = fl := fun h => by rw [hout3, List.take_of_length_le h]
                obtain ⟨z, hz⟩ : ∃ z, z = fl.take (i3 + 1) := ⟨_, rfl⟩
                rw [← hz] at hs
                rw [← ei, ← ho] at h1
                cbv
                repeat' (first | (refine Br.mk (fun hb => ?_) (fun hb => ?_) <;> ((try rw [ho] at hb); (try dsimp only [Ar.real, IX.vo] at hb); (try simp only [QR3] at hb); (try simp only [QBo, beq_iff_eq, beq_eq_false_iff_ne, ne_eq] at hb))) | (refine StopN.mk ?_; cbv) | (first | refine CallI.pure hP h1 fn40 rfl rfl rfl ?_ | refine CallN.pure hP h1 fn40 rfl rfl rfl ?_); cbv | ((first | refine CallI.pure hP (x_CloneF _ ‹_›) fn39 (by first | rfl | (rw [ho]; try rfl)) (by rfl) (by first | rfl | (rw [ho]; try rfl)) ?_ | refine CallN.pure hP (x_CloneF _ ‹_›) fn39 (by first | rfl | (rw [ho]; try rfl)) (by rfl) (by first | rfl | (rw [ho]; try rfl)) ?_); (try rw [← ho]); cbv) | (refine hK _ _ ?_) | (refine NeedT.mk ?_ ?_))
                any_goals (((try clear hR3); (try clear hR2); (try clear hR); (try clear hK); (try simp only [ncCast] at *); (try simp only [castI_eq] at *); (try rw [ho]); (try dsimp only [Ar.real, IX.vo, IX.val, BX.val, IX.toN]); (try simp only [QR3]); (try simp only [decide_eq_true_eq]); (all_goals (repeat rw [wrap_i64 (by omega) (by omega)])); (all_goals (first | omega | (simp only [Int.ofNat_eq_natCast]; omega)))); done)
                · have hs := hs (by assumption)
                  refine hR _ ⟨i3 + 1, rv3 + 1, z⟩ (by show fl.length - (i3 + 1) < fl.length - i3; ((try clear hR3); (try clear hR2); (try clear hR); (try clear hK); (try simp only [ncCast] at *); (try simp only [castI_eq] at *)); omega) ⟨by show i3 + 1 ≤ fl.length; ((try clear hR3); (try clear hR2); (try clear hR); (try clear hK); (try simp only [ncCast] at *); (try simp only [castI_eq] at *)); omega, hz⟩ ?_
                  (refine ⟨?_, ?_, ?_, ?_⟩ <;> cbv <;> repeat' (first | trivial | exact EqX.rfl' | exact EqO.rfl' | apply And.intro | ((try clear hR3); (try clear hR2); (try clear hR); (try clear hK); (try simp only [ncCast] at *); (try simp only [castI_eq] at *); refine EqX.i ?_; (try rw [ho]); (try dsimp only [Ar.real, IX.vo, IX.val, BX.val, IX.toN]); (try simp only [QR3]); (repeat rw [wrap_i64 (by omega) (by omega)]); omega) | (refine EqO.snoc ho Flt.X out3 _ _ _ rfl hs ?_; rw [ho]; rfl)))
                · have he3 := hend (by assumption)
                  clear hend hs hR hz z ei h1 hol hout3
                  subst he0 he1 he2 he3
                  exact .pure fun _ => by rw [ho]; rfl
end Go.Proofs.YtddgcegimmcbgaaGreat.Sy
namespace Go.Proofs.YtddgcegimmcbgaaGreat.Sy
open Go Go.Sy Go.Proofs.YtddgcegimmcbgaaGreat
theorem x_r16Rule (b : Bk) (hbk : BkOk b) : XC Tryz.prog 6 [.agg (Bk.X Ar.real b)] [] (xi (ruleP b)) [] := by
  have h1 := x_r13Right b.cfg
  have h2 := x_r16frames b hbk
  have h3 := x_r16agents b hbk
  have hs0 : setB b = (cfgB b.cfg && (decide (0 ≤ b.now) && (decide (b.now ≤ b.cfg.hor) && (decide (0 ≤ b.last) && decide (b.last ≤ b.cfg.ids))))) := rfl
  have h4 := fun (e1 : setB b = true) (e3 : agentsB b = true) => x_r16most b hbk (pB_iff.1 e3).1 (cfgB_iff.1 (setB_true e1).1).most
  have h5 := fun (e1 : setB b = true) => x_r16offers b hbk (by
    have h := setB_true e1
    have hc := cfgB_iff.1 h.1
    exact ⟨⟨h.2.1, Int.le_trans h.2.2.1 hc.hor.2⟩, hc.life⟩)
  have h6 := x_r16tasks b hbk
  have h7 := x_r16filters b hbk
  have h8 := x_r16ledger b hbk
  have hl := ledgerB_eq (b := b)
  have hr : ruleP b = if setB b = false then 1 else if framesB b = false then 2 else if agentsB b = false then 3 else if mostB b = false then 4 else if offersB b = false then 5 else if tasksB b = false then 6 else if filtersB b = false then 7 else if ledgerB b = false then 8 else 0 := rfl
  generalize setB b = s1 at *
  generalize framesB b = s2 at *
  generalize agentsB b = s3 at *
  generalize mostB b = s4 at *
  generalize offersB b = s5 at *
  generalize tasksB b = s6 at *
  generalize filtersB b = s7 at *
  generalize ledgerB b = s8 at *
  generalize pB (∀ i, i < b.ag.length → LdOk b i) = s9 at *
  generalize cfgB b.cfg = s0 at *
  generalize ruleP b = r at *
  obtain ⟨⟨k1, k2, k3, k4, k5, ⟨k6, k7, k8, k9⟩⟩, now, last, fr, ag, of, tk, fl⟩ := b
  clear hbk
  dsimp only at hs0
  have hS : s0 = true → 0 ≤ now → now ≤ k1 → 0 ≤ last → last ≤ k3 → s1 = true := fun a1 a2 a3 a4 a5 => by
    rw [hs0, a1, decide_eq_true a2, decide_eq_true a3, decide_eq_true a4, decide_eq_true a5]
    rfl
  have hX : s1 = false → r = 1 := fun h => by rw [hr, if_pos h]
  have N1 : s0 = false → r = 1 := fun h => hX (by rw [hs0, h]; rfl)
  have N2 : now < 0 → r = 1 := fun h => hX (by rw [hs0, decide_eq_false (p := 0 ≤ now) (by omega)]; simp)
  have N3 : k1 < now → r = 1 := fun h => hX (by rw [hs0, decide_eq_false (p := now ≤ k1) (by omega)]; simp)
  have N4 : last < 0 → r = 1 := fun h => hX (by rw [hs0, decide_eq_false (p := 0 ≤ last) (by omega)]; simp)
  have N5 : k3 < last → r = 1 := fun h => hX (by rw [hs0, decide_eq_false (p := last ≤ k3) (by omega)]; simp)
  have hr2 : s0 = true → 0 ≤ now → now ≤ k1 → 0 ≤ last → last ≤ k3 → r = if s2 = false then 2 else if s3 = false then 3 else if s4 = false then 4 else if s5 = false then 5 else if s6 = false then 6 else if s7 = false then 7 else if s8 = false then 8 else 0 := fun a1 a2 a3 a4 a5 => by
    rw [hr, if_neg (by rw [hS a1 a2 a3 a4 a5]; decide)]
  clear hr hX hs0
  (refine XC.of_body (dt6) Tryz.func6 rfl Tryz.ntmps6 mixed (T := tl6) tk6 (by kernel_rfl) (by simp) rfl rfl rfl rfl rfl ?_; rintro o ho P hP c K hK; have hm : P.follows .mixedOrders = true := hP ▸ mixed; have hT : TOk P tl6 := hP ▸ tk6; (try rw [← ho]); cbv; (repeat (refine StopN.mk ?_; cbv)))
  repeat' (first | (refine Br.mk (fun hb => ?_) (fun hb => ?_) <;> ((try rw [ho] at hb); (try dsimp only [Ar.real, IX.vo] at hb); (try simp only [QR3, QP1, QB7] at hb); (try simp only [QBo, beq_iff_eq, beq_eq_false_iff_ne, ne_eq] at hb))) | (refine StopN.mk ?_; cbv) | (first | refine NeedT.mk (by rw [ho]; rfl) ?_ | ((first | refine CallI.pure hP h1 fn19 rfl rfl rfl ?_ | refine CallI.pure hP h2 fn20 rfl rfl (by rw [ho]; rfl) ?_ | refine CallN.pure hP h2 fn20 rfl rfl (by rw [ho]; rfl) ?_ | refine CallI.pure hP h3 fn21 rfl rfl (by rw [ho]; rfl) ?_ | refine CallN.pure hP h3 fn21 rfl rfl (by rw [ho]; rfl) ?_ | refine CallI.pure hP (h4 (hS ‹_› ‹_› ‹_› ‹_› ‹_›) ‹_›) fn22 rfl rfl (by rw [ho]; rfl) ?_ | refine CallN.pure hP (h4 (hS ‹_› ‹_› ‹_› ‹_› ‹_›) ‹_›) fn22 rfl rfl (by rw [ho]; rfl) ?_ | refine CallI.pure hP (h5 (hS ‹_› ‹_› ‹_› ‹_› ‹_›)) fn23 rfl rfl (by rw [ho]; rfl) ?_ | refine CallN.pure hP (h5 (hS ‹_› ‹_› ‹_› ‹_› ‹_›)) fn23 rfl rfl (by rw [ho]; rfl) ?_ | refine CallI.pure hP h6 fn24 rfl rfl (by rw [ho]; rfl) ?_ | refine CallN.pure hP h6 fn24 rfl rfl (by rw [ho]; rfl) ?_ | refine CallI.pure hP h7 fn25 rfl rfl (by rw [ho]; rfl) ?_ | refine CallN.pure hP h7 fn25 rfl rfl (by rw [ho]; rfl) ?_ | refine CallI.pure hP h8 fn26 rfl rfl (by rw [ho]; rfl) ?_ | refine CallN.pure hP h8 fn26 rfl rfl (by rw [ho]; rfl) ?_); cbv)) | (refine hK _ _ ?_) | (refine NeedT.mk ?_ ?_) | (refine LoopN.lay (o := o) (D := dt6) 3 ho hm hT (by kernel_rfl) ?_; cbv))
  all_goals try first
    | (rw [N1 (by assumption)]; exact .i rfl)
    | (rw [N2 (by assumption)]; exact .i rfl)
    | (rw [N3 (by assumption)]; exact .i rfl)
    | (rw [N4 (by assumption)]; exact .i rfl)
    | (rw [N5 (by assumption)]; exact .i rfl)
  all_goals
    refine .i ?_
    rw [hr2 (by assumption) (by assumption) (by assumption) (by assumption) (by assumption)]
    clear h1 h2 h3 h4 h5 h6 h7 h8 hK hr2 hS N1 N2 N3 N4 N5
    simp_all
    try rfl
theorem x_BookRights (a b : Bk) (ha : BkOk a) (hb : BkOk b) : XC Tryz.prog 3 [.agg (Bk.X Ar.real a), .agg (Bk.X Ar.real b)] [] (xb true) [] := by
  have hWk := x_works16
  have hF1 := x_Few a ha
  have hF2 := x_Few b hb
  have hR1 := x_Right a ha
  have hR2 := x_r16Rule a ha
  have hS1 := x_bSame a b ha hb
  have hS2 := x_r16Same a b ha hb
  have hS3 := x_bSame a a ha ha
  have hC := x_bCopy a ha
  have hS4 := x_r16Same a a ha ha
  rw [pB_t rfl] at hS3 hS4
  generalize fewR a = f1 at *
  generalize fewR b = f2 at *
  generalize hq : decide (ruleP a = 0) = q at *
  generalize ruleP a = r at *
  generalize pB (a = b) = s at *
  obtain ⟨⟨c1, c2, c3, c4, c5, ⟨c6, c7, c8, c9⟩⟩, now, last, fr, ag, of, tk, fl⟩ := a
  obtain ⟨⟨d1, d2, d3, d4, d5, ⟨d6, d7, d8, d9⟩⟩, now', last', fr', ag', of', tk', fl'⟩ := b
  clear ha hb
  (refine XC.of_body (dt3) Tryz.func3 rfl Tryz.ntmps3 mixed (T := tl3) tk3 (by kernel_rfl) (by simp) rfl rfl rfl rfl rfl ?_; rintro o ho P hP c K hK; have hm : P.follows .mixedOrders = true := hP ▸ mixed; have hT : TOk P tl3 := hP ▸ tk3; (try rw [← ho]); cbv; (repeat (refine StopN.mk ?_; cbv)))
  rw [← ho] at hF1 hF2 hR1 hR2 hS1 hS2 hS3 hS4 hC
  repeat' (first | (refine Br.mk (fun hb => ?_) (fun hb => ?_) <;> ((try rw [ho] at hb); (try dsimp only [Ar.real, IX.vo] at hb); (try simp only [QR3, QP1, QB7] at hb); (try simp only [QBo, beq_iff_eq, beq_eq_false_iff_ne, ne_eq] at hb))) | (refine StopN.mk ?_; cbv) | (first | refine CallI.pure hP hF1 fn4 rfl rfl rfl ?_ | refine CallI.pure hP hF2 fn4 rfl rfl rfl ?_ | refine CallI.pure hP hR1 fn5 rfl rfl rfl ?_ | refine CallN.pure hP hR2 fn6 rfl rfl rfl ?_ | refine CallN.pure hP hS1 fn7 rfl rfl rfl ?_ | refine CallN.pure hP hS2 fn8 rfl rfl rfl ?_ | refine CallN.pure hP hS3 fn7 rfl rfl rfl ?_ | refine CallN.pure hP hS4 fn8 rfl rfl rfl ?_ | refine CallN.pure hP hC fn9 rfl rfl rfl ?_ | refine CallN.pure hP hWk fn10 rfl rfl rfl ?_); cbv | (refine hK _ _ ?_) | (refine NeedT.mk ?_ ?_))
  all_goals first
    | exact .b rfl
    | exact absurd trivial hb
    | exact absurd hb (by decide)
    | exact absurd hq.symm hb
end Go.Proofs.YtddgcegimmcbgaaGreat.Sy

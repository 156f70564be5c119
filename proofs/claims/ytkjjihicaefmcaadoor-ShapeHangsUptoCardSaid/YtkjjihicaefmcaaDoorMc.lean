/-
  Calls: why one is refused does not hang on what its kind has not. Plain Lean.
-/
import Derived.Test.YtkjjihicaefmcaaDoorMb
import Derived.Test.YtkjjihicaefmcaaDoorCards
import Derived.Test.YtkjjihicaefmcaaDoorTie
import Derived.Test.YtkjjihicaefmcaaDoorSyJd
import Derived.OpenShut
import Derived.Deep.DeepHandedRow
import Derived.Lib.LaidTab
set_option linter.unusedSimpArgs false
set_option linter.unusedSectionVars false
set_option linter.unusedVariables false
set_option maxRecDepth 100000
set_option maxHeartbeats 8000000
namespace Go.Proofs.YtkjjihicaefmcaaDoor.Sy
open Go Go.Sy Go.Proofs.YtkjjihicaefmcaaDoor
theorem check_congr {c d : Cal} (hk : c.kind = d.kind) (h : ∀ f, hasP c.kind f = true → fieldB c f = fieldB d f) (h6 : hasP c.kind 6 = true → c.ids = d.ids) (h8 : hasP c.kind 8 = true → launP c.ops = launP d.ops) : checkC c = checkC d := by
  have e1 : formB c = formB d := by
    rw [Bool.eq_iff_iff, formB_iff, formB_iff, ← hk]
    exact and_congr_right fun _ => forall_congr' fun f => forall_congr' fun _ => forall_congr' fun _ => ⟨fun a b => by rw [← h f b]; exact a b, fun a b => by rw [h f b]; exact a b⟩
  have e2 : twiB c = twiB d := by
    unfold twiB
    rw [← hk]
    cases a6 : hasP c.kind 6 <;> cases a8 : hasP c.kind 8
    · rfl
    · rw [h8 a8]; rfl
    · rw [h6 a6]; rfl
    · rw [h6 a6, h8 a8]
  unfold checkC
  rw [e1, e2]
theorem field_cases {p : Int → Prop} {k f : Int} (h : hasP k f = true) (h0 : p 0) (h1 : p 1) (h2 : p 2) (h3 : p 3) (h4 : p 4) (h5 : p 5) (h6 : p 6) (h7 : p 7) (h8 : p 8) : p f := by
  have := fieldsP_in (of_decide_eq_true h)
  rcases (by omega : f = 0 ∨ f = 1 ∨ f = 2 ∨ f = 3 ∨ f = 4 ∨ f = 5 ∨ f = 6 ∨ f = 7 ∨ f = 8) with rfl | rfl | rfl | rfl | rfl | rfl | rfl | rfl | rfl <;> assumption
theorem opB_bare (p : Opn) : opB (bareO p) = opB p := by
  unfold opB bareO
  by_cases h : p.kind = 1
  · simp [h]
  · simp [h]
theorem launP_bare (l : List Opn) : launP (l.map bareO) = launP l := by
  unfold launP
  rw [List.filter_map, List.map_map]
  have : ∀ x ∈ l.filter ((fun x => decide (x.kind = 1)) ∘ bareO), ((fun x : Opn => x.id) ∘ bareO) x = x.id := fun x hx => by
    have h2 := (List.mem_filter.1 hx).2
    have h3 : x.kind = 1 := of_decide_eq_true h2
    show (bareO x).id = x.id
    unfold bareO
    rw [if_pos h3]
  rw [List.map_congr_left this]
  rfl
theorem check_bare (c : Cal) : checkC (bareC c) = checkC c := by
  refine check_congr rfl (fun f hf => ?_) (fun h => ?_) (fun h => ?_)
  · have hf : hasP c.kind f = true := hf
    revert hf
    intro hf
    have key : hasP c.kind f = true → fieldB (bareC c) f = fieldB c f := by
      refine field_cases (p := fun f => hasP c.kind f = true → fieldB (bareC c) f = fieldB c f) hf ?_ ?_ ?_ ?_ ?_ ?_ ?_ ?_ ?_
      all_goals intro h
      · show numN (bareC c).frame = numN c.frame
        simp only [bareC, h, if_true]
      · show numN (bareC c).agent = numN c.agent
        simp only [bareC, h, if_true]
      · show numN (bareC c).id = numN c.id
        simp only [bareC, h, if_true]
      · show (decide (1 ≤ (bareC c).role) && decide ((bareC c).role ≤ 32)) = (decide (1 ≤ c.role) && decide (c.role ≤ 32))
        simp only [bareC, h, if_true]
      · show (decide (1 ≤ (bareC c).weight) && decide ((bareC c).weight ≤ 1000)) = (decide (1 ≤ c.weight) && decide (c.weight ≤ 1000))
        simp only [bareC, h, if_true]
      · show (decide ((bareC c).time = 0) || numN (bareC c).time) = (decide (c.time = 0) || numN c.time)
        simp only [bareC, h, if_true]
      · show ((decide (1 ≤ (bareC c).ids.length) && decide ((bareC c).ids.length ≤ 32)) && (bareC c).ids.all numN) = ((decide (1 ≤ c.ids.length) && decide (c.ids.length ≤ 32)) && c.ids.all numN)
        simp only [bareC, h, if_true]
      · show someB (bareC c).vec = someB c.vec
        simp only [bareC, h, if_true]
      · show (decide ((bareC c).ops.length ≤ 32) && (bareC c).ops.all opB) = (decide (c.ops.length ≤ 32) && c.ops.all opB)
        simp only [bareC, h, if_true, List.length_map, List.all_map]
        congr 1
        have : (opB ∘ bareO) = opB := funext opB_bare
        rw [this]
    exact key hf
  · have h : hasP c.kind 6 = true := h
    show (if hasP c.kind 6 = true then c.ids else []) = c.ids
    rw [if_pos h]
  · have h : hasP c.kind 8 = true := h
    show launP (if hasP c.kind 8 = true then c.ops.map bareO else []) = launP c.ops
    rw [if_pos h, launP_bare]
def hangC (a b : Cal) : Cal where
  kind := a.kind
  frame := if hasP a.kind 0 then a.frame else b.frame
  agent := if hasP a.kind 1 then a.agent else b.agent
  id := if hasP a.kind 2 then a.id else b.id
  role := a.role
  weight := a.weight
  time := if hasP a.kind 5 then a.time else b.time
  ids := if hasP a.kind 6 then a.ids else b.ids
  vec := if hasP a.kind 7 then a.vec else b.vec
  ops := if hasP a.kind 8 then a.ops else b.ops
theorem bare_hang (a b : Cal) : bareC (hangC a b) = bareC a := by
  unfold bareC hangC
  dsimp only
  congr 1
  all_goals
    split
    · simp [*]
    · rfl
theorem check_hang (a b : Cal) : checkC (hangC a b) = checkC a := by rw [← check_bare (hangC a b), bare_hang, check_bare]
theorem hangC_ok {a b : Cal} (ha : CalOk a) (hb : CalOk b) : CalOk (hangC a b) := by
  refine ⟨?_, ?_, ?_, fun i => ?_⟩
  · unfold hangC; dsimp only; split
    · exact ha.n_ids
    · exact hb.n_ids
  · unfold hangC; dsimp only; split
    · exact ha.n_vec
    · exact hb.n_vec
  · unfold hangC; dsimp only; split
    · exact ha.n_ops
    · exact hb.n_ops
  · unfold hangC; dsimp only; split
    · exact ha.o1 i
    · exact hb.o1 i
theorem check_four (c : Cal) : checkC c = [] ∨ checkC c = [1] ∨ checkC c = [2] ∨ checkC c = [1, 2] := by
  unfold checkC
  cases formB c <;> cases twiB c <;> simp
theorem up_four {l : List Int} (h : l = [] ∨ l = [1] ∨ l = [2] ∨ l = [1, 2]) : ∀ i, 0 < i → i < l.length → l.getD (i - 1) default < l.getD i default := by
  intro i h1 h2
  rcases h with rfl | rfl | rfl | rfl
  · exact absurd h2 (Nat.not_lt_zero _)
  · exact absurd h2 (by show ¬ i < 1; omega)
  · exact absurd h2 (by show ¬ i < 1; omega)
  · have h3 : i < 2 := h2
    obtain rfl : i = 1 := by omega
    decide
theorem check_up (c : Cal) : ∀ i, 0 < i → i < (checkC c).length → (checkC c).getD (i - 1) default < (checkC c).getD i default := up_four (check_four c)
theorem check_len (c : Cal) : (checkC c).length ≤ 2 := by rcases check_four c with h | h | h | h <;> rw [h] <;> decide
end Go.Proofs.YtkjjihicaefmcaaDoor.Sy
namespace Go.Proofs.YtkjjihicaefmcaaDoor.Sy
open Go Go.Sy Go.Proofs.YtkjjihicaefmcaaDoor
def kC1 : Cal := ⟨13, 0, 0, 0, 0, 0, -1, [], [], []⟩
def kC2 : Cal := ⟨7, 1, 0, 0, 0, 0, 0, [5, 5], [], []⟩
theorem kC1_ok : CalOk kC1 := ⟨by decide, by decide, by decide, fun i => by show (default : Opn).vec.length ≤ _; decide⟩
theorem kC2_ok : CalOk kC2 := ⟨by decide, by decide, by decide, fun i => by show (default : Opn).vec.length ≤ _; decide⟩
theorem kC1_c : checkC kC1 = [1] := by
  unfold checkC
  rw [show formB kC1 = false from by decide, show twiB kC1 = false from twi_f0 (fun h => absurd h (by decide)) (fun h => absurd h (by decide))]
  rfl
theorem kC2_c : checkC kC2 = [2] := by
  unfold checkC
  rw [show formB kC2 = true from by decide, show twiB kC2 = true from twi_f1 (i := 1) (k := 0) (by decide) (by decide) (by decide) rfl]
  rfl
@[reducible] def n0X : X := .ro (.lits [])
theorem x_works14 : XC Tryd.prog 9 [] [] (.b .t) [] := by
  have h1 : XC Tryd.prog 7 [.agg [il 13, il 0, il 0, il 0, il 0, il 0, il (-1), n0X, n0X, n0X]] [] (.ro (.lits [[il 1]])) [] := XC_at (x_sCheck kC1 kC1_ok) (fun c => rfl) (fun c => by rw [kC1_c]; rfl)
  have h2 : XC Tryd.prog 7 [.agg [il 7, il 1, il 0, il 0, il 0, il 0, il 0, .ro (.lits [[il 5], [il 5]]), n0X, n0X]] [] (.ro (.lits [[il 2]])) [] := XC_at (x_sCheck kC2 kC2_ok) (fun c => rfl) (fun c => by rw [kC2_c]; rfl)
  have h3 : XC Tryd.prog 15 [.v (.string ⟨#[97, 99, 99, 101, 112, 116]⟩)] [] (.tup [il 6, .b .t]) [] := XC_at (x_sKind ⟨#[97, 99, 99, 101, 112, 116]⟩) (fun c => rfl) (fun c => by rw [show kindP ⟨#[97, 99, 99, 101, 112, 116]⟩ = (6, true) from by decide]; rfl)
  have h4 : XC Tryd.prog 10 [il 3, il 3] [] (.b .t) [] := XC_at (x_Has 3 3) (fun c => rfl) (fun c => by rw [show hasP 3 3 = true from by decide]; rfl)
  have h5 := x_OpName2
  (refine XC.of_body ([]) Tryd.func9 rfl Tryd.ntmps9 mixed (T := tl9) tk9 (by kernel_rfl) (by simp) rfl rfl rfl rfl rfl ?_; rintro o ho P hP c K hK; have hm : P.follows .mixedOrders = true := hP ▸ mixed; have hT : TOk P tl9 := hP ▸ tk9; (try rw [← ho]); cbv; (repeat (refine StopN.mk ?_; cbv)))
  repeat' (first | (refine Br.mk (fun hb => ?_) (fun hb => ?_) <;> ((try rw [ho] at hb); (try dsimp only [Ar.real, IX.vo] at hb); (try simp only [QU1, QB7, QSyVa] at hb); (try simp only [QBo, beq_iff_eq, beq_eq_false_iff_ne, ne_eq] at hb))) | (refine StopN.mk ?_; cbv) | (first | refine NeedT.mk (by rw [ho]; rfl) ?_ | refine CallI.pure hP h1 fn7 rfl rfl rfl ?_ | refine CallI.pure hP h2 fn7 rfl rfl rfl ?_ | refine CallI.pure hP h3 fn15 rfl rfl rfl ?_ | refine CallI.pure hP h4 fn10 rfl rfl rfl ?_ | refine CallI.pure hP h5 fn27 rfl rfl rfl ?_); cbv | (refine hK _ _ ?_) | (refine NeedT.mk ?_ ?_))
  exact .pure fun _ => by subst ho; exact congrArg (fun b => D.c (.v (.bool b))) (beq_self_eq_true _)
end Go.Proofs.YtkjjihicaefmcaaDoor.Sy
namespace Go.Proofs.YtkjjihicaefmcaaDoor.Sy
open Go Go.Sy Go.Proofs.YtkjjihicaefmcaaDoor
theorem x_ShapeHangs (a b : Cal) (ha : CalOk a) (hb0 : CalOk b) : XC Tryd.prog 4 [.agg (Cal.X Ar.real a), .agg (Cal.X Ar.real b)] [] (.b .t) [] := by
  have h1 := x_CalFew a ha
  have h2 := x_CalFew b hb0
  have hH := fun f => XC_at (x_Has a.kind f) (args' := [xi a.kind, il f]) (r' := .b (BX.of (hasP a.kind f))) (fun c => rfl) (fun c => by cases hasP a.kind f <;> rfl)
  have c1 := x_sCheck a ha
  have c2 := x_sCheck (hangC a b) (hangC_ok ha hb0)
  have c3 := x_sCheck (bareC a) (bareC_ok ha)
  have d1 := x_sBare a ha
  have d2 := x_sBare (hangC a b) (hangC_ok ha hb0)
  have d3 := x_sSame (bareC a) (bareC a) (bareC_ok ha) (bareC_ok ha)
  have hup := check_up a
  have hl := check_len a
  rw [check_hang] at c2
  rw [bare_hang] at d2
  rw [check_bare] at c3
  rw [show samC (bareC a) (bareC a) = true from decide_eq_true rfl] at d3
  generalize checkC a = l at *
  generalize fewC a = fa at *
  generalize fewC b = fb at *
  have hW := x_works14
  have h0 := hH 0
  have hh1 := hH 1
  have hh2 := hH 2
  have h5 := hH 5
  have h6 := hH 6
  have h7 := hH 7
  have h8 := hH 8
  clear hH ha hb0
  obtain ⟨k1, k2, k3, k4, k5, k6, k7, ids, vec, ops⟩ := a
  generalize hba : bareC ⟨k1, k2, k3, k4, k5, k6, k7, ids, vec, ops⟩ = ba at *
  clear hba
  obtain ⟨a1, a2, a3, a4, a5, a6, a7, a8, a9, a10⟩ := ba
  obtain ⟨b1, b2, b3, b4, b5, b6, b7, b8, b9, b10⟩ := b
  dsimp only at *
  by_cases hk : 1 ≤ k1 ∧ k1 ≤ 15
  · rcases (by omega : k1 = 1 ∨ k1 = 2 ∨ k1 = 3 ∨ k1 = 4 ∨ k1 = 5 ∨ k1 = 6 ∨ k1 = 7 ∨ k1 = 8 ∨ k1 = 9 ∨ k1 = 10 ∨ k1 = 11 ∨ k1 = 12 ∨ k1 = 13 ∨ k1 = 14 ∨ k1 = 15) with rfl | rfl | rfl | rfl | rfl | rfl | rfl | rfl | rfl | rfl | rfl | rfl | rfl | rfl | rfl
    all_goals
      simp [hangC, hasP, fieldsP, inR, BX.of] at h0 hh1 hh2 h5 h6 h7 h8 c2 d2
      (refine XC.of_body (dt4) Tryd.func4 rfl Tryd.ntmps4 mixed (T := tl4) tk4 (by kernel_rfl) (by simp) rfl rfl rfl rfl rfl ?_; rintro o ho P hP c K hK; have hm : P.follows .mixedOrders = true := hP ▸ mixed; have hT : TOk P tl4 := hP ▸ tk4; (try rw [← ho]); cbv; (repeat (refine StopN.mk ?_; cbv)))
      rw [← ho] at h1 h2 c1 c2 c3 d1 d2 d3
      repeat' (first | (refine Br.mk (fun hb => ?_) (fun hb => ?_) <;> ((try rw [ho] at hb); (try dsimp only [Ar.real, IX.vo] at hb); (try simp only [QU1, QB7, QSyVa] at hb); (try simp only [QBo, beq_iff_eq, beq_eq_false_iff_ne, ne_eq] at hb))) | (refine StopN.mk ?_; cbv) | (first | refine CallI.pure hP h1 fn6 rfl rfl rfl ?_ | refine CallI.pure hP h2 fn6 rfl rfl rfl ?_ | refine CallI.pure hP h0 fn10 rfl rfl rfl ?_ | refine CallI.pure hP hh1 fn10 rfl rfl rfl ?_ | refine CallI.pure hP hh2 fn10 rfl rfl rfl ?_ | refine CallI.pure hP h5 fn10 rfl rfl rfl ?_ | refine CallI.pure hP h6 fn10 rfl rfl rfl ?_ | refine CallI.pure hP h7 fn10 rfl rfl rfl ?_ | refine CallI.pure hP h8 fn10 rfl rfl rfl ?_ | refine CallN.pure hP c1 fn7 rfl rfl rfl ?_ | refine CallN.pure hP c2 fn7 rfl rfl rfl ?_ | refine CallN.pure hP c3 fn7 rfl rfl rfl ?_ | refine CallN.pure hP d1 fn11 rfl rfl rfl ?_ | refine CallN.pure hP d2 fn11 rfl rfl rfl ?_ | refine CallN.pure hP d3 fn12 rfl rfl rfl ?_); cbv | ((first | refine CallI.pure hP (x_works14) fn9 (by first | rfl | (rw [ho]; try rfl)) (by rfl) (by first | rfl | (rw [ho]; try rfl)) ?_ | refine CallN.pure hP (x_works14) fn9 (by first | rfl | (rw [ho]; try rfl)) (by rfl) (by first | rfl | (rw [ho]; try rfl)) ?_); (try rw [← ho]); cbv) | (refine hK _ _ ?_) | (refine NeedT.mk ?_ ?_))
      all_goals try first
        | exact absurd trivial hb
        | exact .pure fun _ => rfl
      clear c1 c2 c3 h0 hh1 hh2 h5 h6 h7 h8 h1 h2
      refine LoopN.over (o := o) (D := dt4) ho hm hT (by kernel_rfl) (fun i : Nat => [(9, xn i)]) (fun _ => []) (fun _ => []) (fun i => i ≤ l.length) (fun i => l.length - i) 0 (Nat.zero_le _) ?_ ?_
      · (refine ⟨?_, ?_, ?_, ?_⟩ <;> cbv <;> repeat' (first | trivial | exact EqX.rfl' | exact EqO.rfl' | apply And.intro | ((try clear hR3); (try clear hR2); (try clear hR); (try clear hK); (try simp only [ncCast] at *); (try simp only [castI_eq] at *); refine EqX.i ?_; (try rw [ho]); (try dsimp only [Ar.real, IX.vo, IX.val, BX.val, IX.toN]); (try simp only [QU1, QB7, QSyVa]); (repeat rw [wrap_i64 (by omega) (by omega)]); omega)))
      · rintro i hi R hR
        have hu := hup i
        cbv
        repeat' (first | (refine Br.mk (fun hb => ?_) (fun hb => ?_) <;> ((try rw [ho] at hb); (try dsimp only [Ar.real, IX.vo] at hb); (try simp only [QU1, QB7, QSyVa] at hb); (try simp only [QBo, beq_iff_eq, beq_eq_false_iff_ne, ne_eq] at hb))) | (refine StopN.mk ?_; cbv) | (first | refine CallI.pure hP hW fn9 rfl rfl rfl ?_ | refine CallN.pure hP hW fn9 rfl rfl rfl ?_ | refine CallN.pure hP d1 fn11 rfl rfl rfl ?_ | refine CallN.pure hP d2 fn11 rfl rfl rfl ?_ | refine CallN.pure hP d3 fn12 rfl rfl rfl ?_); cbv | ((first | refine CallI.pure hP (x_CalFew _ ‹_›) fn6 (by first | rfl | (rw [ho]; try rfl)) (by rfl) (by first | rfl | (rw [ho]; try rfl)) ?_ | refine CallN.pure hP (x_CalFew _ ‹_›) fn6 (by first | rfl | (rw [ho]; try rfl)) (by rfl) (by first | rfl | (rw [ho]; try rfl)) ?_); (try rw [← ho]); generalize hr : fewC _ = r; (try rw [ho] at hr); (try dsimp only [Ar.real, IX.vo] at hr); (try simp only [QU1, QB7, QSyVa] at hr); cbv) | ((first | refine CallI.pure hP (x_sCheck _ ‹_›) fn7 (by first | rfl | (rw [ho]; try rfl)) (by rfl) (by first | rfl | (rw [ho]; try rfl)) ?_ | refine CallN.pure hP (x_sCheck _ ‹_›) fn7 (by first | rfl | (rw [ho]; try rfl)) (by rfl) (by first | rfl | (rw [ho]; try rfl)) ?_); (try rw [← ho]); generalize hr : checkC _ = r; (try rw [ho] at hr); (try dsimp only [Ar.real, IX.vo] at hr); (try simp only [QU1, QB7, QSyVa] at hr); cbv) | ((first | refine CallI.pure hP (x_Has _ _) fn10 (by first | rfl | (rw [ho]; try rfl)) (by rfl) (by first | rfl | (rw [ho]; try rfl)) ?_ | refine CallN.pure hP (x_Has _ _) fn10 (by first | rfl | (rw [ho]; try rfl)) (by rfl) (by first | rfl | (rw [ho]; try rfl)) ?_); (try rw [← ho]); generalize hr : hasP _ _ = r; (try rw [ho] at hr); (try dsimp only [Ar.real, IX.vo] at hr); (try simp only [QU1, QB7, QSyVa] at hr); cbv) | (refine hK _ _ ?_) | (refine NeedT.mk ?_ ?_))
        all_goals try (((try clear hR3); (try clear hR2); (try clear hR); (try clear hK); (try simp only [ncCast] at *); (try simp only [castI_eq] at *); (try rw [ho]); (try dsimp only [Ar.real, IX.vo, IX.val, BX.val, IX.toN]); (try simp only [QU1, QB7, QSyVa]); (try simp only [decide_eq_true_eq]); (all_goals (repeat rw [wrap_i64 (by omega) (by omega)])); (all_goals (first | omega | (simp only [Int.ofNat_eq_natCast]; omega)))); done)
        all_goals first
          | exact absurd trivial hb
          | (cases hb; done)
          | exact .pure fun _ => rfl
          | (refine hR _ (i + 1) (by show l.length - (i + 1) < l.length - i; ((try clear hR3); (try clear hR2); (try clear hR); (try clear hK); (try simp only [ncCast] at *); (try simp only [castI_eq] at *)); omega) (by show i + 1 ≤ l.length; ((try clear hR3); (try clear hR2); (try clear hR); (try clear hK); (try simp only [ncCast] at *); (try simp only [castI_eq] at *)); omega) ?_
             (refine ⟨?_, ?_, ?_, ?_⟩ <;> cbv <;> repeat' (first | trivial | exact EqX.rfl' | exact EqO.rfl' | apply And.intro | ((try clear hR3); (try clear hR2); (try clear hR); (try clear hK); (try simp only [ncCast] at *); (try simp only [castI_eq] at *); refine EqX.i ?_; (try rw [ho]); (try dsimp only [Ar.real, IX.vo, IX.val, BX.val, IX.toN]); (try simp only [QU1, QB7, QSyVa]); (repeat rw [wrap_i64 (by omega) (by omega)]); omega))))
          | (exfalso
             ((try clear hR3); (try clear hR2); (try clear hR); (try clear hK); (try simp only [ncCast] at *); (try simp only [castI_eq] at *))
             have hu : l.getD (i - 1) (Int.ofNat 0) < l.getD i (Int.ofNat 0) := hu (by omega) (by omega)
             rw [wrap_i64 (by omega) (by omega), show ((i : Int) - 1).toNat = i - 1 by omega] at hb
             omega)
  · have hz : ∀ f, hasP k1 f = false := fun f => by unfold hasP; rw [fieldsP_out (by omega)]; rfl
    simp [hangC, hz, BX.of] at h0 hh1 hh2 h5 h6 h7 h8 c2 d2
    (refine XC.of_body (dt4) Tryd.func4 rfl Tryd.ntmps4 mixed (T := tl4) tk4 (by kernel_rfl) (by simp) rfl rfl rfl rfl rfl ?_; rintro o ho P hP c K hK; have hm : P.follows .mixedOrders = true := hP ▸ mixed; have hT : TOk P tl4 := hP ▸ tk4; (try rw [← ho]); cbv; (repeat (refine StopN.mk ?_; cbv)))
    rw [← ho] at h1 h2 c1 c2 c3 d1 d2 d3
    repeat' (first | (refine Br.mk (fun hb => ?_) (fun hb => ?_) <;> ((try rw [ho] at hb); (try dsimp only [Ar.real, IX.vo] at hb); (try simp only [QU1, QB7, QSyVa] at hb); (try simp only [QBo, beq_iff_eq, beq_eq_false_iff_ne, ne_eq] at hb))) | (refine StopN.mk ?_; cbv) | (first | refine CallI.pure hP h1 fn6 rfl rfl rfl ?_ | refine CallI.pure hP h2 fn6 rfl rfl rfl ?_ | refine CallI.pure hP h0 fn10 rfl rfl rfl ?_ | refine CallI.pure hP hh1 fn10 rfl rfl rfl ?_ | refine CallI.pure hP hh2 fn10 rfl rfl rfl ?_ | refine CallI.pure hP h5 fn10 rfl rfl rfl ?_ | refine CallI.pure hP h6 fn10 rfl rfl rfl ?_ | refine CallI.pure hP h7 fn10 rfl rfl rfl ?_ | refine CallI.pure hP h8 fn10 rfl rfl rfl ?_ | refine CallN.pure hP c1 fn7 rfl rfl rfl ?_ | refine CallN.pure hP c2 fn7 rfl rfl rfl ?_ | refine CallN.pure hP c3 fn7 rfl rfl rfl ?_ | refine CallN.pure hP d1 fn11 rfl rfl rfl ?_ | refine CallN.pure hP d2 fn11 rfl rfl rfl ?_ | refine CallN.pure hP d3 fn12 rfl rfl rfl ?_); cbv | ((first | refine CallI.pure hP (x_works14) fn9 (by first | rfl | (rw [ho]; try rfl)) (by rfl) (by first | rfl | (rw [ho]; try rfl)) ?_ | refine CallN.pure hP (x_works14) fn9 (by first | rfl | (rw [ho]; try rfl)) (by rfl) (by first | rfl | (rw [ho]; try rfl)) ?_); (try rw [← ho]); cbv) | (refine hK _ _ ?_) | (refine NeedT.mk ?_ ?_))
    all_goals try first
      | exact absurd trivial hb
      | exact .pure fun _ => rfl
    clear c1 c2 c3 h0 hh1 hh2 h5 h6 h7 h8 h1 h2
    refine LoopN.over (o := o) (D := dt4) ho hm hT (by kernel_rfl) (fun i : Nat => [(9, xn i)]) (fun _ => []) (fun _ => []) (fun i => i ≤ l.length) (fun i => l.length - i) 0 (Nat.zero_le _) ?_ ?_
    · (refine ⟨?_, ?_, ?_, ?_⟩ <;> cbv <;> repeat' (first | trivial | exact EqX.rfl' | exact EqO.rfl' | apply And.intro | ((try clear hR3); (try clear hR2); (try clear hR); (try clear hK); (try simp only [ncCast] at *); (try simp only [castI_eq] at *); refine EqX.i ?_; (try rw [ho]); (try dsimp only [Ar.real, IX.vo, IX.val, BX.val, IX.toN]); (try simp only [QU1, QB7, QSyVa]); (repeat rw [wrap_i64 (by omega) (by omega)]); omega)))
    · rintro i hi R hR
      have hu := hup i
      cbv
      repeat' (first | (refine Br.mk (fun hb => ?_) (fun hb => ?_) <;> ((try rw [ho] at hb); (try dsimp only [Ar.real, IX.vo] at hb); (try simp only [QU1, QB7, QSyVa] at hb); (try simp only [QBo, beq_iff_eq, beq_eq_false_iff_ne, ne_eq] at hb))) | (refine StopN.mk ?_; cbv) | (first | refine CallI.pure hP hW fn9 rfl rfl rfl ?_ | refine CallN.pure hP hW fn9 rfl rfl rfl ?_ | refine CallN.pure hP d1 fn11 rfl rfl rfl ?_ | refine CallN.pure hP d2 fn11 rfl rfl rfl ?_ | refine CallN.pure hP d3 fn12 rfl rfl rfl ?_); cbv | ((first | refine CallI.pure hP (x_CalFew _ ‹_›) fn6 (by first | rfl | (rw [ho]; try rfl)) (by rfl) (by first | rfl | (rw [ho]; try rfl)) ?_ | refine CallN.pure hP (x_CalFew _ ‹_›) fn6 (by first | rfl | (rw [ho]; try rfl)) (by rfl) (by first | rfl | (rw [ho]; try rfl)) ?_); (try rw [← ho]); generalize hr : fewC _ = r; (try rw [ho] at hr); (try dsimp only [Ar.real, IX.vo] at hr); (try simp only [QU1, QB7, QSyVa] at hr); cbv) | ((first | refine CallI.pure hP (x_sCheck _ ‹_›) fn7 (by first | rfl | (rw [ho]; try rfl)) (by rfl) (by first | rfl | (rw [ho]; try rfl)) ?_ | refine CallN.pure hP (x_sCheck _ ‹_›) fn7 (by first | rfl | (rw [ho]; try rfl)) (by rfl) (by first | rfl | (rw [ho]; try rfl)) ?_); (try rw [← ho]); generalize hr : checkC _ = r; (try rw [ho] at hr); (try dsimp only [Ar.real, IX.vo] at hr); (try simp only [QU1, QB7, QSyVa] at hr); cbv) | ((first | refine CallI.pure hP (x_Has _ _) fn10 (by first | rfl | (rw [ho]; try rfl)) (by rfl) (by first | rfl | (rw [ho]; try rfl)) ?_ | refine CallN.pure hP (x_Has _ _) fn10 (by first | rfl | (rw [ho]; try rfl)) (by rfl) (by first | rfl | (rw [ho]; try rfl)) ?_); (try rw [← ho]); generalize hr : hasP _ _ = r; (try rw [ho] at hr); (try dsimp only [Ar.real, IX.vo] at hr); (try simp only [QU1, QB7, QSyVa] at hr); cbv) | (refine hK _ _ ?_) | (refine NeedT.mk ?_ ?_))
      all_goals try (((try clear hR3); (try clear hR2); (try clear hR); (try clear hK); (try simp only [ncCast] at *); (try simp only [castI_eq] at *); (try rw [ho]); (try dsimp only [Ar.real, IX.vo, IX.val, BX.val, IX.toN]); (try simp only [QU1, QB7, QSyVa]); (try simp only [decide_eq_true_eq]); (all_goals (repeat rw [wrap_i64 (by omega) (by omega)])); (all_goals (first | omega | (simp only [Int.ofNat_eq_natCast]; omega)))); done)
      all_goals first
        | exact absurd trivial hb
        | (cases hb; done)
        | exact .pure fun _ => rfl
        | (refine hR _ (i + 1) (by show l.length - (i + 1) < l.length - i; ((try clear hR3); (try clear hR2); (try clear hR); (try clear hK); (try simp only [ncCast] at *); (try simp only [castI_eq] at *)); omega) (by show i + 1 ≤ l.length; ((try clear hR3); (try clear hR2); (try clear hR); (try clear hK); (try simp only [ncCast] at *); (try simp only [castI_eq] at *)); omega) ?_
           (refine ⟨?_, ?_, ?_, ?_⟩ <;> cbv <;> repeat' (first | trivial | exact EqX.rfl' | exact EqO.rfl' | apply And.intro | ((try clear hR3); (try clear hR2); (try clear hR); (try clear hK); (try simp only [ncCast] at *); (try simp only [castI_eq] at *); refine EqX.i ?_; (try rw [ho]); (try dsimp only [Ar.real, IX.vo, IX.val, BX.val, IX.toN]); (try simp only [QU1, QB7, QSyVa]); (repeat rw [wrap_i64 (by omega) (by omega)]); omega))))
        | (exfalso
           ((try clear hR3); (try clear hR2); (try clear hR); (try clear hK); (try simp only [ncCast] at *); (try simp only [castI_eq] at *))
           have hu : l.getD (i - 1) (Int.ofNat 0) < l.getD i (Int.ofNat 0) := hu (by omega) (by omega)
           rw [wrap_i64 (by omega) (by omega), show ((i : Int) - 1).toNat = i - 1 by omega] at hb
           omega)
end Go.Proofs.YtkjjihicaefmcaaDoor.Sy
namespace Go.Proofs.YtkjjihicaefmcaaDoor.Sy
open Go Go.Sy Go.Proofs.YtkjjihicaefmcaaDoor Go.RowKit Go.ChangeShapes Go.WideShapes Go.ChangeAt Go.Lib
theorem trod_str {H : Type} {enc : TypeId × Value → H} {P : Program} {w : World} {base : Nat} {sp : Nat → Bool} {held : Bool} {fuel : Nat} {e : TypeId} {cs : List Value} {x : DataW H × List MemPlace} (he : P.underlying e = some .string)
    (h : DataW.trod enc P w base sp held fuel e cs = some x) : ∃ s : ByteArray, cs = [.string s] ∧ x.1 = .lit (.string s.data.toList) := by
  cases fuel with
  | zero => simp [DataW.trod] at h
  | succ fuel =>
    simp only [DataW.trod, he] at h
    split at h
    case h_4 s heq =>
      split at h
      · cases h
        exact ⟨s, rfl, rfl⟩
      · cases h
    all_goals first
      | (cases h; done)
      | (exfalso; simp_all; done)
theorem strs_of_tab {H : Type} {enc : TypeId × Value → H} {P : Program} {w : World} {base : Nat} {sp : Nat → Bool} {held : Bool} {fuel : Nat} {t e : TypeId} {n : Nat} {cs : List Value} {zs : List (List UInt8)} {p : List MemPlace}
    (ht : P.underlying t = some (.array n e)) (he : P.underlying e = some .string) (hce : P.cellsOf e = 1) (hct : P.cellsOf t = n)
    (h : DataW.trod enc P w base sp held fuel t cs = some (.agg (zs.map fun z => .lit (.string z)), p)) : cs = zs.map fun z => Value.string ⟨⟨z⟩⟩ := by
  cases fuel with
  | zero => simp [DataW.trod] at h
  | succ fuel =>
    simp only [DataW.trod, ht, hce, hct, Nat.mul_one] at h
    split at h
    · rename_i hl
      obtain ⟨xs, hm, hx⟩ := Option.map_eq_some_iff.1 h
      have hxs : xs.map (·.1) = zs.map fun z => (DataW.lit (.string z) : DataW H) := by
        have := congrArg Prod.fst hx
        simpa using this
      have hxl : xs.length = n := by simpa using mapM_length hm
      have hzl : zs.length = n := by
        have := congrArg List.length hxs
        simp at this
        omega
      apply List.ext_getElem?
      intro i
      by_cases hi : i < n
      · obtain ⟨b, hb, hf⟩ := mapM_at hm i i (by simp [hi])
        obtain ⟨z, hc, hz⟩ := trod_str he hf
        have h1 : cs[i]? = some (.string z) := by
          have := congrArg (·[0]?) hc
          simpa [List.getElem?_take, List.getElem?_drop] using this
        have h2 : (xs.map (·.1))[i]? = some (DataW.lit (.string z.data.toList) : DataW H) := by simp [hb, hz]
        rw [hxs] at h2
        simp only [List.getElem?_map, Option.map_eq_some_iff, DataW.lit.injEq, Lit.string.injEq] at h2
        obtain ⟨z', hz', rfl⟩ := h2
        rw [h1, List.getElem?_map, hz']
        rfl
      · rw [List.getElem?_eq_none (by omega), List.getElem?_eq_none (by simp; omega)]
    · cases h
def nmsZ : List (List UInt8) := [[], [114, 101, 103, 105, 115, 116, 101, 114], [108, 111, 115, 101], [115, 117, 98, 115, 99, 114, 105, 98, 101], [100, 105, 115, 99, 111, 110, 110, 101, 99, 116], [116, 101, 97, 114, 100, 111, 119, 110], [97, 99, 99, 101, 112, 116], [100, 101, 99, 108, 105, 110, 101], [114, 101, 115, 99, 105, 110, 100], [114, 101, 118, 105, 118, 101], [115, 117, 112, 112, 114, 101, 115, 115], [107, 105, 108, 108], [102, 105, 110, 105, 115, 104], [116, 105, 99, 107], [97, 108, 108, 111, 99, 97, 116, 101], [97, 108, 108]]
def opsZ : List (List UInt8) := [[], [108, 97, 117, 110, 99, 104], [114, 101, 115, 101, 114, 118, 101], [117, 110, 114, 101, 115, 101, 114, 118, 101]]
theorem gNames : Tryd.prog.globalNamed "manciple/shape.names" = some 0 := by kernel_rfl
theorem gOps : Tryd.prog.globalNamed "manciple/shape.ops" = some 1 := by kernel_rfl
theorem tNames : (Tryd.prog.globals[0]?).map (·.type) = some 64 := by kernel_rfl
theorem tOps : (Tryd.prog.globals[1]?).map (·.type) = some 76 := by kernel_rfl
theorem uNames : Tryd.prog.underlying 64 = some (.array 16 9) := by kernel_rfl
theorem uOps : Tryd.prog.underlying 76 = some (.array 4 9) := by kernel_rfl
theorem uStr : Tryd.prog.underlying 9 = some .string := by kernel_rfl
theorem cStr : Tryd.prog.cellsOf 9 = 1 := by kernel_rfl
theorem cNames : Tryd.prog.cellsOf 64 = 16 := by kernel_rfl
theorem cOps : Tryd.prog.cellsOf 76 = 4 := by kernel_rfl
theorem var_row {P : Program} {W : World} {n : String} {g : Nat} {l : List Value} (hg : P.globalNamed n = some g) (h : W.var? P n = some l.toArray) (hl : 0 < l.length) : g < W.heap.size ∧ ∀ j, j < l.length → W.cell? ⟨g, j, none⟩ = some (l.getD j undef) := by
  have hc : ∀ j, j < l.length → W.cell? ⟨g, j, none⟩ = some (l.getD j undef) := fun j hj => by
    have := World.var?_cell hg h j
    rw [this]
    simp [List.getD_eq_getElem?_getD, hj]
  refine ⟨?_, hc⟩
  have h0 := hc 0 hl
  apply Classical.byContradiction
  intro hn
  have : W.heap[g]? = none := Array.getElem?_eq_none (by omega)
  simp [World.cell?, this] at h0
theorem tables {W : World} (h : laidMet Tryd.prog [("manciple/shape.names", Rows.laid_manciple_shape_names), ("manciple/shape.ops", Rows.laid_manciple_shape_ops)] W) :
    ∀ g l, tabOf g = some l → Zof W g ∧ ∀ j, j < l.length → W.cell? ⟨g, j, none⟩ = some (l.getD j undef) := by
  obtain ⟨ps, ⟨g, t, cs, fuel, p, q, hg, ht, hvar, hd, ⟨g2, t2, cs2, fuel2, p2, q2, hg2, ht2, hvar2, hd2, _, _⟩, _⟩, _⟩ := h
  obtain rfl := Option.some.inj (gNames.symm.trans hg)
  obtain rfl := Option.some.inj (tNames.symm.trans ht)
  obtain rfl := Option.some.inj (gOps.symm.trans hg2)
  obtain rfl := Option.some.inj (tOps.symm.trans ht2)
  have e1 := strs_of_tab (zs := nmsZ) uNames uStr cStr cNames hd
  have e2 := strs_of_tab (zs := opsZ) uOps uStr cStr cOps hd2
  have v1 : W.var? Tryd.prog "manciple/shape.names" = some (nmsZ.map fun z => Value.string ⟨⟨z⟩⟩).toArray := by rw [hvar, ← e1]
  have v2 : W.var? Tryd.prog "manciple/shape.ops" = some (opsZ.map fun z => Value.string ⟨⟨z⟩⟩).toArray := by rw [hvar2, ← e2]
  intro g l hgl
  match g, hgl with
  | 0, hgl =>
    obtain rfl := Option.some.inj hgl
    exact var_row gNames v1 (by decide)
  | 1, hgl =>
    obtain rfl := Option.some.inj hgl
    exact var_row gOps v2 (by decide)
def tdPart : TD := .agg [.int .i64, .int .i64, .int .i64]
theorem decPart (M : Nat) : Dec tdPart M (fun _ => True) Part.X := by
  rintro cs ⟨a, r1, rfl, h1, b, r2, rfl, h2, c, r3, rfl, h3, h4⟩
  obtain rfl := hasL_nil h4
  obtain ⟨x, -, rfl⟩ := Dec.int M a h1
  obtain ⟨y, -, rfl⟩ := Dec.int M b h2
  obtain ⟨z, -, rfl⟩ := Dec.int M c h3
  exact ⟨⟨x, y, z⟩, trivial, rfl⟩
def tdOpn : TD := .agg [.int .i64, .int .i64, .slice tdPart]
theorem decOpn (M : Nat) : Dec tdOpn M (fun a => a.vec.length ≤ M) Opn.X := by
  rintro cs ⟨a, r1, rfl, h1, b, r2, rfl, h2, c, r3, rfl, h3, h4⟩
  obtain rfl := hasL_nil h4
  obtain ⟨x, -, rfl⟩ := Dec.int M a h1
  obtain ⟨y, -, rfl⟩ := Dec.int M b h2
  obtain ⟨z, k3, rfl⟩ := (decPart M).slice c h3
  exact ⟨⟨x, y, z⟩, k3.len, rfl⟩
def tdCal : TD := .agg [.int .i64, .int .i64, .int .i64, .int .i64, .int .i64, .int .i64, .int .i64, .slice (.int .i64), .slice tdPart, .slice tdOpn]
theorem decI64 (M : Nat) : Dec (.int .i64) M (fun n : Int => -9223372036854775808 ≤ n ∧ n ≤ 9223372036854775807) Go.Sy.encI := (Dec.int M).one
theorem decCal : Dec tdCal 1048576 CalOk Cal.X := by
  rintro cs ⟨a, r1, rfl, h1, b, r2, rfl, h2, c, r3, rfl, h3, d, r4, rfl, h4, e, r5, rfl, h5, f, r6, rfl, h6, g, r7, rfl, h7, i, r8, rfl, h8, j, r9, rfl, h9, k, r10, rfl, h10, h11⟩
  obtain rfl := hasL_nil h11
  obtain ⟨x1, -, rfl⟩ := Dec.int 1048576 a h1
  obtain ⟨x2, -, rfl⟩ := Dec.int 1048576 b h2
  obtain ⟨x3, -, rfl⟩ := Dec.int 1048576 c h3
  obtain ⟨x4, -, rfl⟩ := Dec.int 1048576 d h4
  obtain ⟨x5, -, rfl⟩ := Dec.int 1048576 e h5
  obtain ⟨x6, -, rfl⟩ := Dec.int 1048576 f h6
  obtain ⟨x7, -, rfl⟩ := Dec.int 1048576 g h7
  obtain ⟨x8, k8, rfl⟩ := (decI64 1048576).slice i h8
  obtain ⟨x9, k9, rfl⟩ := (decPart 1048576).slice j h9
  obtain ⟨x10, k10, rfl⟩ := (decOpn 1048576).slice k h10
  refine ⟨⟨x1, x2, x3, x4, x5, x6, x7, x8, x9, x10⟩, ⟨k8.len, k9.len, k10.len, fun i => ?_⟩, rfl⟩
  by_cases hk : i < x10.length
  · show (x10.getD i default).vec.length ≤ 1048576
    rw [getD_g hk]
    exact k10.all _ (List.getElem_mem hk)
  · show (x10.getD i default).vec.length ≤ 1048576
    rw [List.getD_eq_getElem?_getD, List.getElem?_eq_none (by omega)]
    exact Nat.zero_le _
theorem laidOut : laidOutB Tryd.prog = true := by kernel_rfl
theorem rowed : mapsRowed Tryd.prog = true := by kernel_rfl
theorem full : ((List.range Tryd.prog.types.size).all fun t => match Tryd.prog.underlying t with | some (.slice e) => decide (0 < Tryd.prog.cellsOf e) | _ => true) = true := by kernel_rfl
theorem own : ownKnob Tryd.prog.godebug = none := by kernel_rfl
noncomputable def laidWorld (os : Os) : World :=
  { World.holding Tryd.prog os ⟨#[], #[], []⟩ with heap := ((World.holding Tryd.prog os ⟨#[], #[], []⟩).heap.modify 0 (fun x => match x with | .cells _ t frozen => .cells (nmsZ.map fun z => Value.string ⟨⟨z⟩⟩).toArray t frozen | o => o)).modify 1 (fun x => match x with | .cells _ t frozen => .cells (opsZ.map fun z => Value.string ⟨⟨z⟩⟩).toArray t frozen | o => o) }
end Go.Proofs.YtkjjihicaefmcaaDoor.Sy

/-
  Calls: why one is refused does not hang on what its kind has not. Plain Lean.
-/
import Derived.Test.YtkjjihicaefmcaaDoorMb
import Derived.Test.YtkjjihicaefmcaaDoorCards
import Derived.Test.YtkjjihicaefmcaaDoorTie
import Derived.Test.YtkjjihicaefmcaaDoorSyJd
import Derived.OpenShut
import Derived.Deep.DeepHandedRow
import Derived.Lib.LaidTab
set_option linter.unusedSimpArgs false
set_option linter.unusedSectionVars false
set_option linter.unusedVariables false
set_option maxRecDepth 100000
set_option maxHeartbeats 8000000
namespace Go.Proofs.YtkjjihicaefmcaaDoor.Sy
open Go Go.Sy Go.Proofs.YtkjjihicaefmcaaDoor
end Go.Proofs.YtkjjihicaefmcaaDoor.Sy
namespace Go.Proofs.YtkjjihicaefmcaaDoor.Sy
open Go Go.Sy Go.Proofs.YtkjjihicaefmcaaDoor
def kC1 : Cal := ⟨13, 0, 0, 0, 0, 0, -1, [], [], []⟩
def kC2 : Cal := ⟨7, 1, 0, 0, 0, 0, 0, [5, 5], [], []⟩
theorem kC1_ok : CalOk kC1 := ⟨by decide, by decide, by decide, fun i => by show (default : Opn).vec.length ≤ _; decide⟩
theorem kC2_ok : CalOk kC2 := ⟨by decide, by decide, by decide, fun i => by show (default : Opn).vec.length ≤ _; decide⟩
theorem kC1_c : checkC kC1 = [1] := by
  unfold checkC
  rw [show formB kC1 = false from by decide, show twiB kC1 = false from twi_f0 (fun h => absurd h (by decide)) (fun h => absurd h (by decide))]
  rfl
theorem kC2_c : checkC kC2 = [2] := by
  unfold checkC
  rw [show formB kC2 = true from by decide, show twiB kC2 = true from twi_f1 (i := 1) (k := 0) (by decide) (by decide) (by decide) rfl]
  rfl
@[reducible] def n0X : X := .ro (.lits [])
theorem x_works14 : XC Tryd.prog 9 [] [] (.b .t) [] := by
  have h1 : XC Tryd.prog 7 [.agg [il 13, il 0, il 0, il 0, il 0, il 0, il (-1), n0X, n0X, n0X]] [] (.ro (.lits [[il 1]])) [] := XC_at (x_sCheck kC1 kC1_ok) (fun c => rfl) (fun c => by rw [kC1_c]; rfl)
  have h2 : XC Tryd.prog 7 [.agg [il 7, il 1, il 0, il 0, il 0, il 0, il 0, .ro (.lits [[il 5], [il 5]]), n0X, n0X]] [] (.ro (.lits [[il 2]])) [] := XC_at (x_sCheck kC2 kC2_ok) (fun c => rfl) (fun c => by rw [kC2_c]; rfl)
  have h3 : XC Tryd.prog 15 [.v (.string ⟨#[97, 99, 99, 101, 112, 116]⟩)] [] (.tup [il 6, .b .t]) [] := XC_at (x_sKind ⟨#[97, 99, 99, 101, 112, 116]⟩) (fun c => rfl) (fun c => by rw [show kindP ⟨#[97, 99, 99, 101, 112, 116]⟩ = (6, true) from by decide]; rfl)
  have h4 : XC Tryd.prog 10 [il 3, il 3] [] (.b .t) [] := XC_at (x_Has 3 3) (fun c => rfl) (fun c => by rw [show hasP 3 3 = true from by decide]; rfl)
  have h5 := x_OpName2
  (refine XC.of_body ([]) Tryd.func9 rfl Tryd.ntmps9 mixed (T := tl9) tk9 (by kernel_rfl) (by simp) rfl rfl rfl rfl rfl ?_; rintro o ho P hP c K hK; have hm : P.follows .mixedOrders = true := hP ▸ mixed; have hT : TOk P tl9 := hP ▸ tk9; (try rw [← ho]); cbv; (repeat (refine StopN.mk ?_; cbv)))
  repeat' (first | (refine Br.mk (fun hb => ?_) (fun hb => ?_) <;> ((try rw [ho] at hb); (try dsimp only [Ar.real, IX.vo] at hb); (try simp only [QU1, QB7, QSyVa] at hb); (try simp only [QBo, beq_iff_eq, beq_eq_false_iff_ne, ne_eq] at hb))) | (refine StopN.mk ?_; cbv) | (first | refine NeedT.mk (by rw [ho]; rfl) ?_ | refine CallI.pure hP h1 fn7 rfl rfl rfl ?_ | refine CallI.pure hP h2 fn7 rfl rfl rfl ?_ | refine CallI.pure hP h3 fn15 rfl rfl rfl ?_ | refine CallI.pure hP h4 fn10 rfl rfl rfl ?_ | refine CallI.pure hP h5 fn27 rfl rfl rfl ?_); cbv | (refine hK _ _ ?_) | (refine NeedT.mk ?_ ?_))
  exact .pure fun _ => by subst ho; exact congrArg (fun b => D.c (.v (.bool b))) (beq_self_eq_true _)
end Go.Proofs.YtkjjihicaefmcaaDoor.Sy
namespace Go.Proofs.YtkjjihicaefmcaaDoor.Sy
open Go Go.Sy Go.Proofs.YtkjjihicaefmcaaDoor
def wantT (k : Int) : Nat → ByteArray
  | 0 => ⟨#[]⟩
  | i + 1 => if ((i : Nat) : Int) = k then nmsB.getD i default else wantT k i
def kdT (t : List UInt8) : Nat → Int
  | 0 => 0
  | i + 1 => if (nmsB.getD i default).data.toList = t then i else kdT t i
def thT (t : List UInt8) : Nat → Bool
  | 0 => false
  | i + 1 => if i ≠ 0 ∧ (nmsB.getD i default).data.toList = t then true else thT t i
theorem wantT_end (k : Int) : wantT k 16 = nameP k := by
  by_cases h : 0 ≤ k ∧ k < 16
  · rcases (by omega : k = 0 ∨ k = 1 ∨ k = 2 ∨ k = 3 ∨ k = 4 ∨ k = 5 ∨ k = 6 ∨ k = 7 ∨ k = 8 ∨ k = 9 ∨ k = 10 ∨ k = 11 ∨ k = 12 ∨ k = 13 ∨ k = 14 ∨ k = 15) with rfl | rfl | rfl | rfl | rfl | rfl | rfl | rfl | rfl | rfl | rfl | rfl | rfl | rfl | rfl | rfl
    all_goals rfl
  · have key : ∀ i, i ≤ 16 → wantT k i = ⟨#[]⟩ := by
      intro i
      induction i with
      | zero => intro _; rfl
      | succ i ih =>
        intro hi
        show (if ((i : Nat) : Int) = k then nmsB.getD i default else wantT k i) = _
        rw [if_neg (by omega), ih (by omega)]
    rw [key 16 (by decide)]
    unfold nameP
    rw [if_neg h]
theorem idx_no {t : ByteArray} (h : ∀ x ∈ nmsB, t.data.toList ≠ x.data.toList) : idxS nmsB t = -1 := ixR_none fun j hj => decide_eq_false (by rw [getD_g hj]; exact h _ (List.getElem_mem hj))
theorem kdT_end (s : ByteArray) : (kdT s.data.toList 16, thT s.data.toList 16) = kindP s := by
  by_cases h : ∃ x ∈ nmsB, s.data.toList = x.data.toList
  · obtain ⟨x, hx, e⟩ := h
    obtain rfl : s = x := data_inj e
    have key : ∀ x ∈ nmsB, (kdT x.data.toList 16, thT x.data.toList 16) = kindP x := by decide
    exact key _ hx
  · have hn : ∀ x ∈ nmsB, s.data.toList ≠ x.data.toList := fun x hx e => h ⟨x, hx, e⟩
    have hl : ∀ i, i < 16 → (nmsB.getD i default).data.toList ≠ s.data.toList := fun i hi e => hn _ (by rw [getD_g (show i < nmsB.length from hi)]; exact List.getElem_mem _) e.symm
    have k1 : ∀ i, i ≤ 16 → kdT s.data.toList i = 0 ∧ thT s.data.toList i = false := by
      intro i
      induction i with
      | zero => intro _; exact ⟨rfl, rfl⟩
      | succ i ih =>
        intro hi
        have h1 := ih (by omega)
        have h2 := hl i (by omega)
        refine ⟨?_, ?_⟩
        · show (if (nmsB.getD i default).data.toList = s.data.toList then ((i : Nat) : Int) else kdT s.data.toList i) = 0
          rw [if_neg h2, h1.1]
        · show (if i ≠ 0 ∧ (nmsB.getD i default).data.toList = s.data.toList then true else thT s.data.toList i) = false
          rw [if_neg (fun h3 => h2 h3.2), h1.2]
    rw [(k1 16 (by decide)).1, (k1 16 (by decide)).2]
    unfold kindP
    rw [idx_no hn]
    rfl
structure StNm where
  i : Nat
  w : ByteArray
  kd : Int
  th : Bool
theorem x_ShapeBares (a b : Cal) (s : ByteArray) (ha : CalOk a) (hb0 : CalOk b) : XC Tryd.prog 5 [.agg (Cal.X Ar.real a), .agg (Cal.X Ar.real b), .v (.string s)] [] (.b .t) [] := by
  have h1 := x_CalFew a ha
  have h2 := x_CalFew b hb0
  have hH := fun x => x_Has a.kind x
  have hG := fun x => x_r14Has a.kind x
  have hKd := x_sKind s
  have hN := x_Names
  have hNm := x_sName a.kind
  have hW := x_works14
  have d1 := x_sBare a ha
  have d2 := x_r14Bare a ha
  have d3 := x_r14Same (bareC a) (bareC a) (bareC_ok ha) (bareC_ok ha)
  have d4 := x_sSame a b ha hb0
  have d5 := x_r14Same a b ha hb0
  rw [show samC (bareC a) (bareC a) = true from decide_eq_true rfl] at d3
  have we := wantT_end a.kind
  have ke := kdT_end s
  generalize kindP s = kp at *
  obtain ⟨kp1, kp2⟩ := kp
  have ke1 : kdT s.data.toList 16 = kp1 := congrArg Prod.fst ke
  have ke2 : thT s.data.toList 16 = kp2 := congrArg Prod.snd ke
  clear ke
  have w0 : wantT a.kind 1 = ⟨#[]⟩ := by show (if ((0 : Nat) : Int) = a.kind then nmsB.getD 0 default else wantT a.kind 0) = _; split <;> rfl
  have w1 : ∀ i, wantT a.kind (i + 1) = if ((i : Nat) : Int) = a.kind then nmsB.getD i default else wantT a.kind i := fun i => rfl
  have k0 : kdT s.data.toList 1 = 0 := by show (if (nmsB.getD 0 default).data.toList = s.data.toList then ((0 : Nat) : Int) else kdT s.data.toList 0) = 0; split <;> rfl
  have k1 : ∀ i, kdT s.data.toList (i + 1) = if (nmsB.getD i default).data.toList = s.data.toList then ((i : Nat) : Int) else kdT s.data.toList i := fun i => rfl
  have t0 : thT s.data.toList 1 = false := rfl
  have t1 : ∀ i, thT s.data.toList (i + 1) = if i ≠ 0 ∧ (nmsB.getD i default).data.toList = s.data.toList then true else thT s.data.toList i := fun i => rfl
  generalize hwt : wantT a.kind = wt at *
  generalize hkt : kdT s.data.toList = kt at *
  generalize htt : thT s.data.toList = tt at *
  clear hwt hkt htt
  generalize nameP a.kind = nm at *
  generalize fewC a = fa at *
  generalize fewC b = fb at *
  generalize samC a b = sm at *
  generalize hhs : hasP a.kind = hs at *
  clear hhs
  generalize hba : bareC a = ba at *
  clear hba ha hb0
  obtain ⟨a1, a2, a3, a4, a5, a6, a7, a8, a9, a10⟩ := ba
  obtain ⟨k1', k2, k3, k4, k5, k6, k7, ids, vec, ops⟩ := a
  obtain ⟨b1, b2, b3, b4, b5, b6, b7, b8, b9, b10⟩ := b
  have hnl : nmsB.length = 16 := rfl
  generalize nmsB = ns at *
  dsimp only at *
  (refine XC.of_body (dt5) Tryd.func5 rfl Tryd.ntmps5 mixed (T := tl5) tk5 (by kernel_rfl) (by simp) rfl rfl rfl rfl rfl ?_; rintro o ho P hP c K hK; have hm : P.follows .mixedOrders = true := hP ▸ mixed; have hT : TOk P tl5 := hP ▸ tk5; (try rw [← ho]); cbv; (repeat (refine StopN.mk ?_; cbv)))
  rw [← ho] at h1 h2 hN d1 d2 d3 d4 d5
  repeat' (first | (refine Br.mk (fun hb => ?_) (fun hb => ?_) <;> ((try rw [ho] at hb); (try dsimp only [Ar.real, IX.vo] at hb); (try simp only [QU1, QB7, QSyVa] at hb); (try simp only [QBo, beq_iff_eq, beq_eq_false_iff_ne, ne_eq] at hb))) | (refine StopN.mk ?_; cbv) | (first | refine CallI.pure hP h1 fn6 rfl rfl rfl ?_ | refine CallI.pure hP h2 fn6 rfl rfl rfl ?_ | refine CallI.pure hP hN fn13 rfl rfl rfl ?_); cbv | ((first | refine CallI.pure hP (x_works14) fn9 (by first | rfl | (rw [ho]; try rfl)) (by rfl) (by first | rfl | (rw [ho]; try rfl)) ?_ | refine CallN.pure hP (x_works14) fn9 (by first | rfl | (rw [ho]; try rfl)) (by rfl) (by first | rfl | (rw [ho]; try rfl)) ?_); (try rw [← ho]); cbv) | ((first | refine CallI.pure hP (x_Has _ _) fn10 (by first | rfl | (rw [ho]; try rfl)) (by rfl) (by first | rfl | (rw [ho]; try rfl)) ?_ | refine CallN.pure hP (x_Has _ _) fn10 (by first | rfl | (rw [ho]; try rfl)) (by rfl) (by first | rfl | (rw [ho]; try rfl)) ?_); (try rw [← ho]); generalize hr : hasP _ _ = r; (try rw [ho] at hr); (try dsimp only [Ar.real, IX.vo] at hr); (try simp only [QU1, QB7, QSyVa] at hr); cbv) | ((first | refine CallI.pure hP (x_sBare _ ‹_›) fn11 (by first | rfl | (rw [ho]; try rfl)) (by rfl) (by first | rfl | (rw [ho]; try rfl)) ?_ | refine CallN.pure hP (x_sBare _ ‹_›) fn11 (by first | rfl | (rw [ho]; try rfl)) (by rfl) (by first | rfl | (rw [ho]; try rfl)) ?_); (try rw [← ho]); cbv) | ((first | refine CallI.pure hP (x_sSame _ _ ‹_› ‹_›) fn12 (by first | rfl | (rw [ho]; try rfl)) (by rfl) (by first | rfl | (rw [ho]; try rfl)) ?_ | refine CallN.pure hP (x_sSame _ _ ‹_› ‹_›) fn12 (by first | rfl | (rw [ho]; try rfl)) (by rfl) (by first | rfl | (rw [ho]; try rfl)) ?_); (try rw [← ho]); generalize hr : samC _ _ = r; (try rw [ho] at hr); (try dsimp only [Ar.real, IX.vo] at hr); (try simp only [QU1, QB7, QSyVa] at hr); cbv) | ((first | refine CallI.pure hP (x_r14Has _ _) fn14 (by first | rfl | (rw [ho]; try rfl)) (by rfl) (by first | rfl | (rw [ho]; try rfl)) ?_ | refine CallN.pure hP (x_r14Has _ _) fn14 (by first | rfl | (rw [ho]; try rfl)) (by rfl) (by first | rfl | (rw [ho]; try rfl)) ?_); (try rw [← ho]); generalize hr : hasP _ _ = r; (try rw [ho] at hr); (try dsimp only [Ar.real, IX.vo] at hr); (try simp only [QU1, QB7, QSyVa] at hr); cbv) | ((first | refine CallI.pure hP (x_sKind _) fn15 (by first | rfl | (rw [ho]; try rfl)) (by rfl) (by first | rfl | (rw [ho]; try rfl)) ?_ | refine CallN.pure hP (x_sKind _) fn15 (by first | rfl | (rw [ho]; try rfl)) (by rfl) (by first | rfl | (rw [ho]; try rfl)) ?_); (try rw [← ho]); cbv) | ((first | refine CallI.pure hP (x_r14Same _ _ ‹_› ‹_›) fn16 (by first | rfl | (rw [ho]; try rfl)) (by rfl) (by first | rfl | (rw [ho]; try rfl)) ?_ | refine CallN.pure hP (x_r14Same _ _ ‹_› ‹_›) fn16 (by first | rfl | (rw [ho]; try rfl)) (by rfl) (by first | rfl | (rw [ho]; try rfl)) ?_); (try rw [← ho]); generalize hr : samC _ _ = r; (try rw [ho] at hr); (try dsimp only [Ar.real, IX.vo] at hr); (try simp only [QU1, QB7, QSyVa] at hr); cbv) | ((first | refine CallI.pure hP (x_r14Bare _ ‹_›) fn17 (by first | rfl | (rw [ho]; try rfl)) (by rfl) (by first | rfl | (rw [ho]; try rfl)) ?_ | refine CallN.pure hP (x_r14Bare _ ‹_›) fn17 (by first | rfl | (rw [ho]; try rfl)) (by rfl) (by first | rfl | (rw [ho]; try rfl)) ?_); (try rw [← ho]); cbv) | ((first | refine CallI.pure hP (x_sName _) fn18 (by first | rfl | (rw [ho]; try rfl)) (by rfl) (by first | rfl | (rw [ho]; try rfl)) ?_ | refine CallN.pure hP (x_sName _) fn18 (by first | rfl | (rw [ho]; try rfl)) (by rfl) (by first | rfl | (rw [ho]; try rfl)) ?_); (try rw [← ho]); cbv) | (refine hK _ _ ?_) | (refine NeedT.mk ?_ ?_))
  · exact .pure fun _ => rfl
  · exact .pure fun _ => rfl
  refine LoopN.over (o := o) (D := dt5) ho hm hT (by kernel_rfl) (fun q : StNm => [(11, xn q.i), (8, .v (.string q.w)), (9, xi q.kd), (10, xb q.th)]) (fun _ => []) (fun _ => []) (fun q => 1 ≤ q.i ∧ q.i ≤ 16 ∧ q.w = wt q.i ∧ q.kd = kt q.i ∧ q.th = tt q.i) (fun q => 16 - q.i) ⟨1, ⟨#[]⟩, 0, false⟩ ⟨Nat.le_refl _, by decide, w0.symm, k0.symm, t0.symm⟩ ?_ ?_
  · (refine ⟨?_, ?_, ?_, ?_⟩ <;> cbv <;> repeat' (first | trivial | exact EqX.rfl' | exact EqO.rfl' | apply And.intro | ((try clear hR3); (try clear hR2); (try clear hR); (try clear hK); (try simp only [ncCast] at *); (try simp only [castI_eq] at *); refine EqX.i ?_; (try rw [ho]); (try dsimp only [Ar.real, IX.vo, IX.val, BX.val, IX.toN]); (try simp only [QU1, QB7, QSyVa]); (repeat rw [wrap_i64 (by omega) (by omega)]); omega) | first | exact EqX.b rfl | exact EqX.i rfl))
  · rintro ⟨i, w, kd, th⟩ ⟨hi1, hi, ew, ek, et⟩ R hR
    dsimp only at hi1 hi ew ek et
    have hw := w1 i
    have hk := k1 i
    have ht := t1 i
    have el : o.nth ns i = ns.getD i default := by rw [ho, real_nth]
    have A1 : ((i : Nat) : Int) = k1' → o.nth ns i = wt (i + 1) := fun h => by rw [hw, if_pos h, el]
    have A2 : ¬ ((i : Nat) : Int) = k1' → w = wt (i + 1) := fun h => by rw [hw, if_neg h, ew]
    have B1 : (ns.getD i default).toList = s.toList → ((i : Nat) : Int) = kt (i + 1) ∧ true = tt (i + 1) := fun h => by
      rw [toList_data, toList_data] at h
      exact ⟨by rw [hk, if_pos h], by rw [ht, if_pos ⟨by omega, h⟩]⟩
    have B2 : ¬ (ns.getD i default).toList = s.toList → kd = kt (i + 1) ∧ th = tt (i + 1) := fun h => by
      rw [toList_data, toList_data] at h
      exact ⟨by rw [hk, if_neg h, ek], by rw [ht, if_neg (fun h2 => h h2.2), et]⟩
    have E : i = 16 → w = nm ∧ kd = kp1 ∧ th = kp2 := fun h => by subst h; exact ⟨ew.trans we, ek.trans ke1, et.trans ke2⟩
    clear hw hk ht w1 k1 t1 w0 k0 t0 we ke1 ke2 ew ek et el
    cbv
    repeat' (first | (refine Br.mk (fun hb => ?_) (fun hb => ?_) <;> ((try rw [ho] at hb); (try dsimp only [Ar.real, IX.vo] at hb); (try simp only [QU1, QB7, QSyVa] at hb); (try simp only [QBo, beq_iff_eq, beq_eq_false_iff_ne, ne_eq] at hb))) | (refine StopN.mk ?_; cbv) | ((first | refine CallI.pure hP (x_CalFew _ ‹_›) fn6 (by first | rfl | (rw [ho]; try rfl)) (by rfl) (by first | rfl | (rw [ho]; try rfl)) ?_ | refine CallN.pure hP (x_CalFew _ ‹_›) fn6 (by first | rfl | (rw [ho]; try rfl)) (by rfl) (by first | rfl | (rw [ho]; try rfl)) ?_); (try rw [← ho]); generalize hr : fewC _ = r; (try rw [ho] at hr); (try dsimp only [Ar.real, IX.vo] at hr); (try simp only [QU1, QB7, QSyVa] at hr); cbv) | ((first | refine CallI.pure hP (x_works14) fn9 (by first | rfl | (rw [ho]; try rfl)) (by rfl) (by first | rfl | (rw [ho]; try rfl)) ?_ | refine CallN.pure hP (x_works14) fn9 (by first | rfl | (rw [ho]; try rfl)) (by rfl) (by first | rfl | (rw [ho]; try rfl)) ?_); (try rw [← ho]); cbv) | ((first | refine CallI.pure hP (x_Has _ _) fn10 (by first | rfl | (rw [ho]; try rfl)) (by rfl) (by first | rfl | (rw [ho]; try rfl)) ?_ | refine CallN.pure hP (x_Has _ _) fn10 (by first | rfl | (rw [ho]; try rfl)) (by rfl) (by first | rfl | (rw [ho]; try rfl)) ?_); (try rw [← ho]); generalize hr : hasP _ _ = r; (try rw [ho] at hr); (try dsimp only [Ar.real, IX.vo] at hr); (try simp only [QU1, QB7, QSyVa] at hr); cbv) | ((first | refine CallI.pure hP (x_sBare _ ‹_›) fn11 (by first | rfl | (rw [ho]; try rfl)) (by rfl) (by first | rfl | (rw [ho]; try rfl)) ?_ | refine CallN.pure hP (x_sBare _ ‹_›) fn11 (by first | rfl | (rw [ho]; try rfl)) (by rfl) (by first | rfl | (rw [ho]; try rfl)) ?_); (try rw [← ho]); cbv) | ((first | refine CallI.pure hP (x_sSame _ _ ‹_› ‹_›) fn12 (by first | rfl | (rw [ho]; try rfl)) (by rfl) (by first | rfl | (rw [ho]; try rfl)) ?_ | refine CallN.pure hP (x_sSame _ _ ‹_› ‹_›) fn12 (by first | rfl | (rw [ho]; try rfl)) (by rfl) (by first | rfl | (rw [ho]; try rfl)) ?_); (try rw [← ho]); generalize hr : samC _ _ = r; (try rw [ho] at hr); (try dsimp only [Ar.real, IX.vo] at hr); (try simp only [QU1, QB7, QSyVa] at hr); cbv) | ((first | refine CallI.pure hP (x_Names) fn13 (by first | rfl | (rw [ho]; try rfl)) (by rfl) (by first | rfl | (rw [ho]; try rfl)) ?_ | refine CallN.pure hP (x_Names) fn13 (by first | rfl | (rw [ho]; try rfl)) (by rfl) (by first | rfl | (rw [ho]; try rfl)) ?_); (try rw [← ho]); cbv) | ((first | refine CallI.pure hP (x_r14Has _ _) fn14 (by first | rfl | (rw [ho]; try rfl)) (by rfl) (by first | rfl | (rw [ho]; try rfl)) ?_ | refine CallN.pure hP (x_r14Has _ _) fn14 (by first | rfl | (rw [ho]; try rfl)) (by rfl) (by first | rfl | (rw [ho]; try rfl)) ?_); (try rw [← ho]); generalize hr : hasP _ _ = r; (try rw [ho] at hr); (try dsimp only [Ar.real, IX.vo] at hr); (try simp only [QU1, QB7, QSyVa] at hr); cbv) | ((first | refine CallI.pure hP (x_sKind _) fn15 (by first | rfl | (rw [ho]; try rfl)) (by rfl) (by first | rfl | (rw [ho]; try rfl)) ?_ | refine CallN.pure hP (x_sKind _) fn15 (by first | rfl | (rw [ho]; try rfl)) (by rfl) (by first | rfl | (rw [ho]; try rfl)) ?_); (try rw [← ho]); cbv) | ((first | refine CallI.pure hP (x_r14Same _ _ ‹_› ‹_›) fn16 (by first | rfl | (rw [ho]; try rfl)) (by rfl) (by first | rfl | (rw [ho]; try rfl)) ?_ | refine CallN.pure hP (x_r14Same _ _ ‹_› ‹_›) fn16 (by first | rfl | (rw [ho]; try rfl)) (by rfl) (by first | rfl | (rw [ho]; try rfl)) ?_); (try rw [← ho]); generalize hr : samC _ _ = r; (try rw [ho] at hr); (try dsimp only [Ar.real, IX.vo] at hr); (try simp only [QU1, QB7, QSyVa] at hr); cbv) | ((first | refine CallI.pure hP (x_r14Bare _ ‹_›) fn17 (by first | rfl | (rw [ho]; try rfl)) (by rfl) (by first | rfl | (rw [ho]; try rfl)) ?_ | refine CallN.pure hP (x_r14Bare _ ‹_›) fn17 (by first | rfl | (rw [ho]; try rfl)) (by rfl) (by first | rfl | (rw [ho]; try rfl)) ?_); (try rw [← ho]); cbv) | ((first | refine CallI.pure hP (x_sName _) fn18 (by first | rfl | (rw [ho]; try rfl)) (by rfl) (by first | rfl | (rw [ho]; try rfl)) ?_ | refine CallN.pure hP (x_sName _) fn18 (by first | rfl | (rw [ho]; try rfl)) (by rfl) (by first | rfl | (rw [ho]; try rfl)) ?_); (try rw [← ho]); cbv) | (refine hK _ _ ?_) | (refine NeedT.mk ?_ ?_))
    all_goals try (((try clear hR3); (try clear hR2); (try clear hR); (try clear hK); (try simp only [ncCast] at *); (try simp only [castI_eq] at *); (try rw [ho]); (try dsimp only [Ar.real, IX.vo, IX.val, BX.val, IX.toN]); (try simp only [QU1, QB7, QSyVa]); (try simp only [decide_eq_true_eq]); (all_goals (repeat rw [wrap_i64 (by omega) (by omega)])); (all_goals (first | omega | (simp only [Int.ofNat_eq_natCast]; omega)))); done)
    · refine hR _ ⟨i + 1, o.nth ns i, i, true⟩ (by show 16 - (i + 1) < 16 - i; ((try clear hR3); (try clear hR2); (try clear hR); (try clear hK); (try simp only [ncCast] at *); (try simp only [castI_eq] at *)); omega) ⟨by show 1 ≤ i + 1; omega, by show i + 1 ≤ 16; ((try clear hR3); (try clear hR2); (try clear hR); (try clear hK); (try simp only [ncCast] at *); (try simp only [castI_eq] at *)); omega, A1 (by assumption), (B1 (by assumption)).1, (B1 (by assumption)).2⟩ ?_
      (refine ⟨?_, ?_, ?_, ?_⟩ <;> cbv <;> repeat' (first | trivial | exact EqX.rfl' | exact EqO.rfl' | apply And.intro | ((try clear hR3); (try clear hR2); (try clear hR); (try clear hK); (try simp only [ncCast] at *); (try simp only [castI_eq] at *); refine EqX.i ?_; (try rw [ho]); (try dsimp only [Ar.real, IX.vo, IX.val, BX.val, IX.toN]); (try simp only [QU1, QB7, QSyVa]); (repeat rw [wrap_i64 (by omega) (by omega)]); omega) | first | exact EqX.b rfl | exact EqX.i rfl))
    · refine hR _ ⟨i + 1, o.nth ns i, kd, th⟩ (by show 16 - (i + 1) < 16 - i; ((try clear hR3); (try clear hR2); (try clear hR); (try clear hK); (try simp only [ncCast] at *); (try simp only [castI_eq] at *)); omega) ⟨by show 1 ≤ i + 1; omega, by show i + 1 ≤ 16; ((try clear hR3); (try clear hR2); (try clear hR); (try clear hK); (try simp only [ncCast] at *); (try simp only [castI_eq] at *)); omega, A1 (by assumption), (B2 (by assumption)).1, (B2 (by assumption)).2⟩ ?_
      (refine ⟨?_, ?_, ?_, ?_⟩ <;> cbv <;> repeat' (first | trivial | exact EqX.rfl' | exact EqO.rfl' | apply And.intro | ((try clear hR3); (try clear hR2); (try clear hR); (try clear hK); (try simp only [ncCast] at *); (try simp only [castI_eq] at *); refine EqX.i ?_; (try rw [ho]); (try dsimp only [Ar.real, IX.vo, IX.val, BX.val, IX.toN]); (try simp only [QU1, QB7, QSyVa]); (repeat rw [wrap_i64 (by omega) (by omega)]); omega) | first | exact EqX.b rfl | exact EqX.i rfl))
    · refine hR _ ⟨i + 1, w, i, true⟩ (by show 16 - (i + 1) < 16 - i; ((try clear hR3); (try clear hR2); (try clear hR); (try clear hK); (try simp only [ncCast] at *); (try simp only [castI_eq] at *)); omega) ⟨by show 1 ≤ i + 1; omega, by show i + 1 ≤ 16; ((try clear hR3); (try clear hR2); (try clear hR); (try clear hK); (try simp only [ncCast] at *); (try simp only [castI_eq] at *)); omega, A2 (by assumption), (B1 (by assumption)).1, (B1 (by assumption)).2⟩ ?_
      (refine ⟨?_, ?_, ?_, ?_⟩ <;> cbv <;> repeat' (first | trivial | exact EqX.rfl' | exact EqO.rfl' | apply And.intro | ((try clear hR3); (try clear hR2); (try clear hR); (try clear hK); (try simp only [ncCast] at *); (try simp only [castI_eq] at *); refine EqX.i ?_; (try rw [ho]); (try dsimp only [Ar.real, IX.vo, IX.val, BX.val, IX.toN]); (try simp only [QU1, QB7, QSyVa]); (repeat rw [wrap_i64 (by omega) (by omega)]); omega) | first | exact EqX.b rfl | exact EqX.i rfl))
    · refine hR _ ⟨i + 1, w, kd, th⟩ (by show 16 - (i + 1) < 16 - i; ((try clear hR3); (try clear hR2); (try clear hR); (try clear hK); (try simp only [ncCast] at *); (try simp only [castI_eq] at *)); omega) ⟨by show 1 ≤ i + 1; omega, by show i + 1 ≤ 16; ((try clear hR3); (try clear hR2); (try clear hR); (try clear hK); (try simp only [ncCast] at *); (try simp only [castI_eq] at *)); omega, A2 (by assumption), (B2 (by assumption)).1, (B2 (by assumption)).2⟩ ?_
      (refine ⟨?_, ?_, ?_, ?_⟩ <;> cbv <;> repeat' (first | trivial | exact EqX.rfl' | exact EqO.rfl' | apply And.intro | ((try clear hR3); (try clear hR2); (try clear hR); (try clear hK); (try simp only [ncCast] at *); (try simp only [castI_eq] at *); refine EqX.i ?_; (try rw [ho]); (try dsimp only [Ar.real, IX.vo, IX.val, BX.val, IX.toN]); (try simp only [QU1, QB7, QSyVa]); (repeat rw [wrap_i64 (by omega) (by omega)]); omega) | first | exact EqX.b rfl | exact EqX.i rfl))
    · obtain ⟨rfl, rfl, rfl⟩ := E (by ((try clear hR3); (try clear hR2); (try clear hR); (try clear hK); (try simp only [ncCast] at *); (try simp only [castI_eq] at *)); omega)
      clear A1 A2 B1 B2 E hR R wt kt tt
      refine LoopN.over (o := o) (D := dt5) ho hm hT (by kernel_rfl) (fun x : Int => [(12, xi x)]) (fun _ => []) (fun _ => []) (fun x => -1 ≤ x ∧ x ≤ 10) (fun x => (10 - x).toNat) (-1) ⟨by decide, by decide⟩ ?_ ?_
      · (refine ⟨?_, ?_, ?_, ?_⟩ <;> cbv <;> repeat' (first | trivial | exact EqX.rfl' | exact EqO.rfl' | apply And.intro | ((try clear hR3); (try clear hR2); (try clear hR); (try clear hK); (try simp only [ncCast] at *); (try simp only [castI_eq] at *); refine EqX.i ?_; (try rw [ho]); (try dsimp only [Ar.real, IX.vo, IX.val, BX.val, IX.toN]); (try simp only [QU1, QB7, QSyVa]); (repeat rw [wrap_i64 (by omega) (by omega)]); omega) | exact EqX.i rfl))
      · rintro x ⟨hx1, hx2⟩ R hR
        have e1 := hH x
        have e2 := hG x
        generalize hs x = q at *
        clear hH hG
        cbv
        repeat' (first | (refine Br.mk (fun hb => ?_) (fun hb => ?_) <;> ((try rw [ho] at hb); (try dsimp only [Ar.real, IX.vo] at hb); (try simp only [QU1, QB7, QSyVa] at hb); (try simp only [QBo, beq_iff_eq, beq_eq_false_iff_ne, ne_eq] at hb))) | (refine StopN.mk ?_; cbv) | (first | refine CallN.pure hP e1 fn10 rfl rfl rfl ?_ | refine CallN.pure hP e2 fn14 rfl rfl rfl ?_ | refine CallI.pure hP hKd fn15 rfl rfl rfl ?_ | refine CallN.pure hP d1 fn11 rfl rfl rfl ?_ | refine CallN.pure hP d2 fn17 rfl rfl rfl ?_ | refine CallN.pure hP d3 fn16 rfl rfl rfl ?_ | refine CallN.pure hP d4 fn12 rfl rfl rfl ?_ | refine CallN.pure hP d5 fn16 rfl rfl rfl ?_ | refine CallN.pure hP hNm fn18 rfl rfl rfl ?_ | refine CallN.pure hP hW fn9 rfl rfl rfl ?_); cbv | ((first | refine CallI.pure hP (x_CalFew _ ‹_›) fn6 (by first | rfl | (rw [ho]; try rfl)) (by rfl) (by first | rfl | (rw [ho]; try rfl)) ?_ | refine CallN.pure hP (x_CalFew _ ‹_›) fn6 (by first | rfl | (rw [ho]; try rfl)) (by rfl) (by first | rfl | (rw [ho]; try rfl)) ?_); (try rw [← ho]); generalize hr : fewC _ = r; (try rw [ho] at hr); (try dsimp only [Ar.real, IX.vo] at hr); (try simp only [QU1, QB7, QSyVa] at hr); cbv) | ((first | refine CallI.pure hP (x_Names) fn13 (by first | rfl | (rw [ho]; try rfl)) (by rfl) (by first | rfl | (rw [ho]; try rfl)) ?_ | refine CallN.pure hP (x_Names) fn13 (by first | rfl | (rw [ho]; try rfl)) (by rfl) (by first | rfl | (rw [ho]; try rfl)) ?_); (try rw [← ho]); cbv) | (refine hK _ _ ?_) | (refine NeedT.mk ?_ ?_))
        all_goals try (((try clear hR3); (try clear hR2); (try clear hR); (try clear hK); (try simp only [ncCast] at *); (try simp only [castI_eq] at *); (try rw [ho]); (try dsimp only [Ar.real, IX.vo, IX.val, BX.val, IX.toN]); (try simp only [QU1, QB7, QSyVa]); (try simp only [decide_eq_true_eq]); (all_goals (repeat rw [wrap_i64 (by omega) (by omega)])); (all_goals (first | omega | (simp only [Int.ofNat_eq_natCast]; omega)))); done)
        · exact absurd trivial hb
        · refine hR _ (x + 1) (by show (10 - (x + 1)).toNat < (10 - x).toNat; ((try clear hR3); (try clear hR2); (try clear hR); (try clear hK); (try simp only [ncCast] at *); (try simp only [castI_eq] at *)); omega) ⟨by show -1 ≤ x + 1; omega, by show x + 1 ≤ 10; ((try clear hR3); (try clear hR2); (try clear hR); (try clear hK); (try simp only [ncCast] at *); (try simp only [castI_eq] at *)); omega⟩ ?_
          (refine ⟨?_, ?_, ?_, ?_⟩ <;> cbv <;> repeat' (first | trivial | exact EqX.rfl' | exact EqO.rfl' | apply And.intro | ((try clear hR3); (try clear hR2); (try clear hR); (try clear hK); (try simp only [ncCast] at *); (try simp only [castI_eq] at *); refine EqX.i ?_; (try rw [ho]); (try dsimp only [Ar.real, IX.vo, IX.val, BX.val, IX.toN]); (try simp only [QU1, QB7, QSyVa]); (repeat rw [wrap_i64 (by omega) (by omega)]); omega) | (refine EqX.i ?_; rw [ho]; (try dsimp only [Ar.real, IX.vo, IX.val]); rw [wrap_i64 (by omega) (by omega)])))
        all_goals first
          | exact .pure fun _ => rfl
          | exact absurd trivial hb
          | (cases hb; done)
end Go.Proofs.YtkjjihicaefmcaaDoor.Sy
namespace Go.Proofs.YtkjjihicaefmcaaDoor.Sy
open Go Go.Sy Go.Proofs.YtkjjihicaefmcaaDoor Go.RowKit Go.ChangeShapes Go.WideShapes Go.ChangeAt Go.Lib
theorem trod_str {H : Type} {enc : TypeId × Value → H} {P : Program} {w : World} {base : Nat} {sp : Nat → Bool} {held : Bool} {fuel : Nat} {e : TypeId} {cs : List Value} {x : DataW H × List MemPlace} (he : P.underlying e = some .string)
    (h : DataW.trod enc P w base sp held fuel e cs = some x) : ∃ s : ByteArray, cs = [.string s] ∧ x.1 = .lit (.string s.data.toList) := by
  cases fuel with
  | zero => simp [DataW.trod] at h
  | succ fuel =>
    simp only [DataW.trod, he] at h
    split at h
    case h_4 s heq =>
      split at h
      · cases h
        exact ⟨s, rfl, rfl⟩
      · cases h
    all_goals first
      | (cases h; done)
      | (exfalso; simp_all; done)
theorem strs_of_tab {H : Type} {enc : TypeId × Value → H} {P : Program} {w : World} {base : Nat} {sp : Nat → Bool} {held : Bool} {fuel : Nat} {t e : TypeId} {n : Nat} {cs : List Value} {zs : List (List UInt8)} {p : List MemPlace}
    (ht : P.underlying t = some (.array n e)) (he : P.underlying e = some .string) (hce : P.cellsOf e = 1) (hct : P.cellsOf t = n)
    (h : DataW.trod enc P w base sp held fuel t cs = some (.agg (zs.map fun z => .lit (.string z)), p)) : cs = zs.map fun z => Value.string ⟨⟨z⟩⟩ := by
  cases fuel with
  | zero => simp [DataW.trod] at h
  | succ fuel =>
    simp only [DataW.trod, ht, hce, hct, Nat.mul_one] at h
    split at h
    · rename_i hl
      obtain ⟨xs, hm, hx⟩ := Option.map_eq_some_iff.1 h
      have hxs : xs.map (·.1) = zs.map fun z => (DataW.lit (.string z) : DataW H) := by
        have := congrArg Prod.fst hx
        simpa using this
      have hxl : xs.length = n := by simpa using mapM_length hm
      have hzl : zs.length = n := by
        have := congrArg List.length hxs
        simp at this
        omega
      apply List.ext_getElem?
      intro i
      by_cases hi : i < n
      · obtain ⟨b, hb, hf⟩ := mapM_at hm i i (by simp [hi])
        obtain ⟨z, hc, hz⟩ := trod_str he hf
        have h1 : cs[i]? = some (.string z) := by
          have := congrArg (·[0]?) hc
          simpa [List.getElem?_take, List.getElem?_drop] using this
        have h2 : (xs.map (·.1))[i]? = some (DataW.lit (.string z.data.toList) : DataW H) := by simp [hb, hz]
        rw [hxs] at h2
        simp only [List.getElem?_map, Option.map_eq_some_iff, DataW.lit.injEq, Lit.string.injEq] at h2
        obtain ⟨z', hz', rfl⟩ := h2
        rw [h1, List.getElem?_map, hz']
        rfl
      · rw [List.getElem?_eq_none (by omega), List.getElem?_eq_none (by simp; omega)]
    · cases h
def nmsZ : List (List UInt8) := [[], [114, 101, 103, 105, 115, 116, 101, 114], [108, 111, 115, 101], [115, 117, 98, 115, 99, 114, 105, 98, 101], [100, 105, 115, 99, 111, 110, 110, 101, 99, 116], [116, 101, 97, 114, 100, 111, 119, 110], [97, 99, 99, 101, 112, 116], [100, 101, 99, 108, 105, 110, 101], [114, 101, 115, 99, 105, 110, 100], [114, 101, 118, 105, 118, 101], [115, 117, 112, 112, 114, 101, 115, 115], [107, 105, 108, 108], [102, 105, 110, 105, 115, 104], [116, 105, 99, 107], [97, 108, 108, 111, 99, 97, 116, 101], [97, 108, 108]]
def opsZ : List (List UInt8) := [[], [108, 97, 117, 110, 99, 104], [114, 101, 115, 101, 114, 118, 101], [117, 110, 114, 101, 115, 101, 114, 118, 101]]
theorem gNames : Tryd.prog.globalNamed "manciple/shape.names" = some 0 := by kernel_rfl
theorem gOps : Tryd.prog.globalNamed "manciple/shape.ops" = some 1 := by kernel_rfl
theorem tNames : (Tryd.prog.globals[0]?).map (·.type) = some 64 := by kernel_rfl
theorem tOps : (Tryd.prog.globals[1]?).map (·.type) = some 76 := by kernel_rfl
theorem uNames : Tryd.prog.underlying 64 = some (.array 16 9) := by kernel_rfl
theorem uOps : Tryd.prog.underlying 76 = some (.array 4 9) := by kernel_rfl
theorem uStr : Tryd.prog.underlying 9 = some .string := by kernel_rfl
theorem cStr : Tryd.prog.cellsOf 9 = 1 := by kernel_rfl
theorem cNames : Tryd.prog.cellsOf 64 = 16 := by kernel_rfl
theorem cOps : Tryd.prog.cellsOf 76 = 4 := by kernel_rfl
theorem var_row {P : Program} {W : World} {n : String} {g : Nat} {l : List Value} (hg : P.globalNamed n = some g) (h : W.var? P n = some l.toArray) (hl : 0 < l.length) : g < W.heap.size ∧ ∀ j, j < l.length → W.cell? ⟨g, j, none⟩ = some (l.getD j undef) := by
  have hc : ∀ j, j < l.length → W.cell? ⟨g, j, none⟩ = some (l.getD j undef) := fun j hj => by
    have := World.var?_cell hg h j
    rw [this]
    simp [List.getD_eq_getElem?_getD, hj]
  refine ⟨?_, hc⟩
  have h0 := hc 0 hl
  apply Classical.byContradiction
  intro hn
  have : W.heap[g]? = none := Array.getElem?_eq_none (by omega)
  simp [World.cell?, this] at h0
theorem tables {W : World} (h : laidMet Tryd.prog [("manciple/shape.names", Rows.laid_manciple_shape_names), ("manciple/shape.ops", Rows.laid_manciple_shape_ops)] W) :
    ∀ g l, tabOf g = some l → Zof W g ∧ ∀ j, j < l.length → W.cell? ⟨g, j, none⟩ = some (l.getD j undef) := by
  obtain ⟨ps, ⟨g, t, cs, fuel, p, q, hg, ht, hvar, hd, ⟨g2, t2, cs2, fuel2, p2, q2, hg2, ht2, hvar2, hd2, _, _⟩, _⟩, _⟩ := h
  obtain rfl := Option.some.inj (gNames.symm.trans hg)
  obtain rfl := Option.some.inj (tNames.symm.trans ht)
  obtain rfl := Option.some.inj (gOps.symm.trans hg2)
  obtain rfl := Option.some.inj (tOps.symm.trans ht2)
  have e1 := strs_of_tab (zs := nmsZ) uNames uStr cStr cNames hd
  have e2 := strs_of_tab (zs := opsZ) uOps uStr cStr cOps hd2
  have v1 : W.var? Tryd.prog "manciple/shape.names" = some (nmsZ.map fun z => Value.string ⟨⟨z⟩⟩).toArray := by rw [hvar, ← e1]
  have v2 : W.var? Tryd.prog "manciple/shape.ops" = some (opsZ.map fun z => Value.string ⟨⟨z⟩⟩).toArray := by rw [hvar2, ← e2]
  intro g l hgl
  match g, hgl with
  | 0, hgl =>
    obtain rfl := Option.some.inj hgl
    exact var_row gNames v1 (by decide)
  | 1, hgl =>
    obtain rfl := Option.some.inj hgl
    exact var_row gOps v2 (by decide)
def tdPart : TD := .agg [.int .i64, .int .i64, .int .i64]
theorem decPart (M : Nat) : Dec tdPart M (fun _ => True) Part.X := by
  rintro cs ⟨a, r1, rfl, h1, b, r2, rfl, h2, c, r3, rfl, h3, h4⟩
  obtain rfl := hasL_nil h4
  obtain ⟨x, -, rfl⟩ := Dec.int M a h1
  obtain ⟨y, -, rfl⟩ := Dec.int M b h2
  obtain ⟨z, -, rfl⟩ := Dec.int M c h3
  exact ⟨⟨x, y, z⟩, trivial, rfl⟩
def tdOpn : TD := .agg [.int .i64, .int .i64, .slice tdPart]
theorem decOpn (M : Nat) : Dec tdOpn M (fun a => a.vec.length ≤ M) Opn.X := by
  rintro cs ⟨a, r1, rfl, h1, b, r2, rfl, h2, c, r3, rfl, h3, h4⟩
  obtain rfl := hasL_nil h4
  obtain ⟨x, -, rfl⟩ := Dec.int M a h1
  obtain ⟨y, -, rfl⟩ := Dec.int M b h2
  obtain ⟨z, k3, rfl⟩ := (decPart M).slice c h3
  exact ⟨⟨x, y, z⟩, k3.len, rfl⟩
def tdCal : TD := .agg [.int .i64, .int .i64, .int .i64, .int .i64, .int .i64, .int .i64, .int .i64, .slice (.int .i64), .slice tdPart, .slice tdOpn]
theorem decI64 (M : Nat) : Dec (.int .i64) M (fun n : Int => -9223372036854775808 ≤ n ∧ n ≤ 9223372036854775807) Go.Sy.encI := (Dec.int M).one
theorem decCal : Dec tdCal 1048576 CalOk Cal.X := by
  rintro cs ⟨a, r1, rfl, h1, b, r2, rfl, h2, c, r3, rfl, h3, d, r4, rfl, h4, e, r5, rfl, h5, f, r6, rfl, h6, g, r7, rfl, h7, i, r8, rfl, h8, j, r9, rfl, h9, k, r10, rfl, h10, h11⟩
  obtain rfl := hasL_nil h11
  obtain ⟨x1, -, rfl⟩ := Dec.int 1048576 a h1
  obtain ⟨x2, -, rfl⟩ := Dec.int 1048576 b h2
  obtain ⟨x3, -, rfl⟩ := Dec.int 1048576 c h3
  obtain ⟨x4, -, rfl⟩ := Dec.int 1048576 d h4
  obtain ⟨x5, -, rfl⟩ := Dec.int 1048576 e h5
  obtain ⟨x6, -, rfl⟩ := Dec.int 1048576 f h6
  obtain ⟨x7, -, rfl⟩ := Dec.int 1048576 g h7
  obtain ⟨x8, k8, rfl⟩ := (decI64 1048576).slice i h8
  obtain ⟨x9, k9, rfl⟩ := (decPart 1048576).slice j h9
  obtain ⟨x10, k10, rfl⟩ := (decOpn 1048576).slice k h10
  refine ⟨⟨x1, x2, x3, x4, x5, x6, x7, x8, x9, x10⟩, ⟨k8.len, k9.len, k10.len, fun i => ?_⟩, rfl⟩
  by_cases hk : i < x10.length
  · show (x10.getD i default).vec.length ≤ 1048576
    rw [getD_g hk]
    exact k10.all _ (List.getElem_mem hk)
  · show (x10.getD i default).vec.length ≤ 1048576
    rw [List.getD_eq_getElem?_getD, List.getElem?_eq_none (by omega)]
    exact Nat.zero_le _
theorem laidOut : laidOutB Tryd.prog = true := by kernel_rfl
theorem rowed : mapsRowed Tryd.prog = true := by kernel_rfl
theorem full : ((List.range Tryd.prog.types.size).all fun t => match Tryd.prog.underlying t with | some (.slice e) => decide (0 < Tryd.prog.cellsOf e) | _ => true) = true := by kernel_rfl
theorem own : ownKnob Tryd.prog.godebug = none := by kernel_rfl
noncomputable def laidWorld (os : Os) : World :=
  { World.holding Tryd.prog os ⟨#[], #[], []⟩ with heap := ((World.holding Tryd.prog os ⟨#[], #[], []⟩).heap.modify 0 (fun x => match x with | .cells _ t frozen => .cells (nmsZ.map fun z => Value.string ⟨⟨z⟩⟩).toArray t frozen | o => o)).modify 1 (fun x => match x with | .cells _ t frozen => .cells (opsZ.map fun z => Value.string ⟨⟨z⟩⟩).toArray t frozen | o => o) }
end Go.Proofs.YtkjjihicaefmcaaDoor.Sy

/-
  Books: rules 1 and 2, by the program. Plain theorems.
-/
import Derived.Test.YtpijibffjohikaaMd
set_option linter.unusedSectionVars false
set_option maxRecDepth 100000
set_option maxHeartbeats 8000000
set_option linter.unusedVariables false
set_option linter.unusedSimpArgs false
namespace Go.Proofs.Ytpijibffjohikaa.Sy
open Go Go.Sy Go.Proofs.Ytpijibffjohikaa
def topB (x : Int) : Bool := wthB x 0 9007199254740992
def minB (s : S4) : Bool := topB s.a && (topB s.b && (topB s.c && topB s.d))
def cfgB (c : Cfg) : Bool := minB c.min && (topB c.hor && (wthB c.most 1 9007199254740992 && (topB c.ids && (topB c.life && wthB c.cap 1 4096))))
def chkR (c : Cfg) : Int := if cfgB c = true then 0 else 41
theorem x_confCheck (c : Cfg) : XC Try.prog 35 [.agg (Cfg.X Ar.real c)] [] (xi (chkR c)) [] := by
  have hw := fun x => x_within x 0 9007199254740992
  have h1 := hw c.min.a
  have h2 := hw c.min.b
  have h3 := hw c.min.c
  have h4 := hw c.min.d
  have h5 := hw c.hor
  have h6 := x_within c.most 1 9007199254740992
  have h7 := hw c.ids
  have h8 := hw c.life
  have h9 := x_within c.cap 1 4096
  clear hw
  have hr : chkR c = if (wthB c.min.a 0 9007199254740992 && (wthB c.min.b 0 9007199254740992 && (wthB c.min.c 0 9007199254740992 && wthB c.min.d 0 9007199254740992)) && (wthB c.hor 0 9007199254740992 && (wthB c.most 1 9007199254740992 && (wthB c.ids 0 9007199254740992 && (wthB c.life 0 9007199254740992 && wthB c.cap 1 4096))))) = true then 0 else 41 := rfl
  generalize wthB c.min.a 0 9007199254740992 = b1 at *
  generalize wthB c.min.b 0 9007199254740992 = b2 at *
  generalize wthB c.min.c 0 9007199254740992 = b3 at *
  generalize wthB c.min.d 0 9007199254740992 = b4 at *
  generalize wthB c.hor 0 9007199254740992 = b5 at *
  generalize wthB c.most 1 9007199254740992 = b6 at *
  generalize wthB c.ids 0 9007199254740992 = b7 at *
  generalize wthB c.life 0 9007199254740992 = b8 at *
  generalize wthB c.cap 1 4096 = b9 at *
  generalize chkR c = r at *
  obtain ⟨c1, c2, c3, c4, c5, ⟨m1, m2, m3, m4⟩⟩ := c
  dsimp only at *
  (refine XC.of_body ([]) Try.func35 rfl Try.ntmps35 mixed (T := tl35) tk35 (by kernel_rfl) (by simp) rfl rfl rfl rfl rfl ?_; rintro o ho P hP c K hK; have hm : P.follows .mixedOrders = true := hP ▸ mixed; have hT : TOk P tl35 := hP ▸ tk35; (try rw [← ho]); cbv; (repeat (refine StopN.mk ?_; cbv)))
  repeat' (first | (refine Br.mk (fun hb => ?_) (fun hb => ?_) <;> ((try rw [ho] at hb); (try dsimp only [Ar.real, IX.vo] at hb); (try simp only [QP1, QB7] at hb); (try simp only [QBo, beq_iff_eq, beq_eq_false_iff_ne, ne_eq] at hb))) | (refine StopN.mk ?_; cbv) | (first | refine NeedT.mk (by rw [ho]; rfl) ?_ | (first | refine CallI.pure hP h1 fn65 rfl rfl rfl ?_ | refine CallI.pure hP h2 fn65 rfl rfl rfl ?_ | refine CallI.pure hP h3 fn65 rfl rfl rfl ?_ | refine CallI.pure hP h4 fn65 rfl rfl rfl ?_ | refine CallI.pure hP h5 fn65 rfl rfl rfl ?_ | refine CallI.pure hP h6 fn65 rfl rfl rfl ?_ | refine CallI.pure hP h7 fn65 rfl rfl rfl ?_ | refine CallI.pure hP h8 fn65 rfl rfl rfl ?_ | refine CallI.pure hP h9 fn65 rfl rfl rfl ?_); cbv) | (refine hK _ _ ?_) | (refine NeedT.mk ?_ ?_) | (refine LoopN.lay (o := o) (D := []) 6 ho hm hT (by kernel_rfl) ?_; cbv))
  all_goals
    subst hr
    refine .i ?_
    simp [*]
    rfl
def setB (b : Bk) : Bool := cfgB b.cfg && (decide (0 ≤ b.now) && (decide (b.now ≤ b.cfg.hor) && (decide (0 ≤ b.last) && decide (b.last ≤ b.cfg.ids))))
@[reducible] def LkX (o : Ar) (b : Bk) : X := .agg (Bk.X o b)
theorem x_bset (b : Bk) : XC Try.prog 14 [.agg (Bk.X Ar.real b)] [] (xb (setB b)) [] := by
  have h1 := x_confCheck b.cfg
  have hr : setB b = (decide (chkR b.cfg = 0) && (decide (0 ≤ b.now) && (decide (b.now ≤ b.cfg.hor) && (decide (0 ≤ b.last) && decide (b.last ≤ b.cfg.ids))))) := by
    unfold setB chkR
    cases cfgB b.cfg <;> rfl
  generalize chkR b.cfg = q at *
  generalize setB b = r at *
  obtain ⟨⟨c1, c2, c3, c4, c5, ⟨c6, c7, c8, c9⟩⟩, now, last, fr, ag, of, tk, fl⟩ := b
  dsimp only at *
  (refine XC.of_body ([]) Try.func14 rfl Try.ntmps14 mixed (T := tl14) tk14 (by kernel_rfl) (by simp) rfl rfl rfl rfl rfl ?_; rintro o ho P hP c K hK; have hm : P.follows .mixedOrders = true := hP ▸ mixed; have hT : TOk P tl14 := hP ▸ tk14; (try rw [← ho]); cbv; (repeat (refine StopN.mk ?_; cbv)))
  repeat' (first | (refine Br.mk (fun hb => ?_) (fun hb => ?_) <;> ((try rw [ho] at hb); (try dsimp only [Ar.real, IX.vo] at hb); (try simp only [QP1, QB7] at hb); (try simp only [QBo, beq_iff_eq, beq_eq_false_iff_ne, ne_eq] at hb))) | (refine StopN.mk ?_; cbv) | (refine CallI.pure hP h1 fn35 rfl rfl rfl ?_); cbv | (refine hK _ _ ?_) | (refine NeedT.mk ?_ ?_))
  all_goals
    refine .b ?_
    rw [hr]
    ((try clear hR3); (try clear hR2); (try clear hR); (try clear hK); (try simp only [ncCast] at *); (try simp only [castI_eq] at *); (try rw [ho]); (try dsimp only [Ar.real, IX.vo, IX.val, BX.val, IX.toN]); (try simp only [QP1, QB7]))
    simp [*]
  all_goals omega
end Go.Proofs.Ytpijibffjohikaa.Sy
namespace Go.Proofs.Ytpijibffjohikaa.Sy
open Go Go.Sy Go.Proofs.Ytpijibffjohikaa
noncomputable def pB (p : Prop) : Bool := @decide p (Classical.propDecidable p)
theorem pB_t {p : Prop} (h : p) : pB p = true := @decide_eq_true p (Classical.propDecidable p) h
theorem pB_f {p : Prop} (h : ¬ p) : pB p = false := @decide_eq_false p (Classical.propDecidable p) h
theorem pB_iff {p : Prop} : pB p = true ↔ p := ⟨@of_decide_eq_true p (Classical.propDecidable p), pB_t⟩
theorem pB_and {p q : Prop} [Decidable q] (h : p) : pB (p ∧ q) = decide q := by
  by_cases hq : q
  · rw [pB_t ⟨h, hq⟩, decide_eq_true hq]
  · rw [pB_f fun h => hq h.2, decide_eq_false hq]
theorem mhas_some9 {α : Type} (enc : Ar → α → X) (ms : List (List Int × α)) (k : List Int) (h : (mget (ms.map fun x => (x.1, (enc Ar.real x.2).toD cx0)) k).isSome = true) : ∃ a, lkp ms k = some a := by
  rw [mhas_map] at h
  exact Option.isSome_iff_exists.1 h
theorem mhas_none9 {α : Type} (enc : Ar → α → X) (ms : List (List Int × α)) (k : List Int) (h : (mget (ms.map fun x => (x.1, (enc Ar.real x.2).toD cx0)) k).isSome = false) : lkp ms k = none := by
  rw [mhas_map] at h
  cases e : lkp ms k with
  | none => rfl
  | some a => rw [e] at h; cases h
def clashB (l : List Frm) (i : Nat) : Bool := (nextAt (fun k => decide ((l.getD k default).role = (l.getD i default).role) && !decide ((l.getD k default).weight = (l.getD i default).weight)) 0 i).isSome
def wAt (l : List Frm) (r : Int) : Nat → Option Int
  | 0 => none
  | i + 1 => if (l.getD i default).role = r then some (l.getD i default).weight else wAt l r i
theorem wAt_none {l : List Frm} {r : Int} : ∀ {i : Nat}, wAt l r i = none → ∀ k, k < i → (l.getD k default).role ≠ r
  | 0, _, k, hk => absurd hk (Nat.not_lt_zero k)
  | i + 1, h, k, hk => by
    simp only [wAt] at h
    split at h
    · cases h
    · rename_i h1
      rcases Nat.lt_or_ge k i with h2 | h2
      · exact wAt_none h k h2
      · obtain rfl : k = i := by omega
        exact h1
theorem wAt_some {l : List Frm} {r w : Int} : ∀ {i : Nat}, wAt l r i = some w → ∃ m, m < i ∧ (l.getD m default).role = r ∧ (l.getD m default).weight = w
  | 0, h => by cases h
  | i + 1, h => by
    simp only [wAt] at h
    split at h
    · rename_i h1
      cases h
      exact ⟨i, Nat.lt_succ_self i, h1, rfl⟩
    · obtain ⟨m, h1, h2⟩ := wAt_some h
      exact ⟨m, Nat.lt_succ_of_lt h1, h2⟩
theorem clashB_false {l : List Frm} {i : Nat} : clashB l i = false ↔ ∀ k, k < i → (l.getD k default).role = (l.getD i default).role → (l.getD k default).weight = (l.getD i default).weight := by
  unfold clashB
  rw [Option.isSome_eq_false_iff, nextAt_isNone]
  constructor
  · intro h k hk hr
    have := h k hk
    rw [decide_eq_true hr, Bool.true_and, Bool.not_eq_false'] at this
    exact of_decide_eq_true this
  · intro h k hk
    by_cases hr : (l.getD k default).role = (l.getD i default).role
    · rw [decide_eq_true hr, Bool.true_and, decide_eq_true (h k hk hr)]
      rfl
    · rw [decide_eq_false hr]
      rfl
theorem clash_wAt {l : List Frm} {i : Nat} (h : ∀ j, j < i → clashB l j = false) : clashB l i = match wAt l (l.getD i default).role i with | some w => !decide (w = (l.getD i default).weight) | none => false := by
  cases e : wAt l (l.getD i default).role i with
  | none =>
    exact clashB_false.2 fun k hk hr => absurd hr (wAt_none e k hk)
  | some w =>
    obtain ⟨m, h1, h2, h3⟩ := wAt_some e
    by_cases hw : w = (l.getD i default).weight
    · dsimp only
      rw [decide_eq_true hw]
      refine clashB_false.2 fun k hk hr => ?_
      rcases Nat.lt_trichotomy k m with g | g | g
      · have := clashB_false.1 (h m h1) k g (hr.trans h2.symm)
        rw [this, h3, hw]
      · rw [g, h3, hw]
      · have := clashB_false.1 (h k hk) m g (h2.trans hr.symm)
        rw [← this, h3, hw]
    · dsimp only
      rw [decide_eq_false hw]
      cases e2 : clashB l i with
      | true => rfl
      | false => exact absurd ((h3.symm.trans (clashB_false.1 e2 m h1 h2))) hw
structure FrmOk (l : List Frm) (i : Nat) : Prop where
  id : numB (l.getD i default).id = true
  up : 0 < i → (l.getD (i - 1) default).id < (l.getD i default).id
  tm : (l.getD i default).time = 0 ∨ numB (l.getD i default).time = true
  r0 : 1 ≤ (l.getD i default).role
  r1 : (l.getD i default).role ≤ 32
  cl : clashB l i = false
  w0 : 1 ≤ (l.getD i default).weight
  w1 : (l.getD i default).weight ≤ 1000
  u0 : 0 ≤ (l.getD i default).til
  u1 : (l.getD i default).til ≤ 18014398509481984
  u2 : (l.getD i default).up = true → (l.getD i default).til ≤ 0
noncomputable def framesB (b : Bk) : Bool := pB ((∀ i, i < b.fr.length → FrmOk b.fr i) ∧ (b.fr.length : Int) ≤ b.cfg.cap)
structure StFm where
  i : Nat
  ver : Nat
  ms : List (List Int × Int)
  hn : (ms.map (·.1)).Nodup
theorem x_bframes (b : Bk) (hbk : BkOk b) : XC Try.prog 15 [.agg (Bk.X Ar.real b)] [] (xb (framesB b)) [] := by
  have hn0 := hbk.n_fr
  have q0 : ∀ i, i < b.fr.length → ¬ FrmOk b.fr i → framesB b = false := fun i hi h => pB_f fun h2 => h (h2.1 i hi)
  have q1 : (∀ i, i < b.fr.length → FrmOk b.fr i) → framesB b = decide ((b.fr.length : Int) ≤ b.cfg.cap) := fun h => pB_and h
  generalize framesB b = r at *
  obtain ⟨⟨c1, c2, c3, c4, c5, ⟨c6, c7, c8, c9⟩⟩, now, last, fr, ag, of, tk, fl⟩ := b
  dsimp only at *
  clear hbk
  (refine XC.of_body (dt15) Try.func15 rfl Try.ntmps15 mixed (T := tl15) tk15 (by kernel_rfl) (by simp) rfl rfl rfl rfl rfl ?_; rintro o ho P hP c K hK; have hm : P.follows .mixedOrders = true := hP ▸ mixed; have hT : TOk P tl15 := hP ▸ tk15; (try rw [← ho]); cbv; (repeat (refine StopN.mk ?_; cbv)))
  refine LoopN.over (o := o) (D := dt15) ho hm hT (by kernel_rfl) (fun s : StFm => [(13, xn s.i)]) (fun s => [(1, .map s.ver false 1 (MT o ho encInt cleanInt s.ms s.hn))]) (fun _ => []) (fun s => s.i ≤ fr.length ∧ (∀ j, j < s.i → FrmOk fr j) ∧ ∀ r, lkp s.ms [r] = wAt fr r s.i) (fun s => fr.length - s.i) ⟨0, 0, [], by simp⟩ ⟨Nat.zero_le _, fun j hj => absurd hj (Nat.not_lt_zero j), fun r => rfl⟩ ?_ ?_
  · (refine ⟨?_, ?_, ?_, ?_⟩ <;> cbv <;> repeat' (first | trivial | exact EqX.rfl' | exact EqO.rfl' | apply And.intro | ((try clear hR3); (try clear hR2); (try clear hR); (try clear hK); (try simp only [ncCast] at *); (try simp only [castI_eq] at *); refine EqX.i ?_; (try rw [ho]); (try dsimp only [Ar.real, IX.vo, IX.val, BX.val, IX.toN]); (try simp only [QP1, QB7]); (repeat rw [wrap_i64 (by omega) (by omega)]); omega) | exact EqO.map rfl (MT_nil ho encInt cleanInt c)))
  · rintro ⟨i, ver, ms, hn⟩ ⟨hi, hok, hms⟩ R hR
    dsimp only at hi hok hms
    have hN1 := x_number (fr.getD i default).id
    have hN2 := x_number (fr.getD i default).time
    have ei : o.nth fr i = fr.getD i default := by rw [ho, real_nth]
    have q2 := q0 i
    have hcl := clash_wAt (l := fr) (i := i) (fun j hj => (hok j hj).cl)
    rw [← hms] at hcl
    have F1 : i < fr.length → numB (fr.getD i default).id = false → r = false := fun hl h => q2 hl fun k => by rw [k.id] at h; cases h
    have F2 : i < fr.length → (0 : Int) < i → (fr.getD i default).id ≤ (fr.getD (IntKind.i64.wrap ((i : Int) - 1)).toNat default).id → r = false := fun hl h h' => q2 hl fun k => by
      have := k.up (by omega)
      rw [wrap_i64 (x := (i : Int) - 1) (by omega) (by omega), show ((i : Int) - 1).toNat = i - 1 by omega] at h'
      omega
    have F3 : i < fr.length → (fr.getD i default).time ≠ 0 → numB (fr.getD i default).time = false → r = false := fun hl h h' => q2 hl fun k => by
      rcases k.tm with e | e
      · exact h e
      · rw [e] at h'; cases h'
    have F4 : i < fr.length → (fr.getD i default).role < 1 → r = false := fun hl h => q2 hl fun k => by have := k.r0; omega
    have F5 : i < fr.length → 32 < (fr.getD i default).role → r = false := fun hl h => q2 hl fun k => by have := k.r1; omega
    have C1 : (mget (ms.map fun x => (x.1, (encInt Ar.real x.2).toD cx0)) [(fr.getD i default).role]).isSome = true → (lkp ms [(fr.getD i default).role]).getD default = (fr.getD i default).weight → clashB fr i = false := fun h h' => by
      obtain ⟨a, ha⟩ := mhas_some9 encInt ms _ h
      rw [ha] at hcl h'
      rw [hcl, show a = (fr.getD i default).weight from h']
      simp
    have C2 : (mget (ms.map fun x => (x.1, (encInt Ar.real x.2).toD cx0)) [(fr.getD i default).role]).isSome = false → clashB fr i = false := fun h => by
      rw [mhas_none9 encInt ms _ h] at hcl
      exact hcl
    have F6 : i < fr.length → (mget (ms.map fun x => (x.1, (encInt Ar.real x.2).toD cx0)) [(fr.getD i default).role]).isSome = true → ¬ (lkp ms [(fr.getD i default).role]).getD default = (fr.getD i default).weight → r = false := fun hl h h' => q2 hl fun k => by
      obtain ⟨a, ha⟩ := mhas_some9 encInt ms _ h
      rw [ha] at hcl h'
      have e := k.cl
      rw [hcl] at e
      have : a = (fr.getD i default).weight := by simpa using e
      exact h' this
    have F0 : numB (fr.getD i default).id = true → ((0 : Int) < i → (fr.getD (IntKind.i64.wrap ((i : Int) - 1)).toNat default).id < (fr.getD i default).id) → ((fr.getD i default).time = 0 ∨ numB (fr.getD i default).time = true) → 1 ≤ (fr.getD i default).role → (fr.getD i default).role ≤ 32 → clashB fr i = false → 1 ≤ (fr.getD i default).weight → (fr.getD i default).weight ≤ 1000 →
        0 ≤ (fr.getD i default).til → (fr.getD i default).til ≤ 18014398509481984 → ((fr.getD i default).up = true → (fr.getD i default).til ≤ 0) → FrmOk fr i := fun a1 a2 a3 a4 a5 a6 a7 a8 a9 a10 a11 => ⟨a1, fun h => by
      have := a2 (by omega)
      rw [wrap_i64 (x := (i : Int) - 1) (by omega) (by omega), show ((i : Int) - 1).toNat = i - 1 by omega] at this
      exact this, a3, a4, a5, a6, a7, a8, a9, a10, a11⟩
    have F7 : i < fr.length → (fr.getD i default).weight < 1 → r = false := fun hl h => q2 hl fun k => by have := k.w0; omega
    have F8 : i < fr.length → 1000 < (fr.getD i default).weight → r = false := fun hl h => q2 hl fun k => by have := k.w1; omega
    have F9 : i < fr.length → (fr.getD i default).til < 0 → r = false := fun hl h => q2 hl fun k => by have := k.u0; omega
    have F10 : i < fr.length → 18014398509481984 < (fr.getD i default).til → r = false := fun hl h => q2 hl fun k => by have := k.u1; omega
    have F11 : i < fr.length → (fr.getD i default).up = true → 0 < (fr.getD i default).til → r = false := fun hl h h' => q2 hl fun k => by have := k.u2 h; omega
    generalize numB (fr.getD i default).id = n1 at *
    generalize numB (fr.getD i default).time = n2 at *
    rw [← ei] at hN1 hN2
    cbv
    repeat' (first | (refine Br.mk (fun hb => ?_) (fun hb => ?_) <;> ((try rw [ho] at hb); (try dsimp only [Ar.real, IX.vo] at hb); (try simp only [QP1, QB7] at hb); (try simp only [QBo, beq_iff_eq, beq_eq_false_iff_ne, ne_eq] at hb))) | (refine StopN.mk ?_; cbv) | ((first | refine CallN.pure hP hN1 fn36 rfl rfl rfl ?_ | refine CallN.pure hP hN2 fn36 rfl rfl rfl ?_); cbv) | (refine hK _ _ ?_) | (refine NeedT.mk ?_ ?_))
    all_goals (try (((try clear hR3); (try clear hR2); (try clear hR); (try clear hK); (try simp only [ncCast] at *); (try simp only [castI_eq] at *); (try rw [ho]); (try dsimp only [Ar.real, IX.vo, IX.val, BX.val, IX.toN]); (try simp only [QP1, QB7]); (try simp only [decide_eq_true_eq]); (all_goals (repeat rw [wrap_i64 (by omega) (by omega)])); (all_goals (first | omega | (simp only [Int.ofNat_eq_natCast]; omega)))); done))
    all_goals try first
      | (rw [F1 (by assumption) (by assumption)]; exact .b rfl)
      | (rw [F2 (by assumption) (by assumption) (by assumption)]; exact .b rfl)
      | (rw [F3 (by assumption) (by assumption) (by assumption)]; exact .b rfl)
      | (rw [F4 (by assumption) (by assumption)]; exact .b rfl)
      | (rw [F5 (by assumption) (by assumption)]; exact .b rfl)
      | (rw [F6 (by assumption) (by assumption) (by assumption)]; exact .b rfl)
      | (rw [F7 (by assumption) (by assumption)]; exact .b rfl)
      | (rw [F8 (by assumption) (by assumption)]; exact .b rfl)
      | (rw [F9 (by assumption) (by assumption)]; exact .b rfl)
      | (rw [F10 (by assumption) (by assumption)]; exact .b rfl)
      | (rw [F11 (by assumption) (by assumption) (by assumption)]; exact .b rfl)
    all_goals
      by_cases hlt : i < fr.length
      · first
          | (exfalso; clear hR; omega)
          | (have hk : FrmOk fr i := by
               refine F0 (by assumption) ?_ ?_ (by assumption) (by assumption) ?_ (by assumption) (by assumption) (by assumption) (by assumption) ?_
               · intro h0
                 first | assumption | exact absurd h0 (Int.not_lt.2 (by assumption))
               · first | (refine .inl ?_; assumption) | (refine .inr ?_; assumption)
               · first | (refine C1 ?_ ?_ <;> assumption) | (refine C2 ?_; assumption)
               · intro h0
                 first | assumption | (exfalso; rw [h0] at hb; cases hb)
             obtain ⟨⟨ms', hn'⟩, hq⟩ : ∃ m : { m : List (List Int × Int) // (m.map (·.1)).Nodup }, m.1 = putp ms [(fr.getD i default).role] (fr.getD i default).weight := ⟨⟨_, nodup_put hn _ _⟩, rfl⟩
             dsimp only at hq
             refine hR _ ⟨i + 1, ver + 1, ms', hn'⟩ (by show fr.length - (i + 1) < fr.length - i; omega) ⟨by show i + 1 ≤ fr.length; omega, all_step hok hk, fun r => ?_⟩ ?_
             · show lkp ms' [r] = wAt fr r (i + 1)
               rw [hq, lkp_put, hms]
               by_cases h : (fr.getD i default).role = r
               · rw [if_pos (by rw [h]), wAt, if_pos h]
               · rw [if_neg (by simpa using h), wAt, if_neg h]
             · (refine ⟨?_, ?_, ?_, ?_⟩ <;> cbv <;> repeat' (first | trivial | exact EqX.rfl' | exact EqO.rfl' | apply And.intro | ((try clear hR3); (try clear hR2); (try clear hR); (try clear hK); (try simp only [ncCast] at *); (try simp only [castI_eq] at *); refine EqX.i ?_; (try rw [ho]); (try dsimp only [Ar.real, IX.vo, IX.val, BX.val, IX.toN]); (try simp only [QP1, QB7]); (repeat rw [wrap_i64 (by omega) (by omega)]); omega) | (refine EqO.map rfl (MT_put' ho encInt cleanInt ms hn ms' hn' c _ _ (fr.getD i default).weight _ ?_ ?_ hq) <;> (rw [ho]; rfl)))))
      · first
          | (exfalso; clear hR; omega)
          | (have hie : i = fr.length := by clear hR; omega
             subst hie
             rw [q1 hok]
             refine .b ?_
             ((try clear hR3); (try clear hR2); (try clear hR); (try clear hK); (try simp only [ncCast] at *); (try simp only [castI_eq] at *); (try rw [ho]); (try dsimp only [Ar.real, IX.vo, IX.val, BX.val, IX.toN]); (try simp only [QP1, QB7])))
end Go.Proofs.Ytpijibffjohikaa.Sy
namespace Go.Proofs.Ytpijibffjohikaa.Sy
open Go Go.Sy Go.Proofs.Ytpijibffjohikaa
theorem prev_eq {i : Nat} (h : (0 : Int) < i) (hb : i ≤ 1048576) : (IntKind.i64.wrap ((i : Int) - 1)).toNat = i - 1 := by
  rw [wrap_i64 (x := (i : Int) - 1) (by omega) (by omega)]
  omega
structure AgtOk (l : List Agt) (i : Nat) : Prop where
  id : numB (l.getD i default).id = true
  up : 0 < i → (l.getD (i - 1) default).id < (l.getD i default).id
  pos : 0 < (l.getD i default).total.length
  tot : vecRight (l.getD i default).total = true
  fre : vecRight (l.getD i default).free = true
noncomputable def agentsB (b : Bk) : Bool := pB ((∀ i, i < b.ag.length → AgtOk b.ag i) ∧ (b.ag.length : Int) ≤ b.cfg.cap)
theorem x_bagents (b : Bk) (hbk : BkOk b) : XC Try.prog 16 [.agg (Bk.X Ar.real b)] [] (xb (agentsB b)) [] := by
  have hn0 := hbk.n_ag
  have q0 : ∀ i, i < b.ag.length → ¬ AgtOk b.ag i → agentsB b = false := fun i hi h => pB_f fun h2 => h (h2.1 i hi)
  have q1 : (∀ i, i < b.ag.length → AgtOk b.ag i) → agentsB b = decide ((b.ag.length : Int) ≤ b.cfg.cap) := fun h => pB_and h
  have hv1 := fun i => x_vec_Right (b.ag.getD i default).total (by have := hbk.a1 i; omega)
  have hv2 := fun i => x_vec_Right (b.ag.getD i default).free (by have := hbk.a2 i; omega)
  have l1 := hbk.a1
  generalize agentsB b = r at *
  obtain ⟨⟨c1, c2, c3, c4, c5, ⟨c6, c7, c8, c9⟩⟩, now, last, fr, ag, of, tk, fl⟩ := b
  dsimp only at *
  clear hbk
  (refine XC.of_body (dt16) Try.func16 rfl Try.ntmps16 mixed (T := tl16) tk16 (by kernel_rfl) (by simp) rfl rfl rfl rfl rfl ?_; rintro o ho P hP c K hK; have hm : P.follows .mixedOrders = true := hP ▸ mixed; have hT : TOk P tl16 := hP ▸ tk16; (try rw [← ho]); cbv; (repeat (refine StopN.mk ?_; cbv)))
  refine LoopN.over (o := o) (D := dt16) ho hm hT (by kernel_rfl) (fun i : Nat => [(9, xn i)]) (fun _ => []) (fun _ => []) (fun i => i ≤ ag.length ∧ ∀ j, j < i → AgtOk ag j) (fun i => ag.length - i) 0 ⟨Nat.zero_le _, fun j hj => absurd hj (Nat.not_lt_zero j)⟩ ?_ ?_
  · (refine ⟨?_, ?_, ?_, ?_⟩ <;> cbv <;> repeat' (first | trivial | exact EqX.rfl' | exact EqO.rfl' | apply And.intro | ((try clear hR3); (try clear hR2); (try clear hR); (try clear hK); (try simp only [ncCast] at *); (try simp only [castI_eq] at *); refine EqX.i ?_; (try rw [ho]); (try dsimp only [Ar.real, IX.vo, IX.val, BX.val, IX.toN]); (try simp only [QP1, QB7]); (repeat rw [wrap_i64 (by omega) (by omega)]); omega)))
  · rintro i ⟨hi, hok⟩ R hR
    have hN := x_number (ag.getD i default).id
    have hV1 := hv1 i
    have hV2 := hv2 i
    have hl1 := l1 i
    have ei : o.nth ag i = ag.getD i default := by rw [ho, real_nth]
    have q2 := q0 i
    have F1 : i < ag.length → numB (ag.getD i default).id = false → r = false := fun hl h => q2 hl fun k => by rw [k.id] at h; cases h
    have F2 : i < ag.length → (0 : Int) < i → (ag.getD i default).id ≤ (ag.getD (IntKind.i64.wrap ((i : Int) - 1)).toNat default).id → r = false := fun hl h h' => q2 hl fun k => by
      have := k.up (by omega)
      rw [prev_eq h (by omega)] at h'
      omega
    have F3 : i < ag.length → ((ag.getD i default).total.length : Int) = 0 → r = false := fun hl h => q2 hl fun k => by have := k.pos; omega
    have F4 : i < ag.length → vecRight (ag.getD i default).total = false → r = false := fun hl h => q2 hl fun k => by rw [k.tot] at h; cases h
    have F5 : i < ag.length → vecRight (ag.getD i default).free = false → r = false := fun hl h => q2 hl fun k => by rw [k.fre] at h; cases h
    have F0 : numB (ag.getD i default).id = true → ((0 : Int) < i → (ag.getD (IntKind.i64.wrap ((i : Int) - 1)).toNat default).id < (ag.getD i default).id) → ¬ ((ag.getD i default).total.length : Int) = 0 → vecRight (ag.getD i default).total = true → vecRight (ag.getD i default).free = true → i < ag.length → AgtOk ag i := fun a1 a2 a3 a4 a5 hl => ⟨a1, fun h => by
      have := a2 (by omega)
      rw [prev_eq (by omega) (by omega)] at this
      exact this, by omega, a4, a5⟩
    generalize numB (ag.getD i default).id = n1 at *
    generalize vecRight (ag.getD i default).total = v1 at *
    generalize vecRight (ag.getD i default).free = v2 at *
    rw [← ei] at hN
    rw [← ei, ← ho] at hV1 hV2
    cbv
    repeat' (first | (refine Br.mk (fun hb => ?_) (fun hb => ?_) <;> ((try rw [ho] at hb); (try dsimp only [Ar.real, IX.vo] at hb); (try simp only [QP1, QB7] at hb); (try simp only [QBo, beq_iff_eq, beq_eq_false_iff_ne, ne_eq] at hb))) | (refine StopN.mk ?_; cbv) | ((first | refine CallN.pure hP hN fn36 rfl rfl rfl ?_ | refine CallN.pure hP hV1 fn33 rfl rfl rfl ?_ | refine CallN.pure hP hV2 fn33 rfl rfl rfl ?_); cbv) | (refine hK _ _ ?_) | (refine NeedT.mk ?_ ?_))
    all_goals (try (((try clear hR3); (try clear hR2); (try clear hR); (try clear hK); (try simp only [ncCast] at *); (try simp only [castI_eq] at *); (try rw [ho]); (try dsimp only [Ar.real, IX.vo, IX.val, BX.val, IX.toN]); (try simp only [QP1, QB7]); (try simp only [decide_eq_true_eq]); (all_goals (repeat rw [wrap_i64 (by omega) (by omega)])); (all_goals (first | omega | (simp only [Int.ofNat_eq_natCast]; omega)))); done))
    all_goals try first
      | (rw [F1 (by assumption) (by assumption)]; exact .b rfl)
      | (rw [F2 (by assumption) (by assumption) (by assumption)]; exact .b rfl)
      | (rw [F3 (by assumption) (by assumption)]; exact .b rfl)
      | (rw [F4 (by assumption) (by assumption)]; exact .b rfl)
      | (rw [F5 (by assumption) (by assumption)]; exact .b rfl)
    all_goals
      by_cases hlt : i < ag.length
      · first
          | (exfalso; clear hR; omega)
          | (have hk : AgtOk ag i := by
               refine F0 (by assumption) ?_ (by assumption) (by assumption) (by assumption) hlt
               intro h0
               first | assumption | exact absurd h0 (Int.not_lt.2 (by assumption))
             refine hR _ (i + 1) (by show ag.length - (i + 1) < ag.length - i; omega) ⟨by show i + 1 ≤ ag.length; omega, all_step hok hk⟩ ?_
             (refine ⟨?_, ?_, ?_, ?_⟩ <;> cbv <;> repeat' (first | trivial | exact EqX.rfl' | exact EqO.rfl' | apply And.intro | ((try clear hR3); (try clear hR2); (try clear hR); (try clear hK); (try simp only [ncCast] at *); (try simp only [castI_eq] at *); refine EqX.i ?_; (try rw [ho]); (try dsimp only [Ar.real, IX.vo, IX.val, BX.val, IX.toN]); (try simp only [QP1, QB7]); (repeat rw [wrap_i64 (by omega) (by omega)]); omega))))
      · first
          | (exfalso; clear hR; omega)
          | (have hie : i = ag.length := by clear hR; omega
             subst hie
             rw [q1 hok]
             refine .b ?_
             ((try clear hR3); (try clear hR2); (try clear hR); (try clear hK); (try simp only [ncCast] at *); (try simp only [castI_eq] at *); (try rw [ho]); (try dsimp only [Ar.real, IX.vo, IX.val, BX.val, IX.toN]); (try simp only [QP1, QB7])))
end Go.Proofs.Ytpijibffjohikaa.Sy
namespace Go.Proofs.Ytpijibffjohikaa.Sy
open Go Go.Sy Go.Proofs.Ytpijibffjohikaa
theorem x_Max4 (a b d e : Int) : XC Try.prog 37 [.ro (.lits [[xi a], [xi b], [xi d], [xi e]])] [] (xi (max (max (max a b) d) e)) [] := by
  (refine XC.of_body ([]) Try.func37 rfl Try.ntmps37 mixed (T := tl37) tk37 (by kernel_rfl) (by simp) rfl rfl rfl rfl rfl ?_; rintro o ho P hP c K hK; have hm : P.follows .mixedOrders = true := hP ▸ mixed; have hT : TOk P tl37 := hP ▸ tk37; (try rw [← ho]); cbv; (repeat (refine StopN.mk ?_; cbv)))
  repeat' (first | (refine Br.mk (fun hb => ?_) (fun hb => ?_) <;> ((try rw [ho] at hb); (try dsimp only [Ar.real, IX.vo] at hb); (try simp only [QP1, QB7] at hb); (try simp only [QBo, beq_iff_eq, beq_eq_false_iff_ne, ne_eq] at hb))) | (refine StopN.mk ?_; cbv) | (refine NeedT.mk (by rw [ho]; rfl) ?_) | (refine hK _ _ ?_) | (refine NeedT.mk ?_ ?_) | (refine LoopN.lay (o := o) (D := []) 5 ho hm hT (by kernel_rfl) ?_; cbv))
  refine .i ?_
  rw [ho]
  rfl
def agS (l : List Agt) (k : Int) : Nat → Int
  | 0 => 0
  | i + 1 => agS l k i + sk (l.getD i default).total k
def agT (l : List Agt) (i : Nat) : S4 := S4.of fun k => agS l k i
def leM (s : S4) (m : Int) : Prop := s.a ≤ m ∧ s.b ≤ m ∧ s.c ≤ m ∧ s.d ≤ m
theorem AgtOk.sk {l : List Agt} {i : Nat} (h : AgtOk l i) (k : Int) : 0 ≤ sk (l.getD i default).total k ∧ sk (l.getD i default).total k ≤ 33 * 9007199254740992 := by
  have hv := (vecRight_iff _).1 h.tot
  exact ⟨sk_nn hv.ok k, sk_bd33 hv k⟩
theorem agS_nn {l : List Agt} (h : ∀ i, i < l.length → AgtOk l i) (k : Int) : ∀ i, i ≤ l.length → 0 ≤ agS l k i
  | 0, _ => Int.le_refl 0
  | i + 1, hi => by
    have h1 := agS_nn h k i (by omega)
    have h2 := (h i (by omega)).sk k
    simp only [agS]
    omega
theorem agT_step {l : List Agt} (h : ∀ i, i < l.length → AgtOk l i) {i : Nat} (hi : i < l.length) {m : Int} (hm : m ≤ 9007199254740992) (hs : leM (agT l i) m) :
    sumsAdd (agT l i) (sumsOf (l.getD i default).total) = (agT l (i + 1), true) := by
  have hk := (h i hi).sk
  have hn := fun k => agS_nn h k i (by omega)
  have a0 := hk 0
  have a1 := hk 1
  have a2 := hk 2
  have a3 := hk 3
  have n0 := hn 0
  have n1 := hn 1
  have n2 := hn 2
  have n3 := hn 3
  obtain ⟨s0, s1, s2, s3⟩ := hs
  simp only [agT, S4.of] at s0 s1 s2 s3
  rw [sumsOf_sk ((vecRight_iff _).1 (h i hi).tot)]
  unfold sumsAdd
  rw [if_pos]
  · rfl
  · simp only [sumsRight_iff, agT, S4.of]
    omega
def mostP (b : Bk) : Prop := ∀ i, i ≤ b.ag.length → leM (agT b.ag i) b.cfg.most
noncomputable def mostB (b : Bk) : Bool := pB (mostP b)
theorem x_bmost (b : Bk) (hbk : BkOk b) (hA : ∀ i, i < b.ag.length → AgtOk b.ag i) (hm : 1 ≤ b.cfg.most ∧ b.cfg.most ≤ 9007199254740992) : XC Try.prog 17 [.agg (Bk.X Ar.real b)] [] (xb (mostB b)) [] := by
  have hn0 := hbk.n_ag
  have q0 : ∀ i, i ≤ b.ag.length → ¬ leM (agT b.ag i) b.cfg.most → mostB b = false := fun i hi h => pB_f fun h2 => h (h2 i hi)
  have q1 : (∀ i, i ≤ b.ag.length → leM (agT b.ag i) b.cfg.most) → mostB b = true := fun h => pB_t h
  have hO := fun i => x_sumsOf (b.ag.getD i default).total (hbk.a1 i)
  have hD := fun i => x_sumsAdd (agT b.ag i) (sumsOf (b.ag.getD i default).total)
  have hS := fun i hi hs => agT_step hA (i := i) hi hm.2 hs
  have hT0 : agT b.ag 0 = ⟨0, 0, 0, 0⟩ := rfl
  have hl0 : leM (agT b.ag 0) b.cfg.most := by
    rw [hT0]
    exact ⟨show (0 : Int) ≤ b.cfg.most by omega, show (0 : Int) ≤ b.cfg.most by omega, show (0 : Int) ≤ b.cfg.most by omega, show (0 : Int) ≤ b.cfg.most by omega⟩
  generalize mostB b = r at *
  obtain ⟨⟨c1, c2, c3, c4, c5, ⟨c6, c7, c8, c9⟩⟩, now, last, fr, ag, of, tk, fl⟩ := b
  dsimp only at *
  clear hbk
  generalize agT ag = M at *
  (refine XC.of_body (dt17) Try.func17 rfl Try.ntmps17 mixed (T := tl17) tk17 (by kernel_rfl) (by simp) rfl rfl rfl rfl rfl ?_; rintro o ho P hP c K hK; have hm : P.follows .mixedOrders = true := hP ▸ mixed; have hT : TOk P tl17 := hP ▸ tk17; (try rw [← ho]); cbv; (repeat (refine StopN.mk ?_; cbv)))
  refine LoopN.over (o := o) (D := dt17) ho hm hT (by kernel_rfl) (fun i : Nat => [(12, xn i)]) (fun i => [(1, .var [xi (M i).a, xi (M i).b, xi (M i).c, xi (M i).d] 35)]) (fun _ => []) (fun i => i ≤ ag.length ∧ ∀ j, j < i + 1 → leM (M j) c2) (fun i => ag.length - i) 0 ⟨Nat.zero_le _, fun j hj => (show j = 0 by omega) ▸ hl0⟩ ?_ ?_
  · (refine ⟨?_, ?_, ?_, ?_⟩ <;> cbv <;> repeat' (first | trivial | exact EqX.rfl' | exact EqO.rfl' | apply And.intro | ((try clear hR3); (try clear hR2); (try clear hR); (try clear hK); (try simp only [ncCast] at *); (try simp only [castI_eq] at *); refine EqX.i ?_; (try rw [ho]); (try dsimp only [Ar.real, IX.vo, IX.val, BX.val, IX.toN]); (try simp only [QP1, QB7]); (repeat rw [wrap_i64 (by omega) (by omega)]); omega) | (exact ⟨by rw [hT0]; rfl⟩)))
  · rintro i ⟨hi, hok⟩ R hR
    have ei : o.nth ag i = ag.getD i default := by rw [ho, real_nth]
    rcases Nat.lt_or_ge i ag.length with hlt | hge
    · have h1 := hO i
      have h2 := hD i
      rw [hS i hlt (hok i (Nat.lt_succ_self i))] at h2
      have q2 := q0 (i + 1) hlt
      have q3 : leM (M (i + 1)) c2 → ∀ j, j < i + 1 + 1 → leM (M j) c2 := all_step hok
      generalize sumsOf (ag.getD i default).total = sv at *
      generalize hMi : M i = s at *
      generalize hMs : M (i + 1) = s' at *
      obtain ⟨x1, x2, x3, x4⟩ := s
      obtain ⟨y1, y2, y3, y4⟩ := s'
      obtain ⟨z1, z2, z3, z4⟩ := sv
      have h3 := x_Max4 y1 y2 y3 y4
      have q4 : leM ⟨y1, y2, y3, y4⟩ c2 ↔ max (max (max y1 y2) y3) y4 ≤ c2 := by
        unfold leM
        dsimp only
        omega
      generalize max (max (max y1 y2) y3) y4 = mx at *
      rw [← ei, ← ho] at h1
      cbv
      repeat' (first | (refine Br.mk (fun hb => ?_) (fun hb => ?_) <;> ((try rw [ho] at hb); (try dsimp only [Ar.real, IX.vo] at hb); (try simp only [QP1, QB7] at hb); (try simp only [QBo, beq_iff_eq, beq_eq_false_iff_ne, ne_eq] at hb))) | (refine StopN.mk ?_; cbv) | (first | refine FrzN.frzv 3 6 rfl rfl rfl (.done ?_) | refine OpN.asl 0 rfl (by rw [hP]; exact tok35.k) (by rw [hP]; exact tok2.sz) (by decide) (by decide) rfl (by decide) (.inl ⟨rfl, rfl⟩) ?_ | refine CallN.pure hP h1 fn11 rfl rfl rfl ?_ | refine CallN.pure hP h2 fn7 rfl rfl rfl ?_ | refine CallN.pure hP h3 fn37 rfl rfl rfl ?_); cbv | (refine hK _ _ ?_) | (refine NeedT.mk ?_ ?_))
      · ((try clear hR3); (try clear hR2); (try clear hR); (try clear hK); (try simp only [ncCast] at *); (try simp only [castI_eq] at *); (try rw [ho]); (try dsimp only [Ar.real, IX.vo, IX.val, BX.val, IX.toN]); (try simp only [QP1, QB7]); (try simp only [decide_eq_true_eq]); (all_goals (repeat rw [wrap_i64 (by omega) (by omega)])); (all_goals (first | omega | (simp only [Int.ofNat_eq_natCast]; omega))))
      · cases hb
      · rw [q2 fun h => absurd (q4.1 h) (by omega)]
        exact .b rfl
      · refine hR _ (i + 1) (by show ag.length - (i + 1) < ag.length - i; omega) ⟨hlt, q3 (q4.2 hb)⟩ ?_
        (refine ⟨?_, ?_, ?_, ?_⟩ <;> cbv <;> repeat' (first | trivial | exact EqX.rfl' | exact EqO.rfl' | apply And.intro | ((try clear hR3); (try clear hR2); (try clear hR); (try clear hK); (try simp only [ncCast] at *); (try simp only [castI_eq] at *); refine EqX.i ?_; (try rw [ho]); (try dsimp only [Ar.real, IX.vo, IX.val, BX.val, IX.toN]); (try simp only [QP1, QB7]); (repeat rw [wrap_i64 (by omega) (by omega)]); omega) | (exact ⟨by rw [hMs]⟩)))
      · exfalso
        clear hR
        omega
    · cbv
      repeat' (first | (refine Br.mk (fun hb => ?_) (fun hb => ?_) <;> ((try rw [ho] at hb); (try dsimp only [Ar.real, IX.vo] at hb); (try simp only [QP1, QB7] at hb); (try simp only [QBo, beq_iff_eq, beq_eq_false_iff_ne, ne_eq] at hb))) | (refine StopN.mk ?_; cbv) | ((first | refine CallI.pure hP (x_sumsAdd _ _) fn7 (by first | rfl | (rw [ho]; try rfl)) (by rfl) (by first | rfl | (rw [ho]; try rfl)) ?_ | refine CallN.pure hP (x_sumsAdd _ _) fn7 (by first | rfl | (rw [ho]; try rfl)) (by rfl) (by first | rfl | (rw [ho]; try rfl)) ?_); (try rw [← ho]); generalize hr : sumsAdd _ _ = r; (try rw [ho] at hr); (try dsimp only [Ar.real, IX.vo] at hr); (try simp only [QP1, QB7] at hr); cbv) | ((first | refine CallI.pure hP (x_sumsOf _ ‹_›) fn11 (by first | rfl | (rw [ho]; try rfl)) (by rfl) (by first | rfl | (rw [ho]; try rfl)) ?_ | refine CallN.pure hP (x_sumsOf _ ‹_›) fn11 (by first | rfl | (rw [ho]; try rfl)) (by rfl) (by first | rfl | (rw [ho]; try rfl)) ?_); (try rw [← ho]); generalize hr : sumsOf _ = r; (try rw [ho] at hr); (try dsimp only [Ar.real, IX.vo] at hr); (try simp only [QP1, QB7] at hr); cbv) | (refine hK _ _ ?_) | (refine NeedT.mk ?_ ?_))
      all_goals first
        | (exfalso; clear hR; omega)
        | (rw [q1 fun j hj => hok j (by omega)]
           exact .b rfl)
end Go.Proofs.Ytpijibffjohikaa.Sy
namespace Go.Proofs.Ytpijibffjohikaa.Sy
open Go Go.Sy Go.Proofs.Ytpijibffjohikaa
theorem ixR_spec {α : Type} [Inhabited α] (q : α → Bool) (l : List α) : (ixR q l = -1 ∧ ∀ j, j < l.length → q (l.getD j default) = false) ∨ ∃ i, i < l.length ∧ ixR q l = (i : Int) ∧ q (l.getD i default) = true := by
  unfold ixR
  cases h : nextAt (fun i => q (l.getD i default)) 0 l.length with
  | none => exact .inl ⟨rfl, fun j hj => nextAt_eq_none.1 h j (Nat.zero_le _) hj⟩
  | some i =>
    obtain ⟨h1, h2, h3⟩ := nextAt_eq_some.1 h
    exact .inr ⟨i, h2.2, rfl, h1⟩
theorem FinX_tb {a a' : X} {x : BX} {r : Bool} (h : ∀ c, a.toD c = a'.toD c) (hx : x.val = r) : FinX (.tup [a', xb r]) [] (.tup [a, .b x]) [] := .pure fun c => by simp only [X.toD, X.toDL, h, hx]; rfl
def heldB (b : Bk) (f a : Int) (v : List Part) : Bool :=
  decide (0 ≤ atFrame b.fr f) && (decide (0 ≤ atAgent b.ag a) && (decide (0 < v.length) && (vecRight v && decide ((onlyR v [0, (b.fr.getD (atFrame b.fr f).toNat default).role]).length = v.length))))
noncomputable def heldF (b : Bk) (f a : Int) (v : List Part) : Frm :=
  @ite _ (0 ≤ atFrame b.fr f ∧ 0 ≤ atAgent b.ag a ∧ 0 < v.length ∧ vecRight v = true) (Classical.propDecidable _) (b.fr.getD (atFrame b.fr f).toNat default) default
theorem x_held9 (b : Bk) (hbk : BkOk b) (f a : Int) (v : List Part) (hv : v.length ≤ 1048576) : XC Try.prog 38 [.agg (Bk.X Ar.real b), xi f, xi a, .ro (SL Ar.real Part.X v)] [] (.tup [.agg (Frm.X Ar.real (heldF b f a v)), xb (heldB b f a v)]) [] := by
  have h1 := x_Frame b hbk f
  have h2 := x_Agent b hbk a
  have h3 := x_vec_Right v (by omega)
  have h4 := x_Only v [0, (b.fr.getD (atFrame b.fr f).toNat default).role] hv (by show 2 ≤ 1024; decide)
  have hn := hbk.n_fr
  have hsp := ixR_spec (fun x : Frm => decide (x.id = f)) b.fr
  change (atFrame b.fr f = -1 ∧ _) ∨ (∃ i, i < b.fr.length ∧ atFrame b.fr f = (i : Int) ∧ _) at hsp
  have g0 : 0 ≤ atFrame b.fr f → (atFrame b.fr f).toNat < b.fr.length := fun h => by
    rcases hsp with ⟨e, _⟩ | ⟨i, h1, e, _⟩ <;> omega
  have e1 : ¬ (0 ≤ atFrame b.fr f ∧ 0 ≤ atAgent b.ag a ∧ 0 < v.length ∧ vecRight v = true) → heldF b f a v = default ∧ heldB b f a v = false := fun h => by
    refine ⟨if_neg h, ?_⟩
    unfold heldB
    by_cases a1 : 0 ≤ atFrame b.fr f
    · by_cases a2 : 0 ≤ atAgent b.ag a
      · by_cases a3 : 0 < v.length
        · cases a4 : vecRight v with
          | true => exact absurd ⟨a1, a2, a3, a4⟩ h
          | false => simp
        · rw [decide_eq_false a3]; simp
      · rw [decide_eq_false a2]; simp
    · rw [decide_eq_false a1]; simp
  have e2 : 0 ≤ atFrame b.fr f ∧ 0 ≤ atAgent b.ag a ∧ 0 < v.length ∧ vecRight v = true → heldF b f a v = b.fr.getD (atFrame b.fr f).toNat default ∧ heldB b f a v = decide ((onlyR v [0, (b.fr.getD (atFrame b.fr f).toNat default).role]).length = v.length) := fun h => by
    refine ⟨if_pos h, ?_⟩
    obtain ⟨a1, a2, a3, a4⟩ := h
    unfold heldB
    rw [decide_eq_true a1, decide_eq_true a2, decide_eq_true a3, a4]
    simp
  have hol : (onlyR v [0, (b.fr.getD (atFrame b.fr f).toNat default).role]).length ≤ v.length := by
    unfold onlyR
    split
    · exact List.length_filter_le _ _
    · exact Nat.zero_le _
  clear hsp
  generalize heldF b f a v = rf at *
  generalize heldB b f a v = rb at *
  generalize onlyR v [0, (b.fr.getD (atFrame b.fr f).toNat default).role] = ov at *
  generalize atFrame b.fr f = q1 at *
  generalize atAgent b.ag a = q2 at *
  generalize vecRight v = vr at *
  obtain ⟨⟨c1, c2, c3, c4, c5, ⟨c6, c7, c8, c9⟩⟩, now, last, fr, ag, of, tk, fl⟩ := b
  dsimp only at *
  clear hbk
  (refine XC.of_body (dt38) Try.func38 rfl Try.ntmps38 mixed (T := tl38) tk38 (by kernel_rfl) (by simp) rfl rfl rfl rfl rfl ?_; rintro o ho P hP c K hK; have hm : P.follows .mixedOrders = true := hP ▸ mixed; have hT : TOk P tl38 := hP ▸ tk38; (try rw [← ho]); cbv; (repeat (refine StopN.mk ?_; cbv)))
  have ei : o.nth fr q1.toNat = fr.getD q1.toNat default := by rw [ho, real_nth]
  rw [← ho] at h1 h2 h3 h4
  rw [← ei] at h4
  repeat' (first | (refine Br.mk (fun hb => ?_) (fun hb => ?_) <;> ((try rw [ho] at hb); (try dsimp only [Ar.real, IX.vo] at hb); (try simp only [QP1, QB7] at hb); (try simp only [QBo, beq_iff_eq, beq_eq_false_iff_ne, ne_eq] at hb))) | (refine StopN.mk ?_; cbv) | (first | refine CallI.pure hP h1 fn31 rfl rfl rfl ?_ | refine CallI.pure hP h2 fn25 rfl rfl rfl ?_ | refine CallI.pure hP h3 fn33 rfl rfl rfl ?_ | refine CallN.pure hP h4 fn66 rfl rfl (by rw [ho]; rfl) ?_); cbv | (refine hK _ _ ?_) | (refine NeedT.mk ?_ ?_))
  · obtain ⟨rfl, rfl⟩ := e1 fun h => absurd h.1 (Int.not_le.2 hb)
    exact .pure fun _ => rfl
  · obtain ⟨rfl, rfl⟩ := e1 fun h => absurd h.2.1 (Int.not_le.2 hb)
    exact .pure fun _ => rfl
  · have hb2 : ¬ 0 < v.length := by ((try clear hR3); (try clear hR2); (try clear hR); (try clear hK); (try simp only [ncCast] at *); (try simp only [castI_eq] at *)); omega
    obtain ⟨rfl, rfl⟩ := e1 fun h => hb2 h.2.2.1
    exact .pure fun _ => rfl
  · obtain ⟨rfl, rfl⟩ := e1 fun h => by rw [h.2.2.2] at hb; cases hb
    exact .pure fun _ => rfl
  · have g1 := g0 (by assumption)
    ((try clear hR3); (try clear hR2); (try clear hR); (try clear hK); (try simp only [ncCast] at *); (try simp only [castI_eq] at *); (try rw [ho]); (try dsimp only [Ar.real, IX.vo, IX.val, BX.val, IX.toN]); (try simp only [QP1, QB7]); (try simp only [decide_eq_true_eq]); (all_goals (repeat rw [wrap_i64 (by omega) (by omega)])); (all_goals (first | omega | (simp only [Int.ofNat_eq_natCast]; omega))))
  · have hb2 : 0 < v.length := by ((try clear hR3); (try clear hR2); (try clear hR); (try clear hK); (try simp only [ncCast] at *); (try simp only [castI_eq] at *)); omega
    obtain ⟨rfl, rfl⟩ := e2 ⟨by assumption, by assumption, hb2, hb⟩
    refine FinX_tb (fun c => by rw [ho]; rfl) ?_
    ((try clear hR3); (try clear hR2); (try clear hR); (try clear hK); (try simp only [ncCast] at *); (try simp only [castI_eq] at *); (try rw [ho]); (try dsimp only [Ar.real, IX.vo, IX.val, BX.val, IX.toN]); (try simp only [QP1, QB7]))
    all_goals (rw [decide_eq_decide]; omega)
structure OfrOk (b : Bk) (i : Nat) : Prop where
  held : heldB b (b.of.getD i default).frame (b.of.getD i default).agent (b.of.getD i default).vec = true
  up : (heldF b (b.of.getD i default).frame (b.of.getD i default).agent (b.of.getD i default).vec).up = true
  id0 : 1 ≤ (b.of.getD i default).id
  id1 : (b.of.getD i default).id ≤ b.last
  asc : 0 < i → (b.of.getD (i - 1) default).id < (b.of.getD i default).id
  u0 : b.cfg.life = 0 → (b.of.getD i default).til = 0
  u1 : 0 < b.cfg.life → b.now < (b.of.getD i default).til ∧ (b.of.getD i default).til ≤ b.now + b.cfg.life
noncomputable def offersB (b : Bk) : Bool := pB (∀ i, i < b.of.length → OfrOk b i)
theorem x_boffers (b : Bk) (hbk : BkOk b) (hlf : (0 ≤ b.now ∧ b.now ≤ 9007199254740992) ∧ 0 ≤ b.cfg.life ∧ b.cfg.life ≤ 9007199254740992) : XC Try.prog 18 [.agg (Bk.X Ar.real b)] [] (xb (offersB b)) [] := by
  have hn0 := hbk.n_of
  have q0 : ∀ i, i < b.of.length → ¬ OfrOk b i → offersB b = false := fun i hi h => pB_f fun h2 => h (h2 i hi)
  have q1 : (∀ i, i < b.of.length → OfrOk b i) → offersB b = true := fun h => pB_t h
  have hH := fun i => x_held9 b hbk (b.of.getD i default).frame (b.of.getD i default).agent (b.of.getD i default).vec (hbk.o1 i)
  have k1 : ∀ i, OfrOk b i → heldB b (b.of.getD i default).frame (b.of.getD i default).agent (b.of.getD i default).vec = true := fun i k => k.held
  have k2 : ∀ i, OfrOk b i → (heldF b (b.of.getD i default).frame (b.of.getD i default).agent (b.of.getD i default).vec).up = true := fun i k => k.up
  have k0 : ∀ i, OfrOk b i ↔ heldB b (b.of.getD i default).frame (b.of.getD i default).agent (b.of.getD i default).vec = true ∧ (heldF b (b.of.getD i default).frame (b.of.getD i default).agent (b.of.getD i default).vec).up = true ∧ 1 ≤ (b.of.getD i default).id ∧ (b.of.getD i default).id ≤ b.last ∧ (0 < i → (b.of.getD (i - 1) default).id < (b.of.getD i default).id) ∧
      (b.cfg.life = 0 → (b.of.getD i default).til = 0) ∧ (0 < b.cfg.life → b.now < (b.of.getD i default).til ∧ (b.of.getD i default).til ≤ b.now + b.cfg.life) := fun i => ⟨fun k => ⟨k.held, k.up, k.id0, k.id1, k.asc, k.u0, k.u1⟩, fun ⟨a, b, c, d, e, f, g⟩ => ⟨a, b, c, d, e, f, g⟩⟩
  clear k1 k2
  generalize offersB b = r at *
  generalize OfrOk b = Ok at *
  generalize heldB b = HBf at *
  generalize heldF b = HF at *
  obtain ⟨⟨c1, c2, c3, c4, c5, ⟨c6, c7, c8, c9⟩⟩, now, last, fr, ag, of, tk, fl⟩ := b
  dsimp only at *
  clear hbk
  (refine XC.of_body (dt18) Try.func18 rfl Try.ntmps18 mixed (T := tl18) tk18 (by kernel_rfl) (by simp) rfl rfl rfl rfl rfl ?_; rintro o ho P hP c K hK; have hm : P.follows .mixedOrders = true := hP ▸ mixed; have hT : TOk P tl18 := hP ▸ tk18; (try rw [← ho]); cbv; (repeat (refine StopN.mk ?_; cbv)))
  refine LoopN.over (o := o) (D := dt18) ho hm hT (by kernel_rfl) (fun i : Nat => [(12, xn i)]) (fun _ => []) (fun _ => []) (fun i => i ≤ of.length ∧ ∀ j, j < i → Ok j) (fun i => of.length - i) 0 ⟨Nat.zero_le _, fun j hj => absurd hj (Nat.not_lt_zero j)⟩ ?_ ?_
  · (refine ⟨?_, ?_, ?_, ?_⟩ <;> cbv <;> repeat' (first | trivial | exact EqX.rfl' | exact EqO.rfl' | apply And.intro | ((try clear hR3); (try clear hR2); (try clear hR); (try clear hK); (try simp only [ncCast] at *); (try simp only [castI_eq] at *); refine EqX.i ?_; (try rw [ho]); (try dsimp only [Ar.real, IX.vo, IX.val, BX.val, IX.toN]); (try simp only [QP1, QB7]); (repeat rw [wrap_i64 (by omega) (by omega)]); omega)))
  · rintro i ⟨hi, hok⟩ R hR
    have ei : o.nth of i = of.getD i default := by rw [ho, real_nth]
    have h1 := hH i
    have q2 := q0 i
    have k := k0 i
    have hw : IntKind.i64.wrap (now + c4) = now + c4 := wrap_i64 (by omega) (by omega)
    generalize HBf (of.getD i default).frame (of.getD i default).agent (of.getD i default).vec = hb0 at *
    generalize HF (of.getD i default).frame (of.getD i default).agent (of.getD i default).vec = hf0 at *
    obtain ⟨f1, f2, f3, f4, f5, f6, f7⟩ := hf0
    rw [← ei, ← ho] at h1
    dsimp only at k
    have F1 : i < of.length → hb0 = false → r = false := fun hl h => q2 hl fun h' => by rw [(k.1 h').1] at h; cases h
    have F2 : i < of.length → f4 = false → r = false := fun hl h => q2 hl fun h' => by rw [(k.1 h').2.1] at h; cases h
    have F3 : i < of.length → (of.getD i default).id < 1 → r = false := fun hl h => q2 hl fun h' => by have := (k.1 h').2.2.1; omega
    have F4 : i < of.length → last < (of.getD i default).id → r = false := fun hl h => q2 hl fun h' => by have := (k.1 h').2.2.2.1; omega
    have F5 : i < of.length → (0 : Int) < i → (of.getD i default).id ≤ (of.getD (IntKind.i64.wrap ((i : Int) - 1)).toNat default).id → r = false := fun hl h h2 => q2 hl fun h' => by
      have := (k.1 h').2.2.2.2.1 (by omega)
      rw [prev_eq h (by omega)] at h2
      omega
    have F6 : i < of.length → c4 = 0 → ¬ (of.getD i default).til = 0 → r = false := fun hl h h2 => q2 hl fun h' => h2 ((k.1 h').2.2.2.2.2.1 h)
    have F7 : i < of.length → 0 < c4 → (of.getD i default).til ≤ now → r = false := fun hl h h2 => q2 hl fun h' => by have := ((k.1 h').2.2.2.2.2.2 h).1; omega
    have F8 : i < of.length → 0 < c4 → IntKind.i64.wrap (now + c4) < (of.getD i default).til → r = false := fun hl h h2 => q2 hl fun h' => by have := ((k.1 h').2.2.2.2.2.2 h).2; omega
    have F0 : i < of.length → hb0 = true → f4 = true → 1 ≤ (of.getD i default).id → (of.getD i default).id ≤ last → ((0 : Int) < i → (of.getD (IntKind.i64.wrap ((i : Int) - 1)).toNat default).id < (of.getD i default).id) → (c4 = 0 → (of.getD i default).til = 0) → (0 < c4 → now < (of.getD i default).til ∧ (of.getD i default).til ≤ IntKind.i64.wrap (now + c4)) → Ok i := fun hl a1 a2 a3 a4 a5 a6 a7 => k.2 ⟨a1, a2, a3, a4, fun h => by
      have := a5 (by omega)
      rw [prev_eq (by omega) (by omega)] at this
      exact this, a6, fun h => by rw [hw] at a7; exact a7 h⟩
    cbv
    repeat' (first | (refine Br.mk (fun hb => ?_) (fun hb => ?_) <;> ((try rw [ho] at hb); (try dsimp only [Ar.real, IX.vo] at hb); (try simp only [QP1, QB7] at hb); (try simp only [QBo, beq_iff_eq, beq_eq_false_iff_ne, ne_eq] at hb))) | (refine StopN.mk ?_; cbv) | ((first | refine CallI.pure hP h1 fn38 rfl rfl rfl ?_ | refine CallN.pure hP h1 fn38 rfl rfl rfl ?_); cbv) | (refine hK _ _ ?_) | (refine NeedT.mk ?_ ?_))
    all_goals (try (((try clear hR3); (try clear hR2); (try clear hR); (try clear hK); (try simp only [ncCast] at *); (try simp only [castI_eq] at *); (try rw [ho]); (try dsimp only [Ar.real, IX.vo, IX.val, BX.val, IX.toN]); (try simp only [QP1, QB7]); (try simp only [decide_eq_true_eq]); (all_goals (repeat rw [wrap_i64 (by omega) (by omega)])); (all_goals (first | omega | (simp only [Int.ofNat_eq_natCast]; omega)))); done))
    all_goals try first
      | (rw [F1 (by assumption) (by assumption)]; exact .b rfl)
      | (rw [F2 (by assumption) (by assumption)]; exact .b rfl)
      | (rw [F3 (by assumption) (by assumption)]; exact .b rfl)
      | (rw [F4 (by assumption) (by assumption)]; exact .b rfl)
      | (rw [F5 (by assumption) (by assumption) (by assumption)]; exact .b rfl)
      | (rw [F6 (by assumption) (by assumption) (by assumption)]; exact .b rfl)
      | (rw [F7 (by assumption) (by assumption) (by assumption)]; exact .b rfl)
      | (rw [F8 (by assumption) (by assumption) (by assumption)]; exact .b rfl)
    all_goals
      by_cases hlt : i < of.length
      · first
          | (exfalso; clear hR; omega)
          | (have hk : Ok i := by
               refine F0 hlt (by assumption) (by assumption) (by assumption) (by assumption) ?_ ?_ ?_
               · intro h0
                 first | assumption | exact absurd h0 (Int.not_lt.2 (by assumption))
               · intro h0
                 first | assumption | exact absurd h0 (by assumption)
               · intro h0
                 first | exact ⟨by assumption, by assumption⟩ | exact absurd h0 (Int.not_lt.2 (by assumption))
             refine hR _ (i + 1) (by show of.length - (i + 1) < of.length - i; omega) ⟨by show i + 1 ≤ of.length; omega, all_step hok hk⟩ ?_
             (refine ⟨?_, ?_, ?_, ?_⟩ <;> cbv <;> repeat' (first | trivial | exact EqX.rfl' | exact EqO.rfl' | apply And.intro | ((try clear hR3); (try clear hR2); (try clear hR); (try clear hK); (try simp only [ncCast] at *); (try simp only [castI_eq] at *); refine EqX.i ?_; (try rw [ho]); (try dsimp only [Ar.real, IX.vo, IX.val, BX.val, IX.toN]); (try simp only [QP1, QB7]); (repeat rw [wrap_i64 (by omega) (by omega)]); omega))))
      · first
          | (exfalso; clear hR; omega)
          | (have hie : i = of.length := by clear hR; omega
             subst hie
             rw [q1 hok]
             exact .b rfl)
end Go.Proofs.Ytpijibffjohikaa.Sy
namespace Go.Proofs.Ytpijibffjohikaa.Sy
open Go Go.Sy Go.Proofs.Ytpijibffjohikaa
def or2 (x y : Int) : Int := if x ≠ 0 then x else y
def or4 (x y z w : Int) : Int := if x ≠ 0 then x else if y ≠ 0 then y else if z ≠ 0 then z else w
theorem x_Or2 (x y : Int) : XC Try.prog 39 [.ro (.lits [[xi x], [xi y]])] [] (xi (or2 x y)) [] := by
  (refine XC.of_body ([]) Try.func39 rfl Try.ntmps39 mixed (T := tl39) tk39 (by kernel_rfl) (by simp) rfl rfl rfl rfl rfl ?_; rintro o ho P hP c K hK; have hm : P.follows .mixedOrders = true := hP ▸ mixed; have hT : TOk P tl39 := hP ▸ tk39; (try rw [← ho]); cbv; (repeat (refine StopN.mk ?_; cbv)))
  repeat' (first | (refine Br.mk (fun hb => ?_) (fun hb => ?_) <;> ((try rw [ho] at hb); (try dsimp only [Ar.real, IX.vo] at hb); (try simp only [QP1, QB7] at hb); (try simp only [QBo, beq_iff_eq, beq_eq_false_iff_ne, ne_eq] at hb))) | (refine StopN.mk ?_; cbv) | (refine hK _ _ ?_) | (refine NeedT.mk ?_ ?_) | (refine LoopN.lay (o := o) (D := []) 3 ho hm hT (by kernel_rfl) ?_; cbv))
  any_goals (((try clear hR3); (try clear hR2); (try clear hR); (try clear hK); (try simp only [ncCast] at *); (try simp only [castI_eq] at *); (try rw [ho]); (try dsimp only [Ar.real, IX.vo, IX.val, BX.val, IX.toN]); (try simp only [QP1, QB7]); (try simp only [decide_eq_true_eq]); (all_goals (repeat rw [wrap_i64 (by omega) (by omega)])); (all_goals (first | omega | (simp only [Int.ofNat_eq_natCast]; omega)))); done)
  all_goals
    refine .i ?_
    unfold or2
    ((try clear hR3); (try clear hR2); (try clear hR); (try clear hK); (try simp only [ncCast] at *); (try simp only [castI_eq] at *); (try rw [ho]); (try dsimp only [Ar.real, IX.vo, IX.val, BX.val, IX.toN]); (try simp only [QP1, QB7]))
    repeat' split
    all_goals (first | omega | simp_all)
def orL : List Int → Int
  | [] => 0
  | x :: l => if x ≠ 0 then x else orL l
theorem orL_hit : ∀ {l : List Int} {i : Nat}, i < l.length → (∀ j, j < i → l.getD j 0 = 0) → l.getD i 0 ≠ 0 → orL l = l.getD i 0
  | [], i, h, _, _ => absurd h (Nat.not_lt_zero i)
  | x :: l, 0, _, _, h => by
    have h' : x ≠ 0 := h
    rw [orL, if_pos h']
    rfl
  | x :: l, i + 1, hi, hno, h => by
    have h0 : x = 0 := hno 0 (Nat.zero_lt_succ i)
    rw [orL, if_neg (fun h => h h0)]
    exact orL_hit (by simpa using hi) (fun j hj => hno (j + 1) (Nat.succ_lt_succ hj)) h
theorem orL_none : ∀ {l : List Int}, (∀ j, j < l.length → l.getD j 0 = 0) → orL l = 0
  | [], _ => rfl
  | x :: l, h => by
    have h0 : x = 0 := h 0 (Nat.zero_lt_succ _)
    rw [orL, if_neg (fun h => h h0)]
    exact orL_none fun j hj => h (j + 1) (Nat.succ_lt_succ hj)
theorem x_OrL (l : List Int) (hl : l.length ≤ 1048576) : XC Try.prog 39 [.ro (SL Ar.real encI l)] [] (xi (orL l)) [] := by
  have h1 := fun i => orL_hit (l := l) (i := i)
  have h2 := orL_none (l := l)
  generalize orL l = r at *
  (refine XC.of_body ([]) Try.func39 rfl Try.ntmps39 mixed (T := tl39) tk39 (by kernel_rfl) (by simp) rfl rfl rfl rfl rfl ?_; rintro o ho P hP c K hK; have hm : P.follows .mixedOrders = true := hP ▸ mixed; have hT : TOk P tl39 := hP ▸ tk39; (try rw [← ho]); cbv; (repeat (refine StopN.mk ?_; cbv)))
  refine LoopN.over (o := o) (D := []) ho hm hT (by kernel_rfl) (fun i : Nat => [(8, xn i)]) (fun _ => []) (fun _ => []) (fun i => i ≤ l.length ∧ ∀ j, j < i → l.getD j 0 = 0) (fun i => l.length - i) 0 ⟨Nat.zero_le _, fun j hj => absurd hj (Nat.not_lt_zero j)⟩ ?_ ?_
  · (refine ⟨?_, ?_, ?_, ?_⟩ <;> cbv <;> repeat' (first | trivial | exact EqX.rfl' | exact EqO.rfl' | apply And.intro | ((try clear hR3); (try clear hR2); (try clear hR); (try clear hK); (try simp only [ncCast] at *); (try simp only [castI_eq] at *); refine EqX.i ?_; (try rw [ho]); (try dsimp only [Ar.real, IX.vo, IX.val, BX.val, IX.toN]); (try simp only [QP1, QB7]); (repeat rw [wrap_i64 (by omega) (by omega)]); omega)))
  · rintro i ⟨hi, hno⟩ R hR
    have e1 := h1 i
    cbv
    repeat' (first | (refine Br.mk (fun hb => ?_) (fun hb => ?_) <;> ((try rw [ho] at hb); (try dsimp only [Ar.real, IX.vo] at hb); (try simp only [QP1, QB7] at hb); (try simp only [QBo, beq_iff_eq, beq_eq_false_iff_ne, ne_eq] at hb))) | (refine StopN.mk ?_; cbv) | (refine hK _ _ ?_) | (refine NeedT.mk ?_ ?_))
    any_goals (((try clear hR3); (try clear hR2); (try clear hR); (try clear hK); (try simp only [ncCast] at *); (try simp only [castI_eq] at *); (try rw [ho]); (try dsimp only [Ar.real, IX.vo, IX.val, BX.val, IX.toN]); (try simp only [QP1, QB7]); (try simp only [decide_eq_true_eq]); (all_goals (repeat rw [wrap_i64 (by omega) (by omega)])); (all_goals (first | omega | (simp only [Int.ofNat_eq_natCast]; omega)))); done)
    · rw [e1 (by assumption) hno (by assumption)]
      refine .i ?_
      rw [ho]
      rfl
    · refine hR _ (i + 1) (by show l.length - (i + 1) < l.length - i; omega) ⟨by show i + 1 ≤ l.length; omega, all_step hno (by assumption)⟩ ?_
      (refine ⟨?_, ?_, ?_, ?_⟩ <;> cbv <;> repeat' (first | trivial | exact EqX.rfl' | exact EqO.rfl' | apply And.intro | ((try clear hR3); (try clear hR2); (try clear hR); (try clear hK); (try simp only [ncCast] at *); (try simp only [castI_eq] at *); refine EqX.i ?_; (try rw [ho]); (try dsimp only [Ar.real, IX.vo, IX.val, BX.val, IX.toN]); (try simp only [QP1, QB7]); (repeat rw [wrap_i64 (by omega) (by omega)]); omega)))
    · obtain rfl : i = l.length := by ((try clear hR3); (try clear hR2); (try clear hR); (try clear hK); (try simp only [ncCast] at *); (try simp only [castI_eq] at *)); omega
      rw [h2 hno]
      exact .i rfl
theorem x_Or4 (x y z w : Int) : XC Try.prog 39 [.ro (.lits [[xi x], [xi y], [xi z], [xi w]])] [] (xi (or4 x y z w)) [] := XC_at (x_OrL [x, y, z, w] (by show 4 ≤ _; decide)) (fun c => rfl) (fun c => by
  have : orL [x, y, z, w] = or4 x y z w := by
    simp only [orL, or4]
    repeat' split
    all_goals (first | rfl | omega)
  rw [this])
theorem or2_lt {a b c d : Int} : or2 (cmpI a b) (cmpI c d) < 0 ↔ a < b ∨ (a = b ∧ c < d) := by
  unfold or2 cmpI
  repeat' split
  all_goals omega
structure TskOk (b : Bk) (i : Nat) : Prop where
  held : heldB b (b.tk.getD i default).frame (b.tk.getD i default).agent (b.tk.getD i default).vec = true
  id : numB (b.tk.getD i default).id = true
  asc : 0 < i → (b.tk.getD (i - 1) default).frame < (b.tk.getD i default).frame ∨ ((b.tk.getD (i - 1) default).frame = (b.tk.getD i default).frame ∧ (b.tk.getD (i - 1) default).id < (b.tk.getD i default).id)
noncomputable def tasksB (b : Bk) : Bool := pB ((∀ i, i < b.tk.length → TskOk b i) ∧ (b.tk.length : Int) ≤ b.cfg.cap)
theorem x_btasks (b : Bk) (hbk : BkOk b) : XC Try.prog 19 [.agg (Bk.X Ar.real b)] [] (xb (tasksB b)) [] := by
  have hn0 := hbk.n_tk
  have q0 : ∀ i, i < b.tk.length → ¬ TskOk b i → tasksB b = false := fun i hi h => pB_f fun h2 => h (h2.1 i hi)
  have q1 : (∀ i, i < b.tk.length → TskOk b i) → tasksB b = decide ((b.tk.length : Int) ≤ b.cfg.cap) := fun h => pB_and h
  have hH := fun i => x_held9 b hbk (b.tk.getD i default).frame (b.tk.getD i default).agent (b.tk.getD i default).vec (hbk.t1 i)
  have k0 : ∀ i, TskOk b i ↔ heldB b (b.tk.getD i default).frame (b.tk.getD i default).agent (b.tk.getD i default).vec = true ∧ numB (b.tk.getD i default).id = true ∧
      (0 < i → (b.tk.getD (i - 1) default).frame < (b.tk.getD i default).frame ∨ ((b.tk.getD (i - 1) default).frame = (b.tk.getD i default).frame ∧ (b.tk.getD (i - 1) default).id < (b.tk.getD i default).id)) := fun i => ⟨fun k => ⟨k.held, k.id, k.asc⟩, fun ⟨a, b, c⟩ => ⟨a, b, c⟩⟩
  generalize tasksB b = r at *
  generalize TskOk b = Ok at *
  generalize heldB b = HBf at *
  generalize heldF b = HF at *
  obtain ⟨⟨c1, c2, c3, c4, c5, ⟨c6, c7, c8, c9⟩⟩, now, last, fr, ag, of, tk, fl⟩ := b
  dsimp only at *
  clear hbk
  (refine XC.of_body (dt19) Try.func19 rfl Try.ntmps19 mixed (T := tl19) tk19 (by kernel_rfl) (by simp) rfl rfl rfl rfl rfl ?_; rintro o ho P hP c K hK; have hm : P.follows .mixedOrders = true := hP ▸ mixed; have hT : TOk P tl19 := hP ▸ tk19; (try rw [← ho]); cbv; (repeat (refine StopN.mk ?_; cbv)))
  refine LoopN.over (o := o) (D := dt19) ho hm hT (by kernel_rfl) (fun i : Nat => [(11, xn i)]) (fun _ => []) (fun _ => []) (fun i => i ≤ tk.length ∧ ∀ j, j < i → Ok j) (fun i => tk.length - i) 0 ⟨Nat.zero_le _, fun j hj => absurd hj (Nat.not_lt_zero j)⟩ ?_ ?_
  · (refine ⟨?_, ?_, ?_, ?_⟩ <;> cbv <;> repeat' (first | trivial | exact EqX.rfl' | exact EqO.rfl' | apply And.intro | ((try clear hR3); (try clear hR2); (try clear hR); (try clear hK); (try simp only [ncCast] at *); (try simp only [castI_eq] at *); refine EqX.i ?_; (try rw [ho]); (try dsimp only [Ar.real, IX.vo, IX.val, BX.val, IX.toN]); (try simp only [QP1, QB7]); (repeat rw [wrap_i64 (by omega) (by omega)]); omega)))
  · rintro i ⟨hi, hok⟩ R hR
    have ei : o.nth tk i = tk.getD i default := by rw [ho, real_nth]
    have h1 := hH i
    have q2 := q0 i
    have k := k0 i
    have h2 := x_number (tk.getD i default).id
    have h3 := x_CmpL (tk.getD (IntKind.i64.wrap ((i : Int) - 1)).toNat default).frame (tk.getD i default).frame
    have h4 := x_CmpL (tk.getD (IntKind.i64.wrap ((i : Int) - 1)).toNat default).id (tk.getD i default).id
    have h5 := x_Or2 (cmpI (tk.getD (IntKind.i64.wrap ((i : Int) - 1)).toNat default).frame (tk.getD i default).frame) (cmpI (tk.getD (IntKind.i64.wrap ((i : Int) - 1)).toNat default).id (tk.getD i default).id)
    have zl := or2_lt (a := (tk.getD (IntKind.i64.wrap ((i : Int) - 1)).toNat default).frame) (b := (tk.getD i default).frame) (c := (tk.getD (IntKind.i64.wrap ((i : Int) - 1)).toNat default).id) (d := (tk.getD i default).id)
    have hp : (0 : Int) < i → (IntKind.i64.wrap ((i : Int) - 1)).toNat = i - 1 := fun h => prev_eq h (by omega)
    generalize cmpI (tk.getD (IntKind.i64.wrap ((i : Int) - 1)).toNat default).frame (tk.getD i default).frame = z1 at *
    generalize cmpI (tk.getD (IntKind.i64.wrap ((i : Int) - 1)).toNat default).id (tk.getD i default).id = z2 at *
    generalize or2 z1 z2 = z at *
    generalize numB (tk.getD i default).id = n1 at *
    generalize HBf (tk.getD i default).frame (tk.getD i default).agent (tk.getD i default).vec = hb0 at *
    generalize HF (tk.getD i default).frame (tk.getD i default).agent (tk.getD i default).vec = hf0 at *
    obtain ⟨f1, f2, f3, f4, f5, f6, f7⟩ := hf0
    have F1 : i < tk.length → hb0 = false → r = false := fun hl h => q2 hl fun h' => by rw [(k.1 h').1] at h; cases h
    have F2 : i < tk.length → n1 = false → r = false := fun hl h => q2 hl fun h' => by rw [(k.1 h').2.1] at h; cases h
    have F3 : i < tk.length → (0 : Int) < i → 0 ≤ z → r = false := fun hl h hz => q2 hl fun h' => by
      have := (k.1 h').2.2 (by omega)
      rw [hp h] at zl
      have := zl.2 this
      omega
    have F0 : i < tk.length → hb0 = true → n1 = true → ((0 : Int) < i → z < 0) → Ok i := fun hl a1 a2 a3 => k.2 ⟨a1, a2, fun h => by
      have := zl.1 (a3 (by omega))
      rw [hp (by omega)] at this
      exact this⟩
    clear zl hp k
    rw [← ei, ← ho] at h1
    rw [← ei] at h2
    cbv
    repeat' (first | (refine Br.mk (fun hb => ?_) (fun hb => ?_) <;> ((try rw [ho] at hb); (try dsimp only [Ar.real, IX.vo] at hb); (try simp only [QP1, QB7] at hb); (try simp only [QBo, beq_iff_eq, beq_eq_false_iff_ne, ne_eq] at hb))) | (refine StopN.mk ?_; cbv) | ((first | refine CallI.pure hP h1 fn38 rfl rfl rfl ?_ | refine CallI.pure hP h2 fn36 rfl rfl rfl ?_ | refine CallN.pure hP h3 fn40 rfl rfl (by rw [ho]; rfl) ?_ | refine CallN.pure hP h4 fn40 rfl rfl (by rw [ho]; rfl) ?_ | refine CallN.pure hP h5 fn39 rfl rfl rfl ?_); cbv) | (refine hK _ _ ?_) | (refine NeedT.mk ?_ ?_))
    all_goals (try (((try clear hR3); (try clear hR2); (try clear hR); (try clear hK); (try simp only [ncCast] at *); (try simp only [castI_eq] at *); (try rw [ho]); (try dsimp only [Ar.real, IX.vo, IX.val, BX.val, IX.toN]); (try simp only [QP1, QB7]); (try simp only [decide_eq_true_eq]); (all_goals (repeat rw [wrap_i64 (by omega) (by omega)])); (all_goals (first | omega | (simp only [Int.ofNat_eq_natCast]; omega)))); done))
    all_goals try first
      | (rw [F1 (by assumption) (by assumption)]; exact .b rfl)
      | (rw [F2 (by assumption) (by assumption)]; exact .b rfl)
      | (rw [F3 (by assumption) (by assumption) (by assumption)]; exact .b rfl)
    all_goals
      by_cases hlt : i < tk.length
      · first
          | (exfalso; clear hR; omega)
          | (have hk : Ok i := by
               refine F0 hlt (by assumption) (by assumption) ?_
               intro h0
               first | assumption | exact absurd h0 (Int.not_lt.2 (by assumption))
             refine hR _ (i + 1) (by show tk.length - (i + 1) < tk.length - i; omega) ⟨by show i + 1 ≤ tk.length; omega, all_step hok hk⟩ ?_
             (refine ⟨?_, ?_, ?_, ?_⟩ <;> cbv <;> repeat' (first | trivial | exact EqX.rfl' | exact EqO.rfl' | apply And.intro | ((try clear hR3); (try clear hR2); (try clear hR); (try clear hK); (try simp only [ncCast] at *); (try simp only [castI_eq] at *); refine EqX.i ?_; (try rw [ho]); (try dsimp only [Ar.real, IX.vo, IX.val, BX.val, IX.toN]); (try simp only [QP1, QB7]); (repeat rw [wrap_i64 (by omega) (by omega)]); omega))))
      · first
          | (exfalso; clear hR; omega)
          | (have hie : i = tk.length := by clear hR; omega
             subst hie
             rw [q1 hok]
             refine .b ?_
             ((try clear hR3); (try clear hR2); (try clear hR); (try clear hK); (try simp only [ncCast] at *); (try simp only [castI_eq] at *); (try rw [ho]); (try dsimp only [Ar.real, IX.vo, IX.val, BX.val, IX.toN]); (try simp only [QP1, QB7])))
end Go.Proofs.Ytpijibffjohikaa.Sy
namespace Go.Proofs.Ytpijibffjohikaa.Sy
open Go Go.Sy Go.Proofs.Ytpijibffjohikaa
def ahdR (x y : Flt) : Int := or4 (cmpI x.frame y.frame) (cmpI x.agent y.agent) (cmpI x.til y.til) (ordV x.vec y.vec)
theorem x_ahead (x y : Flt) (hx : x.vec.length ≤ 1048576) (hy : y.vec.length ≤ 1048576) : XC Try.prog 41 [.agg (Flt.X Ar.real x), .agg (Flt.X Ar.real y)] [] (xi (ahdR x y)) [] := by
  have h1 := x_CmpL x.frame y.frame
  have h2 := x_CmpL x.agent y.agent
  have h3 := x_CmpL x.til y.til
  have h4 := x_Order x.vec y.vec hx hy
  have h5 := x_Or4 (cmpI x.frame y.frame) (cmpI x.agent y.agent) (cmpI x.til y.til) (ordV x.vec y.vec)
  unfold ahdR
  generalize cmpI x.frame y.frame = z1 at *
  generalize cmpI x.agent y.agent = z2 at *
  generalize cmpI x.til y.til = z3 at *
  generalize ordV x.vec y.vec = z4 at *
  generalize or4 z1 z2 z3 z4 = z at *
  obtain ⟨x1, x2, x3, x4⟩ := x
  obtain ⟨y1, y2, y3, y4⟩ := y
  dsimp only at *
  (refine XC.of_body (dt41) Try.func41 rfl Try.ntmps41 mixed (T := tl41) tk41 (by kernel_rfl) (by simp) rfl rfl rfl rfl rfl ?_; rintro o ho P hP c K hK; have hm : P.follows .mixedOrders = true := hP ▸ mixed; have hT : TOk P tl41 := hP ▸ tk41; (try rw [← ho]); cbv; (repeat (refine StopN.mk ?_; cbv)))
  rw [← ho] at h4
  repeat' (first | (refine Br.mk (fun hb => ?_) (fun hb => ?_) <;> ((try rw [ho] at hb); (try dsimp only [Ar.real, IX.vo] at hb); (try simp only [QP1, QB7] at hb); (try simp only [QBo, beq_iff_eq, beq_eq_false_iff_ne, ne_eq] at hb))) | (refine StopN.mk ?_; cbv) | ((first | refine CallN.pure hP h1 fn40 rfl rfl rfl ?_ | refine CallN.pure hP h2 fn40 rfl rfl rfl ?_ | refine CallN.pure hP h3 fn40 rfl rfl rfl ?_ | refine CallN.pure hP h4 fn68 rfl rfl rfl ?_ | refine CallN.pure hP h5 fn39 rfl rfl rfl ?_); cbv) | (refine hK _ _ ?_) | (refine NeedT.mk ?_ ?_))
  exact .i rfl
structure FltOk (b : Bk) (i : Nat) : Prop where
  fr : 0 ≤ atFrame b.fr (b.fl.getD i default).frame
  ag : 0 ≤ atAgent b.ag (b.fl.getD i default).agent
  pos : 0 < (b.fl.getD i default).vec.length
  vec : vecRight (b.fl.getD i default).vec = true
  u0 : b.now < (b.fl.getD i default).til
  u1 : (b.fl.getD i default).til ≤ 18014398509481984
  asc : 0 < i → ahdR (b.fl.getD (i - 1) default) (b.fl.getD i default) < 0
noncomputable def filtersB (b : Bk) : Bool := pB ((∀ i, i < b.fl.length → FltOk b i) ∧ (b.fl.length : Int) ≤ b.cfg.cap)
theorem x_bfilters (b : Bk) (hbk : BkOk b) : XC Try.prog 20 [.agg (Bk.X Ar.real b)] [] (xb (filtersB b)) [] := by
  have hn0 := hbk.n_fl
  have q0 : ∀ i, i < b.fl.length → ¬ FltOk b i → filtersB b = false := fun i hi h => pB_f fun h2 => h (h2.1 i hi)
  have q1 : (∀ i, i < b.fl.length → FltOk b i) → filtersB b = decide ((b.fl.length : Int) ≤ b.cfg.cap) := fun h => pB_and h
  have hF := fun i => x_Frame b hbk (b.fl.getD i default).frame
  have hA := fun i => x_Agent b hbk (b.fl.getD i default).agent
  have hV := fun i => x_vec_Right (b.fl.getD i default).vec (by have := hbk.l1 i; omega)
  have hH := fun i j => x_ahead (b.fl.getD i default) (b.fl.getD j default) (hbk.l1 i) (hbk.l1 j)
  have k0 : ∀ i, FltOk b i ↔ 0 ≤ atFrame b.fr (b.fl.getD i default).frame ∧ 0 ≤ atAgent b.ag (b.fl.getD i default).agent ∧ 0 < (b.fl.getD i default).vec.length ∧ vecRight (b.fl.getD i default).vec = true ∧ b.now < (b.fl.getD i default).til ∧ (b.fl.getD i default).til ≤ 18014398509481984 ∧
      (0 < i → ahdR (b.fl.getD (i - 1) default) (b.fl.getD i default) < 0) := fun i => ⟨fun k => ⟨k.fr, k.ag, k.pos, k.vec, k.u0, k.u1, k.asc⟩, fun ⟨a, b, c, d, e, f, g⟩ => ⟨a, b, c, d, e, f, g⟩⟩
  have l1 := hbk.l1
  generalize filtersB b = r at *
  generalize FltOk b = Ok at *
  generalize atFrame b.fr = AF at *
  generalize atAgent b.ag = AA at *
  obtain ⟨⟨c1, c2, c3, c4, c5, ⟨c6, c7, c8, c9⟩⟩, now, last, fr, ag, of, tk, fl⟩ := b
  dsimp only at *
  clear hbk
  (refine XC.of_body (dt20) Try.func20 rfl Try.ntmps20 mixed (T := tl20) tk20 (by kernel_rfl) (by simp) rfl rfl rfl rfl rfl ?_; rintro o ho P hP c K hK; have hm : P.follows .mixedOrders = true := hP ▸ mixed; have hT : TOk P tl20 := hP ▸ tk20; (try rw [← ho]); cbv; (repeat (refine StopN.mk ?_; cbv)))
  refine LoopN.over (o := o) (D := dt20) ho hm hT (by kernel_rfl) (fun i : Nat => [(9, xn i)]) (fun _ => []) (fun _ => []) (fun i => i ≤ fl.length ∧ ∀ j, j < i → Ok j) (fun i => fl.length - i) 0 ⟨Nat.zero_le _, fun j hj => absurd hj (Nat.not_lt_zero j)⟩ ?_ ?_
  · (refine ⟨?_, ?_, ?_, ?_⟩ <;> cbv <;> repeat' (first | trivial | exact EqX.rfl' | exact EqO.rfl' | apply And.intro | ((try clear hR3); (try clear hR2); (try clear hR); (try clear hK); (try simp only [ncCast] at *); (try simp only [castI_eq] at *); refine EqX.i ?_; (try rw [ho]); (try dsimp only [Ar.real, IX.vo, IX.val, BX.val, IX.toN]); (try simp only [QP1, QB7]); (repeat rw [wrap_i64 (by omega) (by omega)]); omega)))
  · rintro i ⟨hi, hok⟩ R hR
    have ei : o.nth fl i = fl.getD i default := by rw [ho, real_nth]
    have q2 := q0 i
    have k := k0 i
    have h1 := hF i
    have h2 := hA i
    have h3 := hV i
    have h4 := hH (IntKind.i64.wrap ((i : Int) - 1)).toNat i
    have hp : (0 : Int) < i → (IntKind.i64.wrap ((i : Int) - 1)).toNat = i - 1 := fun h => prev_eq h (by omega)
    have hl1 := l1 i
    have kz : (0 : Int) < i → ahdR (fl.getD (IntKind.i64.wrap ((i : Int) - 1)).toNat default) (fl.getD i default) = ahdR (fl.getD (i - 1) default) (fl.getD i default) := fun h => by rw [hp h]
    generalize ahdR (fl.getD (IntKind.i64.wrap ((i : Int) - 1)).toNat default) (fl.getD i default) = z at *
    generalize AF (fl.getD i default).frame = z1 at *
    generalize AA (fl.getD i default).agent = z2 at *
    generalize vecRight (fl.getD i default).vec = v1 at *
    have F1 : i < fl.length → z1 < 0 → r = false := fun hl h => q2 hl fun h' => by have := (k.1 h').1; omega
    have F2 : i < fl.length → z2 < 0 → r = false := fun hl h => q2 hl fun h' => by have := (k.1 h').2.1; omega
    have F3 : i < fl.length → ((fl.getD i default).vec.length : Int) = 0 → r = false := fun hl h => q2 hl fun h' => by have := (k.1 h').2.2.1; omega
    have F4 : i < fl.length → v1 = false → r = false := fun hl h => q2 hl fun h' => by rw [(k.1 h').2.2.2.1] at h; cases h
    have F5 : i < fl.length → (fl.getD i default).til ≤ now → r = false := fun hl h => q2 hl fun h' => by have := (k.1 h').2.2.2.2.1; omega
    have F6 : i < fl.length → 18014398509481984 < (fl.getD i default).til → r = false := fun hl h => q2 hl fun h' => by have := (k.1 h').2.2.2.2.2.1; omega
    have F7 : i < fl.length → (0 : Int) < i → 0 ≤ z → r = false := fun hl h hz => q2 hl fun h' => by
      have := (k.1 h').2.2.2.2.2.2 (by omega)
      rw [← kz h] at this
      omega
    have F0 : i < fl.length → 0 ≤ z1 → 0 ≤ z2 → ¬ ((fl.getD i default).vec.length : Int) = 0 → v1 = true → now < (fl.getD i default).til → (fl.getD i default).til ≤ 18014398509481984 → ((0 : Int) < i → z < 0) → Ok i := fun hl a1 a2 a3 a4 a5 a6 a7 => k.2 ⟨a1, a2, by omega, a4, a5, a6, fun h => by
      have := a7 (by omega)
      rw [kz (by omega)] at this
      exact this⟩
    clear kz hp k
    rw [← ei, ← ho] at h1 h2 h3
    cbv
    repeat' (first | (refine Br.mk (fun hb => ?_) (fun hb => ?_) <;> ((try rw [ho] at hb); (try dsimp only [Ar.real, IX.vo] at hb); (try simp only [QP1, QB7] at hb); (try simp only [QBo, beq_iff_eq, beq_eq_false_iff_ne, ne_eq] at hb))) | (refine StopN.mk ?_; cbv) | ((first | refine CallI.pure hP h1 fn31 rfl rfl rfl ?_ | refine CallI.pure hP h2 fn25 rfl rfl rfl ?_ | refine CallI.pure hP h3 fn33 rfl rfl rfl ?_ | refine CallN.pure hP h4 fn41 rfl rfl (by rw [ho]; rfl) ?_); cbv) | (refine hK _ _ ?_) | (refine NeedT.mk ?_ ?_))
    all_goals (try (((try clear hR3); (try clear hR2); (try clear hR); (try clear hK); (try simp only [ncCast] at *); (try simp only [castI_eq] at *); (try rw [ho]); (try dsimp only [Ar.real, IX.vo, IX.val, BX.val, IX.toN]); (try simp only [QP1, QB7]); (try simp only [decide_eq_true_eq]); (all_goals (repeat rw [wrap_i64 (by omega) (by omega)])); (all_goals (first | omega | (simp only [Int.ofNat_eq_natCast]; omega)))); done))
    all_goals try first
      | (rw [F1 (by assumption) (by assumption)]; exact .b rfl)
      | (rw [F2 (by assumption) (by assumption)]; exact .b rfl)
      | (rw [F3 (by assumption) (by assumption)]; exact .b rfl)
      | (rw [F4 (by assumption) (by assumption)]; exact .b rfl)
      | (rw [F5 (by assumption) (by assumption)]; exact .b rfl)
      | (rw [F6 (by assumption) (by assumption)]; exact .b rfl)
      | (rw [F7 (by assumption) (by assumption) (by assumption)]; exact .b rfl)
    all_goals
      by_cases hlt : i < fl.length
      · first
          | (exfalso; clear hR; omega)
          | (have hk : Ok i := by
               refine F0 hlt (by assumption) (by assumption) (by assumption) (by assumption) (by assumption) (by assumption) ?_
               intro h0
               first | assumption | exact absurd h0 (Int.not_lt.2 (by assumption))
             refine hR _ (i + 1) (by show fl.length - (i + 1) < fl.length - i; omega) ⟨by show i + 1 ≤ fl.length; omega, all_step hok hk⟩ ?_
             (refine ⟨?_, ?_, ?_, ?_⟩ <;> cbv <;> repeat' (first | trivial | exact EqX.rfl' | exact EqO.rfl' | apply And.intro | ((try clear hR3); (try clear hR2); (try clear hR); (try clear hK); (try simp only [ncCast] at *); (try simp only [castI_eq] at *); refine EqX.i ?_; (try rw [ho]); (try dsimp only [Ar.real, IX.vo, IX.val, BX.val, IX.toN]); (try simp only [QP1, QB7]); (repeat rw [wrap_i64 (by omega) (by omega)]); omega))))
      · first
          | (exfalso; clear hR; omega)
          | (have hie : i = fl.length := by clear hR; omega
             subst hie
             rw [q1 hok]
             refine .b ?_
             ((try clear hR3); (try clear hR2); (try clear hR); (try clear hK); (try simp only [ncCast] at *); (try simp only [castI_eq] at *); (try rw [ho]); (try dsimp only [Ar.real, IX.vo, IX.val, BX.val, IX.toN]); (try simp only [QP1, QB7])))
end Go.Proofs.Ytpijibffjohikaa.Sy
namespace Go.Proofs.Ytpijibffjohikaa.Sy
open Go Go.Sy Go.Proofs.Ytpijibffjohikaa
def qAdd (a b : Int) : Int × Bool := if (0 ≤ a ∧ a ≤ 9007199254740992) ∧ 0 ≤ b ∧ b ≤ 9007199254740992 - a then (a + b, true) else (0, false)
theorem x_qSum2 (a b : Int) : XC Try.prog 89 [il 9007199254740992, .ro (.lits [[xi a], [xi b]])] [] (.tup [xi (qAdd a b).1, xb (qAdd a b).2]) [] := by
  have e1 : ¬ ((0 ≤ a ∧ a ≤ 9007199254740992) ∧ 0 ≤ b ∧ b ≤ 9007199254740992 - a) → qAdd a b = (0, false) := fun h => if_neg h
  have e2 : ((0 ≤ a ∧ a ≤ 9007199254740992) ∧ 0 ≤ b ∧ b ≤ 9007199254740992 - a) → qAdd a b = (a + b, true) := fun h => if_pos h
  generalize qAdd a b = q at *
  obtain ⟨q1, q2⟩ := q
  simp only [Prod.mk.injEq] at e1 e2
  (refine XC.of_body ([]) Try.func89 rfl Try.ntmps89 mixed (T := tl89) tk89 (by kernel_rfl) (by simp) rfl rfl rfl rfl rfl ?_; rintro o ho P hP c K hK; have hm : P.follows .mixedOrders = true := hP ▸ mixed; have hT : TOk P tl89 := hP ▸ tk89; (try rw [← ho]); cbv; (repeat (refine StopN.mk ?_; cbv)))
  have hw : 0 ≤ a → a ≤ 9007199254740992 → IntKind.i64.wrap (9007199254740992 - IntKind.i64.wrap (0 + a)) = 9007199254740992 - a := fun h h' => by
    rw [wrap_i64 (x := 0 + a) (by omega) (by omega), wrap_i64 (by omega) (by omega)]
    omega
  repeat' (first | (refine Br.mk (fun hb => ?_) (fun hb => ?_) <;> ((try rw [ho] at hb); (try dsimp only [Ar.real, IX.vo] at hb); (try simp only [QP1, QB7] at hb); (try simp only [QBo, beq_iff_eq, beq_eq_false_iff_ne, ne_eq] at hb))) | (refine StopN.mk ?_; cbv) | (refine hK _ _ ?_) | (refine NeedT.mk ?_ ?_) | (refine LoopN.lay (o := o) (D := []) 3 ho hm hT (by kernel_rfl) ?_; cbv))
  · ((try clear hR3); (try clear hR2); (try clear hR); (try clear hK); (try simp only [ncCast] at *); (try simp only [castI_eq] at *); (try rw [ho]); (try dsimp only [Ar.real, IX.vo, IX.val, BX.val, IX.toN]); (try simp only [QP1, QB7]); (try simp only [decide_eq_true_eq]); (all_goals (repeat rw [wrap_i64 (by omega) (by omega)])); (all_goals (first | omega | (simp only [Int.ofNat_eq_natCast]; omega))))
  · obtain ⟨rfl, rfl⟩ := e1 (by clear hw; omega)
    exact FinX_ib rfl rfl
  · obtain ⟨rfl, rfl⟩ := e1 (by clear hw; omega)
    exact FinX_ib rfl rfl
  · ((try clear hR3); (try clear hR2); (try clear hR); (try clear hK); (try simp only [ncCast] at *); (try simp only [castI_eq] at *); (try rw [ho]); (try dsimp only [Ar.real, IX.vo, IX.val, BX.val, IX.toN]); (try simp only [QP1, QB7]); (try simp only [decide_eq_true_eq]); (all_goals (repeat rw [wrap_i64 (by omega) (by omega)])); (all_goals (first | omega | (simp only [Int.ofNat_eq_natCast]; omega))))
  · obtain ⟨rfl, rfl⟩ := e1 (by clear hw; omega)
    exact FinX_ib rfl rfl
  · rw [hw (by assumption) (by assumption)] at hb
    obtain ⟨rfl, rfl⟩ := e1 (by clear hw; omega)
    exact FinX_ib rfl rfl
  · rw [hw (by assumption) (by assumption)] at hb
    obtain ⟨rfl, rfl⟩ := e2 ⟨⟨by assumption, by assumption⟩, by assumption, hb⟩
    refine FinX_ib ?_ rfl
    rw [ho]
    show IntKind.i64.wrap (IntKind.i64.wrap (0 + a) + b) = a + b
    rw [wrap_i64 (x := 0 + a) (by omega) (by omega), wrap_i64 (by omega) (by omega)]
    omega
theorem x_qAdd (a b : Int) : XC Try.prog 69 [xi a, xi b, il 9007199254740992] [] (.tup [xi (qAdd a b).1, xb (qAdd a b).2]) [] := by
  have h := x_qSum2 a b
  generalize qAdd a b = q at *
  obtain ⟨q1, q2⟩ := q
  dsimp only at h
  (refine XC.of_body ([]) Try.func69 rfl Try.ntmps69 mixed (T := tl69) tk69 (by kernel_rfl) (by simp) rfl rfl rfl rfl rfl ?_; rintro o ho P hP c K hK; have hm : P.follows .mixedOrders = true := hP ▸ mixed; have hT : TOk P tl69 := hP ▸ tk69; (try rw [← ho]); cbv; (repeat (refine StopN.mk ?_; cbv)))
  repeat' (first | (refine Br.mk (fun hb => ?_) (fun hb => ?_) <;> ((try rw [ho] at hb); (try dsimp only [Ar.real, IX.vo] at hb); (try simp only [QP1, QB7] at hb); (try simp only [QBo, beq_iff_eq, beq_eq_false_iff_ne, ne_eq] at hb))) | (refine StopN.mk ?_; cbv) | (first | refine CallI.pure hP h fn89 rfl rfl rfl ?_ | refine CallN.pure hP h fn89 rfl rfl rfl ?_); cbv | (refine hK _ _ ?_) | (refine NeedT.mk ?_ ?_))
  exact FinX_ib rfl rfl
def mrg : List Part → List Part → Option (List Part)
  | [], vs => some vs
  | x :: us, [] => some (x :: us)
  | x :: us, y :: vs =>
    if slotCmp x.kind x.role y.kind y.role < 0 then (mrg us (y :: vs)).map (x :: ·)
    else if 0 < slotCmp x.kind x.role y.kind y.role then (mrg (x :: us) vs).map (y :: ·)
    else if (qAdd x.amount y.amount).2 = true then (mrg us vs).map (⟨x.kind, x.role, (qAdd x.amount y.amount).1⟩ :: ·)
    else none
termination_by us vs => us.length + vs.length
theorem mrg_nil (us : List Part) : mrg us [] = some us := by
  cases us with
  | nil => rw [mrg]
  | cons x us => rw [mrg]
theorem mrg_nil' (us : List Part) : mrg [] us = some us := by rw [mrg]
def addV (a b : List Part) : List Part × Bool := if vecRight a = true ∧ vecRight b = true then (match mrg a b with | some l => (l, true) | none => ([], false)) else ([], false)
def InA (T : Option (List Part)) (out us vs : List Part) : Prop := (mrg us vs).map (out ++ ·) = T
theorem map_app {m : Option (List Part)} {out : List Part} {x : Part} : (m.map (x :: ·)).map (out ++ ·) = m.map (out ++ [x] ++ ·) := by
  cases m with
  | none => rfl
  | some l => simp
section
variable {T : Option (List Part)} {out us vs : List Part}
theorem InA.a1 (h : InA T out us vs) (hb : vs.length = 0) (ha : 0 < us.length) : InA T (out ++ [us.getD 0 default]) us.tail vs := by
  have : vs = [] := List.length_eq_zero_iff.1 hb
  subst this
  unfold InA at h ⊢
  rw [mrg_nil] at h ⊢
  match us, ha with
  | x :: us, _ => rw [← h]; simp
theorem InA.a2 (h : InA T out us vs) (ha : 0 < us.length) (hb : 0 < vs.length) (hc : slotCmp (us.getD 0 default).kind (us.getD 0 default).role (vs.getD 0 default).kind (vs.getD 0 default).role < 0) : InA T (out ++ [us.getD 0 default]) us.tail vs := by
  unfold InA at h ⊢
  match us, ha, vs, hb with
  | x :: us, _, y :: vs, _ =>
    have hc' : slotCmp x.kind x.role y.kind y.role < 0 := hc
    rw [mrg, if_pos hc', map_app] at h
    exact h
theorem InA.b1 (h : InA T out us vs) (ha : us.length = 0) (hb : 0 < vs.length) : InA T (out ++ [vs.getD 0 default]) us vs.tail := by
  have : us = [] := List.length_eq_zero_iff.1 ha
  subst this
  unfold InA at h ⊢
  rw [mrg_nil'] at h ⊢
  match vs, hb with
  | x :: vs, _ => rw [← h]; simp
theorem InA.b2 (h : InA T out us vs) (ha : 0 < us.length) (hb : 0 < vs.length) (hc : 0 < slotCmp (us.getD 0 default).kind (us.getD 0 default).role (vs.getD 0 default).kind (vs.getD 0 default).role) : InA T (out ++ [vs.getD 0 default]) us vs.tail := by
  unfold InA at h ⊢
  match us, ha, vs, hb with
  | x :: us, _, y :: vs, _ =>
    have hc' : 0 < slotCmp x.kind x.role y.kind y.role := hc
    rw [mrg, if_neg (by omega), if_pos hc', map_app] at h
    exact h
theorem InA.c1 (h : InA T out us vs) (ha : 0 < us.length) (hb : 0 < vs.length) (hc : 0 ≤ slotCmp (us.getD 0 default).kind (us.getD 0 default).role (vs.getD 0 default).kind (vs.getD 0 default).role) (hc2 : slotCmp (us.getD 0 default).kind (us.getD 0 default).role (vs.getD 0 default).kind (vs.getD 0 default).role ≤ 0)
    (hq : (qAdd (us.getD 0 default).amount (vs.getD 0 default).amount).2 = true) : InA T (out ++ [⟨(us.getD 0 default).kind, (us.getD 0 default).role, (qAdd (us.getD 0 default).amount (vs.getD 0 default).amount).1⟩]) us.tail vs.tail := by
  unfold InA at h ⊢
  match us, ha, vs, hb with
  | x :: us, _, y :: vs, _ =>
    have hc' : 0 ≤ slotCmp x.kind x.role y.kind y.role := hc
    have hc3 : slotCmp x.kind x.role y.kind y.role ≤ 0 := hc2
    have hq' : (qAdd x.amount y.amount).2 = true := hq
    rw [mrg, if_neg (by omega), if_neg (by omega), if_pos hq', map_app] at h
    exact h
theorem InA.c2 (h : InA T out us vs) (ha : 0 < us.length) (hb : 0 < vs.length) (hc : 0 ≤ slotCmp (us.getD 0 default).kind (us.getD 0 default).role (vs.getD 0 default).kind (vs.getD 0 default).role) (hc2 : slotCmp (us.getD 0 default).kind (us.getD 0 default).role (vs.getD 0 default).kind (vs.getD 0 default).role ≤ 0)
    (hq : (qAdd (us.getD 0 default).amount (vs.getD 0 default).amount).2 = false) : T = none := by
  unfold InA at h
  match us, ha, vs, hb with
  | x :: us, _, y :: vs, _ =>
    have hc' : 0 ≤ slotCmp x.kind x.role y.kind y.role := hc
    have hc3 : slotCmp x.kind x.role y.kind y.role ≤ 0 := hc2
    have hq' : (qAdd x.amount y.amount).2 = false := hq
    rw [mrg, if_neg (by omega), if_neg (by omega), if_neg (by rw [hq']; decide)] at h
    exact h.symm
theorem InA.fin (h : InA T out us vs) (ha : us.length = 0) (hb : vs.length = 0) : T = some out := by
  have : us = [] := List.length_eq_zero_iff.1 ha
  subst this
  have : vs = [] := List.length_eq_zero_iff.1 hb
  subst this
  unfold InA at h
  rw [mrg_nil] at h
  rw [← h]
  simp
end
theorem sl1 (n : Nat) (h : 0 < n) : (leB 0 1 && (leB 1 (castI n) && leB (castI n) (castI n))) = true := by
  simp [leB_eq, castI_eq]
  omega
structure StAd where
  rv : Nat
  out : List Part
  us : List Part
  vs : List Part
structure InAd (T : Option (List Part)) (s : StAd) : Prop where
  inv : InA T s.out s.us s.vs
  len : s.out.length + s.us.length + s.vs.length ≤ 2097152
theorem x_vecAdd (a b : List Part) (ha : a.length ≤ 1048576) (hb' : b.length ≤ 1048576) : XC Try.prog 43 [.ro (SL Ar.real Part.X a), .ro (SL Ar.real Part.X b)] [] (.tup [.ro (SL Ar.real Part.X (addV a b).1), xb (addV a b).2]) [] := by
  have hxa := x_vec_Right a (by omega)
  have hxb := x_vec_Right b (by omega)
  unfold addV
  by_cases h0 : vecRight a = true ∧ vecRight b = true
  · rw [if_pos h0]
    rw [h0.1] at hxa
    rw [h0.2] at hxb
    clear h0
    obtain ⟨T, hTm⟩ : ∃ x, x = mrg a b := ⟨_, rfl⟩
    rw [← hTm]
    have hI0 : InAd T ⟨0, [], a, b⟩ := ⟨by unfold InA; rw [hTm]; cases mrg a b <;> rfl, by show 0 + a.length + b.length ≤ _; omega⟩
    clear hTm
    (refine XC.of_body (dt43) Try.func43 rfl Try.ntmps43 mixed (T := tl43) tk43 (by kernel_rfl) (by simp) rfl rfl rfl rfl rfl ?_; rintro o ho P hP c K hK; have hm : P.follows .mixedOrders = true := hP ▸ mixed; have hT : TOk P tl43 := hP ▸ tk43; (try rw [← ho]); cbv; (repeat (refine StopN.mk ?_; cbv)))
    rw [← ho] at hxa hxb
    repeat' (first | (refine Br.mk (fun hb => ?_) (fun hb => ?_) <;> ((try rw [ho] at hb); (try dsimp only [Ar.real, IX.vo] at hb); (try simp only [QP1, QB7] at hb); (try simp only [QBo, beq_iff_eq, beq_eq_false_iff_ne, ne_eq] at hb))) | (refine StopN.mk ?_; cbv) | ((first | refine CallI.pure hP hxa fn33 rfl rfl rfl ?_ | refine CallI.pure hP hxb fn33 rfl rfl rfl ?_); cbv) | ((first | refine CallI.pure hP (x_vec_of _ _ _) fn61 (by first | rfl | (rw [ho]; try rfl)) (by rfl) (by first | rfl | (rw [ho]; try rfl)) ?_ | refine CallN.pure hP (x_vec_of _ _ _) fn61 (by first | rfl | (rw [ho]; try rfl)) (by rfl) (by first | rfl | (rw [ho]; try rfl)) ?_); (try rw [← ho]); cbv) | ((first | refine CallI.pure hP (x_slot_Cmp _ _ _ _) fn63 (by first | rfl | (rw [ho]; try rfl)) (by rfl) (by first | rfl | (rw [ho]; try rfl)) ?_ | refine CallN.pure hP (x_slot_Cmp _ _ _ _) fn63 (by first | rfl | (rw [ho]; try rfl)) (by rfl) (by first | rfl | (rw [ho]; try rfl)) ?_); (try rw [← ho]); generalize hr : slotCmp _ _ _ _ = r; (try rw [ho] at hr); (try dsimp only [Ar.real, IX.vo] at hr); (try simp only [QP1, QB7] at hr); cbv) | ((first | refine CallI.pure hP (x_qAdd _ _) fn69 (by first | rfl | (rw [ho]; try rfl)) (by rfl) (by first | rfl | (rw [ho]; try rfl)) ?_ | refine CallN.pure hP (x_qAdd _ _) fn69 (by first | rfl | (rw [ho]; try rfl)) (by rfl) (by first | rfl | (rw [ho]; try rfl)) ?_); (try rw [← ho]); cbv) | (refine hK _ _ ?_) | (refine NeedT.mk ?_ ?_))
    · exact absurd ‹true = false› (by decide)
    · exact absurd ‹true = false› (by decide)
    refine LoopN.ghost 6 56 3 rfl ?_
    refine LoopN.over (o := o) (D := dt43) ho hm hT (by kernel_rfl) (fun s : StAd => [(6, .own (.loc 0) s.rv), (0, .ro (SL o Part.X s.us)), (1, .ro (SL o Part.X s.vs))]) (fun s => [(0, .row s.rv 56 3 (SL o Part.X s.out))]) (fun _ => []) (InAd T) (fun s => s.us.length + s.vs.length) ⟨0, [], a, b⟩ hI0 ?_ ?_
    · (refine ⟨?_, ?_, ?_, ?_⟩ <;> cbv <;> repeat' (first | trivial | exact EqX.rfl' | exact EqO.rfl' | apply And.intro | ((try clear hR3); (try clear hR2); (try clear hR); (try clear hK); (try simp only [ncCast] at *); (try simp only [castI_eq] at *); refine EqX.i ?_; (try rw [ho]); (try dsimp only [Ar.real, IX.vo, IX.val, BX.val, IX.toN]); (try simp only [QP1, QB7]); (repeat rw [wrap_i64 (by omega) (by omega)]); omega) | exact EqO.row rfl (rows_nil_SL o ho Part.X)))
    · rintro ⟨rv, out, us, vs⟩ ⟨hin, hlen⟩ R hR
      dsimp only at hin hlen
      have hn1 : o.nth us 0 = us.getD 0 default := by rw [ho, real_nth]
      have hn2 : o.nth vs 0 = vs.getD 0 default := by rw [ho, real_nth]
      have hsc := x_slot_Cmp (us.getD 0 default).kind (us.getD 0 default).role (vs.getD 0 default).kind (vs.getD 0 default).role
      have hq := x_qAdd (us.getD 0 default).amount (vs.getD 0 default).amount
      have a1 := hin.a1
      have a2 := hin.a2
      have b1 := hin.b1
      have b2 := hin.b2
      have c1 := hin.c1
      have c2 := hin.c2
      have hfin := hin.fin
      generalize slotCmp (us.getD 0 default).kind (us.getD 0 default).role (vs.getD 0 default).kind (vs.getD 0 default).role = sc at *
      generalize qAdd (us.getD 0 default).amount (vs.getD 0 default).amount = q at *
      obtain ⟨q1, q2⟩ := q
      dsimp only at hq c1 c2
      obtain ⟨ut, hut⟩ : ∃ x, x = us.tail := ⟨_, rfl⟩
      obtain ⟨vt, hvt⟩ : ∃ x, x = vs.tail := ⟨_, rfl⟩
      rw [← hut] at a1 a2 c1
      rw [← hvt] at b1 b2 c1
      have hul : ut.length = us.length - 1 := by rw [hut]; simp
      have hvl : vt.length = vs.length - 1 := by rw [hvt]; simp
      rw [← hn1, ← hn2] at hsc hq
      have A1 : (vs.length : Int) = 0 → (0 : Int) < us.length → InA T (out ++ [us.getD 0 default]) ut vs ∧ 0 < us.length := fun h h' => ⟨a1 (by omega) (by omega), by omega⟩
      have A2 : (0 : Int) < us.length → ¬ (vs.length : Int) = 0 → sc < 0 → InA T (out ++ [us.getD 0 default]) ut vs ∧ 0 < us.length := fun h h' h2 => ⟨a2 (by omega) (by omega) h2, by omega⟩
      have B1 : (us.length : Int) = 0 → ¬ (vs.length : Int) = 0 → InA T (out ++ [vs.getD 0 default]) us vt ∧ 0 < vs.length := fun h h' => ⟨b1 (by omega) (by omega), by omega⟩
      have B2 : ¬ (us.length : Int) = 0 → ¬ (vs.length : Int) = 0 → 0 < sc → InA T (out ++ [vs.getD 0 default]) us vt ∧ 0 < vs.length := fun h h' h2 => ⟨b2 (by omega) (by omega) h2, by omega⟩
      have C1 : ¬ (us.length : Int) = 0 → ¬ (vs.length : Int) = 0 → 0 ≤ sc → sc ≤ 0 → q2 = true → InA T (out ++ [⟨(us.getD 0 default).kind, (us.getD 0 default).role, q1⟩]) ut vt ∧ 0 < us.length ∧ 0 < vs.length := fun h h' h2 h3 h4 => ⟨c1 (by omega) (by omega) h2 h3 h4, by omega, by omega⟩
      have C2 : ¬ (us.length : Int) = 0 → ¬ (vs.length : Int) = 0 → 0 ≤ sc → sc ≤ 0 → q2 = false → T = none := fun h h' h2 h3 h4 => c2 (by omega) (by omega) h2 h3 h4
      have D1 : (us.length : Int) ≤ 0 → (vs.length : Int) ≤ 0 → T = some out := fun h h' => hfin (by omega) (by omega)
      have E1 : (us.length : Int) ≤ 0 → ¬ (us.length : Int) = 0 → False := fun h h' => by omega
      have E2 : (0 : Int) < us.length → (us.length : Int) = 0 → False := fun h h' => by omega
      have E3 : (vs.length : Int) ≤ 0 → ¬ (vs.length : Int) = 0 → False := fun h h' => by omega
      have E4 : (0 : Int) < vs.length → (vs.length : Int) = 0 → False := fun h h' => by omega
      have E5 : (us.length : Int) ≤ 0 → (vs.length : Int) = 0 → T = some out := fun h h' => hfin (by omega) (by omega)
      have P1 : (0 : Int) < us.length → 0 < us.length := fun h => by omega
      have P2 : ¬ (us.length : Int) = 0 → 0 < us.length := fun h => by omega
      have P3 : ¬ (vs.length : Int) = 0 → 0 < vs.length := fun h => by omega
      clear a1 a2 b1 b2 c1 c2 hfin
      cbv
      repeat' (first | (refine Br.mk (fun hb => ?_) (fun hb => ?_) <;> ((try rw [ho] at hb); (try dsimp only [Ar.real, IX.vo] at hb); (try simp only [QP1, QB7] at hb); (try simp only [QBo, beq_iff_eq, beq_eq_false_iff_ne, ne_eq] at hb))) | (refine StopN.mk ?_; cbv) | ((first | refine CallN.pure hP hsc fn63 rfl rfl rfl ?_ | refine CallN.pure hP hq fn69 rfl rfl rfl ?_ | refine CallI.pure hP hq fn69 rfl rfl rfl ?_); cbv) | (refine NeedP.mk (fits_Part o ho us) ?_) | (refine NeedP.mk (fits_Part o ho vs) ?_) | ((first | refine CallI.pure hP (x_vec_Right _ ‹_›) fn33 (by first | rfl | (rw [ho]; try rfl)) (by rfl) (by first | rfl | (rw [ho]; try rfl)) ?_ | refine CallN.pure hP (x_vec_Right _ ‹_›) fn33 (by first | rfl | (rw [ho]; try rfl)) (by rfl) (by first | rfl | (rw [ho]; try rfl)) ?_); (try rw [← ho]); generalize hr : vecRight _ = r; (try rw [ho] at hr); (try dsimp only [Ar.real, IX.vo] at hr); (try simp only [QP1, QB7] at hr); cbv) | ((first | refine CallI.pure hP (x_vec_of _ _ _) fn61 (by first | rfl | (rw [ho]; try rfl)) (by rfl) (by first | rfl | (rw [ho]; try rfl)) ?_ | refine CallN.pure hP (x_vec_of _ _ _) fn61 (by first | rfl | (rw [ho]; try rfl)) (by rfl) (by first | rfl | (rw [ho]; try rfl)) ?_); (try rw [← ho]); cbv) | (refine hK _ _ ?_) | (refine NeedT.mk ?_ ?_))
      all_goals (try (((try clear hR3); (try clear hR2); (try clear hR); (try clear hK); (try simp only [ncCast] at *); (try simp only [castI_eq] at *); (try rw [ho]); (try dsimp only [Ar.real, IX.vo, IX.val, BX.val, IX.toN]); (try simp only [QP1, QB7]); (try simp only [decide_eq_true_eq]); (all_goals (repeat rw [wrap_i64 (by omega) (by omega)])); (all_goals (first | omega | (simp only [Int.ofNat_eq_natCast]; omega)))); done))
      · rw [ho]
        refine sl1 _ ?_
        first | exact P1 (by assumption) | exact P2 (by assumption) | exact P3 (by assumption)
      · obtain ⟨hI, hpos⟩ := A1 (by assumption) (by assumption)
        obtain ⟨out', ho'⟩ : ∃ q, q = out ++ [us.getD 0 default] := ⟨_, rfl⟩
        rw [← ho'] at hI
        have hol : out'.length = out.length + 1 := by rw [ho', List.length_append]; rfl
        have hlt : ut.length + vs.length < us.length + vs.length ∧ out'.length + ut.length + vs.length ≤ 2097152 := by
          clear A1 A2 B1 B2 C1 C2 D1 E1 E2 E3 E4 E5 hR
          omega
        refine hR _ ⟨rv + 1, out', ut, vs⟩ hlt.1 ⟨hI, hlt.2⟩ ?_
        clear A1 A2 B1 B2 C1 C2 D1 E1 E2 E3 E4 E5
        (refine ⟨?_, ?_, ?_, ?_⟩ <;> cbv <;> repeat' (first | trivial | exact EqX.rfl' | exact EqO.rfl' | apply And.intro | ((try clear hR3); (try clear hR2); (try clear hR); (try clear hK); (try simp only [ncCast] at *); (try simp only [castI_eq] at *); refine EqX.i ?_; (try rw [ho]); (try dsimp only [Ar.real, IX.vo, IX.val, BX.val, IX.toN]); (try simp only [QP1, QB7]); (repeat rw [wrap_i64 (by omega) (by omega)]); omega) | (refine EqO.snoc ho Part.X _ _ _ _ rfl ho' ?_; rw [ho]; rfl) | (exact EqX.ro (rows_tail ho hut)) | (exact EqX.ro (rows_tail ho hvt))))
      · rw [ho]
        refine sl1 _ ?_
        first | exact P1 (by assumption) | exact P2 (by assumption) | exact P3 (by assumption)
      · obtain ⟨hI, hpos⟩ := A2 (by assumption) (by assumption) (by assumption)
        obtain ⟨out', ho'⟩ : ∃ q, q = out ++ [us.getD 0 default] := ⟨_, rfl⟩
        rw [← ho'] at hI
        have hol : out'.length = out.length + 1 := by rw [ho', List.length_append]; rfl
        have hlt : ut.length + vs.length < us.length + vs.length ∧ out'.length + ut.length + vs.length ≤ 2097152 := by
          clear A1 A2 B1 B2 C1 C2 D1 E1 E2 E3 E4 E5 hR
          omega
        refine hR _ ⟨rv + 1, out', ut, vs⟩ hlt.1 ⟨hI, hlt.2⟩ ?_
        clear A1 A2 B1 B2 C1 C2 D1 E1 E2 E3 E4 E5
        (refine ⟨?_, ?_, ?_, ?_⟩ <;> cbv <;> repeat' (first | trivial | exact EqX.rfl' | exact EqO.rfl' | apply And.intro | ((try clear hR3); (try clear hR2); (try clear hR); (try clear hK); (try simp only [ncCast] at *); (try simp only [castI_eq] at *); refine EqX.i ?_; (try rw [ho]); (try dsimp only [Ar.real, IX.vo, IX.val, BX.val, IX.toN]); (try simp only [QP1, QB7]); (repeat rw [wrap_i64 (by omega) (by omega)]); omega) | (refine EqO.snoc ho Part.X _ _ _ _ rfl ho' ?_; rw [ho]; rfl) | (exact EqX.ro (rows_tail ho hut)) | (exact EqX.ro (rows_tail ho hvt))))
      · rw [ho]
        refine sl1 _ ?_
        first | exact P1 (by assumption) | exact P2 (by assumption) | exact P3 (by assumption)
      · obtain ⟨hI, hpos⟩ := B2 (by assumption) (by assumption) (by assumption)
        obtain ⟨out', ho'⟩ : ∃ q, q = out ++ [vs.getD 0 default] := ⟨_, rfl⟩
        rw [← ho'] at hI
        have hol : out'.length = out.length + 1 := by rw [ho', List.length_append]; rfl
        have hlt : us.length + vt.length < us.length + vs.length ∧ out'.length + us.length + vt.length ≤ 2097152 := by
          clear A1 A2 B1 B2 C1 C2 D1 E1 E2 E3 E4 E5 hR
          omega
        refine hR _ ⟨rv + 1, out', us, vt⟩ hlt.1 ⟨hI, hlt.2⟩ ?_
        clear A1 A2 B1 B2 C1 C2 D1 E1 E2 E3 E4 E5
        (refine ⟨?_, ?_, ?_, ?_⟩ <;> cbv <;> repeat' (first | trivial | exact EqX.rfl' | exact EqO.rfl' | apply And.intro | ((try clear hR3); (try clear hR2); (try clear hR); (try clear hK); (try simp only [ncCast] at *); (try simp only [castI_eq] at *); refine EqX.i ?_; (try rw [ho]); (try dsimp only [Ar.real, IX.vo, IX.val, BX.val, IX.toN]); (try simp only [QP1, QB7]); (repeat rw [wrap_i64 (by omega) (by omega)]); omega) | (refine EqO.snoc ho Part.X _ _ _ _ rfl ho' ?_; rw [ho]; rfl) | (exact EqX.ro (rows_tail ho hut)) | (exact EqX.ro (rows_tail ho hvt))))
      · rw [C2 (by assumption) (by assumption) (by assumption) (by assumption) (by assumption)]
        exact FinX_rb rows_nil_Part rfl
      · rw [ho]
        refine sl1 _ ?_
        first | exact P1 (by assumption) | exact P2 (by assumption) | exact P3 (by assumption)
      · rw [ho]
        refine sl1 _ ?_
        first | exact P1 (by assumption) | exact P2 (by assumption) | exact P3 (by assumption)
      · obtain ⟨hI, hpos⟩ := C1 (by assumption) (by assumption) (by assumption) (by assumption) (by assumption)
        obtain ⟨out', ho'⟩ : ∃ q, q = out ++ [(⟨(us.getD 0 default).kind, (us.getD 0 default).role, q1⟩ : Part)] := ⟨_, rfl⟩
        rw [← ho'] at hI
        have hol : out'.length = out.length + 1 := by rw [ho', List.length_append]; rfl
        have hlt : ut.length + vt.length < us.length + vs.length ∧ out'.length + ut.length + vt.length ≤ 2097152 := by
          clear A1 A2 B1 B2 C1 C2 D1 E1 E2 E3 E4 E5 hR
          omega
        refine hR _ ⟨rv + 1, out', ut, vt⟩ hlt.1 ⟨hI, hlt.2⟩ ?_
        clear A1 A2 B1 B2 C1 C2 D1 E1 E2 E3 E4 E5
        (refine ⟨?_, ?_, ?_, ?_⟩ <;> cbv <;> repeat' (first | trivial | exact EqX.rfl' | exact EqO.rfl' | apply And.intro | ((try clear hR3); (try clear hR2); (try clear hR); (try clear hK); (try simp only [ncCast] at *); (try simp only [castI_eq] at *); refine EqX.i ?_; (try rw [ho]); (try dsimp only [Ar.real, IX.vo, IX.val, BX.val, IX.toN]); (try simp only [QP1, QB7]); (repeat rw [wrap_i64 (by omega) (by omega)]); omega) | (refine EqO.snoc ho Part.X _ _ _ _ rfl ho' ?_; rw [ho]; rfl) | (exact EqX.ro (rows_tail ho hut)) | (exact EqX.ro (rows_tail ho hvt))))
      · rw [ho]
        refine sl1 _ ?_
        first | exact P1 (by assumption) | exact P2 (by assumption) | exact P3 (by assumption)
      · obtain ⟨hI, hpos⟩ := B1 (by assumption) (by assumption)
        obtain ⟨out', ho'⟩ : ∃ q, q = out ++ [vs.getD 0 default] := ⟨_, rfl⟩
        rw [← ho'] at hI
        have hol : out'.length = out.length + 1 := by rw [ho', List.length_append]; rfl
        have hlt : us.length + vt.length < us.length + vs.length ∧ out'.length + us.length + vt.length ≤ 2097152 := by
          clear A1 A2 B1 B2 C1 C2 D1 E1 E2 E3 E4 E5 hR
          omega
        refine hR _ ⟨rv + 1, out', us, vt⟩ hlt.1 ⟨hI, hlt.2⟩ ?_
        clear A1 A2 B1 B2 C1 C2 D1 E1 E2 E3 E4 E5
        (refine ⟨?_, ?_, ?_, ?_⟩ <;> cbv <;> repeat' (first | trivial | exact EqX.rfl' | exact EqO.rfl' | apply And.intro | ((try clear hR3); (try clear hR2); (try clear hR); (try clear hK); (try simp only [ncCast] at *); (try simp only [castI_eq] at *); refine EqX.i ?_; (try rw [ho]); (try dsimp only [Ar.real, IX.vo, IX.val, BX.val, IX.toN]); (try simp only [QP1, QB7]); (repeat rw [wrap_i64 (by omega) (by omega)]); omega) | (refine EqO.snoc ho Part.X _ _ _ _ rfl ho' ?_; rw [ho]; rfl) | (exact EqX.ro (rows_tail ho hut)) | (exact EqX.ro (rows_tail ho hvt))))
      · rw [D1 (by assumption) (by assumption)]
        exact FinX_rb (by rw [ho]) rfl
  · rw [if_neg h0]
    generalize vecRight a = va at *
    generalize vecRight b = vb at *
    (refine XC.of_body (dt43) Try.func43 rfl Try.ntmps43 mixed (T := tl43) tk43 (by kernel_rfl) (by simp) rfl rfl rfl rfl rfl ?_; rintro o ho P hP c K hK; have hm : P.follows .mixedOrders = true := hP ▸ mixed; have hT : TOk P tl43 := hP ▸ tk43; (try rw [← ho]); cbv; (repeat (refine StopN.mk ?_; cbv)))
    rw [← ho] at hxa hxb
    repeat' (first | (refine Br.mk (fun hb => ?_) (fun hb => ?_) <;> ((try rw [ho] at hb); (try dsimp only [Ar.real, IX.vo] at hb); (try simp only [QP1, QB7] at hb); (try simp only [QBo, beq_iff_eq, beq_eq_false_iff_ne, ne_eq] at hb))) | (refine StopN.mk ?_; cbv) | ((first | refine CallI.pure hP hxa fn33 rfl rfl rfl ?_ | refine CallI.pure hP hxb fn33 rfl rfl rfl ?_); cbv) | ((first | refine CallI.pure hP (x_vec_of _ _ _) fn61 (by first | rfl | (rw [ho]; try rfl)) (by rfl) (by first | rfl | (rw [ho]; try rfl)) ?_ | refine CallN.pure hP (x_vec_of _ _ _) fn61 (by first | rfl | (rw [ho]; try rfl)) (by rfl) (by first | rfl | (rw [ho]; try rfl)) ?_); (try rw [← ho]); cbv) | ((first | refine CallI.pure hP (x_slot_Cmp _ _ _ _) fn63 (by first | rfl | (rw [ho]; try rfl)) (by rfl) (by first | rfl | (rw [ho]; try rfl)) ?_ | refine CallN.pure hP (x_slot_Cmp _ _ _ _) fn63 (by first | rfl | (rw [ho]; try rfl)) (by rfl) (by first | rfl | (rw [ho]; try rfl)) ?_); (try rw [← ho]); generalize hr : slotCmp _ _ _ _ = r; (try rw [ho] at hr); (try dsimp only [Ar.real, IX.vo] at hr); (try simp only [QP1, QB7] at hr); cbv) | ((first | refine CallI.pure hP (x_qAdd _ _) fn69 (by first | rfl | (rw [ho]; try rfl)) (by rfl) (by first | rfl | (rw [ho]; try rfl)) ?_ | refine CallN.pure hP (x_qAdd _ _) fn69 (by first | rfl | (rw [ho]; try rfl)) (by rfl) (by first | rfl | (rw [ho]; try rfl)) ?_); (try rw [← ho]); cbv) | (refine hK _ _ ?_) | (refine NeedT.mk ?_ ?_))
    · exact FinX_rb rows_nil_Part rfl
    · exact FinX_rb rows_nil_Part rfl
    · exact absurd ⟨by assumption, by assumption⟩ h0
end Go.Proofs.Ytpijibffjohikaa.Sy
namespace Go.Proofs.Ytpijibffjohikaa.Sy
open Go Go.Sy Go.Proofs.Ytpijibffjohikaa
def encPV (o : Ar) (v : List Part) : X := .ro (SL o Part.X v)
theorem cleanPV : Go.Sy.Clean encPV := fun _ => rfl
def getL (ms : List (List Int × List Part)) (g : Int) : List Part := (lkp ms [g]).getD []
theorem up_eq9 {a b : OX} {l r : List OX} (h : ∀ c, EqO c a b) (hr : upL l r) : upL (a :: l) (b :: r) := ⟨fun c => by obtain ⟨e⟩ := h c; rw [e]; exact upO_refl _, hr⟩
structure LgS where
  ver : Nat
  good : Bool
  ms : List (List Int × List Part)
  hn : (ms.map (·.1)).Nodup
@[reducible] def LgS.O (o : Ar) (ho : o = Ar.real) (s : LgS) : List OX := [.var [.mp (.out 2)] 89, .var [xb s.good] 4, .map s.ver false 1 (MT o ho encPV cleanPV s.ms s.hn)]
structure LgS.Add (s s' : LgS) (g : Int) (v : List Part) : Prop where
  ver : s'.ver = s.ver + 1
  good : s'.good = (s.good && (addV (getL s.ms g) v).2)
  ms : s'.ms = putp s.ms [g] (addV (getL s.ms g) v).1
theorem x_ledAdd (o : Ar) (ho : o = Ar.real) (s s' : LgS) (g : Int) (v : List Part) (hs : s.Add s' g v) (hv : v.length ≤ 1048576) (hl : (getL s.ms g).length ≤ 1048576) :
    XC Try.prog 42 [xi g, .ro (SL o Part.X v), .ptr (.out 0) 0, .ptr (.out 1) 0] (s.O o ho) (.tup []) (s'.O o ho) := by
  have h1 := x_vecAdd (getL s.ms g) v hl hv
  obtain ⟨ver, good, ms, hn⟩ := s
  obtain ⟨ver', good', ms', hn'⟩ := s'
  obtain ⟨hs1, hs2, hs3⟩ := hs
  dsimp only at *
  have e1 : (lkp ms [g]).getD default = getL ms g := rfl
  have e2 : lkp ms [g] = none → getL ms g = [] := fun h => by unfold getL; rw [h]; rfl
  generalize getL ms g = w at *
  generalize addV w v = q at *
  obtain ⟨q1, q2⟩ := q
  dsimp only at *
  (refine XC.of_body ([]) Try.func42 rfl Try.ntmps42 mixed (T := tl42) tk42 (by kernel_rfl) (by simp) rfl rfl rfl rfl rfl ?_; rintro o2 ho2 P hP c K hK; have hm : P.follows .mixedOrders = true := hP ▸ mixed; have hT : TOk P tl42 := hP ▸ tk42; (try rw [← ho2]); have e2 : o = o2 := ho.trans ho2.symm; subst e2; cbv; (repeat (refine StopN.mk ?_; cbv)))
  have eg : o.mgetT ms [g] = w := by rw [ho, real_mgetT]; exact e1
  rw [← ho] at h1
  repeat' (first | (refine Br.mk (fun hb => ?_) (fun hb => ?_) <;> ((try rw [ho] at hb); (try dsimp only [Ar.real, IX.vo] at hb); (try simp only [QP1, QB7] at hb); (try simp only [QBo, beq_iff_eq, beq_eq_false_iff_ne, ne_eq] at hb))) | (refine StopN.mk ?_; cbv) | (refine hK _ _ ?_) | (refine NeedT.mk ?_ ?_) | (exact fn43))
  · refine CallI.pure hP h1 fn43 rfl rfl (by rw [← eg]) ?_
    cbv
    repeat' (first | (refine Br.mk (fun hb => ?_) (fun hb => ?_) <;> ((try rw [ho] at hb); (try dsimp only [Ar.real, IX.vo] at hb); (try simp only [QP1, QB7] at hb); (try simp only [QBo, beq_iff_eq, beq_eq_false_iff_ne, ne_eq] at hb))) | (refine StopN.mk ?_; cbv) | (refine CallI.pure hP (x_vecAdd _ _ ‹_› ‹_›) fn43 (by first | rfl | (rw [ho]; try rfl)) (by rfl) (by first | rfl | (rw [ho]; try rfl)) ?_; (try rw [← ho]); generalize hr : addV _ _ = r; (try rw [ho] at hr); (try dsimp only [Ar.real, IX.vo] at hr); (try simp only [QP1, QB7] at hr); cbv) | (refine hK _ _ ?_) | (refine NeedT.mk ?_ ?_))
    · refine ⟨fun _ => rfl, up_eq9 (fun c => .rfl') (up_eq9 (fun c => ⟨by rw [hs2, hb]; rfl⟩) (up_eq9 (fun c => EqO.map hs1.symm (MT_put' ho encPV cleanPV ms hn ms' hn' c _ _ q1 _ rfl (by rw [ho]; rfl) hs3)) trivial))⟩
    · refine ⟨fun _ => rfl, up_eq9 (fun c => .rfl') (up_eq9 (fun c => ⟨by rw [hs2, hb]; rfl⟩) (up_eq9 (fun c => EqO.map hs1.symm (MT_put' ho encPV cleanPV ms hn ms' hn' c _ _ q1 _ rfl (by rw [ho]; rfl) hs3)) trivial))⟩
  · have hw : w = [] := e2 (mhas_none9 encPV ms _ (by assumption))
    refine CallI.pure hP h1 fn43 rfl rfl (by rw [hw, ho]; rfl) ?_
    cbv
    repeat' (first | (refine Br.mk (fun hb => ?_) (fun hb => ?_) <;> ((try rw [ho] at hb); (try dsimp only [Ar.real, IX.vo] at hb); (try simp only [QP1, QB7] at hb); (try simp only [QBo, beq_iff_eq, beq_eq_false_iff_ne, ne_eq] at hb))) | (refine StopN.mk ?_; cbv) | (refine CallI.pure hP (x_vecAdd _ _ ‹_› ‹_›) fn43 (by first | rfl | (rw [ho]; try rfl)) (by rfl) (by first | rfl | (rw [ho]; try rfl)) ?_; (try rw [← ho]); generalize hr : addV _ _ = r; (try rw [ho] at hr); (try dsimp only [Ar.real, IX.vo] at hr); (try simp only [QP1, QB7] at hr); cbv) | (refine hK _ _ ?_) | (refine NeedT.mk ?_ ?_))
    · refine ⟨fun _ => rfl, up_eq9 (fun c => .rfl') (up_eq9 (fun c => ⟨by rw [hs2, hb]; rfl⟩) (up_eq9 (fun c => EqO.map hs1.symm (MT_put' ho encPV cleanPV ms hn ms' hn' c _ _ q1 _ rfl (by rw [ho]; rfl) hs3)) trivial))⟩
    · refine ⟨fun _ => rfl, up_eq9 (fun c => .rfl') (up_eq9 (fun c => ⟨by rw [hs2, hb]; rfl⟩) (up_eq9 (fun c => EqO.map hs1.symm (MT_put' ho encPV cleanPV ms hn ms' hn' c _ _ q1 _ rfl (by rw [ho]; rfl) hs3)) trivial))⟩
@[reducible] def LgS.O2 (o : Ar) (ho : o = Ar.real) (s : LgS) : List OX := [.var [.mp (.out 1)] 89, .map s.ver false 1 (MT o ho encPV cleanPV s.ms s.hn)]
theorem x_ledSame (o : Ar) (ho : o = Ar.real) (s : LgS) (a : Agt) (hv : a.total.length ≤ 1048576) (hl : (getL s.ms a.id).length ≤ 1048576) :
    XC Try.prog 45 [.agg (Agt.X o a), .ptr (.out 0) 0] (s.O2 o ho) (xb (!vEq (getL s.ms a.id) a.total)) (s.O2 o ho) := by
  have h1 := x_SameV (getL s.ms a.id) a.total ⟨hl, hv⟩
  obtain ⟨ver, good, ms, hn⟩ := s
  obtain ⟨g, tot, free⟩ := a
  dsimp only at *
  have e1 : (lkp ms [g]).getD default = getL ms g := rfl
  have e2 : lkp ms [g] = none → getL ms g = [] := fun h => by unfold getL; rw [h]; rfl
  generalize getL ms g = w at *
  generalize vEq w tot = q at *
  (refine XC.of_body ([]) Try.func45 rfl Try.ntmps45 mixed (T := tl45) tk45 (by kernel_rfl) (by simp) rfl rfl rfl rfl rfl ?_; rintro o2 ho2 P hP c K hK; have hm : P.follows .mixedOrders = true := hP ▸ mixed; have hT : TOk P tl45 := hP ▸ tk45; (try rw [← ho2]); have e2 : o = o2 := ho.trans ho2.symm; subst e2; cbv; (repeat (refine StopN.mk ?_; cbv)))
  have eg : o.mgetT ms [g] = w := by rw [ho, real_mgetT]; exact e1
  rw [← ho] at h1
  repeat' (first | (refine Br.mk (fun hb => ?_) (fun hb => ?_) <;> ((try rw [ho] at hb); (try dsimp only [Ar.real, IX.vo] at hb); (try simp only [QP1, QB7] at hb); (try simp only [QBo, beq_iff_eq, beq_eq_false_iff_ne, ne_eq] at hb))) | (refine StopN.mk ?_; cbv) | (refine hK _ _ ?_) | (refine NeedT.mk ?_ ?_) | (exact fn46))
  · refine CallI.pure hP h1 fn46 rfl rfl (by rw [← eg]) ?_
    cbv
    repeat' (first | (refine Br.mk (fun hb => ?_) (fun hb => ?_) <;> ((try rw [ho] at hb); (try dsimp only [Ar.real, IX.vo] at hb); (try simp only [QP1, QB7] at hb); (try simp only [QBo, beq_iff_eq, beq_eq_false_iff_ne, ne_eq] at hb))) | (refine StopN.mk ?_; cbv) | (refine CallI.pure hP (x_SameV _ _ ‹_›) fn46 (by first | rfl | (rw [ho]; try rfl)) (by rfl) (by first | rfl | (rw [ho]; try rfl)) ?_; (try rw [← ho]); generalize hr : vEq _ _ = r; (try rw [ho] at hr); (try dsimp only [Ar.real, IX.vo] at hr); (try simp only [QP1, QB7] at hr); cbv) | (refine hK _ _ ?_) | (refine NeedT.mk ?_ ?_))
    refine FinX_bOr ?_ rfl
    rw [ho]
    rfl
  · have hw : w = [] := e2 (mhas_none9 encPV ms _ (by assumption))
    refine CallI.pure hP h1 fn46 rfl rfl (by rw [hw, ho]; rfl) ?_
    cbv
    repeat' (first | (refine Br.mk (fun hb => ?_) (fun hb => ?_) <;> ((try rw [ho] at hb); (try dsimp only [Ar.real, IX.vo] at hb); (try simp only [QP1, QB7] at hb); (try simp only [QBo, beq_iff_eq, beq_eq_false_iff_ne, ne_eq] at hb))) | (refine StopN.mk ?_; cbv) | (refine CallI.pure hP (x_SameV _ _ ‹_›) fn46 (by first | rfl | (rw [ho]; try rfl)) (by rfl) (by first | rfl | (rw [ho]; try rfl)) ?_; (try rw [← ho]); generalize hr : vEq _ _ = r; (try rw [ho] at hr); (try dsimp only [Ar.real, IX.vo] at hr); (try simp only [QP1, QB7] at hr); cbv) | (refine hK _ _ ?_) | (refine NeedT.mk ?_ ?_))
    refine FinX_bOr ?_ rfl
    rw [ho]
    rfl
theorem x_ixLed (o : Ar) (ho : o = Ar.real) (s : LgS) (l : List Agt) (hl : l.length ≤ 1048576) (h1 : ∀ i, (l.getD i default).total.length ≤ 1048576) (h2 : ∀ i, (getL s.ms (l.getD i default).id).length ≤ 1048576) :
    XC Try.prog 55 [.ro (SL o Agt.X l), .fn (.func 45) [] [.ptr (.out 0) 0]] (s.O2 o ho) (xi (ixR (fun a : Agt => !vEq (getL s.ms a.id) a.total) l)) (s.O2 o ho) := by
  have hq := fun i => x_ledSame o ho s (l.getD i default) (h1 i) (h2 i)
  have k1 := fun i => ixR_hit (q := fun a : Agt => !vEq (getL s.ms a.id) a.total) (l := l) (i := i)
  have k2 := ixR_none (q := fun a : Agt => !vEq (getL s.ms a.id) a.total) (l := l)
  generalize ixR (fun a : Agt => !vEq (getL s.ms a.id) a.total) l = r at *
  generalize hQ : (fun a : Agt => !vEq (getL s.ms a.id) a.total) = Q at *
  have hQ' : ∀ a : Agt, (!vEq (getL s.ms a.id) a.total) = Q a := fun a => by rw [← hQ]
  simp only [hQ'] at hq k1 k2
  clear hQ hQ' h1 h2
  obtain ⟨ver, good, ms, hn⟩ := s
  (refine XC.of_body ([]) Try.func55 rfl Try.ntmps55 mixed (T := tl55) tk55 (by kernel_rfl) (by simp) rfl rfl rfl rfl rfl ?_; rintro o2 ho2 P hP c K hK; have hm : P.follows .mixedOrders = true := hP ▸ mixed; have hT : TOk P tl55 := hP ▸ tk55; (try rw [← ho2]); have e2 : o = o2 := ho.trans ho2.symm; subst e2; cbv; (repeat (refine StopN.mk ?_; cbv)))
  refine LoopN.over (o := o) (D := []) ho hm hT (by kernel_rfl) (fun i : Nat => [(8, xn i)]) (fun _ => []) (fun _ => []) (fun i => i ≤ l.length ∧ ∀ j, j < i → Q (l.getD j default) = false) (fun i => l.length - i) 0 ⟨Nat.zero_le _, fun j hj => by omega⟩ ?_ ?_
  · (refine ⟨?_, ?_, ?_, ?_⟩ <;> cbv <;> repeat' (first | trivial | exact EqX.rfl' | exact EqO.rfl' | apply And.intro | ((try clear hR3); (try clear hR2); (try clear hR); (try clear hK); (try simp only [ncCast] at *); (try simp only [castI_eq] at *); refine EqX.i ?_; (try rw [ho]); (try dsimp only [Ar.real, IX.vo, IX.val, BX.val, IX.toN]); (try simp only [QP1, QB7]); (repeat rw [wrap_i64 (by omega) (by omega)]); omega)))
  · rintro i ⟨hi, hno⟩ R hR
    have e1 := hq i
    have e2 := k1 i
    have el : o.nth l i = l.getD i default := by rw [ho, real_nth]
    rw [← el] at e1 e2
    have e3 := fun h : Q (o.nth l i) = false => all_step hno (by rw [← el]; exact h)
    generalize Q (o.nth l i) = b at *
    cbv
    repeat' (first | (refine Br.mk (fun hb => ?_) (fun hb => ?_) <;> ((try rw [ho] at hb); (try dsimp only [Ar.real, IX.vo] at hb); (try simp only [QP1, QB7] at hb); (try simp only [QBo, beq_iff_eq, beq_eq_false_iff_ne, ne_eq] at hb))) | (refine StopN.mk ?_; cbv) | (refine CallI.objs [.out 0, .out 1] hP e1 fn45 rfl rfl rfl rfl (by rfl) rfl rfl rfl rfl (by rfl) ⟨⟨_, rfl, rfl⟩, ⟨_, rfl, rfl⟩, trivial⟩ ?_); cbv | (refine hK _ _ ?_) | (refine NeedT.mk ?_ ?_))
    any_goals (((try clear hR3); (try clear hR2); (try clear hR); (try clear hK); (try simp only [ncCast] at *); (try simp only [castI_eq] at *); (try rw [ho]); (try dsimp only [Ar.real, IX.vo, IX.val, BX.val, IX.toN]); (try simp only [QP1, QB7]); (try simp only [decide_eq_true_eq]); (all_goals (repeat rw [wrap_i64 (by omega) (by omega)])); (all_goals (first | omega | (simp only [Int.ofNat_eq_natCast]; omega)))); done)
    · rw [e2 (by assumption) hno (by assumption)]
      exact FinX_iOr rfl rfl
    · refine hR _ (i + 1) (by show l.length - (i + 1) < l.length - i; omega) ⟨by show i + 1 ≤ l.length; omega, e3 (by assumption)⟩ ?_
      (refine ⟨?_, ?_, ?_, ?_⟩ <;> cbv <;> repeat' (first | trivial | exact EqX.rfl' | exact EqO.rfl' | apply And.intro | ((try clear hR3); (try clear hR2); (try clear hR); (try clear hK); (try simp only [ncCast] at *); (try simp only [castI_eq] at *); refine EqX.i ?_; (try rw [ho]); (try dsimp only [Ar.real, IX.vo, IX.val, BX.val, IX.toN]); (try simp only [QP1, QB7]); (repeat rw [wrap_i64 (by omega) (by omega)]); omega)))
    · obtain rfl : i = l.length := by ((try clear hR3); (try clear hR2); (try clear hR); (try clear hK); (try simp only [ncCast] at *); (try simp only [castI_eq] at *)); omega
      rw [k2 hno]
      exact FinX_iOr rfl rfl
theorem x_ctLed (o : Ar) (ho : o = Ar.real) (s : LgS) (l : List Agt) (hl : l.length ≤ 1048576) (h1 : ∀ i, (l.getD i default).total.length ≤ 1048576) (h2 : ∀ i, (getL s.ms (l.getD i default).id).length ≤ 1048576) :
    XC Try.prog 44 [.ro (SL o Agt.X l), .fn (.func 45) [] [.ptr (.out 0) 0]] (s.O2 o ho) (xb (decide (0 ≤ ixR (fun a : Agt => !vEq (getL s.ms a.id) a.total) l))) (s.O2 o ho) := by
  have hI := x_ixLed o ho s l hl h1 h2
  generalize ixR (fun a : Agt => !vEq (getL s.ms a.id) a.total) l = r at *
  obtain ⟨ver, good, ms, hn⟩ := s
  (refine XC.of_body ([]) Try.func44 rfl Try.ntmps44 mixed (T := tl44) tk44 (by kernel_rfl) (by simp) rfl rfl rfl rfl rfl ?_; rintro o2 ho2 P hP c K hK; have hm : P.follows .mixedOrders = true := hP ▸ mixed; have hT : TOk P tl44 := hP ▸ tk44; (try rw [← ho2]); have e2 : o = o2 := ho.trans ho2.symm; subst e2; cbv; (repeat (refine StopN.mk ?_; cbv)))
  repeat' (first | (refine Br.mk (fun hb => ?_) (fun hb => ?_) <;> ((try rw [ho] at hb); (try dsimp only [Ar.real, IX.vo] at hb); (try simp only [QP1, QB7] at hb); (try simp only [QBo, beq_iff_eq, beq_eq_false_iff_ne, ne_eq] at hb))) | (refine StopN.mk ?_; cbv) | (refine CallI.objs [.out 0, .out 1] hP hI fn55 rfl rfl rfl rfl (by rfl) rfl rfl rfl rfl (by rfl) ⟨⟨_, rfl, rfl⟩, ⟨_, rfl, rfl⟩, trivial⟩ ?_; cbv) | (refine hK _ _ ?_) | (refine NeedT.mk ?_ ?_))
  refine FinX_bOr ?_ rfl
  rw [ho]
  rfl
end Go.Proofs.Ytpijibffjohikaa.Sy
namespace Go.Proofs.Ytpijibffjohikaa.Sy
open Go Go.Sy Go.Proofs.Ytpijibffjohikaa
theorem slotCmp_lt {x y : Part} : slotCmp x.kind x.role y.kind y.role < 0 ↔ sl x y := by
  unfold slotCmp sl
  repeat' split
  all_goals omega
theorem slotCmp_gt {x y : Part} : 0 < slotCmp x.kind x.role y.kind y.role ↔ sl y x := by
  unfold slotCmp sl
  repeat' split
  all_goals omega
theorem slotCmp_eq {x y : Part} (h : ¬ slotCmp x.kind x.role y.kind y.role < 0) (h' : ¬ 0 < slotCmp x.kind x.role y.kind y.role) : x.kind = y.kind ∧ x.role = y.role := by
  unfold slotCmp at h h'
  repeat' split at h
  all_goals (repeat' split at h')
  all_goals omega
theorem qAdd_iff {a b : Int} (h : (qAdd a b).2 = true) : (0 ≤ a ∧ 0 ≤ b ∧ a + b ≤ 9007199254740992) ∧ (qAdd a b).1 = a + b := by
  unfold qAdd at h ⊢
  split at h
  · rename_i h1
    rw [if_pos h1]
    exact ⟨⟨h1.1.1, h1.2.1, by omega⟩, rfl⟩
  · cases h
def sls (p q : Part) : Prop := p.kind = q.kind ∧ p.role = q.role
theorem sl_of {p q r : Part} (h : sl p q) (e : sls r q) : sl p r := by
  unfold sl sls at *
  omega
theorem mrg_ok : ∀ (us vs l : List Part), VOk us → VOk vs → mrg us vs = some l → VOk l ∧ ∀ p ∈ l, ∃ q, (q ∈ us ∨ q ∈ vs) ∧ sls p q
  | [], vs, l, hu, hv, h => by
    rw [mrg] at h
    cases h
    exact ⟨hv, fun p hp => ⟨p, .inr hp, rfl, rfl⟩⟩
  | x :: us, [], l, hu, hv, h => by
    rw [mrg] at h
    cases h
    exact ⟨hu, fun p hp => ⟨p, .inl hp, rfl, rfl⟩⟩
  | x :: us, y :: vs, l, hu, hv, h => by
    have hxu := (List.pairwise_cons.1 hu.up).1
    have hyv := (List.pairwise_cons.1 hv.up).1
    rw [mrg] at h
    split at h
    · rename_i h1
      rw [slotCmp_lt] at h1
      cases hm : mrg us (y :: vs) with
      | none => rw [hm] at h; cases h
      | some m =>
        rw [hm] at h
        cases h
        obtain ⟨i1, i2⟩ := mrg_ok us (y :: vs) m hu.tail hv hm
        refine ⟨⟨fun p hp => ?_, List.pairwise_cons.2 ⟨fun p hp => ?_, i1.up⟩⟩, fun p hp => ?_⟩
        · rcases List.mem_cons.1 hp with rfl | hp
          · exact hu.ok _ List.mem_cons_self
          · exact i1.ok p hp
        · obtain ⟨q, hq, hs⟩ := i2 p hp
          refine sl_of ?_ hs
          rcases hq with hq | hq
          · exact hxu q hq
          · rcases List.mem_cons.1 hq with rfl | hq
            · exact h1
            · exact sl_trans h1 (hyv q hq)
        · rcases List.mem_cons.1 hp with rfl | hp
          · exact ⟨p, .inl List.mem_cons_self, rfl, rfl⟩
          · obtain ⟨q, hq, hs⟩ := i2 p hp
            exact ⟨q, hq.imp (List.mem_cons_of_mem _) id, hs⟩
    · rename_i h1
      split at h
      · rename_i h2
        rw [slotCmp_gt] at h2
        cases hm : mrg (x :: us) vs with
        | none => rw [hm] at h; cases h
        | some m =>
          rw [hm] at h
          cases h
          obtain ⟨i1, i2⟩ := mrg_ok (x :: us) vs m hu hv.tail hm
          refine ⟨⟨fun p hp => ?_, List.pairwise_cons.2 ⟨fun p hp => ?_, i1.up⟩⟩, fun p hp => ?_⟩
          · rcases List.mem_cons.1 hp with rfl | hp
            · exact hv.ok _ List.mem_cons_self
            · exact i1.ok p hp
          · obtain ⟨q, hq, hs⟩ := i2 p hp
            refine sl_of ?_ hs
            rcases hq with hq | hq
            · rcases List.mem_cons.1 hq with rfl | hq
              · exact h2
              · exact sl_trans h2 (hxu q hq)
            · exact hyv q hq
          · rcases List.mem_cons.1 hp with rfl | hp
            · exact ⟨p, .inr List.mem_cons_self, rfl, rfl⟩
            · obtain ⟨q, hq, hs⟩ := i2 p hp
              exact ⟨q, hq.imp id (List.mem_cons_of_mem _), hs⟩
      · rename_i h2
        obtain ⟨e1, e2⟩ := slotCmp_eq h1 h2
        split at h
        · rename_i h3
          obtain ⟨⟨a1, a2, a3⟩, a4⟩ := qAdd_iff h3
          cases hm : mrg us vs with
          | none => rw [hm] at h; cases h
          | some m =>
            rw [hm, a4] at h
            cases h
            obtain ⟨i1, i2⟩ := mrg_ok us vs m hu.tail hv.tail hm
            have hx := hu.ok x List.mem_cons_self
            have hy := hv.ok y List.mem_cons_self
            refine ⟨⟨fun p hp => ?_, List.pairwise_cons.2 ⟨fun p hp => ?_, i1.up⟩⟩, fun p hp => ?_⟩
            · rcases List.mem_cons.1 hp with rfl | hp
              · exact ⟨hx.k0, hx.k1, hx.r0, hx.r1, by have := hx.a0; have := hy.a0; show 1 ≤ x.amount + y.amount; omega, a3⟩
              · exact i1.ok p hp
            · obtain ⟨q, hq, hs⟩ := i2 p hp
              refine sl_of ?_ hs
              rcases hq with hq | hq
              · exact hxu q hq
              · have h4 := hyv q hq
                unfold sl at h4 ⊢
                dsimp only
                omega
            · rcases List.mem_cons.1 hp with rfl | hp
              · exact ⟨x, .inl List.mem_cons_self, rfl, rfl⟩
              · obtain ⟨q, hq, hs⟩ := i2 p hp
                exact ⟨q, hq.imp (List.mem_cons_of_mem _) (List.mem_cons_of_mem _), hs⟩
        · cases h
termination_by us vs => us.length + vs.length
theorem VOk.nil : VOk [] := ⟨fun p hp => by simp at hp, List.Pairwise.nil⟩
theorem addV_ok (a b : List Part) : VOk (addV a b).1 := by
  unfold addV
  split
  · rename_i h
    cases hm : mrg a b with
    | none => exact VOk.nil
    | some l => exact (mrg_ok a b l ((vecRight_iff a).1 h.1) ((vecRight_iff b).1 h.2) hm).1
  · exact VOk.nil
theorem VOk.len_from {v : List Part} (h : VOk v) : ∀ (n : Int), (∀ p ∈ v, n ≤ p.kind * 33 + p.role) → n ≤ 132 → (v.length : Int) ≤ 132 - n := by
  induction v with
  | nil => intro n _ hn; simp; omega
  | cons x v ih =>
    intro n hlo hn
    have hx := h.ok x List.mem_cons_self
    have h1 := hlo x List.mem_cons_self
    have k1 := hx.k1
    have k0 := hx.k0
    have r0 := hx.r0
    have r1 := hx.r1
    have := ih h.tail (x.kind * 33 + x.role + 1) (fun p hp => by
      have h2 := (List.pairwise_cons.1 h.up).1 p hp
      have hp0 := h.ok p (List.mem_cons_of_mem _ hp)
      have := hp0.r0
      unfold sl at h2
      omega) (by omega)
    simp only [List.length_cons]
    omega
theorem VOk.len {v : List Part} (h : VOk v) : v.length ≤ 132 := by
  have := h.len_from 0 (fun p hp => by have := (h.ok p hp).k0; have := (h.ok p hp).r0; omega) (by decide)
  omega
end Go.Proofs.Ytpijibffjohikaa.Sy
namespace Go.Proofs.Ytpijibffjohikaa.Sy
open Go Go.Sy Go.Proofs.Ytpijibffjohikaa
abbrev LM := Bool × List (List Int × List Part)
def lmAdd (s : LM) (g : Int) (v : List Part) : LM := (s.1 && (addV (getL s.2 g) v).2, putp s.2 [g] (addV (getL s.2 g) v).1)
def lmA (l : List Agt) : Nat → LM
  | 0 => (true, [])
  | i + 1 => lmAdd (lmA l i) (l.getD i default).id (l.getD i default).free
def lmO (s : LM) (l : List Ofr) : Nat → LM
  | 0 => s
  | i + 1 => lmAdd (lmO s l i) (l.getD i default).agent (l.getD i default).vec
def lmT (s : LM) (l : List Tsk) : Nat → LM
  | 0 => s
  | i + 1 => lmAdd (lmT s l i) (l.getD i default).agent (l.getD i default).vec
def lmAll (b : Bk) : LM := lmT (lmO (lmA b.ag b.ag.length) b.of b.of.length) b.tk b.tk.length
def ledBad (s : LM) (l : List Agt) : Int := ixR (fun a : Agt => !vEq (getL s.2 a.id) a.total) l
def ledgerB (b : Bk) : Bool := (lmAll b).1 && !decide (0 ≤ ledBad (lmAll b) b.ag)
def LMok (s : LM) : Prop := ∀ g, VOk (getL s.2 g)
theorem LMok.add {s : LM} (h : LMok s) (g : Int) (v : List Part) : LMok (lmAdd s g v) := fun g' => by
  unfold lmAdd getL
  dsimp only
  rw [lkp_put]
  split
  · exact addV_ok _ _
  · exact h g'
theorem lmA_ok (l : List Agt) : ∀ i, LMok (lmA l i)
  | 0 => fun g => VOk.nil
  | i + 1 => (lmA_ok l i).add _ _
theorem lmO_ok {s : LM} (h : LMok s) (l : List Ofr) : ∀ i, LMok (lmO s l i)
  | 0 => h
  | i + 1 => (lmO_ok h l i).add _ _
theorem lmT_ok {s : LM} (h : LMok s) (l : List Tsk) : ∀ i, LMok (lmT s l i)
  | 0 => h
  | i + 1 => (lmT_ok h l i).add _ _
theorem LMok.len {s : LM} (h : LMok s) (g : Int) : (getL s.2 g).length ≤ 1048576 := by
  have := (h g).len
  omega
structure StLg where
  i : Nat
  s : LgS
theorem lg_next (s : LgS) (g : Int) (v : List Part) : ∃ s' : LgS, s.Add s' g v ∧ (s'.good, s'.ms) = lmAdd (s.good, s.ms) g v := ⟨⟨s.ver + 1, _, _, nodup_put s.hn _ _⟩, ⟨rfl, rfl, rfl⟩, rfl⟩
theorem x_bledger (b : Bk) (hbk : BkOk b) : XC Try.prog 21 [.agg (Bk.X Ar.real b)] [] (xb (ledgerB b)) [] := by
  have n1 := hbk.n_ag
  have n2 := hbk.n_of
  have n3 := hbk.n_tk
  have l0 := hbk.a1
  have l1 := hbk.a2
  have l2 := hbk.o1
  have l3 := hbk.t1
  have oA := lmA_ok b.ag
  have oO := lmO_ok (oA b.ag.length) b.of
  have oT := lmT_ok (oO b.of.length) b.tk
  have a0 : lmA b.ag 0 = (true, []) := rfl
  have a1 : ∀ i, lmA b.ag (i + 1) = lmAdd (lmA b.ag i) (b.ag.getD i default).id (b.ag.getD i default).free := fun _ => rfl
  have b0 : lmO (lmA b.ag b.ag.length) b.of 0 = lmA b.ag b.ag.length := rfl
  have b1 : ∀ i, lmO (lmA b.ag b.ag.length) b.of (i + 1) = lmAdd (lmO (lmA b.ag b.ag.length) b.of i) (b.of.getD i default).agent (b.of.getD i default).vec := fun _ => rfl
  have c0 : lmT (lmO (lmA b.ag b.ag.length) b.of b.of.length) b.tk 0 = lmO (lmA b.ag b.ag.length) b.of b.of.length := rfl
  have c1 : ∀ i, lmT (lmO (lmA b.ag b.ag.length) b.of b.of.length) b.tk (i + 1) = lmAdd (lmT (lmO (lmA b.ag b.ag.length) b.of b.of.length) b.tk i) (b.tk.getD i default).agent (b.tk.getD i default).vec := fun _ => rfl
  have hres : ledgerB b = ((lmT (lmO (lmA b.ag b.ag.length) b.of b.of.length) b.tk b.tk.length).1 && !decide (0 ≤ ledBad (lmT (lmO (lmA b.ag b.ag.length) b.of b.of.length) b.tk b.tk.length) b.ag)) := rfl
  generalize ledgerB b = r at *
  generalize lmT (lmO (lmA b.ag b.ag.length) b.of b.of.length) b.tk = MT3 at *
  generalize lmO (lmA b.ag b.ag.length) b.of = MO at *
  generalize lmA b.ag = MA at *
  obtain ⟨⟨k1, k2, k3, k4, k5, ⟨k6, k7, k8, k9⟩⟩, now, last, fr, ag, of, tk, fl⟩ := b
  dsimp only at *
  clear hbk
  (refine XC.of_body ([]) Try.func21 rfl Try.ntmps21 mixed (T := tl21) tk21 (by kernel_rfl) (by simp) rfl rfl rfl rfl rfl ?_; rintro o ho P hP c K hK; have hm : P.follows .mixedOrders = true := hP ▸ mixed; have hT : TOk P tl21 := hP ▸ tk21; (try rw [← ho]); cbv; (repeat (refine StopN.mk ?_; cbv)))
  refine LoopN.over (o := o) (D := []) ho hm hT (by kernel_rfl) (fun s : StLg => [(18, xn s.i)]) (fun s => [(3, .var [xb s.s.good] 4), (1, .map s.s.ver false 1 (MT o ho encPV cleanPV s.s.ms s.s.hn))]) (fun _ => []) (fun s => s.i ≤ ag.length ∧ (s.s.good, s.s.ms) = MA s.i) (fun s => ag.length - s.i) ⟨0, 0, true, [], by simp⟩ ⟨Nat.zero_le _, a0.symm⟩ ?_ ?_
  · (refine ⟨?_, ?_, ?_, ?_⟩ <;> cbv <;> repeat' (first | trivial | exact EqX.rfl' | exact EqO.rfl' | apply And.intro | ((try clear hR3); (try clear hR2); (try clear hR); (try clear hK); (try simp only [ncCast] at *); (try simp only [castI_eq] at *); refine EqX.i ?_; (try rw [ho]); (try dsimp only [Ar.real, IX.vo, IX.val, BX.val, IX.toN]); (try simp only [QP1, QB7]); (repeat rw [wrap_i64 (by omega) (by omega)]); omega) | exact EqO.map rfl (MT_nil ho encPV cleanPV c) | exact ⟨rfl⟩))
  · rintro ⟨i, s⟩ ⟨hi, hs⟩ R hR
    dsimp only at hi hs
    have ei : o.nth ag i = ag.getD i default := by rw [ho, real_nth]
    obtain ⟨s', hadd, hs'⟩ := lg_next s (ag.getD i default).id (ag.getD i default).free
    have hlen := (oA i).len (ag.getD i default).id
    rw [← hs] at hlen
    have hL := x_ledAdd o ho s s' (ag.getD i default).id (ag.getD i default).free hadd (l1 i) hlen
    rw [hs, ← a1] at hs'
    rw [← ei] at hL
    obtain ⟨ver, good, ms, hn⟩ := s
    obtain ⟨ver', good', ms', hn'⟩ := s'
    clear hadd hlen
    dsimp only at hs hs'
    cbv
    repeat' (first | (refine Br.mk (fun hb => ?_) (fun hb => ?_) <;> ((try rw [ho] at hb); (try dsimp only [Ar.real, IX.vo] at hb); (try simp only [QP1, QB7] at hb); (try simp only [QBo, beq_iff_eq, beq_eq_false_iff_ne, ne_eq] at hb))) | (refine StopN.mk ?_; cbv) | (refine CallI.objs [.loc 2, .loc 3, .loc 1] hP hL fn42 rfl rfl rfl rfl (by rfl) rfl rfl rfl rfl (by rfl) ⟨⟨_, rfl, rfl⟩, ⟨_, rfl, rfl⟩, ⟨_, rfl, rfl⟩, trivial⟩ ?_); cbv | (refine hK _ _ ?_) | (refine NeedT.mk ?_ ?_))
    any_goals (((try clear hR3); (try clear hR2); (try clear hR); (try clear hK); (try simp only [ncCast] at *); (try simp only [castI_eq] at *); (try rw [ho]); (try dsimp only [Ar.real, IX.vo, IX.val, BX.val, IX.toN]); (try simp only [QP1, QB7]); (try simp only [decide_eq_true_eq]); (all_goals (repeat rw [wrap_i64 (by omega) (by omega)])); (all_goals (first | omega | (simp only [Int.ofNat_eq_natCast]; omega)))); done)
    · refine hR _ ⟨i + 1, ⟨ver', good', ms', hn'⟩⟩ (by show ag.length - (i + 1) < ag.length - i; omega) ⟨by show i + 1 ≤ ag.length; omega, hs'⟩ ?_
      (refine ⟨?_, ?_, ?_, ?_⟩ <;> cbv <;> repeat' (first | trivial | exact EqX.rfl' | exact EqO.rfl' | apply And.intro | ((try clear hR3); (try clear hR2); (try clear hR); (try clear hK); (try simp only [ncCast] at *); (try simp only [castI_eq] at *); refine EqX.i ?_; (try rw [ho]); (try dsimp only [Ar.real, IX.vo, IX.val, BX.val, IX.toN]); (try simp only [QP1, QB7]); (repeat rw [wrap_i64 (by omega) (by omega)]); omega)))
    · obtain rfl : i = ag.length := by ((try clear hR3); (try clear hR2); (try clear hR); (try clear hK); (try simp only [ncCast] at *); (try simp only [castI_eq] at *)); omega
      rw [← b0] at hs
      clear hR hs' hL a0 a1 hn' oA
      refine LoopN.over (o := o) (D := []) ho hm hT (by kernel_rfl) (fun s : StLg => [(33, xn s.i)]) (fun s => [(3, .var [xb s.s.good] 4), (1, .map s.s.ver false 1 (MT o ho encPV cleanPV s.s.ms s.s.hn))]) (fun _ => []) (fun s => s.i ≤ of.length ∧ (s.s.good, s.s.ms) = MO s.i) (fun s => of.length - s.i) ⟨0, ver, good, ms, hn⟩ ⟨Nat.zero_le _, hs⟩ ?_ ?_
      · (refine ⟨?_, ?_, ?_, ?_⟩ <;> cbv <;> repeat' (first | trivial | exact EqX.rfl' | exact EqO.rfl' | apply And.intro | ((try clear hR3); (try clear hR2); (try clear hR); (try clear hK); (try simp only [ncCast] at *); (try simp only [castI_eq] at *); refine EqX.i ?_; (try rw [ho]); (try dsimp only [Ar.real, IX.vo, IX.val, BX.val, IX.toN]); (try simp only [QP1, QB7]); (repeat rw [wrap_i64 (by omega) (by omega)]); omega)))
      · rintro ⟨i, s⟩ ⟨hi, hs⟩ R hR
        dsimp only at hi hs
        have ei : o.nth of i = of.getD i default := by rw [ho, real_nth]
        obtain ⟨s', hadd, hs'⟩ := lg_next s (of.getD i default).agent (of.getD i default).vec
        have hlen := (oO i).len (of.getD i default).agent
        rw [← hs] at hlen
        have hL := x_ledAdd o ho s s' (of.getD i default).agent (of.getD i default).vec hadd (l2 i) hlen
        rw [hs, ← b1] at hs'
        rw [← ei] at hL
        obtain ⟨ver, good, ms, hn⟩ := s
        obtain ⟨ver', good', ms', hn'⟩ := s'
        clear hadd hlen
        dsimp only at hs hs'
        cbv
        repeat' (first | (refine Br.mk (fun hb => ?_) (fun hb => ?_) <;> ((try rw [ho] at hb); (try dsimp only [Ar.real, IX.vo] at hb); (try simp only [QP1, QB7] at hb); (try simp only [QBo, beq_iff_eq, beq_eq_false_iff_ne, ne_eq] at hb))) | (refine StopN.mk ?_; cbv) | (refine CallI.objs [.loc 2, .loc 3, .loc 1] hP hL fn42 rfl rfl rfl rfl (by rfl) rfl rfl rfl rfl (by rfl) ⟨⟨_, rfl, rfl⟩, ⟨_, rfl, rfl⟩, ⟨_, rfl, rfl⟩, trivial⟩ ?_); cbv | (refine hK _ _ ?_) | (refine NeedT.mk ?_ ?_))
        any_goals (((try clear hR3); (try clear hR2); (try clear hR); (try clear hK); (try simp only [ncCast] at *); (try simp only [castI_eq] at *); (try rw [ho]); (try dsimp only [Ar.real, IX.vo, IX.val, BX.val, IX.toN]); (try simp only [QP1, QB7]); (try simp only [decide_eq_true_eq]); (all_goals (repeat rw [wrap_i64 (by omega) (by omega)])); (all_goals (first | omega | (simp only [Int.ofNat_eq_natCast]; omega)))); done)
        · refine hR _ ⟨i + 1, ⟨ver', good', ms', hn'⟩⟩ (by show of.length - (i + 1) < of.length - i; omega) ⟨by show i + 1 ≤ of.length; omega, hs'⟩ ?_
          (refine ⟨?_, ?_, ?_, ?_⟩ <;> cbv <;> repeat' (first | trivial | exact EqX.rfl' | exact EqO.rfl' | apply And.intro | ((try clear hR3); (try clear hR2); (try clear hR); (try clear hK); (try simp only [ncCast] at *); (try simp only [castI_eq] at *); refine EqX.i ?_; (try rw [ho]); (try dsimp only [Ar.real, IX.vo, IX.val, BX.val, IX.toN]); (try simp only [QP1, QB7]); (repeat rw [wrap_i64 (by omega) (by omega)]); omega)))
        · obtain rfl : i = of.length := by ((try clear hR3); (try clear hR2); (try clear hR); (try clear hK); (try simp only [ncCast] at *); (try simp only [castI_eq] at *)); omega
          rw [← c0] at hs
          clear hR hs' hL b0 b1 hn' oO
          refine LoopN.over (o := o) (D := []) ho hm hT (by kernel_rfl) (fun s : StLg => [(48, xn s.i)]) (fun s => [(3, .var [xb s.s.good] 4), (1, .map s.s.ver false 1 (MT o ho encPV cleanPV s.s.ms s.s.hn))]) (fun _ => []) (fun s => s.i ≤ tk.length ∧ (s.s.good, s.s.ms) = MT3 s.i) (fun s => tk.length - s.i) ⟨0, ver, good, ms, hn⟩ ⟨Nat.zero_le _, hs⟩ ?_ ?_
          · (refine ⟨?_, ?_, ?_, ?_⟩ <;> cbv <;> repeat' (first | trivial | exact EqX.rfl' | exact EqO.rfl' | apply And.intro | ((try clear hR3); (try clear hR2); (try clear hR); (try clear hK); (try simp only [ncCast] at *); (try simp only [castI_eq] at *); refine EqX.i ?_; (try rw [ho]); (try dsimp only [Ar.real, IX.vo, IX.val, BX.val, IX.toN]); (try simp only [QP1, QB7]); (repeat rw [wrap_i64 (by omega) (by omega)]); omega)))
          · rintro ⟨i, s⟩ ⟨hi, hs⟩ R hR
            dsimp only at hi hs
            have ei : o.nth tk i = tk.getD i default := by rw [ho, real_nth]
            obtain ⟨s', hadd, hs'⟩ := lg_next s (tk.getD i default).agent (tk.getD i default).vec
            have hlen := fun g => (oT i).len g
            rw [← hs] at hlen
            have hL := x_ledAdd o ho s s' (tk.getD i default).agent (tk.getD i default).vec hadd (l3 i) (hlen _)
            have hC := x_ctLed o ho s ag n1 l0 (fun j => hlen _)
            rw [hs, ← c1] at hs'
            rw [← ei] at hL
            have hbad : ixR (fun a : Agt => !vEq (getL s.ms a.id) a.total) ag = ledBad (MT3 i) ag := by rw [← hs]; rfl
            rw [hbad] at hC
            clear hbad
            obtain ⟨ver, good, ms, hn⟩ := s
            obtain ⟨ver', good', ms', hn'⟩ := s'
            clear hadd hlen
            dsimp only at hs hs'
            have hg : (MT3 i).1 = good := by rw [← hs]
            have hlast : tk.length ≤ i → r = (good && !decide (0 ≤ ledBad (MT3 i) ag)) := fun h => by
              obtain rfl : i = tk.length := by omega
              rw [hres, hg]
            generalize decide (0 ≤ ledBad (MT3 i) ag) = lb at *
            cbv
            repeat' (first | (refine Br.mk (fun hb => ?_) (fun hb => ?_) <;> ((try rw [ho] at hb); (try dsimp only [Ar.real, IX.vo] at hb); (try simp only [QP1, QB7] at hb); (try simp only [QBo, beq_iff_eq, beq_eq_false_iff_ne, ne_eq] at hb))) | (refine StopN.mk ?_; cbv) | ((first | refine CallI.objs [.loc 2, .loc 3, .loc 1] hP hL fn42 rfl rfl rfl rfl (by rfl) rfl rfl rfl rfl (by rfl) ⟨⟨_, rfl, rfl⟩, ⟨_, rfl, rfl⟩, ⟨_, rfl, rfl⟩, trivial⟩ ?_ | refine CallI.objs [.loc 2, .loc 1] hP hC fn44 rfl rfl rfl rfl (by rfl) rfl rfl rfl rfl (by rfl) ⟨⟨_, rfl, rfl⟩, ⟨_, rfl, rfl⟩, trivial⟩ ?_); cbv) | (refine hK _ _ ?_) | (refine NeedT.mk ?_ ?_))
            any_goals (((try clear hR3); (try clear hR2); (try clear hR); (try clear hK); (try simp only [ncCast] at *); (try simp only [castI_eq] at *); (try rw [ho]); (try dsimp only [Ar.real, IX.vo, IX.val, BX.val, IX.toN]); (try simp only [QP1, QB7]); (try simp only [decide_eq_true_eq]); (all_goals (repeat rw [wrap_i64 (by omega) (by omega)])); (all_goals (first | omega | (simp only [Int.ofNat_eq_natCast]; omega)))); done)
            · refine hR _ ⟨i + 1, ⟨ver', good', ms', hn'⟩⟩ (by show tk.length - (i + 1) < tk.length - i; omega) ⟨by show i + 1 ≤ tk.length; omega, hs'⟩ ?_
              (refine ⟨?_, ?_, ?_, ?_⟩ <;> cbv <;> repeat' (first | trivial | exact EqX.rfl' | exact EqO.rfl' | apply And.intro | ((try clear hR3); (try clear hR2); (try clear hR); (try clear hK); (try simp only [ncCast] at *); (try simp only [castI_eq] at *); refine EqX.i ?_; (try rw [ho]); (try dsimp only [Ar.real, IX.vo, IX.val, BX.val, IX.toN]); (try simp only [QP1, QB7]); (repeat rw [wrap_i64 (by omega) (by omega)]); omega)))
            · rw [hlast (by assumption), hb]
              refine .b ?_
              ((try clear hR3); (try clear hR2); (try clear hR); (try clear hK); (try simp only [ncCast] at *); (try simp only [castI_eq] at *); (try rw [ho]); (try dsimp only [Ar.real, IX.vo, IX.val, BX.val, IX.toN]); (try simp only [QP1, QB7]))
              rw [Bool.true_and]
            · rw [hlast (by assumption), hb]
              exact .b rfl
end Go.Proofs.Ytpijibffjohikaa.Sy
namespace Go.Proofs.Ytpijibffjohikaa.Sy
open Go Go.Sy Go.Proofs.Ytpijibffjohikaa
theorem setB_true {b : Bk} (h : setB b = true) : cfgB b.cfg = true ∧ 0 ≤ b.now ∧ b.now ≤ b.cfg.hor ∧ 0 ≤ b.last ∧ b.last ≤ b.cfg.ids := by
  unfold setB at h
  simp only [Bool.and_eq_true, decide_eq_true_eq] at h
  exact ⟨h.1, h.2.1, h.2.2.1, h.2.2.2.1, h.2.2.2.2⟩
theorem wthB_iff {x y z : Int} : wthB x y z = true ↔ y ≤ x ∧ x ≤ z := by
  unfold wthB
  rw [Bool.and_eq_true, decide_eq_true_eq, decide_eq_true_eq]
structure CfgOk (c : Cfg) : Prop where
  m0 : 0 ≤ c.min.a ∧ c.min.a ≤ 9007199254740992
  m1 : 0 ≤ c.min.b ∧ c.min.b ≤ 9007199254740992
  m2 : 0 ≤ c.min.c ∧ c.min.c ≤ 9007199254740992
  m3 : 0 ≤ c.min.d ∧ c.min.d ≤ 9007199254740992
  hor : 0 ≤ c.hor ∧ c.hor ≤ 9007199254740992
  most : 1 ≤ c.most ∧ c.most ≤ 9007199254740992
  ids : 0 ≤ c.ids ∧ c.ids ≤ 9007199254740992
  life : 0 ≤ c.life ∧ c.life ≤ 9007199254740992
  cap : 1 ≤ c.cap ∧ c.cap ≤ 4096
theorem cfgB_iff {c : Cfg} : cfgB c = true ↔ CfgOk c := by
  unfold cfgB minB topB
  simp only [Bool.and_eq_true, wthB_iff]
  exact ⟨fun ⟨⟨a, b, c, d⟩, e, f, g, h, i⟩ => ⟨a, b, c, d, e, f, g, h, i⟩, fun ⟨a, b, c, d, e, f, g, h, i⟩ => ⟨⟨a, b, c, d⟩, e, f, g, h, i⟩⟩
noncomputable def ruleP (b : Bk) : Int :=
  if setB b = false then 1 else if framesB b = false then 2 else if agentsB b = false then 3 else if mostB b = false then 4 else if offersB b = false then 5 else if tasksB b = false then 6 else if filtersB b = false then 7 else if ledgerB b = false then 8 else 0
theorem x_Right (b : Bk) (hbk : BkOk b) : XC Try.prog 4 [.agg (Bk.X Ar.real b)] [] (.tup [xi (ruleP b), xb (decide (ruleP b = 0))]) [] := by
  have h1 := x_bset b
  have h2 := x_bframes b hbk
  have h3 := x_bagents b hbk
  have h4 := fun (e1 : setB b = true) (e3 : agentsB b = true) => x_bmost b hbk (pB_iff.1 e3).1 (cfgB_iff.1 (setB_true e1).1).most
  have h5 := fun (e1 : setB b = true) => x_boffers b hbk (by
    have h := setB_true e1
    have hc := cfgB_iff.1 h.1
    exact ⟨⟨h.2.1, Int.le_trans h.2.2.1 hc.hor.2⟩, hc.life⟩)
  have h6 := x_btasks b hbk
  have h7 := x_bfilters b hbk
  have h8 := x_bledger b hbk
  have hr : ruleP b = if setB b = false then 1 else if framesB b = false then 2 else if agentsB b = false then 3 else if mostB b = false then 4 else if offersB b = false then 5 else if tasksB b = false then 6 else if filtersB b = false then 7 else if ledgerB b = false then 8 else 0 := rfl
  generalize setB b = s1 at *
  generalize framesB b = s2 at *
  generalize agentsB b = s3 at *
  generalize mostB b = s4 at *
  generalize offersB b = s5 at *
  generalize tasksB b = s6 at *
  generalize filtersB b = s7 at *
  generalize ledgerB b = s8 at *
  generalize hq : decide (ruleP b = 0) = q at *
  generalize ruleP b = r at *
  obtain ⟨⟨k1, k2, k3, k4, k5, ⟨k6, k7, k8, k9⟩⟩, now, last, fr, ag, of, tk, fl⟩ := b
  clear hbk
  (refine XC.of_body ([]) Try.func4 rfl Try.ntmps4 mixed (T := tl4) tk4 (by kernel_rfl) (by simp) rfl rfl rfl rfl rfl ?_; rintro o ho P hP c K hK; have hm : P.follows .mixedOrders = true := hP ▸ mixed; have hT : TOk P tl4 := hP ▸ tk4; (try rw [← ho]); cbv; (repeat (refine StopN.mk ?_; cbv)))
  repeat' (first | (refine Br.mk (fun hb => ?_) (fun hb => ?_) <;> ((try rw [ho] at hb); (try dsimp only [Ar.real, IX.vo] at hb); (try simp only [QP1, QB7] at hb); (try simp only [QBo, beq_iff_eq, beq_eq_false_iff_ne, ne_eq] at hb))) | (refine StopN.mk ?_; cbv) | (first | refine NeedT.mk (by rw [ho]; rfl) ?_ | (first | refine CallI.pure hP h1 fn14 rfl rfl (by rw [ho]; rfl) ?_ | refine CallI.pure hP h2 fn15 rfl rfl (by rw [ho]; rfl) ?_ | refine CallI.pure hP h3 fn16 rfl rfl (by rw [ho]; rfl) ?_ | refine CallI.pure hP (h4 ‹_› ‹_›) fn17 rfl rfl (by rw [ho]; rfl) ?_ | refine CallI.pure hP (h5 ‹_›) fn18 rfl rfl (by rw [ho]; rfl) ?_ | refine CallI.pure hP h6 fn19 rfl rfl (by rw [ho]; rfl) ?_ | refine CallI.pure hP h7 fn20 rfl rfl (by rw [ho]; rfl) ?_ | refine CallI.pure hP h8 fn21 rfl rfl (by rw [ho]; rfl) ?_); cbv) | (refine hK _ _ ?_) | (refine NeedT.mk ?_ ?_) | (refine LoopN.lay (o := o) (D := []) 9 ho hm hT (by kernel_rfl) ?_; cbv))
  all_goals
    clear h1 h2 h3 h4 h5 h6 h7 h8 hK
    subst hq
    subst hr
    refine FinX_ib ?_ ?_
    · simp [*]
      try rfl
    · simp [*]
      try rfl
end Go.Proofs.Ytpijibffjohikaa.Sy

/-
  Books as data. Plain theorems.
-/
import Derived.Test.YtpijibffjohikaaMc
import Derived.Test.YtpijibffjohikaaMb
import Derived.Test.YtpijibffjohikaaSyZf
import Derived.Test.YtpijibffjohikaaMa
set_option linter.unusedSectionVars false
set_option maxRecDepth 100000
set_option maxHeartbeats 8000000
set_option linter.unusedVariables false
set_option linter.unusedSimpArgs false
namespace Go.Proofs.Ytpijibffjohikaa.Sy
open Go Go.Sy Go.Proofs.Ytpijibffjohikaa
structure Frm where
  id : Int
  role : Int
  weight : Int
  up : Bool
  quiet : Bool
  time : Int
  til : Int
  deriving DecidableEq
instance : Inhabited Frm := ⟨⟨0, 0, 0, false, false, 0, 0⟩⟩
def foldAFrm_id (e : Frm) := (by
  have h : PLift (e.id = e.id) := ⟨rfl⟩
  conv at h => arg 1; lhs; delta Frm.id
  exact h)
theorem foldFrm_id (e : Frm) : type_of% (foldAFrm_id e).down := (foldAFrm_id e).down
def foldAFrm_role (e : Frm) := (by
  have h : PLift (e.role = e.role) := ⟨rfl⟩
  conv at h => arg 1; lhs; delta Frm.role
  exact h)
theorem foldFrm_role (e : Frm) : type_of% (foldAFrm_role e).down := (foldAFrm_role e).down
def foldAFrm_weight (e : Frm) := (by
  have h : PLift (e.weight = e.weight) := ⟨rfl⟩
  conv at h => arg 1; lhs; delta Frm.weight
  exact h)
theorem foldFrm_weight (e : Frm) : type_of% (foldAFrm_weight e).down := (foldAFrm_weight e).down
def foldAFrm_up (e : Frm) := (by
  have h : PLift (e.up = e.up) := ⟨rfl⟩
  conv at h => arg 1; lhs; delta Frm.up
  exact h)
theorem foldFrm_up (e : Frm) : type_of% (foldAFrm_up e).down := (foldAFrm_up e).down
def foldAFrm_quiet (e : Frm) := (by
  have h : PLift (e.quiet = e.quiet) := ⟨rfl⟩
  conv at h => arg 1; lhs; delta Frm.quiet
  exact h)
theorem foldFrm_quiet (e : Frm) : type_of% (foldAFrm_quiet e).down := (foldAFrm_quiet e).down
def foldAFrm_time (e : Frm) := (by
  have h : PLift (e.time = e.time) := ⟨rfl⟩
  conv at h => arg 1; lhs; delta Frm.time
  exact h)
theorem foldFrm_time (e : Frm) : type_of% (foldAFrm_time e).down := (foldAFrm_time e).down
def foldAFrm_til (e : Frm) := (by
  have h : PLift (e.til = e.til) := ⟨rfl⟩
  conv at h => arg 1; lhs; delta Frm.til
  exact h)
theorem foldFrm_til (e : Frm) : type_of% (foldAFrm_til e).down := (foldAFrm_til e).down
theorem foldFrm : (⟨0, 0, 0, false, false, 0, 0⟩ : Frm) = default := rfl
def Frm.X (_ : Ar) (f : Frm) : List X := [xi f.id, xi f.role, xi f.weight, xb f.up, xb f.quiet, xi f.time, xi f.til]
structure Agt where
  id : Int
  total : List Part
  free : List Part
  deriving DecidableEq
instance : Inhabited Agt := ⟨⟨0, [], []⟩⟩
def foldAAgt_id (e : Agt) := (by
  have h : PLift (e.id = e.id) := ⟨rfl⟩
  conv at h => arg 1; lhs; delta Agt.id
  exact h)
theorem foldAgt_id (e : Agt) : type_of% (foldAAgt_id e).down := (foldAAgt_id e).down
def foldAAgt_total (e : Agt) := (by
  have h : PLift (e.total = e.total) := ⟨rfl⟩
  conv at h => arg 1; lhs; delta Agt.total
  exact h)
theorem foldAgt_total (e : Agt) : type_of% (foldAAgt_total e).down := (foldAAgt_total e).down
def foldAAgt_free (e : Agt) := (by
  have h : PLift (e.free = e.free) := ⟨rfl⟩
  conv at h => arg 1; lhs; delta Agt.free
  exact h)
theorem foldAgt_free (e : Agt) : type_of% (foldAAgt_free e).down := (foldAAgt_free e).down
theorem foldAgt : (⟨0, [], []⟩ : Agt) = default := rfl
def Agt.X (o : Ar) (a : Agt) : List X := [xi a.id, .ro (SL o Part.X a.total), .ro (SL o Part.X a.free)]
structure Ofr where
  id : Int
  frame : Int
  agent : Int
  vec : List Part
  til : Int
  deriving DecidableEq
instance : Inhabited Ofr := ⟨⟨0, 0, 0, [], 0⟩⟩
def foldAOfr_id (e : Ofr) := (by
  have h : PLift (e.id = e.id) := ⟨rfl⟩
  conv at h => arg 1; lhs; delta Ofr.id
  exact h)
theorem foldOfr_id (e : Ofr) : type_of% (foldAOfr_id e).down := (foldAOfr_id e).down
def foldAOfr_frame (e : Ofr) := (by
  have h : PLift (e.frame = e.frame) := ⟨rfl⟩
  conv at h => arg 1; lhs; delta Ofr.frame
  exact h)
theorem foldOfr_frame (e : Ofr) : type_of% (foldAOfr_frame e).down := (foldAOfr_frame e).down
def foldAOfr_agent (e : Ofr) := (by
  have h : PLift (e.agent = e.agent) := ⟨rfl⟩
  conv at h => arg 1; lhs; delta Ofr.agent
  exact h)
theorem foldOfr_agent (e : Ofr) : type_of% (foldAOfr_agent e).down := (foldAOfr_agent e).down
def foldAOfr_vec (e : Ofr) := (by
  have h : PLift (e.vec = e.vec) := ⟨rfl⟩
  conv at h => arg 1; lhs; delta Ofr.vec
  exact h)
theorem foldOfr_vec (e : Ofr) : type_of% (foldAOfr_vec e).down := (foldAOfr_vec e).down
def foldAOfr_til (e : Ofr) := (by
  have h : PLift (e.til = e.til) := ⟨rfl⟩
  conv at h => arg 1; lhs; delta Ofr.til
  exact h)
theorem foldOfr_til (e : Ofr) : type_of% (foldAOfr_til e).down := (foldAOfr_til e).down
theorem foldOfr : (⟨0, 0, 0, [], 0⟩ : Ofr) = default := rfl
def Ofr.X (o : Ar) (f : Ofr) : List X := [xi f.id, xi f.frame, xi f.agent, .ro (SL o Part.X f.vec), xi f.til]
structure Tsk where
  frame : Int
  id : Int
  agent : Int
  vec : List Part
  deriving DecidableEq
instance : Inhabited Tsk := ⟨⟨0, 0, 0, []⟩⟩
def foldATsk_frame (e : Tsk) := (by
  have h : PLift (e.frame = e.frame) := ⟨rfl⟩
  conv at h => arg 1; lhs; delta Tsk.frame
  exact h)
theorem foldTsk_frame (e : Tsk) : type_of% (foldATsk_frame e).down := (foldATsk_frame e).down
def foldATsk_id (e : Tsk) := (by
  have h : PLift (e.id = e.id) := ⟨rfl⟩
  conv at h => arg 1; lhs; delta Tsk.id
  exact h)
theorem foldTsk_id (e : Tsk) : type_of% (foldATsk_id e).down := (foldATsk_id e).down
def foldATsk_agent (e : Tsk) := (by
  have h : PLift (e.agent = e.agent) := ⟨rfl⟩
  conv at h => arg 1; lhs; delta Tsk.agent
  exact h)
theorem foldTsk_agent (e : Tsk) : type_of% (foldATsk_agent e).down := (foldATsk_agent e).down
def foldATsk_vec (e : Tsk) := (by
  have h : PLift (e.vec = e.vec) := ⟨rfl⟩
  conv at h => arg 1; lhs; delta Tsk.vec
  exact h)
theorem foldTsk_vec (e : Tsk) : type_of% (foldATsk_vec e).down := (foldATsk_vec e).down
theorem foldTsk : (⟨0, 0, 0, []⟩ : Tsk) = default := rfl
def Tsk.X (o : Ar) (f : Tsk) : List X := [xi f.frame, xi f.id, xi f.agent, .ro (SL o Part.X f.vec)]
structure Flt where
  frame : Int
  agent : Int
  til : Int
  vec : List Part
  deriving DecidableEq
instance : Inhabited Flt := ⟨⟨0, 0, 0, []⟩⟩
def foldAFlt_frame (e : Flt) := (by
  have h : PLift (e.frame = e.frame) := ⟨rfl⟩
  conv at h => arg 1; lhs; delta Flt.frame
  exact h)
theorem foldFlt_frame (e : Flt) : type_of% (foldAFlt_frame e).down := (foldAFlt_frame e).down
def foldAFlt_agent (e : Flt) := (by
  have h : PLift (e.agent = e.agent) := ⟨rfl⟩
  conv at h => arg 1; lhs; delta Flt.agent
  exact h)
theorem foldFlt_agent (e : Flt) : type_of% (foldAFlt_agent e).down := (foldAFlt_agent e).down
def foldAFlt_til (e : Flt) := (by
  have h : PLift (e.til = e.til) := ⟨rfl⟩
  conv at h => arg 1; lhs; delta Flt.til
  exact h)
theorem foldFlt_til (e : Flt) : type_of% (foldAFlt_til e).down := (foldAFlt_til e).down
def foldAFlt_vec (e : Flt) := (by
  have h : PLift (e.vec = e.vec) := ⟨rfl⟩
  conv at h => arg 1; lhs; delta Flt.vec
  exact h)
theorem foldFlt_vec (e : Flt) : type_of% (foldAFlt_vec e).down := (foldAFlt_vec e).down
theorem foldFlt : (⟨0, 0, 0, []⟩ : Flt) = default := rfl
theorem QP1 : type_of% (And.intro @foldFrm (And.intro @foldAgt (And.intro @foldOfr (And.intro @foldTsk (And.intro @foldFlt (And.intro @foldFrm_id (And.intro @foldFrm_role (And.intro @foldFrm_weight (And.intro @foldFrm_up (And.intro @foldFrm_quiet (And.intro @foldFrm_time (And.intro @foldFrm_til (And.intro @foldAgt_id (And.intro @foldAgt_total (And.intro @foldAgt_free (And.intro @foldOfr_id (And.intro @foldOfr_frame (And.intro @foldOfr_agent (And.intro @foldOfr_vec (And.intro @foldOfr_til (And.intro @foldTsk_frame (And.intro @foldTsk_id (And.intro @foldTsk_agent (And.intro @foldTsk_vec (And.intro @foldFlt_frame (And.intro @foldFlt_agent (And.intro @foldFlt_til (And.intro @foldFlt_vec (QB7))))))))))))))))))))))))))))) := And.intro @foldFrm (And.intro @foldAgt (And.intro @foldOfr (And.intro @foldTsk (And.intro @foldFlt (And.intro @foldFrm_id (And.intro @foldFrm_role (And.intro @foldFrm_weight (And.intro @foldFrm_up (And.intro @foldFrm_quiet (And.intro @foldFrm_time (And.intro @foldFrm_til (And.intro @foldAgt_id (And.intro @foldAgt_total (And.intro @foldAgt_free (And.intro @foldOfr_id (And.intro @foldOfr_frame (And.intro @foldOfr_agent (And.intro @foldOfr_vec (And.intro @foldOfr_til (And.intro @foldTsk_frame (And.intro @foldTsk_id (And.intro @foldTsk_agent (And.intro @foldTsk_vec (And.intro @foldFlt_frame (And.intro @foldFlt_agent (And.intro @foldFlt_til (And.intro @foldFlt_vec (QB7))))))))))))))))))))))))))))
def Flt.X (o : Ar) (f : Flt) : List X := [xi f.frame, xi f.agent, xi f.til, .ro (SL o Part.X f.vec)]
structure Cfg where
  hor : Int
  most : Int
  ids : Int
  life : Int
  cap : Int
  min : S4
  deriving DecidableEq
def Cfg.X (o : Ar) (c : Cfg) : List X := [xi c.hor, xi c.most, xi c.ids, xi c.life, xi c.cap, xi c.min.a, xi c.min.b, xi c.min.c, xi c.min.d]
structure Bk where
  cfg : Cfg
  now : Int
  last : Int
  fr : List Frm
  ag : List Agt
  of : List Ofr
  tk : List Tsk
  fl : List Flt
def Bk.X (o : Ar) (b : Bk) : List X := [xi b.cfg.hor, xi b.cfg.most, xi b.cfg.ids, xi b.cfg.life, xi b.cfg.cap, xi b.cfg.min.a, xi b.cfg.min.b, xi b.cfg.min.c, xi b.cfg.min.d, xi b.now, xi b.last,
  .ro (SL o Frm.X b.fr), .ro (SL o Agt.X b.ag), .ro (SL o Ofr.X b.of), .ro (SL o Tsk.X b.tk), .ro (SL o Flt.X b.fl)]
structure BkOk (b : Bk) : Prop where
  n_fr : b.fr.length ≤ 1048576
  n_ag : b.ag.length ≤ 1048576
  n_of : b.of.length ≤ 1048576
  n_tk : b.tk.length ≤ 1048576
  n_fl : b.fl.length ≤ 1048576
  a1 : ∀ i, (b.ag.getD i default).total.length ≤ 1048576
  a2 : ∀ i, (b.ag.getD i default).free.length ≤ 1048576
  o1 : ∀ i, (b.of.getD i default).vec.length ≤ 1048576
  t1 : ∀ i, (b.tk.getD i default).vec.length ≤ 1048576
  l1 : ∀ i, (b.fl.getD i default).vec.length ≤ 1048576
end Go.Proofs.Ytpijibffjohikaa.Sy
namespace Go.Proofs.Ytpijibffjohikaa.Sy
open Go Go.Sy Go.Proofs.Ytpijibffjohikaa
theorem all_step {Q : Nat → Prop} {i : Nat} (h : ∀ j, j < i → Q j) (hi : Q i) : ∀ j, j < i + 1 → Q j := fun j hj => by
  rcases Nat.lt_or_ge j i with h5 | h5
  · exact h j h5
  · obtain rfl : j = i := by omega
    exact hi
def cmpI (x y : Int) : Int := if x < y then -1 else if y < x then 1 else 0
theorem x_nanI (x : Int) : XC Try.prog 96 [xi x] [] (.b .f) [] := by
  (refine XC.of_body ([]) Try.func96 rfl Try.ntmps96 mixed (T := tl96) tk96 (by kernel_rfl) (by simp) rfl rfl rfl rfl rfl ?_; rintro o ho P hP c K hK; have hm : P.follows .mixedOrders = true := hP ▸ mixed; have hT : TOk P tl96 := hP ▸ tk96; (try rw [← ho]); cbv; (repeat (refine StopN.mk ?_; cbv)))
  repeat' (first | (refine Br.mk (fun hb => ?_) (fun hb => ?_) <;> ((try rw [ho] at hb); (try dsimp only [Ar.real, IX.vo] at hb); (try simp only [QP1] at hb); (try simp only [QBo, beq_iff_eq, beq_eq_false_iff_ne, ne_eq] at hb))) | (refine StopN.mk ?_; cbv) | (refine hK _ _ ?_) | (refine NeedT.mk ?_ ?_))
  exact .pure fun _ => by simp only [X.toD, BX.val]; rw [ho]; simp [real_not, real_eq]
theorem x_nanL (x : Int) : XC Try.prog 67 [xi x] [] (.b .f) [] := by
  (refine XC.of_body ([]) Try.func67 rfl Try.ntmps67 mixed (T := tl67) tk67 (by kernel_rfl) (by simp) rfl rfl rfl rfl rfl ?_; rintro o ho P hP c K hK; have hm : P.follows .mixedOrders = true := hP ▸ mixed; have hT : TOk P tl67 := hP ▸ tk67; (try rw [← ho]); cbv; (repeat (refine StopN.mk ?_; cbv)))
  repeat' (first | (refine Br.mk (fun hb => ?_) (fun hb => ?_) <;> ((try rw [ho] at hb); (try dsimp only [Ar.real, IX.vo] at hb); (try simp only [QP1] at hb); (try simp only [QBo, beq_iff_eq, beq_eq_false_iff_ne, ne_eq] at hb))) | (refine StopN.mk ?_; cbv) | (refine hK _ _ ?_) | (refine NeedT.mk ?_ ?_))
  exact .pure fun _ => by simp only [X.toD, BX.val]; rw [ho]; simp [real_not, real_eq]
theorem x_CmpI (x y : Int) : XC Try.prog 88 [xi x, xi y] [] (xi (cmpI x y)) [] := by
  (refine XC.of_body ([]) Try.func88 rfl Try.ntmps88 mixed (T := tl88) tk88 (by kernel_rfl) (by simp) rfl rfl rfl rfl rfl ?_; rintro o ho P hP c K hK; have hm : P.follows .mixedOrders = true := hP ▸ mixed; have hT : TOk P tl88 := hP ▸ tk88; (try rw [← ho]); cbv; (repeat (refine StopN.mk ?_; cbv)))
  repeat' (first | (refine Br.mk (fun hb => ?_) (fun hb => ?_) <;> ((try rw [ho] at hb); (try dsimp only [Ar.real, IX.vo] at hb); (try simp only [QP1] at hb); (try simp only [QBo, beq_iff_eq, beq_eq_false_iff_ne, ne_eq] at hb))) | (refine StopN.mk ?_; cbv) | (refine CallI.pure hP (x_nanI _) fn96 (by first | rfl | (rw [ho]; try rfl)) (by rfl) (by first | rfl | (rw [ho]; try rfl)) ?_; (try rw [← ho]); cbv) | (refine hK _ _ ?_) | (refine NeedT.mk ?_ ?_))
  all_goals
    refine .i ?_
    unfold cmpI
    ((try clear hR3); (try clear hR2); (try clear hR); (try clear hK); (try simp only [ncCast] at *); (try simp only [castI_eq] at *); (try rw [ho]); (try dsimp only [Ar.real, IX.vo, IX.val, BX.val, IX.toN]); (try simp only [QP1]))
    repeat' split
    all_goals omega
theorem x_CmpL (x y : Int) : XC Try.prog 40 [xi x, xi y] [] (xi (cmpI x y)) [] := by
  (refine XC.of_body ([]) Try.func40 rfl Try.ntmps40 mixed (T := tl40) tk40 (by kernel_rfl) (by simp) rfl rfl rfl rfl rfl ?_; rintro o ho P hP c K hK; have hm : P.follows .mixedOrders = true := hP ▸ mixed; have hT : TOk P tl40 := hP ▸ tk40; (try rw [← ho]); cbv; (repeat (refine StopN.mk ?_; cbv)))
  repeat' (first | (refine Br.mk (fun hb => ?_) (fun hb => ?_) <;> ((try rw [ho] at hb); (try dsimp only [Ar.real, IX.vo] at hb); (try simp only [QP1] at hb); (try simp only [QBo, beq_iff_eq, beq_eq_false_iff_ne, ne_eq] at hb))) | (refine StopN.mk ?_; cbv) | (refine CallI.pure hP (x_nanL _) fn67 (by first | rfl | (rw [ho]; try rfl)) (by rfl) (by first | rfl | (rw [ho]; try rfl)) ?_; (try rw [← ho]); cbv) | (refine hK _ _ ?_) | (refine NeedT.mk ?_ ?_))
  all_goals
    refine .i ?_
    unfold cmpI
    ((try clear hR3); (try clear hR2); (try clear hR); (try clear hK); (try simp only [ncCast] at *); (try simp only [castI_eq] at *); (try rw [ho]); (try dsimp only [Ar.real, IX.vo, IX.val, BX.val, IX.toN]); (try simp only [QP1]))
    repeat' split
    all_goals omega
def or3 (x y z : Int) : Int := if x ≠ 0 then x else if y ≠ 0 then y else z
theorem x_Or3 (x y z : Int) : XC Try.prog 39 [.ro (.lits [[xi x], [xi y], [xi z]])] [] (xi (or3 x y z)) [] := by
  (refine XC.of_body ([]) Try.func39 rfl Try.ntmps39 mixed (T := tl39) tk39 (by kernel_rfl) (by simp) rfl rfl rfl rfl rfl ?_; rintro o ho P hP c K hK; have hm : P.follows .mixedOrders = true := hP ▸ mixed; have hT : TOk P tl39 := hP ▸ tk39; (try rw [← ho]); cbv; (repeat (refine StopN.mk ?_; cbv)))
  repeat' (first | (refine Br.mk (fun hb => ?_) (fun hb => ?_) <;> ((try rw [ho] at hb); (try dsimp only [Ar.real, IX.vo] at hb); (try simp only [QP1] at hb); (try simp only [QBo, beq_iff_eq, beq_eq_false_iff_ne, ne_eq] at hb))) | (refine StopN.mk ?_; cbv) | (refine hK _ _ ?_) | (refine NeedT.mk ?_ ?_) | (refine LoopN.lay (o := o) (D := []) 4 ho hm hT (by kernel_rfl) ?_; cbv))
  any_goals (((try clear hR3); (try clear hR2); (try clear hR); (try clear hK); (try simp only [ncCast] at *); (try simp only [castI_eq] at *); (try rw [ho]); (try dsimp only [Ar.real, IX.vo, IX.val, BX.val, IX.toN]); (try simp only [QP1]); (try simp only [decide_eq_true_eq]); (all_goals (repeat rw [wrap_i64 (by omega) (by omega)])); (all_goals (first | omega | (simp only [Int.ofNat_eq_natCast]; omega)))); done)
  all_goals
    refine .i ?_
    unfold or3
    ((try clear hR3); (try clear hR2); (try clear hR); (try clear hK); (try simp only [ncCast] at *); (try simp only [castI_eq] at *); (try rw [ho]); (try dsimp only [Ar.real, IX.vo, IX.val, BX.val, IX.toN]); (try simp only [QP1]))
    repeat' split
    all_goals (first | omega | simp_all)
def ordP (p q : Part) : Int := or3 (cmpI p.kind q.kind) (cmpI p.role q.role) (cmpI p.amount q.amount)
theorem x_Ord1 (p q : Part) : XC Try.prog 87 [.agg (Part.X Ar.real p), .agg (Part.X Ar.real q)] [] (xi (ordP p q)) [] := by
  have h1 := x_CmpI p.kind q.kind
  have h2 := x_CmpI p.role q.role
  have h3 := x_CmpL p.amount q.amount
  have h4 := x_Or3 (cmpI p.kind q.kind) (cmpI p.role q.role) (cmpI p.amount q.amount)
  unfold ordP
  generalize cmpI p.kind q.kind = a at *
  generalize cmpI p.role q.role = b at *
  generalize cmpI p.amount q.amount = d at *
  generalize or3 a b d = r at *
  (refine XC.of_body (dt87) Try.func87 rfl Try.ntmps87 mixed (T := tl87) tk87 (by kernel_rfl) (by simp) rfl rfl rfl rfl rfl ?_; rintro o ho P hP c K hK; have hm : P.follows .mixedOrders = true := hP ▸ mixed; have hT : TOk P tl87 := hP ▸ tk87; (try rw [← ho]); cbv; (repeat (refine StopN.mk ?_; cbv)))
  repeat' (first | (refine Br.mk (fun hb => ?_) (fun hb => ?_) <;> ((try rw [ho] at hb); (try dsimp only [Ar.real, IX.vo] at hb); (try simp only [QP1] at hb); (try simp only [QBo, beq_iff_eq, beq_eq_false_iff_ne, ne_eq] at hb))) | (refine StopN.mk ?_; cbv) | ((first | refine CallN.pure hP h1 fn88 rfl rfl rfl ?_ | refine CallN.pure hP h2 fn88 rfl rfl rfl ?_ | refine CallN.pure hP h3 fn40 rfl rfl rfl ?_ | refine CallN.pure hP h4 fn39 rfl rfl rfl ?_); cbv) | (refine hK _ _ ?_) | (refine NeedT.mk ?_ ?_))
  exact .i rfl
end Go.Proofs.Ytpijibffjohikaa.Sy
namespace Go.Proofs.Ytpijibffjohikaa.Sy
open Go Go.Sy Go.Proofs.Ytpijibffjohikaa
def ordAt (a b : List Part) (i : Nat) : Int := ordP (a.getD i default) (b.getD i default)
def ordE (a b : List Part) : Int := if a.length < b.length then -1 else if b.length < a.length then 1 else 0
def ordV (a b : List Part) : Int := match nextAt (fun i => decide (ordAt a b i ≠ 0)) 0 (min a.length b.length) with | some i => ordAt a b i | none => ordE a b
theorem ordV_hit {a b : List Part} {i : Nat} (h1 : i < a.length) (h2 : i < b.length) (hno : ∀ j, j < i → ordAt a b j = 0) (h : ordAt a b i ≠ 0) : ordV a b = ordAt a b i := by
  unfold ordV
  rw [nextAt_some (k := i) (Nat.zero_le _) (by omega) (by simp [h]) (fun j _ hj => by simp [hno j hj])]
theorem ordV_end {a b : List Part} (hno : ∀ j, j < min a.length b.length → ordAt a b j = 0) : ordV a b = ordE a b := by
  unfold ordV
  rw [nextAt_none (fun j _ hj => by simp [hno j hj])]
theorem x_CmpFn (a b : List Part) (ha : a.length ≤ 1048576) (hb' : b.length ≤ 1048576) : XC Try.prog 86 [.ro (SL Ar.real Part.X a), .ro (SL Ar.real Part.X b), .fn (.func 87) [] []] [] (xi (ordV a b)) [] := by
  have h1 := fun i => x_Ord1 (a.getD i default) (b.getD i default)
  have h2 := fun i hi1 hi2 hno h => ordV_hit (a := a) (b := b) (i := i) hi1 hi2 hno h
  have h3 := ordV_end (a := a) (b := b)
  unfold ordE at h3
  generalize ordV a b = r at *
  have h0 : ∀ i, ordP (a.getD i default) (b.getD i default) = ordAt a b i := fun _ => rfl
  simp only [h0] at h1
  clear h0
  generalize ordAt a b = O at *
  (refine XC.of_body ([]) Try.func86 rfl Try.ntmps86 mixed (T := tl86) tk86 (by kernel_rfl) (by simp) rfl rfl rfl rfl rfl ?_; rintro o ho P hP c K hK; have hm : P.follows .mixedOrders = true := hP ▸ mixed; have hT : TOk P tl86 := hP ▸ tk86; (try rw [← ho]); cbv; (repeat (refine StopN.mk ?_; cbv)))
  refine LoopN.over (o := o) (D := []) ho hm hT (by kernel_rfl) (fun i : Nat => [(13, xn i)]) (fun _ => []) (fun _ => []) (fun i => i ≤ a.length ∧ i ≤ b.length ∧ ∀ j, j < i → O j = 0) (fun i => a.length - i) 0 ⟨Nat.zero_le _, Nat.zero_le _, fun j hj => by omega⟩ ?_ ?_
  · (refine ⟨?_, ?_, ?_, ?_⟩ <;> cbv <;> repeat' (first | trivial | exact EqX.rfl' | exact EqO.rfl' | apply And.intro | ((try clear hR3); (try clear hR2); (try clear hR); (try clear hK); (try simp only [ncCast] at *); (try simp only [castI_eq] at *); refine EqX.i ?_; (try rw [ho]); (try dsimp only [Ar.real, IX.vo, IX.val, BX.val, IX.toN]); (try simp only [QP1]); (repeat rw [wrap_i64 (by omega) (by omega)]); omega)))
  · rintro i ⟨hi, hi2, hno⟩ R hR
    have e1 := h1 i
    have e2 := h2 i
    have ea : o.nth a i = a.getD i default := by rw [ho, real_nth]
    have eb : o.nth b i = b.getD i default := by rw [ho, real_nth]
    rw [← ea, ← eb, ← ho] at e1
    generalize hz : O i = z at *
    cbv
    repeat' (first | (refine Br.mk (fun hb => ?_) (fun hb => ?_) <;> ((try rw [ho] at hb); (try dsimp only [Ar.real, IX.vo] at hb); (try simp only [QP1] at hb); (try simp only [QBo, beq_iff_eq, beq_eq_false_iff_ne, ne_eq] at hb))) | (refine StopN.mk ?_; cbv) | (first | refine CallN.pure hP e1 fn87 rfl rfl rfl ?_ | refine CallI.pure hP e1 fn87 rfl rfl rfl ?_); cbv | (refine hK _ _ ?_) | (refine NeedT.mk ?_ ?_))
    any_goals (((try clear hR3); (try clear hR2); (try clear hR); (try clear hK); (try simp only [ncCast] at *); (try simp only [castI_eq] at *); (try rw [ho]); (try dsimp only [Ar.real, IX.vo, IX.val, BX.val, IX.toN]); (try simp only [QP1]); (try simp only [decide_eq_true_eq]); (all_goals (repeat rw [wrap_i64 (by omega) (by omega)])); (all_goals (first | omega | (simp only [Int.ofNat_eq_natCast]; omega)))); done)
    · rw [h3 (fun j hj => hno j (by ((try clear hR3); (try clear hR2); (try clear hR); (try clear hK); (try simp only [ncCast] at *); (try simp only [castI_eq] at *)); omega)), if_neg (by ((try clear hR3); (try clear hR2); (try clear hR); (try clear hK); (try simp only [ncCast] at *); (try simp only [castI_eq] at *)); omega), if_pos (by ((try clear hR3); (try clear hR2); (try clear hR); (try clear hK); (try simp only [ncCast] at *); (try simp only [castI_eq] at *)); omega)]
      exact .i rfl
    · rw [e2 (by assumption) (by assumption) hno hb]
      exact .i rfl
    · refine hR _ (i + 1) (by show a.length - (i + 1) < a.length - i; omega) ⟨by show i + 1 ≤ a.length; omega, by show i + 1 ≤ b.length; omega, all_step hno (hz.trans (by assumption))⟩ ?_
      (refine ⟨?_, ?_, ?_, ?_⟩ <;> cbv <;> repeat' (first | trivial | exact EqX.rfl' | exact EqO.rfl' | apply And.intro | ((try clear hR3); (try clear hR2); (try clear hR); (try clear hK); (try simp only [ncCast] at *); (try simp only [castI_eq] at *); refine EqX.i ?_; (try rw [ho]); (try dsimp only [Ar.real, IX.vo, IX.val, BX.val, IX.toN]); (try simp only [QP1]); (repeat rw [wrap_i64 (by omega) (by omega)]); omega)))
    · rw [h3 (fun j hj => hno j (by ((try clear hR3); (try clear hR2); (try clear hR); (try clear hK); (try simp only [ncCast] at *); (try simp only [castI_eq] at *)); omega)), if_pos (by assumption)]
      exact .i rfl
    · rw [h3 (fun j hj => hno j (by ((try clear hR3); (try clear hR2); (try clear hR); (try clear hK); (try simp only [ncCast] at *); (try simp only [castI_eq] at *)); omega)), if_neg (by ((try clear hR3); (try clear hR2); (try clear hR); (try clear hK); (try simp only [ncCast] at *); (try simp only [castI_eq] at *)); omega), if_neg (by ((try clear hR3); (try clear hR2); (try clear hR); (try clear hK); (try simp only [ncCast] at *); (try simp only [castI_eq] at *)); omega)]
      exact .i rfl
theorem x_Order (a b : List Part) (ha : a.length ≤ 1048576) (hb' : b.length ≤ 1048576) : XC Try.prog 68 [.ro (SL Ar.real Part.X a), .ro (SL Ar.real Part.X b)] [] (xi (ordV a b)) [] := by
  have h1 := x_CmpFn a b ha hb'
  generalize ordV a b = r at *
  (refine XC.of_body ([]) Try.func68 rfl Try.ntmps68 mixed (T := tl68) tk68 (by kernel_rfl) (by simp) rfl rfl rfl rfl rfl ?_; rintro o ho P hP c K hK; have hm : P.follows .mixedOrders = true := hP ▸ mixed; have hT : TOk P tl68 := hP ▸ tk68; (try rw [← ho]); cbv; (repeat (refine StopN.mk ?_; cbv)))
  rw [← ho] at h1
  repeat' (first | (refine Br.mk (fun hb => ?_) (fun hb => ?_) <;> ((try rw [ho] at hb); (try dsimp only [Ar.real, IX.vo] at hb); (try simp only [QP1] at hb); (try simp only [QBo, beq_iff_eq, beq_eq_false_iff_ne, ne_eq] at hb))) | (refine StopN.mk ?_; cbv) | (first | refine CallN.pure hP h1 fn86 rfl rfl rfl ?_ | refine CallI.pure hP h1 fn86 rfl rfl rfl ?_); cbv | (refine hK _ _ ?_) | (refine NeedT.mk ?_ ?_))
  exact .i rfl
end Go.Proofs.Ytpijibffjohikaa.Sy
namespace Go.Proofs.Ytpijibffjohikaa.Sy
open Go Go.Sy Go.Proofs.Ytpijibffjohikaa
def ixR {α : Type} [Inhabited α] (q : α → Bool) (l : List α) : Int := match nextAt (fun i => q (l.getD i default)) 0 l.length with | some i => i | none => -1
theorem ixR_hit {α : Type} [Inhabited α] {q : α → Bool} {l : List α} {i : Nat} (h1 : i < l.length) (hno : ∀ j, j < i → q (l.getD j default) = false) (h : q (l.getD i default) = true) : ixR q l = i := by
  unfold ixR
  rw [nextAt_some (k := i) (Nat.zero_le _) h1 h (fun j _ hj => hno j hj)]
theorem ixR_none {α : Type} [Inhabited α] {q : α → Bool} {l : List α} (hno : ∀ j, j < l.length → q (l.getD j default) = false) : ixR q l = -1 := by
  unfold ixR
  rw [nextAt_none (fun j _ hj => hno j hj)]
theorem x_IxFrm (q : Frm → Bool) (g : FuncId) (x0 : Int) (t0 : Nat) (hg : FnOk Try.prog g) (hq : ∀ a : Frm, XC Try.prog g ([.agg (Frm.X Ar.real a)] ++ [.ptr (.out 0) 0]) [.var [xi x0] t0] (xb (q a)) [.var [xi x0] t0]) (l : List Frm) (hl : l.length ≤ 1048576) :
    XC Try.prog 47 [.ro (SL Ar.real Frm.X l), .fn (.func g) [] [.ptr (.out 0) 0]] [.var [xi x0] t0] (xi (ixR q l)) [.var [xi x0] t0] := by
  have h1 := fun i => ixR_hit (q := q) (l := l) (i := i)
  have h2 := ixR_none (q := q) (l := l)
  generalize ixR q l = r at *
  (refine XC.of_body ([]) Try.func47 rfl Try.ntmps47 mixed (T := tl47) tk47 (by kernel_rfl) (by simp) rfl rfl rfl rfl rfl ?_; rintro o ho P hP c K hK; have hm : P.follows .mixedOrders = true := hP ▸ mixed; have hT : TOk P tl47 := hP ▸ tk47; (try rw [← ho]); cbv; (repeat (refine StopN.mk ?_; cbv)))
  refine LoopN.over (o := o) (D := []) ho hm hT (by kernel_rfl) (fun i : Nat => [(8, xn i)]) (fun _ => []) (fun _ => []) (fun i => i ≤ l.length ∧ ∀ j, j < i → q (l.getD j default) = false) (fun i => l.length - i) 0 ⟨Nat.zero_le _, fun j hj => by omega⟩ ?_ ?_
  · (refine ⟨?_, ?_, ?_, ?_⟩ <;> cbv <;> repeat' (first | trivial | exact EqX.rfl' | exact EqO.rfl' | apply And.intro | ((try clear hR3); (try clear hR2); (try clear hR); (try clear hK); (try simp only [ncCast] at *); (try simp only [castI_eq] at *); refine EqX.i ?_; (try rw [ho]); (try dsimp only [Ar.real, IX.vo, IX.val, BX.val, IX.toN]); (try simp only [QP1, QB7]); (repeat rw [wrap_i64 (by omega) (by omega)]); omega)))
  · rintro i ⟨hi, hno⟩ R hR
    have e1 := hq (l.getD i default)
    have e2 := h1 i
    have el : o.nth l i = l.getD i default := by rw [ho, real_nth]
    rw [← ho, ← el] at e1
    rw [← el] at e2
    have e3 := fun h : q (o.nth l i) = false => all_step hno (by rw [← el]; exact h)
    generalize q (o.nth l i) = b at *
    cbv
    repeat' (first | (refine Br.mk (fun hb => ?_) (fun hb => ?_) <;> ((try rw [ho] at hb); (try dsimp only [Ar.real, IX.vo] at hb); (try simp only [QP1, QB7] at hb); (try simp only [QBo, beq_iff_eq, beq_eq_false_iff_ne, ne_eq] at hb))) | (refine StopN.mk ?_; cbv) | (refine CallI.objs [.out 0] hP e1 hg rfl rfl rfl rfl (by rfl) rfl rfl rfl rfl (by rfl) ⟨⟨_, rfl, rfl⟩, trivial⟩ ?_); cbv | (refine hK _ _ ?_) | (refine NeedT.mk ?_ ?_))
    any_goals (((try clear hR3); (try clear hR2); (try clear hR); (try clear hK); (try simp only [ncCast] at *); (try simp only [castI_eq] at *); (try rw [ho]); (try dsimp only [Ar.real, IX.vo, IX.val, BX.val, IX.toN]); (try simp only [QP1, QB7]); (try simp only [decide_eq_true_eq]); (all_goals (repeat rw [wrap_i64 (by omega) (by omega)])); (all_goals (first | omega | (simp only [Int.ofNat_eq_natCast]; omega)))); done)
    · rw [e2 (by assumption) hno (by assumption)]
      exact FinX_iOr rfl rfl
    · refine hR _ (i + 1) (by show l.length - (i + 1) < l.length - i; omega) ⟨by show i + 1 ≤ l.length; omega, e3 (by assumption)⟩ ?_
      (refine ⟨?_, ?_, ?_, ?_⟩ <;> cbv <;> repeat' (first | trivial | exact EqX.rfl' | exact EqO.rfl' | apply And.intro | ((try clear hR3); (try clear hR2); (try clear hR); (try clear hK); (try simp only [ncCast] at *); (try simp only [castI_eq] at *); refine EqX.i ?_; (try rw [ho]); (try dsimp only [Ar.real, IX.vo, IX.val, BX.val, IX.toN]); (try simp only [QP1, QB7]); (repeat rw [wrap_i64 (by omega) (by omega)]); omega)))
    · obtain rfl : i = l.length := by ((try clear hR3); (try clear hR2); (try clear hR); (try clear hK); (try simp only [ncCast] at *); (try simp only [castI_eq] at *)); omega
      rw [h2 hno]
      exact FinX_iOr rfl rfl
theorem x_IxAgt (q : Agt → Bool) (g : FuncId) (x0 : Int) (t0 : Nat) (hg : FnOk Try.prog g) (hq : ∀ a : Agt, XC Try.prog g ([.agg (Agt.X Ar.real a)] ++ [.ptr (.out 0) 0]) [.var [xi x0] t0] (xb (q a)) [.var [xi x0] t0]) (l : List Agt) (hl : l.length ≤ 1048576) :
    XC Try.prog 55 [.ro (SL Ar.real Agt.X l), .fn (.func g) [] [.ptr (.out 0) 0]] [.var [xi x0] t0] (xi (ixR q l)) [.var [xi x0] t0] := by
  have h1 := fun i => ixR_hit (q := q) (l := l) (i := i)
  have h2 := ixR_none (q := q) (l := l)
  generalize ixR q l = r at *
  (refine XC.of_body ([]) Try.func55 rfl Try.ntmps55 mixed (T := tl55) tk55 (by kernel_rfl) (by simp) rfl rfl rfl rfl rfl ?_; rintro o ho P hP c K hK; have hm : P.follows .mixedOrders = true := hP ▸ mixed; have hT : TOk P tl55 := hP ▸ tk55; (try rw [← ho]); cbv; (repeat (refine StopN.mk ?_; cbv)))
  refine LoopN.over (o := o) (D := []) ho hm hT (by kernel_rfl) (fun i : Nat => [(8, xn i)]) (fun _ => []) (fun _ => []) (fun i => i ≤ l.length ∧ ∀ j, j < i → q (l.getD j default) = false) (fun i => l.length - i) 0 ⟨Nat.zero_le _, fun j hj => by omega⟩ ?_ ?_
  · (refine ⟨?_, ?_, ?_, ?_⟩ <;> cbv <;> repeat' (first | trivial | exact EqX.rfl' | exact EqO.rfl' | apply And.intro | ((try clear hR3); (try clear hR2); (try clear hR); (try clear hK); (try simp only [ncCast] at *); (try simp only [castI_eq] at *); refine EqX.i ?_; (try rw [ho]); (try dsimp only [Ar.real, IX.vo, IX.val, BX.val, IX.toN]); (try simp only [QP1, QB7]); (repeat rw [wrap_i64 (by omega) (by omega)]); omega)))
  · rintro i ⟨hi, hno⟩ R hR
    have e1 := hq (l.getD i default)
    have e2 := h1 i
    have el : o.nth l i = l.getD i default := by rw [ho, real_nth]
    rw [← ho, ← el] at e1
    rw [← el] at e2
    have e3 := fun h : q (o.nth l i) = false => all_step hno (by rw [← el]; exact h)
    generalize q (o.nth l i) = b at *
    cbv
    repeat' (first | (refine Br.mk (fun hb => ?_) (fun hb => ?_) <;> ((try rw [ho] at hb); (try dsimp only [Ar.real, IX.vo] at hb); (try simp only [QP1, QB7] at hb); (try simp only [QBo, beq_iff_eq, beq_eq_false_iff_ne, ne_eq] at hb))) | (refine StopN.mk ?_; cbv) | (refine CallI.objs [.out 0] hP e1 hg rfl rfl rfl rfl (by rfl) rfl rfl rfl rfl (by rfl) ⟨⟨_, rfl, rfl⟩, trivial⟩ ?_); cbv | (refine hK _ _ ?_) | (refine NeedT.mk ?_ ?_))
    any_goals (((try clear hR3); (try clear hR2); (try clear hR); (try clear hK); (try simp only [ncCast] at *); (try simp only [castI_eq] at *); (try rw [ho]); (try dsimp only [Ar.real, IX.vo, IX.val, BX.val, IX.toN]); (try simp only [QP1, QB7]); (try simp only [decide_eq_true_eq]); (all_goals (repeat rw [wrap_i64 (by omega) (by omega)])); (all_goals (first | omega | (simp only [Int.ofNat_eq_natCast]; omega)))); done)
    · rw [e2 (by assumption) hno (by assumption)]
      exact FinX_iOr rfl rfl
    · refine hR _ (i + 1) (by show l.length - (i + 1) < l.length - i; omega) ⟨by show i + 1 ≤ l.length; omega, e3 (by assumption)⟩ ?_
      (refine ⟨?_, ?_, ?_, ?_⟩ <;> cbv <;> repeat' (first | trivial | exact EqX.rfl' | exact EqO.rfl' | apply And.intro | ((try clear hR3); (try clear hR2); (try clear hR); (try clear hK); (try simp only [ncCast] at *); (try simp only [castI_eq] at *); refine EqX.i ?_; (try rw [ho]); (try dsimp only [Ar.real, IX.vo, IX.val, BX.val, IX.toN]); (try simp only [QP1, QB7]); (repeat rw [wrap_i64 (by omega) (by omega)]); omega)))
    · obtain rfl : i = l.length := by ((try clear hR3); (try clear hR2); (try clear hR); (try clear hK); (try simp only [ncCast] at *); (try simp only [castI_eq] at *)); omega
      rw [h2 hno]
      exact FinX_iOr rfl rfl
theorem x_IxOfr (q : Ofr → Bool) (g : FuncId) (x0 : Int) (t0 : Nat) (hg : FnOk Try.prog g) (hq : ∀ a : Ofr, XC Try.prog g ([.agg (Ofr.X Ar.real a)] ++ [.ptr (.out 0) 0]) [.var [xi x0] t0] (xb (q a)) [.var [xi x0] t0]) (l : List Ofr) (hl : l.length ≤ 1048576) :
    XC Try.prog 53 [.ro (SL Ar.real Ofr.X l), .fn (.func g) [] [.ptr (.out 0) 0]] [.var [xi x0] t0] (xi (ixR q l)) [.var [xi x0] t0] := by
  have h1 := fun i => ixR_hit (q := q) (l := l) (i := i)
  have h2 := ixR_none (q := q) (l := l)
  generalize ixR q l = r at *
  (refine XC.of_body ([]) Try.func53 rfl Try.ntmps53 mixed (T := tl53) tk53 (by kernel_rfl) (by simp) rfl rfl rfl rfl rfl ?_; rintro o ho P hP c K hK; have hm : P.follows .mixedOrders = true := hP ▸ mixed; have hT : TOk P tl53 := hP ▸ tk53; (try rw [← ho]); cbv; (repeat (refine StopN.mk ?_; cbv)))
  refine LoopN.over (o := o) (D := []) ho hm hT (by kernel_rfl) (fun i : Nat => [(8, xn i)]) (fun _ => []) (fun _ => []) (fun i => i ≤ l.length ∧ ∀ j, j < i → q (l.getD j default) = false) (fun i => l.length - i) 0 ⟨Nat.zero_le _, fun j hj => by omega⟩ ?_ ?_
  · (refine ⟨?_, ?_, ?_, ?_⟩ <;> cbv <;> repeat' (first | trivial | exact EqX.rfl' | exact EqO.rfl' | apply And.intro | ((try clear hR3); (try clear hR2); (try clear hR); (try clear hK); (try simp only [ncCast] at *); (try simp only [castI_eq] at *); refine EqX.i ?_; (try rw [ho]); (try dsimp only [Ar.real, IX.vo, IX.val, BX.val, IX.toN]); (try simp only [QP1, QB7]); (repeat rw [wrap_i64 (by omega) (by omega)]); omega)))
  · rintro i ⟨hi, hno⟩ R hR
    have e1 := hq (l.getD i default)
    have e2 := h1 i
    have el : o.nth l i = l.getD i default := by rw [ho, real_nth]
    rw [← ho, ← el] at e1
    rw [← el] at e2
    have e3 := fun h : q (o.nth l i) = false => all_step hno (by rw [← el]; exact h)
    generalize q (o.nth l i) = b at *
    cbv
    repeat' (first | (refine Br.mk (fun hb => ?_) (fun hb => ?_) <;> ((try rw [ho] at hb); (try dsimp only [Ar.real, IX.vo] at hb); (try simp only [QP1, QB7] at hb); (try simp only [QBo, beq_iff_eq, beq_eq_false_iff_ne, ne_eq] at hb))) | (refine StopN.mk ?_; cbv) | (refine CallI.objs [.out 0] hP e1 hg rfl rfl rfl rfl (by rfl) rfl rfl rfl rfl (by rfl) ⟨⟨_, rfl, rfl⟩, trivial⟩ ?_); cbv | (refine hK _ _ ?_) | (refine NeedT.mk ?_ ?_))
    any_goals (((try clear hR3); (try clear hR2); (try clear hR); (try clear hK); (try simp only [ncCast] at *); (try simp only [castI_eq] at *); (try rw [ho]); (try dsimp only [Ar.real, IX.vo, IX.val, BX.val, IX.toN]); (try simp only [QP1, QB7]); (try simp only [decide_eq_true_eq]); (all_goals (repeat rw [wrap_i64 (by omega) (by omega)])); (all_goals (first | omega | (simp only [Int.ofNat_eq_natCast]; omega)))); done)
    · rw [e2 (by assumption) hno (by assumption)]
      exact FinX_iOr rfl rfl
    · refine hR _ (i + 1) (by show l.length - (i + 1) < l.length - i; omega) ⟨by show i + 1 ≤ l.length; omega, e3 (by assumption)⟩ ?_
      (refine ⟨?_, ?_, ?_, ?_⟩ <;> cbv <;> repeat' (first | trivial | exact EqX.rfl' | exact EqO.rfl' | apply And.intro | ((try clear hR3); (try clear hR2); (try clear hR); (try clear hK); (try simp only [ncCast] at *); (try simp only [castI_eq] at *); refine EqX.i ?_; (try rw [ho]); (try dsimp only [Ar.real, IX.vo, IX.val, BX.val, IX.toN]); (try simp only [QP1, QB7]); (repeat rw [wrap_i64 (by omega) (by omega)]); omega)))
    · obtain rfl : i = l.length := by ((try clear hR3); (try clear hR2); (try clear hR); (try clear hK); (try simp only [ncCast] at *); (try simp only [castI_eq] at *)); omega
      rw [h2 hno]
      exact FinX_iOr rfl rfl
end Go.Proofs.Ytpijibffjohikaa.Sy
namespace Go.Proofs.Ytpijibffjohikaa.Sy
open Go Go.Sy Go.Proofs.Ytpijibffjohikaa
theorem x_Frame1 (id : Int) (a : Frm) : XC Try.prog 59 ([.agg (Frm.X Ar.real a)] ++ [.ptr (.out 0) 0]) [.var [xi id] 2] (xb (decide (a.id = id))) [.var [xi id] 2] := by
  (refine XC.of_body ([]) Try.func59 rfl Try.ntmps59 mixed (T := tl59) tk59 (by kernel_rfl) (by simp) rfl rfl rfl rfl rfl ?_; rintro o ho P hP c K hK; have hm : P.follows .mixedOrders = true := hP ▸ mixed; have hT : TOk P tl59 := hP ▸ tk59; (try rw [← ho]); cbv; (repeat (refine StopN.mk ?_; cbv)))
  repeat' (first | (refine Br.mk (fun hb => ?_) (fun hb => ?_) <;> ((try rw [ho] at hb); (try dsimp only [Ar.real, IX.vo] at hb); (try simp only [QP1, QB7] at hb); (try simp only [QBo, beq_iff_eq, beq_eq_false_iff_ne, ne_eq] at hb))) | (refine StopN.mk ?_; cbv) | (refine hK _ _ ?_) | (refine NeedT.mk ?_ ?_))
  refine FinX_bOr ?_ rfl
  rw [ho]
  rfl
@[reducible] def atFrame (l : List Frm) (id : Int) : Int := ixR (fun a : Frm => decide (a.id = id)) l
theorem x_Frame (b : Bk) (hbk : BkOk b) (id : Int) : XC Try.prog 31 [.agg (Bk.X Ar.real b), xi id] [] (xi (atFrame b.fr id)) [] := by
  have hI := x_IxFrm (fun a : Frm => decide (a.id = id)) 59 id 2 fn59 (x_Frame1 id) b.fr hbk.n_fr
  unfold atFrame
  generalize ixR (fun a : Frm => decide (a.id = id)) b.fr = r at *
  obtain ⟨⟨c1, c2, c3, c4, c5, ⟨c6, c7, c8, c9⟩⟩, now, last, fr, ag, of, tk, fl⟩ := b
  dsimp only at *
  (refine XC.of_body ([]) Try.func31 rfl Try.ntmps31 mixed (T := tl31) tk31 (by kernel_rfl) (by simp) rfl rfl rfl rfl rfl ?_; rintro o ho P hP c K hK; have hm : P.follows .mixedOrders = true := hP ▸ mixed; have hT : TOk P tl31 := hP ▸ tk31; (try rw [← ho]); cbv; (repeat (refine StopN.mk ?_; cbv)))
  rw [← ho] at hI
  repeat' (first | (refine Br.mk (fun hb => ?_) (fun hb => ?_) <;> ((try rw [ho] at hb); (try dsimp only [Ar.real, IX.vo] at hb); (try simp only [QP1, QB7] at hb); (try simp only [QBo, beq_iff_eq, beq_eq_false_iff_ne, ne_eq] at hb))) | (refine StopN.mk ?_; cbv) | (refine CallI.objs [.loc 1] hP hI fn47 rfl rfl rfl rfl (by rfl) rfl rfl rfl rfl (by rfl) ⟨⟨_, rfl, rfl⟩, trivial⟩ ?_); cbv | (refine hK _ _ ?_) | (refine NeedT.mk ?_ ?_))
  exact .i rfl
theorem x_Agent1 (id : Int) (a : Agt) : XC Try.prog 56 ([.agg (Agt.X Ar.real a)] ++ [.ptr (.out 0) 0]) [.var [xi id] 2] (xb (decide (a.id = id))) [.var [xi id] 2] := by
  (refine XC.of_body ([]) Try.func56 rfl Try.ntmps56 mixed (T := tl56) tk56 (by kernel_rfl) (by simp) rfl rfl rfl rfl rfl ?_; rintro o ho P hP c K hK; have hm : P.follows .mixedOrders = true := hP ▸ mixed; have hT : TOk P tl56 := hP ▸ tk56; (try rw [← ho]); cbv; (repeat (refine StopN.mk ?_; cbv)))
  repeat' (first | (refine Br.mk (fun hb => ?_) (fun hb => ?_) <;> ((try rw [ho] at hb); (try dsimp only [Ar.real, IX.vo] at hb); (try simp only [QP1, QB7] at hb); (try simp only [QBo, beq_iff_eq, beq_eq_false_iff_ne, ne_eq] at hb))) | (refine StopN.mk ?_; cbv) | (refine hK _ _ ?_) | (refine NeedT.mk ?_ ?_))
  refine FinX_bOr ?_ rfl
  rw [ho]
  rfl
@[reducible] def atAgent (l : List Agt) (id : Int) : Int := ixR (fun a : Agt => decide (a.id = id)) l
theorem x_Agent (b : Bk) (hbk : BkOk b) (id : Int) : XC Try.prog 25 [.agg (Bk.X Ar.real b), xi id] [] (xi (atAgent b.ag id)) [] := by
  have hI := x_IxAgt (fun a : Agt => decide (a.id = id)) 56 id 2 fn56 (x_Agent1 id) b.ag hbk.n_ag
  unfold atAgent
  generalize ixR (fun a : Agt => decide (a.id = id)) b.ag = r at *
  obtain ⟨⟨c1, c2, c3, c4, c5, ⟨c6, c7, c8, c9⟩⟩, now, last, fr, ag, of, tk, fl⟩ := b
  dsimp only at *
  (refine XC.of_body ([]) Try.func25 rfl Try.ntmps25 mixed (T := tl25) tk25 (by kernel_rfl) (by simp) rfl rfl rfl rfl rfl ?_; rintro o ho P hP c K hK; have hm : P.follows .mixedOrders = true := hP ▸ mixed; have hT : TOk P tl25 := hP ▸ tk25; (try rw [← ho]); cbv; (repeat (refine StopN.mk ?_; cbv)))
  rw [← ho] at hI
  repeat' (first | (refine Br.mk (fun hb => ?_) (fun hb => ?_) <;> ((try rw [ho] at hb); (try dsimp only [Ar.real, IX.vo] at hb); (try simp only [QP1, QB7] at hb); (try simp only [QBo, beq_iff_eq, beq_eq_false_iff_ne, ne_eq] at hb))) | (refine StopN.mk ?_; cbv) | (refine CallI.objs [.loc 1] hP hI fn55 rfl rfl rfl rfl (by rfl) rfl rfl rfl rfl (by rfl) ⟨⟨_, rfl, rfl⟩, trivial⟩ ?_); cbv | (refine hK _ _ ?_) | (refine NeedT.mk ?_ ?_))
  exact .i rfl
theorem x_Offer1 (id : Int) (a : Ofr) : XC Try.prog 54 ([.agg (Ofr.X Ar.real a)] ++ [.ptr (.out 0) 0]) [.var [xi id] 2] (xb (decide (a.id = id))) [.var [xi id] 2] := by
  (refine XC.of_body ([]) Try.func54 rfl Try.ntmps54 mixed (T := tl54) tk54 (by kernel_rfl) (by simp) rfl rfl rfl rfl rfl ?_; rintro o ho P hP c K hK; have hm : P.follows .mixedOrders = true := hP ▸ mixed; have hT : TOk P tl54 := hP ▸ tk54; (try rw [← ho]); cbv; (repeat (refine StopN.mk ?_; cbv)))
  repeat' (first | (refine Br.mk (fun hb => ?_) (fun hb => ?_) <;> ((try rw [ho] at hb); (try dsimp only [Ar.real, IX.vo] at hb); (try simp only [QP1, QB7] at hb); (try simp only [QBo, beq_iff_eq, beq_eq_false_iff_ne, ne_eq] at hb))) | (refine StopN.mk ?_; cbv) | (refine hK _ _ ?_) | (refine NeedT.mk ?_ ?_))
  refine FinX_bOr ?_ rfl
  rw [ho]
  rfl
@[reducible] def atOffer (l : List Ofr) (id : Int) : Int := ixR (fun a : Ofr => decide (a.id = id)) l
theorem x_Offer (b : Bk) (hbk : BkOk b) (id : Int) : XC Try.prog 24 [.agg (Bk.X Ar.real b), xi id] [] (xi (atOffer b.of id)) [] := by
  have hI := x_IxOfr (fun a : Ofr => decide (a.id = id)) 54 id 2 fn54 (x_Offer1 id) b.of hbk.n_of
  unfold atOffer
  generalize ixR (fun a : Ofr => decide (a.id = id)) b.of = r at *
  obtain ⟨⟨c1, c2, c3, c4, c5, ⟨c6, c7, c8, c9⟩⟩, now, last, fr, ag, of, tk, fl⟩ := b
  dsimp only at *
  (refine XC.of_body ([]) Try.func24 rfl Try.ntmps24 mixed (T := tl24) tk24 (by kernel_rfl) (by simp) rfl rfl rfl rfl rfl ?_; rintro o ho P hP c K hK; have hm : P.follows .mixedOrders = true := hP ▸ mixed; have hT : TOk P tl24 := hP ▸ tk24; (try rw [← ho]); cbv; (repeat (refine StopN.mk ?_; cbv)))
  rw [← ho] at hI
  repeat' (first | (refine Br.mk (fun hb => ?_) (fun hb => ?_) <;> ((try rw [ho] at hb); (try dsimp only [Ar.real, IX.vo] at hb); (try simp only [QP1, QB7] at hb); (try simp only [QBo, beq_iff_eq, beq_eq_false_iff_ne, ne_eq] at hb))) | (refine StopN.mk ?_; cbv) | (refine CallI.objs [.loc 1] hP hI fn53 rfl rfl rfl rfl (by rfl) rfl rfl rfl rfl (by rfl) ⟨⟨_, rfl, rfl⟩, trivial⟩ ?_); cbv | (refine hK _ _ ?_) | (refine NeedT.mk ?_ ?_))
  exact .i rfl
@[reducible] def atTask (l : List Tsk) (f id : Int) : Int := ixR (fun a : Tsk => decide (a.frame = f) && decide (a.id = id)) l
end Go.Proofs.Ytpijibffjohikaa.Sy
namespace Go.Proofs.Ytpijibffjohikaa.Sy
open Go Go.Sy Go.Proofs.Ytpijibffjohikaa
end Go.Proofs.Ytpijibffjohikaa.Sy
namespace Go.Proofs.Ytpijibffjohikaa.Sy
open Go Go.Sy Go.Proofs.Ytpijibffjohikaa
theorem Part.ext9 {a b : Part} (h1 : a.kind = b.kind) (h2 : a.role = b.role) (h3 : a.amount = b.amount) : a = b := by cases a; cases b; simp_all
def vEq (a b : List Part) : Bool := decide (a = b)
theorem x_EqualV (a b : List Part) (hab : a.length ≤ 1048576 ∧ b.length ≤ 1048576) : XC Try.prog 70 [.ro (SL Ar.real Part.X a), .ro (SL Ar.real Part.X b)] [] (xb (vEq a b)) [] := by
  obtain ⟨ha, hb'⟩ := hab
  (refine XC.of_body (dt70) Try.func70 rfl Try.ntmps70 mixed (T := tl70) tk70 (by kernel_rfl) (by simp) rfl rfl rfl rfl rfl ?_; rintro o ho P hP c K hK; have hm : P.follows .mixedOrders = true := hP ▸ mixed; have hT : TOk P tl70 := hP ▸ tk70; (try rw [← ho]); cbv; (repeat (refine StopN.mk ?_; cbv)))
  repeat' (first | (refine Br.mk (fun hb => ?_) (fun hb => ?_) <;> ((try rw [ho] at hb); (try dsimp only [Ar.real, IX.vo] at hb); (try simp only [QP1, QB7] at hb); (try simp only [QBo, beq_iff_eq, beq_eq_false_iff_ne, ne_eq] at hb))) | (refine StopN.mk ?_; cbv) | (refine hK _ _ ?_) | (refine NeedT.mk ?_ ?_))
  · refine .b ?_
    ((try clear hR3); (try clear hR2); (try clear hR); (try clear hK); (try simp only [ncCast] at *); (try simp only [castI_eq] at *); (try rw [ho]); (try dsimp only [Ar.real, IX.vo, IX.val, BX.val, IX.toN]); (try simp only [QP1, QB7]))
    have hne : a ≠ b := fun e => ‹¬ a.length = b.length› (by rw [e])
    simp only [vEq, decide_eq_false hne]
  refine LoopN.over (o := o) (D := dt70) ho hm hT (by kernel_rfl) (fun i : Nat => [(13, xn i)]) (fun _ => []) (fun _ => []) (fun i => i ≤ a.length ∧ ∀ j, j < i → a.getD j default = b.getD j default) (fun i => a.length - i) 0 ⟨Nat.zero_le _, fun j hj => by omega⟩ ?_ ?_
  · (refine ⟨?_, ?_, ?_, ?_⟩ <;> cbv <;> repeat' (first | trivial | exact EqX.rfl' | exact EqO.rfl' | apply And.intro | ((try clear hR3); (try clear hR2); (try clear hR); (try clear hK); (try simp only [ncCast] at *); (try simp only [castI_eq] at *); refine EqX.i ?_; (try rw [ho]); (try dsimp only [Ar.real, IX.vo, IX.val, BX.val, IX.toN]); (try simp only [QP1, QB7]); (repeat rw [wrap_i64 (by omega) (by omega)]); omega)))
  · rintro i ⟨hi, hj⟩ R hR
    cbv
    repeat' (first | (refine Br.mk (fun hb => ?_) (fun hb => ?_) <;> ((try rw [ho] at hb); (try dsimp only [Ar.real, IX.vo] at hb); (try simp only [QP1, QB7] at hb); (try simp only [QBo, beq_iff_eq, beq_eq_false_iff_ne, ne_eq] at hb))) | (refine StopN.mk ?_; cbv) | (refine hK _ _ ?_) | (refine NeedT.mk ?_ ?_))
    any_goals (((try clear hR3); (try clear hR2); (try clear hR); (try clear hK); (try simp only [ncCast] at *); (try simp only [castI_eq] at *); (try rw [ho]); (try dsimp only [Ar.real, IX.vo, IX.val, BX.val, IX.toN]); (try simp only [QP1, QB7]); (try simp only [decide_eq_true_eq]); (all_goals (repeat rw [wrap_i64 (by omega) (by omega)])); (all_goals (first | omega | (simp only [Int.ofNat_eq_natCast]; omega)))); done)
    · have hne : a ≠ b := fun e => by
        ((try clear hR3); (try clear hR2); (try clear hR); (try clear hK); (try simp only [ncCast] at *); (try simp only [castI_eq] at *))
        subst e
        simp at hb
      refine .b ?_
      ((try clear hR3); (try clear hR2); (try clear hR); (try clear hK); (try simp only [ncCast] at *); (try simp only [castI_eq] at *); (try rw [ho]); (try dsimp only [Ar.real, IX.vo, IX.val, BX.val, IX.toN]); (try simp only [QP1, QB7]))
      simp only [vEq, decide_eq_false hne]
    · have he : a.getD i default = b.getD i default := by
        ((try clear hR3); (try clear hR2); (try clear hR); (try clear hK); (try simp only [ncCast] at *); (try simp only [castI_eq] at *))
        simp only [Bool.and_eq_true, decide_eq_true_eq] at hb
        exact Part.ext9 hb.1 hb.2.1 hb.2.2
      refine hR _ (i + 1) (by omega) ⟨by omega, fun j h => ?_⟩ ?_
      · rcases Nat.lt_or_ge j i with h3 | h3
        · exact hj j h3
        · obtain rfl : j = i := by omega
          exact he
      · (refine ⟨?_, ?_, ?_, ?_⟩ <;> cbv <;> repeat' (first | trivial | exact EqX.rfl' | exact EqO.rfl' | apply And.intro | ((try clear hR3); (try clear hR2); (try clear hR); (try clear hK); (try simp only [ncCast] at *); (try simp only [castI_eq] at *); refine EqX.i ?_; (try rw [ho]); (try dsimp only [Ar.real, IX.vo, IX.val, BX.val, IX.toN]); (try simp only [QP1, QB7]); (repeat rw [wrap_i64 (by omega) (by omega)]); omega)))
    · have he : a = b := by
        apply List.ext_getElem ‹a.length = b.length›
        intro j g1 g2
        have := hj j (by omega)
        simpa [List.getD_eq_getElem?_getD, g1, g2] using this
      refine .b ?_
      ((try clear hR3); (try clear hR2); (try clear hR); (try clear hK); (try simp only [ncCast] at *); (try simp only [castI_eq] at *); (try rw [ho]); (try dsimp only [Ar.real, IX.vo, IX.val, BX.val, IX.toN]); (try simp only [QP1, QB7]))
      simp only [vEq, decide_eq_true he]
theorem x_SameV (a b : List Part) (hab : a.length ≤ 1048576 ∧ b.length ≤ 1048576) : XC Try.prog 46 [.ro (SL Ar.real Part.X a), .ro (SL Ar.real Part.X b)] [] (xb (vEq a b)) [] := by
  (refine XC.of_body ([]) Try.func46 rfl Try.ntmps46 mixed (T := tl46) tk46 (by kernel_rfl) (by simp) rfl rfl rfl rfl rfl ?_; rintro o ho P hP c K hK; have hm : P.follows .mixedOrders = true := hP ▸ mixed; have hT : TOk P tl46 := hP ▸ tk46; (try rw [← ho]); cbv; (repeat (refine StopN.mk ?_; cbv)))
  repeat' (first | (refine Br.mk (fun hb => ?_) (fun hb => ?_) <;> ((try rw [ho] at hb); (try dsimp only [Ar.real, IX.vo] at hb); (try simp only [QP1, QB7] at hb); (try simp only [QBo, beq_iff_eq, beq_eq_false_iff_ne, ne_eq] at hb))) | (refine StopN.mk ?_; cbv) | (refine CallI.pure hP (x_EqualV _ _ ‹_›) fn70 (by first | rfl | (rw [ho]; try rfl)) (by rfl) (by first | rfl | (rw [ho]; try rfl)) ?_; (try rw [← ho]); generalize hr : vEq _ _ = r; (try rw [ho] at hr); (try dsimp only [Ar.real, IX.vo] at hr); (try simp only [QP1, QB7] at hr); cbv) | (refine hK _ _ ?_) | (refine NeedT.mk ?_ ?_))
  subst hr
  exact .b rfl
theorem XC_at {P : Program} {f : FuncId} {args args' : List X} {O O' : List OX} {r r' : X} (h : XC P f args O r O') (e : ∀ c, X.toDL c args = X.toDL c args') (hr : ∀ c, r.toD c = r'.toD c) : XC P f args' O r' O' := by
  intro c h1 h2
  rw [← e c, ← hr c]
  exact h c h1 h2
@[reducible] def il (n : Int) : X := .i .i64 (.lit n)
@[reducible] def l3 : X := .ro (.lits [[il 0, il 0, il 3]])
@[reducible] def l0 : X := .ro (.lits [])
def p3 : List Part := [⟨0, 0, 3⟩]
theorem d_right3 : XC Try.prog 33 [l3] [] (.b .t) [] := XC_at (x_vec_Right p3 (by decide)) (fun c => rfl) (fun c => by rw [show vecRight p3 = true from by decide]; rfl)
theorem d_right0 : XC Try.prog 33 [l0] [] (.b .t) [] := XC_at (x_vec_Right [] (by decide)) (fun c => rfl) (fun c => by rw [show vecRight [] = true from by decide]; rfl)
theorem d_only : XC Try.prog 66 [l3, .ro (.lits [[il 0], [il 2]])] [] l3 [] := XC_at (x_Only p3 [0, 2] (by decide) (by decide)) (fun c => rfl) (fun c => by rw [show onlyR p3 [0, 2] = p3 from by decide]; rfl)
theorem d_of : XC Try.prog 11 [l3] [] (.agg [il 3, il 0, il 0, il 0]) [] := XC_at (x_sumsOf p3 (by decide)) (fun c => rfl) (fun c => by rw [show sumsOf p3 = ⟨3, 0, 0, 0⟩ from by decide]; rfl)
theorem d_add : XC Try.prog 7 [.agg [il 0, il 0, il 0, il 0], .agg [il 3, il 0, il 0, il 0]] [] (.tup [.agg [il 3, il 0, il 0, il 0], .b .t]) [] := XC_at (x_sumsAdd ⟨0, 0, 0, 0⟩ ⟨3, 0, 0, 0⟩) (fun c => rfl) (fun c => by rw [show sumsAdd ⟨0, 0, 0, 0⟩ ⟨3, 0, 0, 0⟩ = (⟨3, 0, 0, 0⟩, true) from by decide]; rfl)
theorem d_same : XC Try.prog 46 [l3, l3] [] (.b .t) [] := XC_at (x_SameV p3 p3 (by decide)) (fun c => rfl) (fun c => by rw [show vEq p3 p3 = true from by decide]; rfl)
theorem d_same0 : XC Try.prog 46 [l0, l3] [] (.b .f) [] := XC_at (x_SameV [] p3 (by decide)) (fun c => rfl) (fun c => by rw [show vEq [] p3 = false from by decide]; rfl)
theorem d_shrOf : XC Try.prog 49 [.agg [il 3, il 0, il 0, il 0], .agg [il 3, il 0, il 0, il 0], il 3] [] (.agg [il 3, il 3, il 3]) [] := XC_at (x_shrOf ⟨3, 0, 0, 0⟩ ⟨3, 0, 0, 0⟩ 3) (fun c => rfl) (fun c => by rw [show shrOf ⟨3, 0, 0, 0⟩ ⟨3, 0, 0, 0⟩ 3 = ⟨3, 3, 3⟩ from by decide]; rfl)
theorem d_shrRight : XC Try.prog 50 [.agg [il 3, il 3, il 3]] [] (.b .t) [] := XC_at (x_shrRight ⟨3, 3, 3⟩) (fun c => rfl) (fun c => by rw [show shrRight ⟨3, 3, 3⟩ = true from by decide]; rfl)
theorem d_fracRight : XC Try.prog 72 [.agg [il 3, il 3]] [] (.b .t) [] := XC_at (x_fracRight 3 3) (fun c => rfl) (fun c => by rw [show fracRight 3 3 = true from by decide]; rfl)
theorem d_max : XC Try.prog 37 [.ro (.lits [[il 3], [il 0], [il 0], [il 0]])] [] (il 3) [] := by
  (refine XC.of_body ([]) Try.func37 rfl Try.ntmps37 mixed (T := tl37) tk37 (by kernel_rfl) (by simp) rfl rfl rfl rfl rfl ?_; rintro o ho P hP c K hK; have hm : P.follows .mixedOrders = true := hP ▸ mixed; have hT : TOk P tl37 := hP ▸ tk37; (try rw [← ho]); cbv; (repeat (refine StopN.mk ?_; cbv)))
  repeat' (first | (refine Br.mk (fun hb => ?_) (fun hb => ?_) <;> ((try rw [ho] at hb); (try dsimp only [Ar.real, IX.vo] at hb); (try simp only [QP1, QB7] at hb); (try simp only [QBo, beq_iff_eq, beq_eq_false_iff_ne, ne_eq] at hb))) | (refine StopN.mk ?_; cbv) | (refine NeedT.mk (by rw [ho]; rfl) ?_) | (refine hK _ _ ?_) | (refine NeedT.mk ?_ ?_) | (refine LoopN.lay (o := o) (D := []) 5 ho hm hT (by kernel_rfl) ?_; cbv))
  exact .pure fun _ => rfl
theorem d_add3 : XC Try.prog 43 [l0, l3] [] (.tup [l3, .b .t]) [] := by
  (refine XC.of_body (dt43) Try.func43 rfl Try.ntmps43 mixed (T := tl43) tk43 (by kernel_rfl) (by simp) rfl rfl rfl rfl rfl ?_; rintro o ho P hP c K hK; have hm : P.follows .mixedOrders = true := hP ▸ mixed; have hT : TOk P tl43 := hP ▸ tk43; (try rw [← ho]); cbv; (repeat (refine StopN.mk ?_; cbv)))
  repeat' (first | (refine Br.mk (fun hb => ?_) (fun hb => ?_) <;> ((try rw [ho] at hb); (try dsimp only [Ar.real, IX.vo] at hb); (try simp only [QP1, QB7] at hb); (try simp only [QBo, beq_iff_eq, beq_eq_false_iff_ne, ne_eq] at hb))) | (refine StopN.mk ?_; cbv) | (first | refine NeedT.mk (by rw [ho]; rfl) ?_ | (first | refine CallI.pure hP d_right0 fn33 rfl rfl rfl ?_ | refine CallI.pure hP d_right3 fn33 rfl rfl rfl ?_); cbv) | ((first | refine CallI.pure hP (x_vec_of _ _ _) fn61 (by first | rfl | (rw [ho]; try rfl)) (by rfl) (by first | rfl | (rw [ho]; try rfl)) ?_ | refine CallN.pure hP (x_vec_of _ _ _) fn61 (by first | rfl | (rw [ho]; try rfl)) (by rfl) (by first | rfl | (rw [ho]; try rfl)) ?_); (try rw [← ho]); cbv) | ((first | refine CallI.pure hP (x_slot_Cmp _ _ _ _) fn63 (by first | rfl | (rw [ho]; try rfl)) (by rfl) (by first | rfl | (rw [ho]; try rfl)) ?_ | refine CallN.pure hP (x_slot_Cmp _ _ _ _) fn63 (by first | rfl | (rw [ho]; try rfl)) (by rfl) (by first | rfl | (rw [ho]; try rfl)) ?_); (try rw [← ho]); generalize hr : slotCmp _ _ _ _ = r; (try rw [ho] at hr); (try dsimp only [Ar.real, IX.vo] at hr); (try simp only [QP1, QB7] at hr); cbv) | (refine hK _ _ ?_) | (refine NeedT.mk ?_ ?_) | (refine LoopN.lay (o := o) (D := dt43) 3 ho hm hT (by kernel_rfl) ?_; cbv))
  exact .pure fun _ => rfl
theorem d_add0 : XC Try.prog 43 [l0, l0] [] (.tup [l0, .b .t]) [] := by
  (refine XC.of_body (dt43) Try.func43 rfl Try.ntmps43 mixed (T := tl43) tk43 (by kernel_rfl) (by simp) rfl rfl rfl rfl rfl ?_; rintro o ho P hP c K hK; have hm : P.follows .mixedOrders = true := hP ▸ mixed; have hT : TOk P tl43 := hP ▸ tk43; (try rw [← ho]); cbv; (repeat (refine StopN.mk ?_; cbv)))
  repeat' (first | (refine Br.mk (fun hb => ?_) (fun hb => ?_) <;> ((try rw [ho] at hb); (try dsimp only [Ar.real, IX.vo] at hb); (try simp only [QP1, QB7] at hb); (try simp only [QBo, beq_iff_eq, beq_eq_false_iff_ne, ne_eq] at hb))) | (refine StopN.mk ?_; cbv) | (first | refine NeedT.mk (by rw [ho]; rfl) ?_ | (first | refine CallI.pure hP d_right0 fn33 rfl rfl rfl ?_ | refine CallI.pure hP d_right3 fn33 rfl rfl rfl ?_); cbv) | ((first | refine CallI.pure hP (x_vec_of _ _ _) fn61 (by first | rfl | (rw [ho]; try rfl)) (by rfl) (by first | rfl | (rw [ho]; try rfl)) ?_ | refine CallN.pure hP (x_vec_of _ _ _) fn61 (by first | rfl | (rw [ho]; try rfl)) (by rfl) (by first | rfl | (rw [ho]; try rfl)) ?_); (try rw [← ho]); cbv) | ((first | refine CallI.pure hP (x_slot_Cmp _ _ _ _) fn63 (by first | rfl | (rw [ho]; try rfl)) (by rfl) (by first | rfl | (rw [ho]; try rfl)) ?_ | refine CallN.pure hP (x_slot_Cmp _ _ _ _) fn63 (by first | rfl | (rw [ho]; try rfl)) (by rfl) (by first | rfl | (rw [ho]; try rfl)) ?_); (try rw [← ho]); generalize hr : slotCmp _ _ _ _ = r; (try rw [ho] at hr); (try dsimp only [Ar.real, IX.vo] at hr); (try simp only [QP1, QB7] at hr); cbv) | (refine hK _ _ ?_) | (refine NeedT.mk ?_ ?_) | (refine LoopN.lay (o := o) (D := dt43) 3 ho hm hT (by kernel_rfl) ?_; cbv))
  exact .pure fun _ => rfl
theorem d_sdigits : XC Try.prog 52 [il 3] [] (.v (.string ⟨#[51]⟩)) [] := by
  (refine XC.of_body ([]) Try.func52 rfl Try.ntmps52 mixed (T := tl52) tk52 (by kernel_rfl) (by simp) rfl rfl rfl rfl rfl ?_; rintro o ho P hP c K hK; have hm : P.follows .mixedOrders = true := hP ▸ mixed; have hT : TOk P tl52 := hP ▸ tk52; (try rw [← ho]); cbv; (repeat (refine StopN.mk ?_; cbv)))
  repeat' (first | (refine Br.mk (fun hb => ?_) (fun hb => ?_) <;> ((try rw [ho] at hb); (try dsimp only [Ar.real, IX.vo] at hb); (try simp only [QP1, QB7] at hb); (try simp only [QBo, beq_iff_eq, beq_eq_false_iff_ne, ne_eq] at hb))) | (refine StopN.mk ?_; cbv) | (refine hK _ _ ?_) | (refine NeedT.mk ?_ ?_))
  refine OpN.bytes [51] (by rw [hP]; exact tok117.k) (by rw [hP]; exact tok5.k) (by rw [hP]; exact tok9.k) (.inr rfl) rfl ?_
  rintro s rfl
  cbv
  repeat' (first | (refine Br.mk (fun hb => ?_) (fun hb => ?_) <;> ((try rw [ho] at hb); (try dsimp only [Ar.real, IX.vo] at hb); (try simp only [QP1, QB7] at hb); (try simp only [QBo, beq_iff_eq, beq_eq_false_iff_ne, ne_eq] at hb))) | (refine StopN.mk ?_; cbv) | (refine hK _ _ ?_) | (refine NeedT.mk ?_ ?_))
  exact .pure fun _ => rfl
theorem d_rdigits : XC Try.prog 73 [il 3] [] (.v (.string ⟨#[51]⟩)) [] := by
  (refine XC.of_body ([]) Try.func73 rfl Try.ntmps73 mixed (T := tl73) tk73 (by kernel_rfl) (by simp) rfl rfl rfl rfl rfl ?_; rintro o ho P hP c K hK; have hm : P.follows .mixedOrders = true := hP ▸ mixed; have hT : TOk P tl73 := hP ▸ tk73; (try rw [← ho]); cbv; (repeat (refine StopN.mk ?_; cbv)))
  repeat' (first | (refine Br.mk (fun hb => ?_) (fun hb => ?_) <;> ((try rw [ho] at hb); (try dsimp only [Ar.real, IX.vo] at hb); (try simp only [QP1, QB7] at hb); (try simp only [QBo, beq_iff_eq, beq_eq_false_iff_ne, ne_eq] at hb))) | (refine StopN.mk ?_; cbv) | (refine NeedT.mk (by rw [ho]; rfl) ?_) | (refine hK _ _ ?_) | (refine NeedT.mk ?_ ?_) | (refine LoopN.lay (o := o) (D := []) 3 ho hm hT (by kernel_rfl) ?_; cbv))
  refine FrzN.frzv 0 3 rfl rfl rfl (.done ?_)
  cbv
  refine OpN.asl 19 rfl (by rw [hP]; exact tok136.k) (by rw [hP]; exact tok5.sz) (by decide) (by decide) rfl (by decide) (.inr ⟨_, rfl, rfl⟩) ?_
  cbv
  repeat' (first | (refine Br.mk (fun hb => ?_) (fun hb => ?_) <;> ((try rw [ho] at hb); (try dsimp only [Ar.real, IX.vo] at hb); (try simp only [QP1, QB7] at hb); (try simp only [QBo, beq_iff_eq, beq_eq_false_iff_ne, ne_eq] at hb))) | (refine StopN.mk ?_; cbv) | (refine NeedT.mk (by rw [ho]; rfl) ?_) | (refine hK _ _ ?_) | (refine NeedT.mk ?_ ?_) | (refine LoopN.lay (o := o) (D := []) 3 ho hm hT (by kernel_rfl) ?_; cbv))
  refine FrzN.frz 1 [29] rfl (fun t ht => by rw [List.mem_singleton.1 ht]; rfl) (.done ?_)
  cbv
  refine OpN.bytes [51] (by rw [hP]; exact tok117.k) (by rw [hP]; exact tok5.k) (by rw [hP]; exact tok9.k) (.inl rfl) rfl ?_
  rintro s rfl
  cbv
  repeat' (first | (refine Br.mk (fun hb => ?_) (fun hb => ?_) <;> ((try rw [ho] at hb); (try dsimp only [Ar.real, IX.vo] at hb); (try simp only [QP1, QB7] at hb); (try simp only [QBo, beq_iff_eq, beq_eq_false_iff_ne, ne_eq] at hb))) | (refine StopN.mk ?_; cbv) | (refine hK _ _ ?_) | (refine NeedT.mk ?_ ?_))
  exact .pure fun _ => rfl
theorem d_rtext : XC Try.prog 51 [.agg [il 3, il 3]] [] (.v (.string ⟨#[51, 47, 51]⟩)) [] := by
  (refine XC.of_body (dt51) Try.func51 rfl Try.ntmps51 mixed (T := tl51) tk51 (by kernel_rfl) (by simp) rfl rfl rfl rfl rfl ?_; rintro o ho P hP c K hK; have hm : P.follows .mixedOrders = true := hP ▸ mixed; have hT : TOk P tl51 := hP ▸ tk51; (try rw [← ho]); cbv; (repeat (refine StopN.mk ?_; cbv)))
  repeat' (first | (refine Br.mk (fun hb => ?_) (fun hb => ?_) <;> ((try rw [ho] at hb); (try dsimp only [Ar.real, IX.vo] at hb); (try simp only [QP1, QB7] at hb); (try simp only [QBo, beq_iff_eq, beq_eq_false_iff_ne, ne_eq] at hb))) | (refine StopN.mk ?_; cbv) | (first | refine CallI.pure hP d_fracRight fn72 rfl rfl rfl ?_ | refine CallN.pure hP d_rdigits fn73 rfl rfl rfl ?_); cbv | (refine hK _ _ ?_) | (refine NeedT.mk ?_ ?_))
  all_goals
    refine OpN.cat rfl rfl (by decide) ?_
    rintro s rfl
    cbv
  repeat' (first | (refine Br.mk (fun hb => ?_) (fun hb => ?_) <;> ((try rw [ho] at hb); (try dsimp only [Ar.real, IX.vo] at hb); (try simp only [QP1, QB7] at hb); (try simp only [QBo, beq_iff_eq, beq_eq_false_iff_ne, ne_eq] at hb))) | (refine StopN.mk ?_; cbv) | (first | refine CallI.pure hP d_fracRight fn72 rfl rfl rfl ?_ | refine CallN.pure hP d_rdigits fn73 rfl rfl rfl ?_); cbv | (refine hK _ _ ?_) | (refine NeedT.mk ?_ ?_))
  all_goals
    refine OpN.cat rfl rfl (by decide) ?_
    rintro s rfl
    cbv
  repeat' (first | (refine Br.mk (fun hb => ?_) (fun hb => ?_) <;> ((try rw [ho] at hb); (try dsimp only [Ar.real, IX.vo] at hb); (try simp only [QP1, QB7] at hb); (try simp only [QBo, beq_iff_eq, beq_eq_false_iff_ne, ne_eq] at hb))) | (refine StopN.mk ?_; cbv) | ((first | refine CallI.pure hP (x_fracRight _ _) fn72 (by first | rfl | (rw [ho]; try rfl)) (by rfl) (by first | rfl | (rw [ho]; try rfl)) ?_ | refine CallN.pure hP (x_fracRight _ _) fn72 (by first | rfl | (rw [ho]; try rfl)) (by rfl) (by first | rfl | (rw [ho]; try rfl)) ?_); (try rw [← ho]); generalize hr : fracRight _ _ = r; (try rw [ho] at hr); (try dsimp only [Ar.real, IX.vo] at hr); (try simp only [QP1, QB7] at hr); cbv) | (refine hK _ _ ?_) | (refine NeedT.mk ?_ ?_))
  exact .pure fun _ => rfl
theorem d_text : XC Try.prog 23 [.agg [il 3, il 3, il 3]] [] (.v (.string ⟨#[51, 47, 51, 58, 51]⟩)) [] := by
  (refine XC.of_body (dt23) Try.func23 rfl Try.ntmps23 mixed (T := tl23) tk23 (by kernel_rfl) (by simp) rfl rfl rfl rfl rfl ?_; rintro o ho P hP c K hK; have hm : P.follows .mixedOrders = true := hP ▸ mixed; have hT : TOk P tl23 := hP ▸ tk23; (try rw [← ho]); cbv; (repeat (refine StopN.mk ?_; cbv)))
  repeat' (first | (refine Br.mk (fun hb => ?_) (fun hb => ?_) <;> ((try rw [ho] at hb); (try dsimp only [Ar.real, IX.vo] at hb); (try simp only [QP1, QB7] at hb); (try simp only [QBo, beq_iff_eq, beq_eq_false_iff_ne, ne_eq] at hb))) | (refine StopN.mk ?_; cbv) | (first | refine CallI.pure hP d_shrRight fn50 rfl rfl rfl ?_ | refine CallN.pure hP d_rtext fn51 rfl rfl rfl ?_ | refine CallN.pure hP d_sdigits fn52 rfl rfl rfl ?_); cbv | (refine hK _ _ ?_) | (refine NeedT.mk ?_ ?_))
  all_goals
    refine OpN.cat rfl rfl (by decide) ?_
    rintro s rfl
    cbv
  repeat' (first | (refine Br.mk (fun hb => ?_) (fun hb => ?_) <;> ((try rw [ho] at hb); (try dsimp only [Ar.real, IX.vo] at hb); (try simp only [QP1, QB7] at hb); (try simp only [QBo, beq_iff_eq, beq_eq_false_iff_ne, ne_eq] at hb))) | (refine StopN.mk ?_; cbv) | (first | refine CallI.pure hP d_shrRight fn50 rfl rfl rfl ?_ | refine CallN.pure hP d_rtext fn51 rfl rfl rfl ?_ | refine CallN.pure hP d_sdigits fn52 rfl rfl rfl ?_); cbv | (refine hK _ _ ?_) | (refine NeedT.mk ?_ ?_))
  all_goals
    refine OpN.cat rfl rfl (by decide) ?_
    rintro s rfl
    cbv
  repeat' (first | (refine Br.mk (fun hb => ?_) (fun hb => ?_) <;> ((try rw [ho] at hb); (try dsimp only [Ar.real, IX.vo] at hb); (try simp only [QP1, QB7] at hb); (try simp only [QBo, beq_iff_eq, beq_eq_false_iff_ne, ne_eq] at hb))) | (refine StopN.mk ?_; cbv) | ((first | refine CallI.pure hP (x_shrRight _) fn50 (by first | rfl | (rw [ho]; try rfl)) (by rfl) (by first | rfl | (rw [ho]; try rfl)) ?_ | refine CallN.pure hP (x_shrRight _) fn50 (by first | rfl | (rw [ho]; try rfl)) (by rfl) (by first | rfl | (rw [ho]; try rfl)) ?_); (try rw [← ho]); generalize hr : shrRight _ = r; (try rw [ho] at hr); (try dsimp only [Ar.real, IX.vo] at hr); (try simp only [QP1, QB7] at hr); cbv) | (refine hK _ _ ?_) | (refine NeedT.mk ?_ ?_))
  exact .pure fun _ => rfl
end Go.Proofs.Ytpijibffjohikaa.Sy
namespace Go.Proofs.Ytpijibffjohikaa.Sy
open Go Go.Sy Go.Proofs.Ytpijibffjohikaa
@[reducible] def cfL : List X := [il 9, il 9, il 9, il 0, il 9, il 0, il 0, il 0, il 0]
@[reducible] def agL : X := .ro (.lits [[il 1, l3, l0]])
@[reducible] def bkA : X := .agg (cfL ++ [il 0, il 1, .ro (.lits [[il 4, il 2, il 3, .b .t, .b .f, il 0, il 0]]), agL, .ro (.lits [[il 1, il 4, il 1, l3, il 0]]), l0, l0])
@[reducible] def bkB : X := .agg (cfL ++ [il 0, il 0, l0, agL, l0, l0, l0])
def wthB (x y z : Int) : Bool := decide (y ≤ x) && decide (x ≤ z)
theorem x_within (x y z : Int) : XC Try.prog 65 [xi x, xi y, xi z] [] (xb (wthB x y z)) [] := by
  (refine XC.of_body ([]) Try.func65 rfl Try.ntmps65 mixed (T := tl65) tk65 (by kernel_rfl) (by simp) rfl rfl rfl rfl rfl ?_; rintro o ho P hP c K hK; have hm : P.follows .mixedOrders = true := hP ▸ mixed; have hT : TOk P tl65 := hP ▸ tk65; (try rw [← ho]); cbv; (repeat (refine StopN.mk ?_; cbv)))
  repeat' (first | (refine Br.mk (fun hb => ?_) (fun hb => ?_) <;> ((try rw [ho] at hb); (try dsimp only [Ar.real, IX.vo] at hb); (try simp only [QP1, QB7] at hb); (try simp only [QBo, beq_iff_eq, beq_eq_false_iff_ne, ne_eq] at hb))) | (refine StopN.mk ?_; cbv) | (refine hK _ _ ?_) | (refine NeedT.mk ?_ ?_))
  all_goals
    refine .b ?_
    unfold wthB
    ((try clear hR3); (try clear hR2); (try clear hR); (try clear hK); (try simp only [ncCast] at *); (try simp only [castI_eq] at *); (try rw [ho]); (try dsimp only [Ar.real, IX.vo, IX.val, BX.val, IX.toN]); (try simp only [QP1, QB7]))
    simp [*]
  all_goals omega
def numB (x : Int) : Bool := decide (1 ≤ x) && decide (x ≤ 9007199254740992)
theorem x_number (x : Int) : XC Try.prog 36 [xi x] [] (xb (numB x)) [] := by
  (refine XC.of_body ([]) Try.func36 rfl Try.ntmps36 mixed (T := tl36) tk36 (by kernel_rfl) (by simp) rfl rfl rfl rfl rfl ?_; rintro o ho P hP c K hK; have hm : P.follows .mixedOrders = true := hP ▸ mixed; have hT : TOk P tl36 := hP ▸ tk36; (try rw [← ho]); cbv; (repeat (refine StopN.mk ?_; cbv)))
  repeat' (first | (refine Br.mk (fun hb => ?_) (fun hb => ?_) <;> ((try rw [ho] at hb); (try dsimp only [Ar.real, IX.vo] at hb); (try simp only [QP1, QB7] at hb); (try simp only [QBo, beq_iff_eq, beq_eq_false_iff_ne, ne_eq] at hb))) | (refine StopN.mk ?_; cbv) | (refine hK _ _ ?_) | (refine NeedT.mk ?_ ?_))
  all_goals
    refine .b ?_
    unfold numB
    ((try clear hR3); (try clear hR2); (try clear hR); (try clear hK); (try simp only [ncCast] at *); (try simp only [castI_eq] at *); (try rw [ho]); (try dsimp only [Ar.real, IX.vo, IX.val, BX.val, IX.toN]); (try simp only [QP1, QB7]))
    simp [*]
  all_goals omega
theorem d_within {x y z : Int} (h : wthB x y z = true) : XC Try.prog 65 [il x, il y, il z] [] (.b .t) [] := XC_at (x_within x y z) (fun c => rfl) (fun c => by rw [h]; rfl)
theorem d_number {x : Int} (h : numB x = true) : XC Try.prog 36 [il x] [] (.b .t) [] := XC_at (x_number x) (fun c => rfl) (fun c => by rw [h]; rfl)
theorem d_check : XC Try.prog 35 [.agg cfL] [] (il 0) [] := by
  have a1 := d_within (x := 0) (y := 0) (z := 9007199254740992) (by decide)
  have a2 := d_within (x := 9) (y := 0) (z := 9007199254740992) (by decide)
  have a3 := d_within (x := 9) (y := 1) (z := 9007199254740992) (by decide)
  have a4 := d_within (x := 9) (y := 1) (z := 4096) (by decide)
  (refine XC.of_body ([]) Try.func35 rfl Try.ntmps35 mixed (T := tl35) tk35 (by kernel_rfl) (by simp) rfl rfl rfl rfl rfl ?_; rintro o ho P hP c K hK; have hm : P.follows .mixedOrders = true := hP ▸ mixed; have hT : TOk P tl35 := hP ▸ tk35; (try rw [← ho]); cbv; (repeat (refine StopN.mk ?_; cbv)))
  repeat' (first | (refine Br.mk (fun hb => ?_) (fun hb => ?_) <;> ((try rw [ho] at hb); (try dsimp only [Ar.real, IX.vo] at hb); (try simp only [QP1, QB7] at hb); (try simp only [QBo, beq_iff_eq, beq_eq_false_iff_ne, ne_eq] at hb))) | (refine StopN.mk ?_; cbv) | (first | refine NeedT.mk (by rw [ho]; rfl) ?_ | (first | refine CallI.pure hP a1 fn65 rfl rfl rfl ?_ | refine CallI.pure hP a2 fn65 rfl rfl rfl ?_ | refine CallI.pure hP a3 fn65 rfl rfl rfl ?_ | refine CallI.pure hP a4 fn65 rfl rfl rfl ?_); cbv) | (refine hK _ _ ?_) | (refine NeedT.mk ?_ ?_) | (refine LoopN.lay (o := o) (D := []) 6 ho hm hT (by kernel_rfl) ?_; cbv))
  exact .pure fun _ => rfl
@[reducible] def bA : List X := cfL ++ [il 0, il 1, .ro (.lits [[il 4, il 2, il 3, .b .t, .b .f, il 0, il 0]]), agL, .ro (.lits [[il 1, il 4, il 1, l3, il 0]]), l0, l0]
@[reducible] def bB : List X := cfL ++ [il 0, il 0, l0, agL, l0, l0, l0]
theorem d_setA : XC Try.prog 14 [.agg bA] [] (.b .t) [] := by
  (refine XC.of_body ([]) Try.func14 rfl Try.ntmps14 mixed (T := tl14) tk14 (by kernel_rfl) (by simp) rfl rfl rfl rfl rfl ?_; rintro o ho P hP c K hK; have hm : P.follows .mixedOrders = true := hP ▸ mixed; have hT : TOk P tl14 := hP ▸ tk14; (try rw [← ho]); cbv; (repeat (refine StopN.mk ?_; cbv)))
  repeat' (first | (refine Br.mk (fun hb => ?_) (fun hb => ?_) <;> ((try rw [ho] at hb); (try dsimp only [Ar.real, IX.vo] at hb); (try simp only [QP1, QB7] at hb); (try simp only [QBo, beq_iff_eq, beq_eq_false_iff_ne, ne_eq] at hb))) | (refine StopN.mk ?_; cbv) | (refine CallI.pure hP d_check fn35 rfl rfl rfl ?_); cbv | (refine hK _ _ ?_) | (refine NeedT.mk ?_ ?_))
  exact .pure fun _ => rfl
theorem d_setB : XC Try.prog 14 [.agg bB] [] (.b .t) [] := by
  (refine XC.of_body ([]) Try.func14 rfl Try.ntmps14 mixed (T := tl14) tk14 (by kernel_rfl) (by simp) rfl rfl rfl rfl rfl ?_; rintro o ho P hP c K hK; have hm : P.follows .mixedOrders = true := hP ▸ mixed; have hT : TOk P tl14 := hP ▸ tk14; (try rw [← ho]); cbv; (repeat (refine StopN.mk ?_; cbv)))
  repeat' (first | (refine Br.mk (fun hb => ?_) (fun hb => ?_) <;> ((try rw [ho] at hb); (try dsimp only [Ar.real, IX.vo] at hb); (try simp only [QP1, QB7] at hb); (try simp only [QBo, beq_iff_eq, beq_eq_false_iff_ne, ne_eq] at hb))) | (refine StopN.mk ?_; cbv) | (refine CallI.pure hP d_check fn35 rfl rfl rfl ?_); cbv | (refine hK _ _ ?_) | (refine NeedT.mk ?_ ?_))
  exact .pure fun _ => rfl
theorem d_framesA : XC Try.prog 15 [.agg bA] [] (.b .t) [] := by
  have a1 := d_number (x := 4) (by decide)
  (refine XC.of_body (dt15) Try.func15 rfl Try.ntmps15 mixed (T := tl15) tk15 (by kernel_rfl) (by simp) rfl rfl rfl rfl rfl ?_; rintro o ho P hP c K hK; have hm : P.follows .mixedOrders = true := hP ▸ mixed; have hT : TOk P tl15 := hP ▸ tk15; (try rw [← ho]); cbv; (repeat (refine StopN.mk ?_; cbv)))
  repeat' (first | (refine Br.mk (fun hb => ?_) (fun hb => ?_) <;> ((try rw [ho] at hb); (try dsimp only [Ar.real, IX.vo] at hb); (try simp only [QP1, QB7] at hb); (try simp only [QBo, beq_iff_eq, beq_eq_false_iff_ne, ne_eq] at hb))) | (refine StopN.mk ?_; cbv) | (first | refine NeedT.mk (by rw [ho]; rfl) ?_ | refine CallN.pure hP a1 fn36 rfl rfl rfl ?_; cbv) | (refine hK _ _ ?_) | (refine NeedT.mk ?_ ?_) | (refine LoopN.lay (o := o) (D := dt15) 3 ho hm hT (by kernel_rfl) ?_; cbv))
  all_goals exact .pure fun _ => rfl
theorem d_framesB : XC Try.prog 15 [.agg bB] [] (.b .t) [] := by
  (refine XC.of_body (dt15) Try.func15 rfl Try.ntmps15 mixed (T := tl15) tk15 (by kernel_rfl) (by simp) rfl rfl rfl rfl rfl ?_; rintro o ho P hP c K hK; have hm : P.follows .mixedOrders = true := hP ▸ mixed; have hT : TOk P tl15 := hP ▸ tk15; (try rw [← ho]); cbv; (repeat (refine StopN.mk ?_; cbv)))
  repeat' (first | (refine Br.mk (fun hb => ?_) (fun hb => ?_) <;> ((try rw [ho] at hb); (try dsimp only [Ar.real, IX.vo] at hb); (try simp only [QP1, QB7] at hb); (try simp only [QBo, beq_iff_eq, beq_eq_false_iff_ne, ne_eq] at hb))) | (refine StopN.mk ?_; cbv) | (first | refine NeedT.mk (by rw [ho]; rfl) ?_) | ((first | refine CallI.pure hP (x_number _) fn36 (by first | rfl | (rw [ho]; try rfl)) (by rfl) (by first | rfl | (rw [ho]; try rfl)) ?_ | refine CallN.pure hP (x_number _) fn36 (by first | rfl | (rw [ho]; try rfl)) (by rfl) (by first | rfl | (rw [ho]; try rfl)) ?_); (try rw [← ho]); generalize hr : numB _ = r; (try rw [ho] at hr); (try dsimp only [Ar.real, IX.vo] at hr); (try simp only [QP1, QB7] at hr); cbv) | (refine hK _ _ ?_) | (refine NeedT.mk ?_ ?_) | (refine LoopN.lay (o := o) (D := dt15) 3 ho hm hT (by kernel_rfl) ?_; cbv))
  all_goals exact .pure fun _ => rfl
theorem d_agents (b : List X) (hb' : b = bA ∨ b = bB) : XC Try.prog 16 [.agg b] [] (.b .t) [] := by
  have a1 := d_number (x := 1) (by decide)
  rcases hb' with rfl | rfl
  all_goals
    (refine XC.of_body (dt16) Try.func16 rfl Try.ntmps16 mixed (T := tl16) tk16 (by kernel_rfl) (by simp) rfl rfl rfl rfl rfl ?_; rintro o ho P hP c K hK; have hm : P.follows .mixedOrders = true := hP ▸ mixed; have hT : TOk P tl16 := hP ▸ tk16; (try rw [← ho]); cbv; (repeat (refine StopN.mk ?_; cbv)))
    repeat' (first | (refine Br.mk (fun hb => ?_) (fun hb => ?_) <;> ((try rw [ho] at hb); (try dsimp only [Ar.real, IX.vo] at hb); (try simp only [QP1, QB7] at hb); (try simp only [QBo, beq_iff_eq, beq_eq_false_iff_ne, ne_eq] at hb))) | (refine StopN.mk ?_; cbv) | (first | refine NeedT.mk (by rw [ho]; rfl) ?_ | (first | refine CallN.pure hP a1 fn36 rfl rfl rfl ?_ | refine CallN.pure hP d_right3 fn33 rfl rfl rfl ?_ | refine CallN.pure hP d_right0 fn33 rfl rfl rfl ?_); cbv) | (refine hK _ _ ?_) | (refine NeedT.mk ?_ ?_) | (refine LoopN.lay (o := o) (D := dt16) 3 ho hm hT (by kernel_rfl) ?_; cbv))
    all_goals exact .pure fun _ => rfl
theorem d_most (b : List X) (hb' : b = bA ∨ b = bB) : XC Try.prog 17 [.agg b] [] (.b .t) [] := by
  rcases hb' with rfl | rfl
  all_goals
    (refine XC.of_body (dt17) Try.func17 rfl Try.ntmps17 mixed (T := tl17) tk17 (by kernel_rfl) (by simp) rfl rfl rfl rfl rfl ?_; rintro o ho P hP c K hK; have hm : P.follows .mixedOrders = true := hP ▸ mixed; have hT : TOk P tl17 := hP ▸ tk17; (try rw [← ho]); cbv; (repeat (refine StopN.mk ?_; cbv)))
    repeat' (first | (refine Br.mk (fun hb => ?_) (fun hb => ?_) <;> ((try rw [ho] at hb); (try dsimp only [Ar.real, IX.vo] at hb); (try simp only [QP1, QB7] at hb); (try simp only [QBo, beq_iff_eq, beq_eq_false_iff_ne, ne_eq] at hb))) | (refine StopN.mk ?_; cbv) | (first | refine NeedT.mk (by rw [ho]; rfl) ?_ | (first | refine FrzN.frzv 3 6 rfl rfl rfl (.done ?_) | refine OpN.asl 0 rfl (by rw [hP]; exact tok35.k) (by rw [hP]; exact tok2.sz) (by decide) (by decide) rfl (by decide) (.inl ⟨rfl, rfl⟩) ?_ | refine CallN.pure hP d_of fn11 rfl rfl rfl ?_ | refine CallN.pure hP d_add fn7 rfl rfl rfl ?_ | refine CallN.pure hP d_max fn37 rfl rfl rfl ?_); cbv) | (refine hK _ _ ?_) | (refine NeedT.mk ?_ ?_) | (refine LoopN.lay (o := o) (D := dt17) 3 ho hm hT (by kernel_rfl) ?_; cbv))
    all_goals exact .pure fun _ => rfl
def kA : Bk := ⟨⟨9, 9, 9, 0, 9, ⟨0, 0, 0, 0⟩⟩, 0, 1, [⟨4, 2, 3, true, false, 0, 0⟩], [⟨1, p3, []⟩], [⟨1, 4, 1, p3, 0⟩], [], []⟩
theorem kA_ok : BkOk kA := ⟨by decide, by decide, by decide, by decide, by decide,
  fun i => match i with | 0 => by decide | i + 1 => by show (default : Agt).total.length ≤ _; decide,
  fun i => match i with | 0 => by decide | i + 1 => by show (default : Agt).free.length ≤ _; decide,
  fun i => match i with | 0 => by decide | i + 1 => by show (default : Ofr).vec.length ≤ _; decide,
  fun i => by show (default : Tsk).vec.length ≤ _; decide,
  fun i => by show (default : Flt).vec.length ≤ _; decide⟩
theorem d_frame4 : XC Try.prog 31 [.agg bA, il 4] [] (il 0) [] := XC_at (x_Frame kA kA_ok 4) (fun c => rfl) (fun c => by rw [show atFrame kA.fr 4 = 0 from by decide]; rfl)
theorem d_agent1 : XC Try.prog 25 [.agg bA, il 1] [] (il 0) [] := XC_at (x_Agent kA kA_ok 1) (fun c => rfl) (fun c => by rw [show atAgent kA.ag 1 = 0 from by decide]; rfl)
theorem d_agent2 : XC Try.prog 25 [.agg bA, il 2] [] (il (-1)) [] := XC_at (x_Agent kA kA_ok 2) (fun c => rfl) (fun c => by rw [show atAgent kA.ag 2 = -1 from by decide]; rfl)
theorem d_offer1 : XC Try.prog 24 [.agg bA, il 1] [] (il 0) [] := XC_at (x_Offer kA kA_ok 1) (fun c => rfl) (fun c => by rw [show atOffer kA.of 1 = 0 from by decide]; rfl)
@[reducible] def f4 : X := .agg [il 4, il 2, il 3, .b .t, .b .f, il 0, il 0]
theorem d_held : XC Try.prog 38 [.agg bA, il 4, il 1, l3] [] (.tup [f4, .b .t]) [] := by
  (refine XC.of_body (dt38) Try.func38 rfl Try.ntmps38 mixed (T := tl38) tk38 (by kernel_rfl) (by simp) rfl rfl rfl rfl rfl ?_; rintro o ho P hP c K hK; have hm : P.follows .mixedOrders = true := hP ▸ mixed; have hT : TOk P tl38 := hP ▸ tk38; (try rw [← ho]); cbv; (repeat (refine StopN.mk ?_; cbv)))
  repeat' (first | (refine Br.mk (fun hb => ?_) (fun hb => ?_) <;> ((try rw [ho] at hb); (try dsimp only [Ar.real, IX.vo] at hb); (try simp only [QP1, QB7] at hb); (try simp only [QBo, beq_iff_eq, beq_eq_false_iff_ne, ne_eq] at hb))) | (refine StopN.mk ?_; cbv) | (first | refine NeedT.mk (by rw [ho]; rfl) ?_ | (first | refine CallI.pure hP d_frame4 fn31 rfl rfl rfl ?_ | refine CallI.pure hP d_agent1 fn25 rfl rfl rfl ?_ | refine CallI.pure hP d_right3 fn33 rfl rfl rfl ?_ | refine CallN.pure hP d_only fn66 rfl rfl rfl ?_); cbv) | (refine hK _ _ ?_) | (refine NeedT.mk ?_ ?_))
  exact .pure fun _ => rfl
theorem d_offersA : XC Try.prog 18 [.agg bA] [] (.b .t) [] := by
  (refine XC.of_body (dt18) Try.func18 rfl Try.ntmps18 mixed (T := tl18) tk18 (by kernel_rfl) (by simp) rfl rfl rfl rfl rfl ?_; rintro o ho P hP c K hK; have hm : P.follows .mixedOrders = true := hP ▸ mixed; have hT : TOk P tl18 := hP ▸ tk18; (try rw [← ho]); cbv; (repeat (refine StopN.mk ?_; cbv)))
  repeat' (first | (refine Br.mk (fun hb => ?_) (fun hb => ?_) <;> ((try rw [ho] at hb); (try dsimp only [Ar.real, IX.vo] at hb); (try simp only [QP1, QB7] at hb); (try simp only [QBo, beq_iff_eq, beq_eq_false_iff_ne, ne_eq] at hb))) | (refine StopN.mk ?_; cbv) | (first | refine NeedT.mk (by rw [ho]; rfl) ?_ | (first | refine CallI.pure hP d_held fn38 rfl rfl rfl ?_ | refine CallN.pure hP d_held fn38 rfl rfl rfl ?_); cbv) | (refine hK _ _ ?_) | (refine NeedT.mk ?_ ?_) | (refine LoopN.lay (o := o) (D := dt18) 3 ho hm hT (by kernel_rfl) ?_; cbv))
  all_goals exact .pure fun _ => rfl
theorem d_offersB : XC Try.prog 18 [.agg bB] [] (.b .t) [] := by
  (refine XC.of_body (dt18) Try.func18 rfl Try.ntmps18 mixed (T := tl18) tk18 (by kernel_rfl) (by simp) rfl rfl rfl rfl rfl ?_; rintro o ho P hP c K hK; have hm : P.follows .mixedOrders = true := hP ▸ mixed; have hT : TOk P tl18 := hP ▸ tk18; (try rw [← ho]); cbv; (repeat (refine StopN.mk ?_; cbv)))
  repeat' (first | (refine Br.mk (fun hb => ?_) (fun hb => ?_) <;> ((try rw [ho] at hb); (try dsimp only [Ar.real, IX.vo] at hb); (try simp only [QP1, QB7] at hb); (try simp only [QBo, beq_iff_eq, beq_eq_false_iff_ne, ne_eq] at hb))) | (refine StopN.mk ?_; cbv) | (refine NeedT.mk (by rw [ho]; rfl) ?_) | (refine hK _ _ ?_) | (refine NeedT.mk ?_ ?_) | (refine LoopN.lay (o := o) (D := dt18) 3 ho hm hT (by kernel_rfl) ?_; cbv))
  all_goals exact .pure fun _ => rfl
theorem d_tasks (b : List X) (hb' : b = bA ∨ b = bB) : XC Try.prog 19 [.agg b] [] (.b .t) [] := by
  rcases hb' with rfl | rfl
  all_goals
    (refine XC.of_body (dt19) Try.func19 rfl Try.ntmps19 mixed (T := tl19) tk19 (by kernel_rfl) (by simp) rfl rfl rfl rfl rfl ?_; rintro o ho P hP c K hK; have hm : P.follows .mixedOrders = true := hP ▸ mixed; have hT : TOk P tl19 := hP ▸ tk19; (try rw [← ho]); cbv; (repeat (refine StopN.mk ?_; cbv)))
    repeat' (first | (refine Br.mk (fun hb => ?_) (fun hb => ?_) <;> ((try rw [ho] at hb); (try dsimp only [Ar.real, IX.vo] at hb); (try simp only [QP1, QB7] at hb); (try simp only [QBo, beq_iff_eq, beq_eq_false_iff_ne, ne_eq] at hb))) | (refine StopN.mk ?_; cbv) | (refine NeedT.mk (by rw [ho]; rfl) ?_) | ((first | refine CallI.pure hP (x_number _) fn36 (by first | rfl | (rw [ho]; try rfl)) (by rfl) (by first | rfl | (rw [ho]; try rfl)) ?_ | refine CallN.pure hP (x_number _) fn36 (by first | rfl | (rw [ho]; try rfl)) (by rfl) (by first | rfl | (rw [ho]; try rfl)) ?_); (try rw [← ho]); generalize hr : numB _ = r; (try rw [ho] at hr); (try dsimp only [Ar.real, IX.vo] at hr); (try simp only [QP1, QB7] at hr); cbv) | ((first | refine CallI.pure hP (x_Or3 _ _ _) fn39 (by first | rfl | (rw [ho]; try rfl)) (by rfl) (by first | rfl | (rw [ho]; try rfl)) ?_ | refine CallN.pure hP (x_Or3 _ _ _) fn39 (by first | rfl | (rw [ho]; try rfl)) (by rfl) (by first | rfl | (rw [ho]; try rfl)) ?_); (try rw [← ho]); generalize hr : or3 _ _ _ = r; (try rw [ho] at hr); (try dsimp only [Ar.real, IX.vo] at hr); (try simp only [QP1, QB7] at hr); cbv) | ((first | refine CallI.pure hP (x_CmpL _ _) fn40 (by first | rfl | (rw [ho]; try rfl)) (by rfl) (by first | rfl | (rw [ho]; try rfl)) ?_ | refine CallN.pure hP (x_CmpL _ _) fn40 (by first | rfl | (rw [ho]; try rfl)) (by rfl) (by first | rfl | (rw [ho]; try rfl)) ?_); (try rw [← ho]); generalize hr : cmpI _ _ = r; (try rw [ho] at hr); (try dsimp only [Ar.real, IX.vo] at hr); (try simp only [QP1, QB7] at hr); cbv) | (refine hK _ _ ?_) | (refine NeedT.mk ?_ ?_) | (refine LoopN.lay (o := o) (D := dt19) 3 ho hm hT (by kernel_rfl) ?_; cbv))
    all_goals exact .pure fun _ => rfl
theorem d_filters (b : List X) (hb' : b = bA ∨ b = bB) : XC Try.prog 20 [.agg b] [] (.b .t) [] := by
  rcases hb' with rfl | rfl
  all_goals
    (refine XC.of_body (dt20) Try.func20 rfl Try.ntmps20 mixed (T := tl20) tk20 (by kernel_rfl) (by simp) rfl rfl rfl rfl rfl ?_; rintro o ho P hP c K hK; have hm : P.follows .mixedOrders = true := hP ▸ mixed; have hT : TOk P tl20 := hP ▸ tk20; (try rw [← ho]); cbv; (repeat (refine StopN.mk ?_; cbv)))
    repeat' (first | (refine Br.mk (fun hb => ?_) (fun hb => ?_) <;> ((try rw [ho] at hb); (try dsimp only [Ar.real, IX.vo] at hb); (try simp only [QP1, QB7] at hb); (try simp only [QBo, beq_iff_eq, beq_eq_false_iff_ne, ne_eq] at hb))) | (refine StopN.mk ?_; cbv) | (refine NeedT.mk (by rw [ho]; rfl) ?_) | ((first | refine CallI.pure hP (x_Agent _ ‹_› _) fn25 (by first | rfl | (rw [ho]; try rfl)) (by rfl) (by first | rfl | (rw [ho]; try rfl)) ?_ | refine CallN.pure hP (x_Agent _ ‹_› _) fn25 (by first | rfl | (rw [ho]; try rfl)) (by rfl) (by first | rfl | (rw [ho]; try rfl)) ?_); (try rw [← ho]); generalize hr : atAgent _ _ = r; (try rw [ho] at hr); (try dsimp only [Ar.real, IX.vo] at hr); (try simp only [QP1, QB7] at hr); cbv) | ((first | refine CallI.pure hP (x_Frame _ ‹_› _) fn31 (by first | rfl | (rw [ho]; try rfl)) (by rfl) (by first | rfl | (rw [ho]; try rfl)) ?_ | refine CallN.pure hP (x_Frame _ ‹_› _) fn31 (by first | rfl | (rw [ho]; try rfl)) (by rfl) (by first | rfl | (rw [ho]; try rfl)) ?_); (try rw [← ho]); generalize hr : atFrame _ _ = r; (try rw [ho] at hr); (try dsimp only [Ar.real, IX.vo] at hr); (try simp only [QP1, QB7] at hr); cbv) | ((first | refine CallI.pure hP (x_vec_Right _ ‹_›) fn33 (by first | rfl | (rw [ho]; try rfl)) (by rfl) (by first | rfl | (rw [ho]; try rfl)) ?_ | refine CallN.pure hP (x_vec_Right _ ‹_›) fn33 (by first | rfl | (rw [ho]; try rfl)) (by rfl) (by first | rfl | (rw [ho]; try rfl)) ?_); (try rw [← ho]); generalize hr : vecRight _ = r; (try rw [ho] at hr); (try dsimp only [Ar.real, IX.vo] at hr); (try simp only [QP1, QB7] at hr); cbv) | (refine hK _ _ ?_) | (refine NeedT.mk ?_ ?_) | (refine LoopN.lay (o := o) (D := dt20) 3 ho hm hT (by kernel_rfl) ?_; cbv))
    all_goals exact .pure fun _ => rfl
@[reducible] def mB : MX := .put .nil [.lit 1] l0
@[reducible] def mA : MX := .put mB [.lit 1] l3
@[reducible] def ldO (v : Nat) (m : MX) : List OX := [.var [.mp (.out 2)] 89, .var [.b .t] 4, .map v false 1 m]
theorem d_led0 : XC Try.prog 42 [il 1, l0, .ptr (.out 0) 0, .ptr (.out 1) 0] (ldO 0 .nil) (.tup []) (ldO 1 mB) := by
  (refine XC.of_body ([]) Try.func42 rfl Try.ntmps42 mixed (T := tl42) tk42 (by kernel_rfl) (by simp) rfl rfl rfl rfl rfl ?_; rintro o ho P hP c K hK; have hm : P.follows .mixedOrders = true := hP ▸ mixed; have hT : TOk P tl42 := hP ▸ tk42; (try rw [← ho]); cbv; (repeat (refine StopN.mk ?_; cbv)))
  repeat' (first | (refine Br.mk (fun hb => ?_) (fun hb => ?_) <;> ((try rw [ho] at hb); (try dsimp only [Ar.real, IX.vo] at hb); (try simp only [QP1, QB7] at hb); (try simp only [QBo, beq_iff_eq, beq_eq_false_iff_ne, ne_eq] at hb))) | (refine StopN.mk ?_; cbv) | (first | refine NeedT.mk (by rw [ho]; rfl) ?_ | refine CallI.pure hP d_add0 fn43 rfl rfl rfl ?_; cbv) | (refine hK _ _ ?_) | (refine NeedT.mk ?_ ?_))
  exact ⟨fun _ => rfl, upLr _⟩
theorem d_led3 : XC Try.prog 42 [il 1, l3, .ptr (.out 0) 0, .ptr (.out 1) 0] (ldO 1 mB) (.tup []) (ldO 2 mA) := by
  (refine XC.of_body ([]) Try.func42 rfl Try.ntmps42 mixed (T := tl42) tk42 (by kernel_rfl) (by simp) rfl rfl rfl rfl rfl ?_; rintro o ho P hP c K hK; have hm : P.follows .mixedOrders = true := hP ▸ mixed; have hT : TOk P tl42 := hP ▸ tk42; (try rw [← ho]); cbv; (repeat (refine StopN.mk ?_; cbv)))
  repeat' (first | (refine Br.mk (fun hb => ?_) (fun hb => ?_) <;> ((try rw [ho] at hb); (try dsimp only [Ar.real, IX.vo] at hb); (try simp only [QP1, QB7] at hb); (try simp only [QBo, beq_iff_eq, beq_eq_false_iff_ne, ne_eq] at hb))) | (refine StopN.mk ?_; cbv) | (first | refine NeedT.mk (by rw [ho]; rfl) ?_ | refine CallI.pure hP d_add3 fn43 rfl rfl rfl ?_; cbv) | (refine hK _ _ ?_) | (refine NeedT.mk ?_ ?_))
  exact ⟨fun _ => rfl, upLr _⟩
@[reducible] def lgO (v : Nat) (m : MX) : List OX := [.var [.mp (.out 1)] 89, .map v false 1 m]
theorem d_lsA : XC Try.prog 45 [.agg [il 1, l3, l0], .ptr (.out 0) 0] (lgO 2 mA) (.b .f) (lgO 2 mA) := by
  (refine XC.of_body ([]) Try.func45 rfl Try.ntmps45 mixed (T := tl45) tk45 (by kernel_rfl) (by simp) rfl rfl rfl rfl rfl ?_; rintro o ho P hP c K hK; have hm : P.follows .mixedOrders = true := hP ▸ mixed; have hT : TOk P tl45 := hP ▸ tk45; (try rw [← ho]); cbv; (repeat (refine StopN.mk ?_; cbv)))
  repeat' (first | (refine Br.mk (fun hb => ?_) (fun hb => ?_) <;> ((try rw [ho] at hb); (try dsimp only [Ar.real, IX.vo] at hb); (try simp only [QP1, QB7] at hb); (try simp only [QBo, beq_iff_eq, beq_eq_false_iff_ne, ne_eq] at hb))) | (refine StopN.mk ?_; cbv) | (first | refine NeedT.mk (by rw [ho]; rfl) ?_ | refine CallI.pure hP d_same fn46 rfl rfl rfl ?_; cbv) | (refine hK _ _ ?_) | (refine NeedT.mk ?_ ?_))
  exact ⟨fun _ => rfl, upLr _⟩
theorem d_lsB : XC Try.prog 45 [.agg [il 1, l3, l0], .ptr (.out 0) 0] (lgO 1 mB) (.b .t) (lgO 1 mB) := by
  (refine XC.of_body ([]) Try.func45 rfl Try.ntmps45 mixed (T := tl45) tk45 (by kernel_rfl) (by simp) rfl rfl rfl rfl rfl ?_; rintro o ho P hP c K hK; have hm : P.follows .mixedOrders = true := hP ▸ mixed; have hT : TOk P tl45 := hP ▸ tk45; (try rw [← ho]); cbv; (repeat (refine StopN.mk ?_; cbv)))
  repeat' (first | (refine Br.mk (fun hb => ?_) (fun hb => ?_) <;> ((try rw [ho] at hb); (try dsimp only [Ar.real, IX.vo] at hb); (try simp only [QP1, QB7] at hb); (try simp only [QBo, beq_iff_eq, beq_eq_false_iff_ne, ne_eq] at hb))) | (refine StopN.mk ?_; cbv) | (first | refine NeedT.mk (by rw [ho]; rfl) ?_ | refine CallI.pure hP d_same0 fn46 rfl rfl rfl ?_; cbv) | (refine hK _ _ ?_) | (refine NeedT.mk ?_ ?_))
  exact ⟨fun _ => rfl, upLr _⟩
theorem d_ixA : XC Try.prog 55 [agL, .fn (.func 45) [] [.ptr (.out 0) 0]] (lgO 2 mA) (il (-1)) (lgO 2 mA) := by
  (refine XC.of_body ([]) Try.func55 rfl Try.ntmps55 mixed (T := tl55) tk55 (by kernel_rfl) (by simp) rfl rfl rfl rfl rfl ?_; rintro o ho P hP c K hK; have hm : P.follows .mixedOrders = true := hP ▸ mixed; have hT : TOk P tl55 := hP ▸ tk55; (try rw [← ho]); cbv; (repeat (refine StopN.mk ?_; cbv)))
  repeat' (first | (refine Br.mk (fun hb => ?_) (fun hb => ?_) <;> ((try rw [ho] at hb); (try dsimp only [Ar.real, IX.vo] at hb); (try simp only [QP1, QB7] at hb); (try simp only [QBo, beq_iff_eq, beq_eq_false_iff_ne, ne_eq] at hb))) | (refine StopN.mk ?_; cbv) | (first | refine NeedT.mk (by rw [ho]; rfl) ?_ | refine CallI.objs [.out 0, .out 1] hP d_lsA fn45 rfl rfl rfl rfl (by rfl) rfl rfl rfl rfl (by rfl) ⟨⟨_, rfl, rfl⟩, ⟨_, rfl, rfl⟩, trivial⟩ ?_; cbv) | (refine hK _ _ ?_) | (refine NeedT.mk ?_ ?_) | (refine LoopN.lay (o := o) (D := []) 3 ho hm hT (by kernel_rfl) ?_; cbv))
  exact ⟨fun _ => rfl, upLr _⟩
theorem d_ixB : XC Try.prog 55 [agL, .fn (.func 45) [] [.ptr (.out 0) 0]] (lgO 1 mB) (il 0) (lgO 1 mB) := by
  (refine XC.of_body ([]) Try.func55 rfl Try.ntmps55 mixed (T := tl55) tk55 (by kernel_rfl) (by simp) rfl rfl rfl rfl rfl ?_; rintro o ho P hP c K hK; have hm : P.follows .mixedOrders = true := hP ▸ mixed; have hT : TOk P tl55 := hP ▸ tk55; (try rw [← ho]); cbv; (repeat (refine StopN.mk ?_; cbv)))
  repeat' (first | (refine Br.mk (fun hb => ?_) (fun hb => ?_) <;> ((try rw [ho] at hb); (try dsimp only [Ar.real, IX.vo] at hb); (try simp only [QP1, QB7] at hb); (try simp only [QBo, beq_iff_eq, beq_eq_false_iff_ne, ne_eq] at hb))) | (refine StopN.mk ?_; cbv) | (first | refine NeedT.mk (by rw [ho]; rfl) ?_ | refine CallI.objs [.out 0, .out 1] hP d_lsB fn45 rfl rfl rfl rfl (by rfl) rfl rfl rfl rfl (by rfl) ⟨⟨_, rfl, rfl⟩, ⟨_, rfl, rfl⟩, trivial⟩ ?_; cbv) | (refine hK _ _ ?_) | (refine NeedT.mk ?_ ?_) | (refine LoopN.lay (o := o) (D := []) 3 ho hm hT (by kernel_rfl) ?_; cbv))
  exact ⟨fun _ => rfl, upLr _⟩
theorem d_ctA : XC Try.prog 44 [agL, .fn (.func 45) [] [.ptr (.out 0) 0]] (lgO 2 mA) (.b .f) (lgO 2 mA) := by
  (refine XC.of_body ([]) Try.func44 rfl Try.ntmps44 mixed (T := tl44) tk44 (by kernel_rfl) (by simp) rfl rfl rfl rfl rfl ?_; rintro o ho P hP c K hK; have hm : P.follows .mixedOrders = true := hP ▸ mixed; have hT : TOk P tl44 := hP ▸ tk44; (try rw [← ho]); cbv; (repeat (refine StopN.mk ?_; cbv)))
  repeat' (first | (refine Br.mk (fun hb => ?_) (fun hb => ?_) <;> ((try rw [ho] at hb); (try dsimp only [Ar.real, IX.vo] at hb); (try simp only [QP1, QB7] at hb); (try simp only [QBo, beq_iff_eq, beq_eq_false_iff_ne, ne_eq] at hb))) | (refine StopN.mk ?_; cbv) | (refine CallI.objs [.out 0, .out 1] hP d_ixA fn55 rfl rfl rfl rfl (by rfl) rfl rfl rfl rfl (by rfl) ⟨⟨_, rfl, rfl⟩, ⟨_, rfl, rfl⟩, trivial⟩ ?_; cbv) | (refine hK _ _ ?_) | (refine NeedT.mk ?_ ?_))
  exact ⟨fun _ => rfl, upLr _⟩
theorem d_ctB : XC Try.prog 44 [agL, .fn (.func 45) [] [.ptr (.out 0) 0]] (lgO 1 mB) (.b .t) (lgO 1 mB) := by
  (refine XC.of_body ([]) Try.func44 rfl Try.ntmps44 mixed (T := tl44) tk44 (by kernel_rfl) (by simp) rfl rfl rfl rfl rfl ?_; rintro o ho P hP c K hK; have hm : P.follows .mixedOrders = true := hP ▸ mixed; have hT : TOk P tl44 := hP ▸ tk44; (try rw [← ho]); cbv; (repeat (refine StopN.mk ?_; cbv)))
  repeat' (first | (refine Br.mk (fun hb => ?_) (fun hb => ?_) <;> ((try rw [ho] at hb); (try dsimp only [Ar.real, IX.vo] at hb); (try simp only [QP1, QB7] at hb); (try simp only [QBo, beq_iff_eq, beq_eq_false_iff_ne, ne_eq] at hb))) | (refine StopN.mk ?_; cbv) | (refine CallI.objs [.out 0, .out 1] hP d_ixB fn55 rfl rfl rfl rfl (by rfl) rfl rfl rfl rfl (by rfl) ⟨⟨_, rfl, rfl⟩, ⟨_, rfl, rfl⟩, trivial⟩ ?_; cbv) | (refine hK _ _ ?_) | (refine NeedT.mk ?_ ?_))
  exact ⟨fun _ => rfl, upLr _⟩
theorem d_ledgerA : XC Try.prog 21 [.agg bA] [] (.b .t) [] := by
  (refine XC.of_body ([]) Try.func21 rfl Try.ntmps21 mixed (T := tl21) tk21 (by kernel_rfl) (by simp) rfl rfl rfl rfl rfl ?_; rintro o ho P hP c K hK; have hm : P.follows .mixedOrders = true := hP ▸ mixed; have hT : TOk P tl21 := hP ▸ tk21; (try rw [← ho]); cbv; (repeat (refine StopN.mk ?_; cbv)))
  repeat' (first | (refine Br.mk (fun hb => ?_) (fun hb => ?_) <;> ((try rw [ho] at hb); (try dsimp only [Ar.real, IX.vo] at hb); (try simp only [QP1, QB7] at hb); (try simp only [QBo, beq_iff_eq, beq_eq_false_iff_ne, ne_eq] at hb))) | (refine StopN.mk ?_; cbv) | (first | refine NeedT.mk (by rw [ho]; rfl) ?_ | (first | refine CallI.objs [.loc 2, .loc 3, .loc 1] hP d_led0 fn42 rfl rfl rfl rfl (by rfl) rfl rfl rfl rfl (by rfl) ⟨⟨_, rfl, rfl⟩, ⟨_, rfl, rfl⟩, ⟨_, rfl, rfl⟩, trivial⟩ ?_ | refine CallI.objs [.loc 2, .loc 3, .loc 1] hP d_led3 fn42 rfl rfl rfl rfl (by rfl) rfl rfl rfl rfl (by rfl) ⟨⟨_, rfl, rfl⟩, ⟨_, rfl, rfl⟩, ⟨_, rfl, rfl⟩, trivial⟩ ?_ | refine CallI.objs [.loc 2, .loc 1] hP d_ctA fn44 rfl rfl rfl rfl (by rfl) rfl rfl rfl rfl (by rfl) ⟨⟨_, rfl, rfl⟩, ⟨_, rfl, rfl⟩, trivial⟩ ?_); cbv) | (refine hK _ _ ?_) | (refine NeedT.mk ?_ ?_) | (refine LoopN.lay (o := o) (D := []) 3 ho hm hT (by kernel_rfl) ?_; cbv))
  all_goals exact .pure fun _ => rfl
theorem d_ledgerB : XC Try.prog 21 [.agg bB] [] (.b .f) [] := by
  (refine XC.of_body ([]) Try.func21 rfl Try.ntmps21 mixed (T := tl21) tk21 (by kernel_rfl) (by simp) rfl rfl rfl rfl rfl ?_; rintro o ho P hP c K hK; have hm : P.follows .mixedOrders = true := hP ▸ mixed; have hT : TOk P tl21 := hP ▸ tk21; (try rw [← ho]); cbv; (repeat (refine StopN.mk ?_; cbv)))
  repeat' (first | (refine Br.mk (fun hb => ?_) (fun hb => ?_) <;> ((try rw [ho] at hb); (try dsimp only [Ar.real, IX.vo] at hb); (try simp only [QP1, QB7] at hb); (try simp only [QBo, beq_iff_eq, beq_eq_false_iff_ne, ne_eq] at hb))) | (refine StopN.mk ?_; cbv) | (first | refine NeedT.mk (by rw [ho]; rfl) ?_ | (first | refine CallI.objs [.loc 2, .loc 3, .loc 1] hP d_led0 fn42 rfl rfl rfl rfl (by rfl) rfl rfl rfl rfl (by rfl) ⟨⟨_, rfl, rfl⟩, ⟨_, rfl, rfl⟩, ⟨_, rfl, rfl⟩, trivial⟩ ?_ | refine CallI.objs [.loc 2, .loc 1] hP d_ctB fn44 rfl rfl rfl rfl (by rfl) rfl rfl rfl rfl (by rfl) ⟨⟨_, rfl, rfl⟩, ⟨_, rfl, rfl⟩, trivial⟩ ?_); cbv) | (refine hK _ _ ?_) | (refine NeedT.mk ?_ ?_) | (refine LoopN.lay (o := o) (D := []) 3 ho hm hT (by kernel_rfl) ?_; cbv))
  all_goals exact .pure fun _ => rfl
theorem d_rightA : XC Try.prog 4 [.agg bA] [] (.tup [il 0, .b .t]) [] := by
  have a3 := d_agents bA (.inl rfl)
  have a4 := d_most bA (.inl rfl)
  have a6 := d_tasks bA (.inl rfl)
  have a7 := d_filters bA (.inl rfl)
  (refine XC.of_body ([]) Try.func4 rfl Try.ntmps4 mixed (T := tl4) tk4 (by kernel_rfl) (by simp) rfl rfl rfl rfl rfl ?_; rintro o ho P hP c K hK; have hm : P.follows .mixedOrders = true := hP ▸ mixed; have hT : TOk P tl4 := hP ▸ tk4; (try rw [← ho]); cbv; (repeat (refine StopN.mk ?_; cbv)))
  repeat' (first | (refine Br.mk (fun hb => ?_) (fun hb => ?_) <;> ((try rw [ho] at hb); (try dsimp only [Ar.real, IX.vo] at hb); (try simp only [QP1, QB7] at hb); (try simp only [QBo, beq_iff_eq, beq_eq_false_iff_ne, ne_eq] at hb))) | (refine StopN.mk ?_; cbv) | (first | refine NeedT.mk (by rw [ho]; rfl) ?_ | (first | refine CallI.pure hP d_setA fn14 rfl rfl rfl ?_ | refine CallI.pure hP d_framesA fn15 rfl rfl rfl ?_ | refine CallI.pure hP a3 fn16 rfl rfl rfl ?_ | refine CallI.pure hP a4 fn17 rfl rfl rfl ?_ | refine CallI.pure hP d_offersA fn18 rfl rfl rfl ?_ | refine CallI.pure hP a6 fn19 rfl rfl rfl ?_ | refine CallI.pure hP a7 fn20 rfl rfl rfl ?_ | refine CallI.pure hP d_ledgerA fn21 rfl rfl rfl ?_); cbv) | (refine hK _ _ ?_) | (refine NeedT.mk ?_ ?_) | (refine LoopN.lay (o := o) (D := []) 9 ho hm hT (by kernel_rfl) ?_; cbv))
  exact .pure fun _ => rfl
theorem d_rightB : XC Try.prog 4 [.agg bB] [] (.tup [il 8, .b .f]) [] := by
  have a3 := d_agents bB (.inr rfl)
  have a4 := d_most bB (.inr rfl)
  have a6 := d_tasks bB (.inr rfl)
  have a7 := d_filters bB (.inr rfl)
  (refine XC.of_body ([]) Try.func4 rfl Try.ntmps4 mixed (T := tl4) tk4 (by kernel_rfl) (by simp) rfl rfl rfl rfl rfl ?_; rintro o ho P hP c K hK; have hm : P.follows .mixedOrders = true := hP ▸ mixed; have hT : TOk P tl4 := hP ▸ tk4; (try rw [← ho]); cbv; (repeat (refine StopN.mk ?_; cbv)))
  repeat' (first | (refine Br.mk (fun hb => ?_) (fun hb => ?_) <;> ((try rw [ho] at hb); (try dsimp only [Ar.real, IX.vo] at hb); (try simp only [QP1, QB7] at hb); (try simp only [QBo, beq_iff_eq, beq_eq_false_iff_ne, ne_eq] at hb))) | (refine StopN.mk ?_; cbv) | (first | refine NeedT.mk (by rw [ho]; rfl) ?_ | (first | refine CallI.pure hP d_setB fn14 rfl rfl rfl ?_ | refine CallI.pure hP d_framesB fn15 rfl rfl rfl ?_ | refine CallI.pure hP a3 fn16 rfl rfl rfl ?_ | refine CallI.pure hP a4 fn17 rfl rfl rfl ?_ | refine CallI.pure hP d_offersB fn18 rfl rfl rfl ?_ | refine CallI.pure hP a6 fn19 rfl rfl rfl ?_ | refine CallI.pure hP a7 fn20 rfl rfl rfl ?_ | refine CallI.pure hP d_ledgerB fn21 rfl rfl rfl ?_); cbv) | (refine hK _ _ ?_) | (refine NeedT.mk ?_ ?_) | (refine LoopN.lay (o := o) (D := []) 9 ho hm hT (by kernel_rfl) ?_; cbv))
  exact .pure fun _ => rfl
end Go.Proofs.Ytpijibffjohikaa.Sy
namespace Go.Proofs.Ytpijibffjohikaa.Sy
open Go Go.Sy Go.Proofs.Ytpijibffjohikaa
theorem x_RoleShare1 (role : Int) (a : Frm) : XC Try.prog 48 ([.agg (Frm.X Ar.real a)] ++ [.ptr (.out 0) 0]) [.var [xi role] 3] (xb (decide (a.role = role))) [.var [xi role] 3] := by
  (refine XC.of_body ([]) Try.func48 rfl Try.ntmps48 mixed (T := tl48) tk48 (by kernel_rfl) (by simp) rfl rfl rfl rfl rfl ?_; rintro o ho P hP c K hK; have hm : P.follows .mixedOrders = true := hP ▸ mixed; have hT : TOk P tl48 := hP ▸ tk48; (try rw [← ho]); cbv; (repeat (refine StopN.mk ?_; cbv)))
  repeat' (first | (refine Br.mk (fun hb => ?_) (fun hb => ?_) <;> ((try rw [ho] at hb); (try dsimp only [Ar.real, IX.vo] at hb); (try simp only [QP1, QB7] at hb); (try simp only [QBo, beq_iff_eq, beq_eq_false_iff_ne, ne_eq] at hb))) | (refine StopN.mk ?_; cbv) | (refine hK _ _ ?_) | (refine NeedT.mk ?_ ?_))
  refine FinX_bOr ?_ rfl
  rw [ho]
  rfl
@[reducible] def rsO : List OX := [.var bA 31, .var [il 2] 3]
theorem d_rsum1 : XC Try.prog 30 [il 4, .ptr (.out 0) 0, .ptr (.out 1) 0] rsO (.b .t) rsO := by
  (refine XC.of_body (dt30) Try.func30 rfl Try.ntmps30 mixed (T := tl30) tk30 (by kernel_rfl) (by simp) rfl rfl rfl rfl rfl ?_; rintro o ho P hP c K hK; have hm : P.follows .mixedOrders = true := hP ▸ mixed; have hT : TOk P tl30 := hP ▸ tk30; (try rw [← ho]); cbv; (repeat (refine StopN.mk ?_; cbv)))
  repeat' (first | (refine Br.mk (fun hb => ?_) (fun hb => ?_) <;> ((try rw [ho] at hb); (try dsimp only [Ar.real, IX.vo] at hb); (try simp only [QP1, QB7] at hb); (try simp only [QBo, beq_iff_eq, beq_eq_false_iff_ne, ne_eq] at hb))) | (refine StopN.mk ?_; cbv) | (first | refine NeedT.mk (by rw [ho]; rfl) ?_ | (first | refine CallI.pure hP d_frame4 fn31 rfl rfl rfl ?_ | refine CallN.pure hP d_frame4 fn31 rfl rfl rfl ?_); cbv) | (refine hK _ _ ?_) | (refine NeedT.mk ?_ ?_))
  exact ⟨fun _ => rfl, upLr _⟩
@[reducible] def s3 : X := .agg [il 3, il 0, il 0, il 0]
theorem d_sum : XC Try.prog 29 [.agg bA, .fn (.func 30) [] [.ptr (.out 0) 0, .ptr (.out 1) 0]] rsO s3 rsO := by
  (refine XC.of_body (dt29) Try.func29 rfl Try.ntmps29 mixed (T := tl29) tk29 (by kernel_rfl) (by simp) rfl rfl rfl rfl rfl ?_; rintro o ho P hP c K hK; have hm : P.follows .mixedOrders = true := hP ▸ mixed; have hT : TOk P tl29 := hP ▸ tk29; (try rw [← ho]); cbv; (repeat (refine StopN.mk ?_; cbv)))
  repeat' (first | (refine Br.mk (fun hb => ?_) (fun hb => ?_) <;> ((try rw [ho] at hb); (try dsimp only [Ar.real, IX.vo] at hb); (try simp only [QP1, QB7] at hb); (try simp only [QBo, beq_iff_eq, beq_eq_false_iff_ne, ne_eq] at hb))) | (refine StopN.mk ?_; cbv) | (first | refine NeedT.mk (by rw [ho]; rfl) ?_ | (first | refine CallI.objs [.out 0, .out 1] hP d_rsum1 fn30 rfl rfl rfl rfl (by rfl) rfl rfl rfl rfl (by rfl) ⟨⟨_, rfl, rfl⟩, ⟨_, rfl, rfl⟩, trivial⟩ ?_ | refine CallN.pure hP d_of fn11 rfl rfl rfl ?_ | refine CallN.pure hP d_add fn7 rfl rfl rfl ?_); cbv) | (refine hK _ _ ?_) | (refine NeedT.mk ?_ ?_) | (refine LoopN.lay (o := o) (D := dt29) 3 ho hm hT (by kernel_rfl) ?_; cbv))
  all_goals exact ⟨fun _ => rfl, upLr _⟩
theorem d_rolesum : XC Try.prog 8 [.agg bA, il 2] [] s3 [] := by
  (refine XC.of_body ([]) Try.func8 rfl Try.ntmps8 mixed (T := tl8) tk8 (by kernel_rfl) (by simp) rfl rfl rfl rfl rfl ?_; rintro o ho P hP c K hK; have hm : P.follows .mixedOrders = true := hP ▸ mixed; have hT : TOk P tl8 := hP ▸ tk8; (try rw [← ho]); cbv; (repeat (refine StopN.mk ?_; cbv)))
  repeat' (first | (refine Br.mk (fun hb => ?_) (fun hb => ?_) <;> ((try rw [ho] at hb); (try dsimp only [Ar.real, IX.vo] at hb); (try simp only [QP1, QB7] at hb); (try simp only [QBo, beq_iff_eq, beq_eq_false_iff_ne, ne_eq] at hb))) | (refine StopN.mk ?_; cbv) | (refine CallI.objs [.loc 0, .loc 1] hP d_sum fn29 rfl rfl rfl rfl (by rfl) rfl rfl rfl rfl (by rfl) ⟨⟨_, rfl, rfl⟩, ⟨_, rfl, rfl⟩, trivial⟩ ?_; cbv) | (refine hK _ _ ?_) | (refine NeedT.mk ?_ ?_))
  exact .pure fun _ => rfl
theorem d_total : XC Try.prog 13 [.agg bA] [] s3 [] := by
  (refine XC.of_body (dt13) Try.func13 rfl Try.ntmps13 mixed (T := tl13) tk13 (by kernel_rfl) (by simp) rfl rfl rfl rfl rfl ?_; rintro o ho P hP c K hK; have hm : P.follows .mixedOrders = true := hP ▸ mixed; have hT : TOk P tl13 := hP ▸ tk13; (try rw [← ho]); cbv; (repeat (refine StopN.mk ?_; cbv)))
  repeat' (first | (refine Br.mk (fun hb => ?_) (fun hb => ?_) <;> ((try rw [ho] at hb); (try dsimp only [Ar.real, IX.vo] at hb); (try simp only [QP1, QB7] at hb); (try simp only [QBo, beq_iff_eq, beq_eq_false_iff_ne, ne_eq] at hb))) | (refine StopN.mk ?_; cbv) | (first | refine NeedT.mk (by rw [ho]; rfl) ?_ | (first | refine CallN.pure hP d_of fn11 rfl rfl rfl ?_ | refine CallN.pure hP d_add fn7 rfl rfl rfl ?_); cbv) | (refine hK _ _ ?_) | (refine NeedT.mk ?_ ?_) | (refine LoopN.lay (o := o) (D := dt13) 3 ho hm hT (by kernel_rfl) ?_; cbv))
  all_goals exact .pure fun _ => rfl
theorem d_ixR : XC Try.prog 47 [.ro (.lits [[il 4, il 2, il 3, .b .t, .b .f, il 0, il 0]]), .fn (.func 48) [] [.ptr (.out 0) 0]] [.var [il 2] 3] (il 0) [.var [il 2] 3] := by
  have h := x_IxFrm (fun a : Frm => decide (a.role = 2)) 48 2 3 fn48 (x_RoleShare1 2) kA.fr (by decide)
  intro c h1 h2
  have := h c h1 h2
  rw [show ixR (fun a : Frm => decide (a.role = 2)) kA.fr = 0 from by decide] at this
  exact this
theorem d_roleshare : XC Try.prog 22 [.agg bA, il 2] [] (.tup [.agg [il 3, il 3, il 3], .b .t]) [] := by
  (refine XC.of_body (dt22) Try.func22 rfl Try.ntmps22 mixed (T := tl22) tk22 (by kernel_rfl) (by simp) rfl rfl rfl rfl rfl ?_; rintro o ho P hP c K hK; have hm : P.follows .mixedOrders = true := hP ▸ mixed; have hT : TOk P tl22 := hP ▸ tk22; (try rw [← ho]); cbv; (repeat (refine StopN.mk ?_; cbv)))
  repeat' (first | (refine Br.mk (fun hb => ?_) (fun hb => ?_) <;> ((try rw [ho] at hb); (try dsimp only [Ar.real, IX.vo] at hb); (try simp only [QP1, QB7] at hb); (try simp only [QBo, beq_iff_eq, beq_eq_false_iff_ne, ne_eq] at hb))) | (refine StopN.mk ?_; cbv) | (first | refine NeedT.mk (by rw [ho]; rfl) ?_ | (first | refine CallI.objs [.loc 1] hP d_ixR fn47 rfl rfl rfl rfl (by rfl) rfl rfl rfl rfl (by rfl) ⟨⟨_, rfl, rfl⟩, trivial⟩ ?_ | refine CallN.pure hP d_rolesum fn8 rfl rfl rfl ?_ | refine CallN.pure hP d_total fn13 rfl rfl rfl ?_ | refine CallN.pure hP d_shrOf fn49 rfl rfl rfl ?_); cbv) | (refine hK _ _ ?_) | (refine NeedT.mk ?_ ?_))
  exact .pure fun _ => rfl
theorem x_works16 : XC Try.prog 5 [] [] (xb true) [] := by
  (refine XC.of_body ([]) Try.func5 rfl Try.ntmps5 mixed (T := tl5) tk5 (by kernel_rfl) (by simp) rfl rfl rfl rfl rfl ?_; rintro o ho P hP c K hK; have hm : P.follows .mixedOrders = true := hP ▸ mixed; have hT : TOk P tl5 := hP ▸ tk5; (try rw [← ho]); cbv; (repeat (refine StopN.mk ?_; cbv)))
  repeat' (first | (refine Br.mk (fun hb => ?_) (fun hb => ?_) <;> ((try rw [ho] at hb); (try dsimp only [Ar.real, IX.vo] at hb); (try simp only [QP1, QB7] at hb); (try simp only [QBo, beq_iff_eq, beq_eq_false_iff_ne, ne_eq] at hb))) | (refine StopN.mk ?_; cbv) | (first | refine NeedT.mk (by rw [ho]; rfl) ?_ | (first | refine CallI.pure hP d_rightA fn4 rfl rfl rfl ?_ | refine CallI.pure hP d_rightB fn4 rfl rfl rfl ?_ | refine CallI.pure hP d_roleshare fn22 rfl rfl rfl ?_ | refine CallI.pure hP d_text fn23 rfl rfl rfl ?_ | refine CallI.pure hP d_offer1 fn24 rfl rfl rfl ?_ | refine CallI.pure hP d_agent2 fn25 rfl rfl rfl ?_ | refine CallN.pure hP d_text fn23 rfl rfl rfl ?_ | refine CallN.pure hP d_offer1 fn24 rfl rfl rfl ?_ | refine CallN.pure hP d_agent2 fn25 rfl rfl rfl ?_); cbv) | (refine hK _ _ ?_) | (refine NeedT.mk ?_ ?_))
  · exact .b rfl
  · exact absurd trivial hb
end Go.Proofs.Ytpijibffjohikaa.Sy

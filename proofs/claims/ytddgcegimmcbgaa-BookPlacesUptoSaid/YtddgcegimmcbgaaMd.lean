/-
  Books as data. Plain theorems.
-/
import Derived.Test.YtddgcegimmcbgaaMc
import Derived.Test.YtddgcegimmcbgaaMb
import Derived.Test.YtddgcegimmcbgaaSyZf
import Derived.Test.YtddgcegimmcbgaaMa
set_option linter.unusedSectionVars false
set_option maxRecDepth 100000
set_option maxHeartbeats 8000000
set_option linter.unusedVariables false
set_option linter.unusedSimpArgs false
namespace Go.Proofs.Ytddgcegimmcbgaa.Sy
open Go Go.Sy Go.Proofs.Ytddgcegimmcbgaa
structure Frm where
  id : Int
  role : Int
  weight : Int
  up : Bool
  quiet : Bool
  time : Int
  til : Int
  deriving DecidableEq
instance : Inhabited Frm := ⟨⟨0, 0, 0, false, false, 0, 0⟩⟩
def foldAFrm_id (e : Frm) := (by
  have h : PLift (e.id = e.id) := ⟨rfl⟩
  conv at h => arg 1; lhs; delta Frm.id
  exact h)
theorem foldFrm_id (e : Frm) : type_of% (foldAFrm_id e).down := (foldAFrm_id e).down
def foldAFrm_role (e : Frm) := (by
  have h : PLift (e.role = e.role) := ⟨rfl⟩
  conv at h => arg 1; lhs; delta Frm.role
  exact h)
theorem foldFrm_role (e : Frm) : type_of% (foldAFrm_role e).down := (foldAFrm_role e).down
def foldAFrm_weight (e : Frm) := (by
  have h : PLift (e.weight = e.weight) := ⟨rfl⟩
  conv at h => arg 1; lhs; delta Frm.weight
  exact h)
theorem foldFrm_weight (e : Frm) : type_of% (foldAFrm_weight e).down := (foldAFrm_weight e).down
def foldAFrm_up (e : Frm) := (by
  have h : PLift (e.up = e.up) := ⟨rfl⟩
  conv at h => arg 1; lhs; delta Frm.up
  exact h)
theorem foldFrm_up (e : Frm) : type_of% (foldAFrm_up e).down := (foldAFrm_up e).down
def foldAFrm_quiet (e : Frm) := (by
  have h : PLift (e.quiet = e.quiet) := ⟨rfl⟩
  conv at h => arg 1; lhs; delta Frm.quiet
  exact h)
theorem foldFrm_quiet (e : Frm) : type_of% (foldAFrm_quiet e).down := (foldAFrm_quiet e).down
def foldAFrm_time (e : Frm) := (by
  have h : PLift (e.time = e.time) := ⟨rfl⟩
  conv at h => arg 1; lhs; delta Frm.time
  exact h)
theorem foldFrm_time (e : Frm) : type_of% (foldAFrm_time e).down := (foldAFrm_time e).down
def foldAFrm_til (e : Frm) := (by
  have h : PLift (e.til = e.til) := ⟨rfl⟩
  conv at h => arg 1; lhs; delta Frm.til
  exact h)
theorem foldFrm_til (e : Frm) : type_of% (foldAFrm_til e).down := (foldAFrm_til e).down
theorem foldFrm : (⟨0, 0, 0, false, false, 0, 0⟩ : Frm) = default := rfl
def Frm.X (_ : Ar) (f : Frm) : List X := [xi f.id, xi f.role, xi f.weight, xb f.up, xb f.quiet, xi f.time, xi f.til]
structure Agt where
  id : Int
  total : List Part
  free : List Part
  deriving DecidableEq
instance : Inhabited Agt := ⟨⟨0, [], []⟩⟩
def foldAAgt_id (e : Agt) := (by
  have h : PLift (e.id = e.id) := ⟨rfl⟩
  conv at h => arg 1; lhs; delta Agt.id
  exact h)
theorem foldAgt_id (e : Agt) : type_of% (foldAAgt_id e).down := (foldAAgt_id e).down
def foldAAgt_total (e : Agt) := (by
  have h : PLift (e.total = e.total) := ⟨rfl⟩
  conv at h => arg 1; lhs; delta Agt.total
  exact h)
theorem foldAgt_total (e : Agt) : type_of% (foldAAgt_total e).down := (foldAAgt_total e).down
def foldAAgt_free (e : Agt) := (by
  have h : PLift (e.free = e.free) := ⟨rfl⟩
  conv at h => arg 1; lhs; delta Agt.free
  exact h)
theorem foldAgt_free (e : Agt) : type_of% (foldAAgt_free e).down := (foldAAgt_free e).down
theorem foldAgt : (⟨0, [], []⟩ : Agt) = default := rfl
def Agt.X (o : Ar) (a : Agt) : List X := [xi a.id, .ro (SL o Part.X a.total), .ro (SL o Part.X a.free)]
structure Ofr where
  id : Int
  frame : Int
  agent : Int
  vec : List Part
  til : Int
  deriving DecidableEq
instance : Inhabited Ofr := ⟨⟨0, 0, 0, [], 0⟩⟩
def foldAOfr_id (e : Ofr) := (by
  have h : PLift (e.id = e.id) := ⟨rfl⟩
  conv at h => arg 1; lhs; delta Ofr.id
  exact h)
theorem foldOfr_id (e : Ofr) : type_of% (foldAOfr_id e).down := (foldAOfr_id e).down
def foldAOfr_frame (e : Ofr) := (by
  have h : PLift (e.frame = e.frame) := ⟨rfl⟩
  conv at h => arg 1; lhs; delta Ofr.frame
  exact h)
theorem foldOfr_frame (e : Ofr) : type_of% (foldAOfr_frame e).down := (foldAOfr_frame e).down
def foldAOfr_agent (e : Ofr) := (by
  have h : PLift (e.agent = e.agent) := ⟨rfl⟩
  conv at h => arg 1; lhs; delta Ofr.agent
  exact h)
theorem foldOfr_agent (e : Ofr) : type_of% (foldAOfr_agent e).down := (foldAOfr_agent e).down
def foldAOfr_vec (e : Ofr) := (by
  have h : PLift (e.vec = e.vec) := ⟨rfl⟩
  conv at h => arg 1; lhs; delta Ofr.vec
  exact h)
theorem foldOfr_vec (e : Ofr) : type_of% (foldAOfr_vec e).down := (foldAOfr_vec e).down
def foldAOfr_til (e : Ofr) := (by
  have h : PLift (e.til = e.til) := ⟨rfl⟩
  conv at h => arg 1; lhs; delta Ofr.til
  exact h)
theorem foldOfr_til (e : Ofr) : type_of% (foldAOfr_til e).down := (foldAOfr_til e).down
theorem foldOfr : (⟨0, 0, 0, [], 0⟩ : Ofr) = default := rfl
def Ofr.X (o : Ar) (f : Ofr) : List X := [xi f.id, xi f.frame, xi f.agent, .ro (SL o Part.X f.vec), xi f.til]
structure Tsk where
  frame : Int
  id : Int
  agent : Int
  vec : List Part
  deriving DecidableEq
instance : Inhabited Tsk := ⟨⟨0, 0, 0, []⟩⟩
def foldATsk_frame (e : Tsk) := (by
  have h : PLift (e.frame = e.frame) := ⟨rfl⟩
  conv at h => arg 1; lhs; delta Tsk.frame
  exact h)
theorem foldTsk_frame (e : Tsk) : type_of% (foldATsk_frame e).down := (foldATsk_frame e).down
def foldATsk_id (e : Tsk) := (by
  have h : PLift (e.id = e.id) := ⟨rfl⟩
  conv at h => arg 1; lhs; delta Tsk.id
  exact h)
theorem foldTsk_id (e : Tsk) : type_of% (foldATsk_id e).down := (foldATsk_id e).down
def foldATsk_agent (e : Tsk) := (by
  have h : PLift (e.agent = e.agent) := ⟨rfl⟩
  conv at h => arg 1; lhs; delta Tsk.agent
  exact h)
theorem foldTsk_agent (e : Tsk) : type_of% (foldATsk_agent e).down := (foldATsk_agent e).down
def foldATsk_vec (e : Tsk) := (by
  have h : PLift (e.vec = e.vec) := ⟨rfl⟩
  conv at h => arg 1; lhs; delta Tsk.vec
  exact h)
theorem foldTsk_vec (e : Tsk) : type_of% (foldATsk_vec e).down := (foldATsk_vec e).down
theorem foldTsk : (⟨0, 0, 0, []⟩ : Tsk) = default := rfl
def Tsk.X (o : Ar) (f : Tsk) : List X := [xi f.frame, xi f.id, xi f.agent, .ro (SL o Part.X f.vec)]
structure Flt where
  frame : Int
  agent : Int
  til : Int
  vec : List Part
  deriving DecidableEq
instance : Inhabited Flt := ⟨⟨0, 0, 0, []⟩⟩
def foldAFlt_frame (e : Flt) := (by
  have h : PLift (e.frame = e.frame) := ⟨rfl⟩
  conv at h => arg 1; lhs; delta Flt.frame
  exact h)
theorem foldFlt_frame (e : Flt) : type_of% (foldAFlt_frame e).down := (foldAFlt_frame e).down
def foldAFlt_agent (e : Flt) := (by
  have h : PLift (e.agent = e.agent) := ⟨rfl⟩
  conv at h => arg 1; lhs; delta Flt.agent
  exact h)
theorem foldFlt_agent (e : Flt) : type_of% (foldAFlt_agent e).down := (foldAFlt_agent e).down
def foldAFlt_til (e : Flt) := (by
  have h : PLift (e.til = e.til) := ⟨rfl⟩
  conv at h => arg 1; lhs; delta Flt.til
  exact h)
theorem foldFlt_til (e : Flt) : type_of% (foldAFlt_til e).down := (foldAFlt_til e).down
def foldAFlt_vec (e : Flt) := (by
  have h : PLift (e.vec = e.vec) := ⟨rfl⟩
  conv at h => arg 1; lhs; delta Flt.vec
  exact h)
theorem foldFlt_vec (e : Flt) : type_of% (foldAFlt_vec e).down := (foldAFlt_vec e).down
theorem foldFlt : (⟨0, 0, 0, []⟩ : Flt) = default := rfl
theorem QP1 : type_of% (And.intro @foldFrm (And.intro @foldAgt (And.intro @foldOfr (And.intro @foldTsk (And.intro @foldFlt (And.intro @foldFrm_id (And.intro @foldFrm_role (And.intro @foldFrm_weight (And.intro @foldFrm_up (And.intro @foldFrm_quiet (And.intro @foldFrm_time (And.intro @foldFrm_til (And.intro @foldAgt_id (And.intro @foldAgt_total (And.intro @foldAgt_free (And.intro @foldOfr_id (And.intro @foldOfr_frame (And.intro @foldOfr_agent (And.intro @foldOfr_vec (And.intro @foldOfr_til (And.intro @foldTsk_frame (And.intro @foldTsk_id (And.intro @foldTsk_agent (And.intro @foldTsk_vec (And.intro @foldFlt_frame (And.intro @foldFlt_agent (And.intro @foldFlt_til (And.intro @foldFlt_vec (QB7))))))))))))))))))))))))))))) := And.intro @foldFrm (And.intro @foldAgt (And.intro @foldOfr (And.intro @foldTsk (And.intro @foldFlt (And.intro @foldFrm_id (And.intro @foldFrm_role (And.intro @foldFrm_weight (And.intro @foldFrm_up (And.intro @foldFrm_quiet (And.intro @foldFrm_time (And.intro @foldFrm_til (And.intro @foldAgt_id (And.intro @foldAgt_total (And.intro @foldAgt_free (And.intro @foldOfr_id (And.intro @foldOfr_frame (And.intro @foldOfr_agent (And.intro @foldOfr_vec (And.intro @foldOfr_til (And.intro @foldTsk_frame (And.intro @foldTsk_id (And.intro @foldTsk_agent (And.intro @foldTsk_vec (And.intro @foldFlt_frame (And.intro @foldFlt_agent (And.intro @foldFlt_til (And.intro @foldFlt_vec (QB7))))))))))))))))))))))))))))
def Flt.X (o : Ar) (f : Flt) : List X := [xi f.frame, xi f.agent, xi f.til, .ro (SL o Part.X f.vec)]
structure Cfg where
  hor : Int
  most : Int
  ids : Int
  life : Int
  cap : Int
  min : S4
  deriving DecidableEq
def Cfg.X (o : Ar) (c : Cfg) : List X := [xi c.hor, xi c.most, xi c.ids, xi c.life, xi c.cap, xi c.min.a, xi c.min.b, xi c.min.c, xi c.min.d]
structure Bk where
  cfg : Cfg
  now : Int
  last : Int
  fr : List Frm
  ag : List Agt
  of : List Ofr
  tk : List Tsk
  fl : List Flt
def Bk.X (o : Ar) (b : Bk) : List X := [xi b.cfg.hor, xi b.cfg.most, xi b.cfg.ids, xi b.cfg.life, xi b.cfg.cap, xi b.cfg.min.a, xi b.cfg.min.b, xi b.cfg.min.c, xi b.cfg.min.d, xi b.now, xi b.last,
  .ro (SL o Frm.X b.fr), .ro (SL o Agt.X b.ag), .ro (SL o Ofr.X b.of), .ro (SL o Tsk.X b.tk), .ro (SL o Flt.X b.fl)]
structure BkOk (b : Bk) : Prop where
  n_fr : b.fr.length ≤ 1048576
  n_ag : b.ag.length ≤ 1048576
  n_of : b.of.length ≤ 1048576
  n_tk : b.tk.length ≤ 1048576
  n_fl : b.fl.length ≤ 1048576
  a1 : ∀ i, (b.ag.getD i default).total.length ≤ 1048576
  a2 : ∀ i, (b.ag.getD i default).free.length ≤ 1048576
  o1 : ∀ i, (b.of.getD i default).vec.length ≤ 1048576
  t1 : ∀ i, (b.tk.getD i default).vec.length ≤ 1048576
  l1 : ∀ i, (b.fl.getD i default).vec.length ≤ 1048576
end Go.Proofs.Ytddgcegimmcbgaa.Sy
namespace Go.Proofs.Ytddgcegimmcbgaa.Sy
open Go Go.Sy Go.Proofs.Ytddgcegimmcbgaa
theorem all_step {Q : Nat → Prop} {i : Nat} (h : ∀ j, j < i → Q j) (hi : Q i) : ∀ j, j < i + 1 → Q j := fun j hj => by
  rcases Nat.lt_or_ge j i with h5 | h5
  · exact h j h5
  · obtain rfl : j = i := by omega
    exact hi
def cmpI (x y : Int) : Int := if x < y then -1 else if y < x then 1 else 0
theorem x_nanI (x : Int) : XC Try.prog 151 [xi x] [] (.b .f) [] := by
  (refine XC.of_body ([]) Try.func151 rfl Try.ntmps151 mixed (T := [(3, ti3)]) (.cons tok3 .nil) (by kernel_rfl) (by simp) rfl rfl rfl rfl rfl ?_; rintro o ho P hP c K hK; have hm : P.follows .mixedOrders = true := hP ▸ mixed; have hT : TOk P [(3, ti3)] := hP ▸ (.cons tok3 .nil); (try rw [← ho]); cbv; (repeat (refine StopN.mk ?_; cbv)))
  repeat' (first | (refine Br.mk (fun hb => ?_) (fun hb => ?_) <;> ((try rw [ho] at hb); (try dsimp only [Ar.real, IX.vo] at hb); (try simp only [QP1] at hb); (try simp only [QBo, beq_iff_eq, beq_eq_false_iff_ne, ne_eq] at hb))) | (refine StopN.mk ?_; cbv) | (refine hK _ _ ?_) | (refine NeedT.mk ?_ ?_))
  exact .pure fun _ => by simp only [X.toD, BX.val]; rw [ho]; simp [real_not, real_eq]
theorem x_nanL (x : Int) : XC Try.prog 152 [xi x] [] (.b .f) [] := by
  (refine XC.of_body ([]) Try.func152 rfl Try.ntmps152 mixed (T := [(2, ti2)]) (.cons tok2 .nil) (by kernel_rfl) (by simp) rfl rfl rfl rfl rfl ?_; rintro o ho P hP c K hK; have hm : P.follows .mixedOrders = true := hP ▸ mixed; have hT : TOk P [(2, ti2)] := hP ▸ (.cons tok2 .nil); (try rw [← ho]); cbv; (repeat (refine StopN.mk ?_; cbv)))
  repeat' (first | (refine Br.mk (fun hb => ?_) (fun hb => ?_) <;> ((try rw [ho] at hb); (try dsimp only [Ar.real, IX.vo] at hb); (try simp only [QP1] at hb); (try simp only [QBo, beq_iff_eq, beq_eq_false_iff_ne, ne_eq] at hb))) | (refine StopN.mk ?_; cbv) | (refine hK _ _ ?_) | (refine NeedT.mk ?_ ?_))
  exact .pure fun _ => by simp only [X.toD, BX.val]; rw [ho]; simp [real_not, real_eq]
theorem x_CmpI (x y : Int) : XC Try.prog 100 [xi x, xi y] [] (xi (cmpI x y)) [] := by
  (refine XC.of_body ([]) Try.func100 rfl Try.ntmps100 mixed (T := [(3, ti3)]) (.cons tok3 .nil) (by kernel_rfl) (by simp) rfl rfl rfl rfl rfl ?_; rintro o ho P hP c K hK; have hm : P.follows .mixedOrders = true := hP ▸ mixed; have hT : TOk P [(3, ti3)] := hP ▸ (.cons tok3 .nil); (try rw [← ho]); cbv; (repeat (refine StopN.mk ?_; cbv)))
  repeat' (first | (refine Br.mk (fun hb => ?_) (fun hb => ?_) <;> ((try rw [ho] at hb); (try dsimp only [Ar.real, IX.vo] at hb); (try simp only [QP1] at hb); (try simp only [QBo, beq_iff_eq, beq_eq_false_iff_ne, ne_eq] at hb))) | (refine StopN.mk ?_; cbv) | ((first | refine CallI.pure hP (x_nanI _) fn151 (by first | rfl | (rw [ho]; done) | (rw [ho]; rfl)) (by rfl) (by first | rfl | (rw [ho]; done) | (rw [ho]; rfl)) ?_ | refine CallN.pure hP (x_nanI _) fn151 (by first | rfl | (rw [ho]; done) | (rw [ho]; rfl)) (by rfl) (by first | rfl | (rw [ho]; done) | (rw [ho]; rfl)) ?_); (try rw [← ho]); cbv) | (refine hK _ _ ?_) | (refine NeedT.mk ?_ ?_))
  all_goals
    refine .i ?_
    unfold cmpI
    ((try clear hR3); (try clear hR2); (try clear hR); (try clear hK); (try simp only [ncCast] at *); (try simp only [castI_eq] at *); (try rw [ho]); (try dsimp only [Ar.real, IX.vo, IX.val, BX.val, IX.toN]); (try simp only [QP1]))
    repeat' split
    all_goals omega
theorem x_CmpL (x y : Int) : XC Try.prog 101 [xi x, xi y] [] (xi (cmpI x y)) [] := by
  (refine XC.of_body ([]) Try.func101 rfl Try.ntmps101 mixed (T := [(2, ti2)]) (.cons tok2 .nil) (by kernel_rfl) (by simp) rfl rfl rfl rfl rfl ?_; rintro o ho P hP c K hK; have hm : P.follows .mixedOrders = true := hP ▸ mixed; have hT : TOk P [(2, ti2)] := hP ▸ (.cons tok2 .nil); (try rw [← ho]); cbv; (repeat (refine StopN.mk ?_; cbv)))
  repeat' (first | (refine Br.mk (fun hb => ?_) (fun hb => ?_) <;> ((try rw [ho] at hb); (try dsimp only [Ar.real, IX.vo] at hb); (try simp only [QP1] at hb); (try simp only [QBo, beq_iff_eq, beq_eq_false_iff_ne, ne_eq] at hb))) | (refine StopN.mk ?_; cbv) | ((first | refine CallI.pure hP (x_nanL _) fn152 (by first | rfl | (rw [ho]; done) | (rw [ho]; rfl)) (by rfl) (by first | rfl | (rw [ho]; done) | (rw [ho]; rfl)) ?_ | refine CallN.pure hP (x_nanL _) fn152 (by first | rfl | (rw [ho]; done) | (rw [ho]; rfl)) (by rfl) (by first | rfl | (rw [ho]; done) | (rw [ho]; rfl)) ?_); (try rw [← ho]); cbv) | (refine hK _ _ ?_) | (refine NeedT.mk ?_ ?_))
  all_goals
    refine .i ?_
    unfold cmpI
    ((try clear hR3); (try clear hR2); (try clear hR); (try clear hK); (try simp only [ncCast] at *); (try simp only [castI_eq] at *); (try rw [ho]); (try dsimp only [Ar.real, IX.vo, IX.val, BX.val, IX.toN]); (try simp only [QP1]))
    repeat' split
    all_goals omega
def or3 (x y z : Int) : Int := if x ≠ 0 then x else if y ≠ 0 then y else z
theorem x_Or3 (x y z : Int) : XC Try.prog 99 [.ro (.lits [[xi x], [xi y], [xi z]])] [] (xi (or3 x y z)) [] := by
  (refine XC.of_body ([]) Try.func99 rfl Try.ntmps99 mixed (T := [(3, ti3), (43, ti43)]) (.cons tok3 (.cons tok43 .nil)) (by kernel_rfl) (by simp) rfl rfl rfl rfl rfl ?_; rintro o ho P hP c K hK; have hm : P.follows .mixedOrders = true := hP ▸ mixed; have hT : TOk P [(3, ti3), (43, ti43)] := hP ▸ (.cons tok3 (.cons tok43 .nil)); (try rw [← ho]); cbv; (repeat (refine StopN.mk ?_; cbv)))
  repeat' (first | (refine Br.mk (fun hb => ?_) (fun hb => ?_) <;> ((try rw [ho] at hb); (try dsimp only [Ar.real, IX.vo] at hb); (try simp only [QP1] at hb); (try simp only [QBo, beq_iff_eq, beq_eq_false_iff_ne, ne_eq] at hb))) | (refine StopN.mk ?_; cbv) | (refine hK _ _ ?_) | (refine NeedT.mk ?_ ?_) | (refine LoopN.lay (o := o) (D := []) 4 ho hm hT (by kernel_rfl) ?_; cbv))
  any_goals (((try clear hR3); (try clear hR2); (try clear hR); (try clear hK); (try simp only [ncCast] at *); (try simp only [castI_eq] at *); (try rw [ho]); (try dsimp only [Ar.real, IX.vo, IX.val, BX.val, IX.toN]); (try simp only [QP1]); (try simp only [decide_eq_true_eq]); (all_goals (repeat rw [wrap_i64 (by omega) (by omega)])); (all_goals (first | omega | (simp only [Int.ofNat_eq_natCast]; omega)))); done)
  all_goals
    refine .i ?_
    unfold or3
    ((try clear hR3); (try clear hR2); (try clear hR); (try clear hK); (try simp only [ncCast] at *); (try simp only [castI_eq] at *); (try rw [ho]); (try dsimp only [Ar.real, IX.vo, IX.val, BX.val, IX.toN]); (try simp only [QP1]))
    repeat' split
    all_goals (first | omega | simp_all)
def ordP (p q : Part) : Int := or3 (cmpI p.kind q.kind) (cmpI p.role q.role) (cmpI p.amount q.amount)
theorem x_Ord1 (p q : Part) : XC Try.prog 98 [.agg (Part.X Ar.real p), .agg (Part.X Ar.real q)] [] (xi (ordP p q)) [] := by
  have h1 := x_CmpI p.kind q.kind
  have h2 := x_CmpI p.role q.role
  have h3 := x_CmpL p.amount q.amount
  have h4 := x_Or3 (cmpI p.kind q.kind) (cmpI p.role q.role) (cmpI p.amount q.amount)
  unfold ordP
  generalize cmpI p.kind q.kind = a at *
  generalize cmpI p.role q.role = b at *
  generalize cmpI p.amount q.amount = d at *
  generalize or3 a b d = r at *
  (refine XC.of_body ([(1, [(4, 5), (4, 6), (4, 7), (4, 8), (4, 10), (9, 10), (4, 11), (9, 11), (4, 12), (9, 12), (4, 13), (9, 13)])]) Try.func98 rfl Try.ntmps98 mixed (T := [(2, ti2), (3, ti3), (43, ti43), (123, ti123)]) (.cons tok2 (.cons tok3 (.cons tok43 (.cons tok123 .nil)))) (by kernel_rfl) (by simp) rfl rfl rfl rfl rfl ?_; rintro o ho P hP c K hK; have hm : P.follows .mixedOrders = true := hP ▸ mixed; have hT : TOk P [(2, ti2), (3, ti3), (43, ti43), (123, ti123)] := hP ▸ (.cons tok2 (.cons tok3 (.cons tok43 (.cons tok123 .nil)))); (try rw [← ho]); cbv; (repeat (refine StopN.mk ?_; cbv)))
  repeat' (first | (refine Br.mk (fun hb => ?_) (fun hb => ?_) <;> ((try rw [ho] at hb); (try dsimp only [Ar.real, IX.vo] at hb); (try simp only [QP1] at hb); (try simp only [QBo, beq_iff_eq, beq_eq_false_iff_ne, ne_eq] at hb))) | (refine StopN.mk ?_; cbv) | ((first | refine CallN.pure hP h1 fn100 rfl rfl rfl ?_ | refine CallN.pure hP h2 fn100 rfl rfl rfl ?_ | refine CallN.pure hP h3 fn101 rfl rfl rfl ?_ | refine CallN.pure hP h4 fn99 rfl rfl rfl ?_); cbv) | ((first | refine CallI.pure hP (x_Or3 _ _ _) fn99 (by first | rfl | (rw [ho]; done) | (rw [ho]; rfl)) (by rfl) (by first | rfl | (rw [ho]; done) | (rw [ho]; rfl)) ?_ | refine CallN.pure hP (x_Or3 _ _ _) fn99 (by first | rfl | (rw [ho]; done) | (rw [ho]; rfl)) (by rfl) (by first | rfl | (rw [ho]; done) | (rw [ho]; rfl)) ?_); (try rw [← ho]); generalize hr : or3 _ _ _ = r; (try rw [ho] at hr); (try dsimp only [Ar.real, IX.vo] at hr); (try simp only [QP1] at hr); cbv) | ((first | refine CallI.pure hP (x_CmpI _ _) fn100 (by first | rfl | (rw [ho]; done) | (rw [ho]; rfl)) (by rfl) (by first | rfl | (rw [ho]; done) | (rw [ho]; rfl)) ?_ | refine CallN.pure hP (x_CmpI _ _) fn100 (by first | rfl | (rw [ho]; done) | (rw [ho]; rfl)) (by rfl) (by first | rfl | (rw [ho]; done) | (rw [ho]; rfl)) ?_); (try rw [← ho]); generalize hr : cmpI _ _ = r; (try rw [ho] at hr); (try dsimp only [Ar.real, IX.vo] at hr); (try simp only [QP1] at hr); cbv) | ((first | refine CallI.pure hP (x_CmpL _ _) fn101 (by first | rfl | (rw [ho]; done) | (rw [ho]; rfl)) (by rfl) (by first | rfl | (rw [ho]; done) | (rw [ho]; rfl)) ?_ | refine CallN.pure hP (x_CmpL _ _) fn101 (by first | rfl | (rw [ho]; done) | (rw [ho]; rfl)) (by rfl) (by first | rfl | (rw [ho]; done) | (rw [ho]; rfl)) ?_); (try rw [← ho]); generalize hr : cmpI _ _ = r; (try rw [ho] at hr); (try dsimp only [Ar.real, IX.vo] at hr); (try simp only [QP1] at hr); cbv) | (refine hK _ _ ?_) | (refine NeedT.mk ?_ ?_))
  exact .i rfl
end Go.Proofs.Ytddgcegimmcbgaa.Sy
namespace Go.Proofs.Ytddgcegimmcbgaa.Sy
open Go Go.Sy Go.Proofs.Ytddgcegimmcbgaa
def ordAt (a b : List Part) (i : Nat) : Int := ordP (a.getD i default) (b.getD i default)
def ordE (a b : List Part) : Int := if a.length < b.length then -1 else if b.length < a.length then 1 else 0
def ordV (a b : List Part) : Int := match nextAt (fun i => decide (ordAt a b i ≠ 0)) 0 (min a.length b.length) with | some i => ordAt a b i | none => ordE a b
theorem ordV_hit {a b : List Part} {i : Nat} (h1 : i < a.length) (h2 : i < b.length) (hno : ∀ j, j < i → ordAt a b j = 0) (h : ordAt a b i ≠ 0) : ordV a b = ordAt a b i := by
  unfold ordV
  rw [nextAt_some (k := i) (Nat.zero_le _) (by omega) (by simp [h]) (fun j _ hj => by simp [hno j hj])]
theorem ordV_end {a b : List Part} (hno : ∀ j, j < min a.length b.length → ordAt a b j = 0) : ordV a b = ordE a b := by
  unfold ordV
  rw [nextAt_none (fun j _ hj => by simp [hno j hj])]
theorem cmpI_zero {x y : Int} : cmpI x y = 0 ↔ x = y := by
  unfold cmpI
  repeat' split
  all_goals omega
theorem ordP_zero {p q : Part} : ordP p q = 0 ↔ p = q := by
  obtain ⟨a, b, c⟩ := p
  obtain ⟨d, e, f⟩ := q
  simp only [ordP, or3, Part.mk.injEq]
  by_cases h1 : a = d
  · rw [cmpI_zero.2 h1]
    by_cases h2 : b = e
    · rw [cmpI_zero.2 h2]
      simp [h1, h2, cmpI_zero]
    · have : cmpI b e ≠ 0 := fun h => h2 (cmpI_zero.1 h)
      simp [this, h2]
  · have : cmpI a d ≠ 0 := fun h => h1 (cmpI_zero.1 h)
    simp [this, h1]
theorem ordV_self (a : List Part) : ordV a a = 0 := by
  rw [ordV_end (fun j _ => ordP_zero.2 rfl)]
  unfold ordE
  rw [if_neg (by omega), if_neg (by omega)]
theorem x_r16part (p q : Part) : XC Try.prog 102 [.agg (Part.X Ar.real p), .agg (Part.X Ar.real q)] [] (xi (ordP p q)) [] := by
  (refine XC.of_body ([]) Try.func102 rfl Try.ntmps102 mixed (T := [(2, ti2), (3, ti3), (123, ti123)]) (.cons tok2 (.cons tok3 (.cons tok123 .nil))) (by kernel_rfl) (by simp) rfl rfl rfl rfl rfl ?_; rintro o ho P hP c K hK; have hm : P.follows .mixedOrders = true := hP ▸ mixed; have hT : TOk P [(2, ti2), (3, ti3), (123, ti123)] := hP ▸ (.cons tok2 (.cons tok3 (.cons tok123 .nil))); (try rw [← ho]); cbv; (repeat (refine StopN.mk ?_; cbv)))
  repeat' (first | (refine Br.mk (fun hb => ?_) (fun hb => ?_) <;> ((try rw [ho] at hb); (try dsimp only [Ar.real, IX.vo] at hb); (try simp only [QP1] at hb); (try simp only [QBo, beq_iff_eq, beq_eq_false_iff_ne, ne_eq] at hb))) | (refine StopN.mk ?_; cbv) | (refine hK _ _ ?_) | (refine NeedT.mk ?_ ?_))
  all_goals
    refine .i ?_
    ((try clear hR3); (try clear hR2); (try clear hR); (try clear hK); (try simp only [ncCast] at *); (try simp only [castI_eq] at *); (try rw [ho]); (try dsimp only [Ar.real, IX.vo, IX.val, BX.val, IX.toN]); (try simp only [QP1]))
    simp only [Bool.and_eq_true, Bool.and_eq_false_iff, decide_eq_true_eq, decide_eq_false_iff_not] at *
    unfold ordP or3 cmpI
    repeat' split
    all_goals omega
theorem x_CmpFn (a b : List Part) (ha : a.length ≤ 1048576) (hb' : b.length ≤ 1048576) : XC Try.prog 97 [.ro (SL Ar.real Part.X a), .ro (SL Ar.real Part.X b), .fn (.func 98) [] []] [] (xi (ordV a b)) [] := by
  have h1 := fun i => x_Ord1 (a.getD i default) (b.getD i default)
  have h2 := fun i hi1 hi2 hno h => ordV_hit (a := a) (b := b) (i := i) hi1 hi2 hno h
  have h3 := ordV_end (a := a) (b := b)
  unfold ordE at h3
  generalize ordV a b = r at *
  have h0 : ∀ i, ordP (a.getD i default) (b.getD i default) = ordAt a b i := fun _ => rfl
  simp only [h0] at h1
  clear h0
  generalize ordAt a b = O at *
  (refine XC.of_body ([]) Try.func97 rfl Try.ntmps97 mixed (T := [(2, ti2), (3, ti3), (31, ti31), (123, ti123)]) (.cons tok2 (.cons tok3 (.cons tok31 (.cons tok123 .nil)))) (by kernel_rfl) (by simp) rfl rfl rfl rfl rfl ?_; rintro o ho P hP c K hK; have hm : P.follows .mixedOrders = true := hP ▸ mixed; have hT : TOk P [(2, ti2), (3, ti3), (31, ti31), (123, ti123)] := hP ▸ (.cons tok2 (.cons tok3 (.cons tok31 (.cons tok123 .nil)))); (try rw [← ho]); cbv; (repeat (refine StopN.mk ?_; cbv)))
  refine LoopN.over (o := o) (D := []) ho hm hT (by kernel_rfl) (fun i : Nat => [(13, xn i)]) (fun _ => []) (fun _ => []) (fun i => i ≤ a.length ∧ i ≤ b.length ∧ ∀ j, j < i → O j = 0) (fun i => a.length - i) 0 ⟨Nat.zero_le _, Nat.zero_le _, fun j hj => by omega⟩ ?_ ?_
  · refine ⟨(by cbv), by cbv; repeat' (first | trivial | exact EqX.rfl' | exact EqO.rfl' | apply And.intro | ((try clear hR3); (try clear hR2); (try clear hR); (try clear hK); (try simp only [ncCast] at *); (try simp only [castI_eq] at *); refine EqX.i ?_; (try rw [ho]); (try dsimp only [Ar.real, IX.vo, IX.val, BX.val, IX.toN]); (try simp only [QP1]); (repeat rw [wrap_i64 (by omega) (by omega)]); omega)), by cbv; repeat' (first | trivial | exact EqO.rfl' | apply And.intro), by cbv; repeat' (first | trivial | exact EqO.rfl' | apply And.intro)⟩
  · rintro i ⟨hi, hi2, hno⟩ R hR
    have e1 := h1 i
    have e2 := h2 i
    have ea : o.nth a i = a.getD i default := by rw [ho, real_nth]
    have eb : o.nth b i = b.getD i default := by rw [ho, real_nth]
    rw [← ea, ← eb, ← ho] at e1
    generalize hz : O i = z at *
    cbv
    repeat' (first | (refine Br.mk (fun hb => ?_) (fun hb => ?_) <;> ((try rw [ho] at hb); (try dsimp only [Ar.real, IX.vo] at hb); (try simp only [QP1] at hb); (try simp only [QBo, beq_iff_eq, beq_eq_false_iff_ne, ne_eq] at hb))) | (refine StopN.mk ?_; cbv) | (first | refine CallN.pure hP e1 fn98 rfl rfl rfl ?_ | refine CallI.pure hP e1 fn98 rfl rfl rfl ?_); cbv | (refine hK _ _ ?_) | (refine NeedT.mk ?_ ?_))
    any_goals (((try clear hR3); (try clear hR2); (try clear hR); (try clear hK); (try simp only [ncCast] at *); (try simp only [castI_eq] at *); (try rw [ho]); (try dsimp only [Ar.real, IX.vo, IX.val, BX.val, IX.toN]); (try simp only [QP1]); (try simp only [decide_eq_true_eq]); (all_goals (repeat rw [wrap_i64 (by omega) (by omega)])); (all_goals (first | omega | (simp only [Int.ofNat_eq_natCast]; omega)))); done)
    · rw [h3 (fun j hj => hno j (by ((try clear hR3); (try clear hR2); (try clear hR); (try clear hK); (try simp only [ncCast] at *); (try simp only [castI_eq] at *)); omega)), if_neg (by ((try clear hR3); (try clear hR2); (try clear hR); (try clear hK); (try simp only [ncCast] at *); (try simp only [castI_eq] at *)); omega), if_pos (by ((try clear hR3); (try clear hR2); (try clear hR); (try clear hK); (try simp only [ncCast] at *); (try simp only [castI_eq] at *)); omega)]
      exact .i rfl
    · rw [e2 (by assumption) (by assumption) hno hb]
      exact .i rfl
    · refine hR _ (i + 1) (by show a.length - (i + 1) < a.length - i; omega) ⟨by show i + 1 ≤ a.length; omega, by show i + 1 ≤ b.length; omega, all_step hno (hz.trans (by assumption))⟩ ?_
      refine ⟨(by cbv), by cbv; repeat' (first | trivial | exact EqX.rfl' | exact EqO.rfl' | apply And.intro | ((try clear hR3); (try clear hR2); (try clear hR); (try clear hK); (try simp only [ncCast] at *); (try simp only [castI_eq] at *); refine EqX.i ?_; (try rw [ho]); (try dsimp only [Ar.real, IX.vo, IX.val, BX.val, IX.toN]); (try simp only [QP1]); (repeat rw [wrap_i64 (by omega) (by omega)]); omega)), by cbv; repeat' (first | trivial | exact EqO.rfl' | apply And.intro), by cbv; repeat' (first | trivial | exact EqO.rfl' | apply And.intro)⟩
    · rw [h3 (fun j hj => hno j (by ((try clear hR3); (try clear hR2); (try clear hR); (try clear hK); (try simp only [ncCast] at *); (try simp only [castI_eq] at *)); omega)), if_pos (by assumption)]
      exact .i rfl
    · rw [h3 (fun j hj => hno j (by ((try clear hR3); (try clear hR2); (try clear hR); (try clear hK); (try simp only [ncCast] at *); (try simp only [castI_eq] at *)); omega)), if_neg (by ((try clear hR3); (try clear hR2); (try clear hR); (try clear hK); (try simp only [ncCast] at *); (try simp only [castI_eq] at *)); omega), if_neg (by ((try clear hR3); (try clear hR2); (try clear hR); (try clear hK); (try simp only [ncCast] at *); (try simp only [castI_eq] at *)); omega)]
      exact .i rfl
theorem x_Order (a b : List Part) (ha : a.length ≤ 1048576) (hb' : b.length ≤ 1048576) : XC Try.prog 47 [.ro (SL Ar.real Part.X a), .ro (SL Ar.real Part.X b)] [] (xi (ordV a b)) [] := by
  have h1 := x_CmpFn a b ha hb'
  generalize ordV a b = r at *
  (refine XC.of_body ([]) Try.func47 rfl Try.ntmps47 mixed (T := []) .nil (by kernel_rfl) (by simp) rfl rfl rfl rfl rfl ?_; rintro o ho P hP c K hK; have hm : P.follows .mixedOrders = true := hP ▸ mixed; have hT : TOk P [] := hP ▸ .nil; (try rw [← ho]); cbv; (repeat (refine StopN.mk ?_; cbv)))
  rw [← ho] at h1
  repeat' (first | (refine Br.mk (fun hb => ?_) (fun hb => ?_) <;> ((try rw [ho] at hb); (try dsimp only [Ar.real, IX.vo] at hb); (try simp only [QP1] at hb); (try simp only [QBo, beq_iff_eq, beq_eq_false_iff_ne, ne_eq] at hb))) | (refine StopN.mk ?_; cbv) | (first | refine CallN.pure hP h1 fn97 rfl rfl rfl ?_ | refine CallI.pure hP h1 fn97 rfl rfl rfl ?_); cbv | (refine hK _ _ ?_) | (refine NeedT.mk ?_ ?_))
  exact .i rfl
theorem x_r16Order (a b : List Part) (ha : a.length ≤ 1048576) (hb' : b.length ≤ 1048576) : XC Try.prog 48 [.ro (SL Ar.real Part.X a), .ro (SL Ar.real Part.X b)] [] (xi (ordV a b)) [] := by
  have h1 := fun i => x_r16part (a.getD i default) (b.getD i default)
  have h2 := fun i hi1 hi2 hno h => ordV_hit (a := a) (b := b) (i := i) hi1 hi2 hno h
  have h3 := ordV_end (a := a) (b := b)
  unfold ordE at h3
  generalize ordV a b = r at *
  have h0 : ∀ i, ordP (a.getD i default) (b.getD i default) = ordAt a b i := fun _ => rfl
  simp only [h0] at h1
  clear h0
  generalize ordAt a b = O at *
  (refine XC.of_body ([(4, []), (5, [])]) Try.func48 rfl Try.ntmps48 mixed (T := [(2, ti2), (3, ti3), (31, ti31), (123, ti123)]) (.cons tok2 (.cons tok3 (.cons tok31 (.cons tok123 .nil)))) (by kernel_rfl) (by simp) rfl rfl rfl rfl rfl ?_; rintro o ho P hP c K hK; have hm : P.follows .mixedOrders = true := hP ▸ mixed; have hT : TOk P [(2, ti2), (3, ti3), (31, ti31), (123, ti123)] := hP ▸ (.cons tok2 (.cons tok3 (.cons tok31 (.cons tok123 .nil)))); (try rw [← ho]); cbv; (repeat (refine StopN.mk ?_; cbv)))
  refine LoopN.over (o := o) (D := [(4, []), (5, [])]) ho hm hT (by kernel_rfl) (fun i : Nat => [(5, xn i)]) (fun _ => []) (fun _ => []) (fun i => i ≤ a.length ∧ i ≤ b.length ∧ ∀ j, j < i → O j = 0) (fun i => a.length - i) 0 ⟨Nat.zero_le _, Nat.zero_le _, fun j hj => by omega⟩ ?_ ?_
  · refine ⟨(by cbv), by cbv; repeat' (first | trivial | exact EqX.rfl' | exact EqO.rfl' | apply And.intro | ((try clear hR3); (try clear hR2); (try clear hR); (try clear hK); (try simp only [ncCast] at *); (try simp only [castI_eq] at *); refine EqX.i ?_; (try rw [ho]); (try dsimp only [Ar.real, IX.vo, IX.val, BX.val, IX.toN]); (try simp only [QP1]); (repeat rw [wrap_i64 (by omega) (by omega)]); omega)), by cbv; repeat' (first | trivial | exact EqO.rfl' | apply And.intro), by cbv; repeat' (first | trivial | exact EqO.rfl' | apply And.intro)⟩
  · rintro i ⟨hi, hi2, hno⟩ R hR
    have e1 := h1 i
    have e2 := h2 i
    have ea : o.nth a i = a.getD i default := by rw [ho, real_nth]
    have eb : o.nth b i = b.getD i default := by rw [ho, real_nth]
    rw [← ea, ← eb, ← ho] at e1
    generalize hz : O i = z at *
    cbv
    repeat' (first | (refine Br.mk (fun hb => ?_) (fun hb => ?_) <;> ((try rw [ho] at hb); (try dsimp only [Ar.real, IX.vo] at hb); (try simp only [QP1] at hb); (try simp only [QBo, beq_iff_eq, beq_eq_false_iff_ne, ne_eq] at hb))) | (refine StopN.mk ?_; cbv) | (first | refine CallN.pure hP e1 fn102 rfl rfl rfl ?_ | refine CallI.pure hP e1 fn102 rfl rfl rfl ?_); cbv | ((first | refine CallI.pure hP (x_r16part _ _) fn102 (by first | rfl | (rw [ho]; done) | (rw [ho]; rfl)) (by rfl) (by first | rfl | (rw [ho]; done) | (rw [ho]; rfl)) ?_ | refine CallN.pure hP (x_r16part _ _) fn102 (by first | rfl | (rw [ho]; done) | (rw [ho]; rfl)) (by rfl) (by first | rfl | (rw [ho]; done) | (rw [ho]; rfl)) ?_); (try rw [← ho]); generalize hr : ordP _ _ = r; (try rw [ho] at hr); (try dsimp only [Ar.real, IX.vo] at hr); (try simp only [QP1] at hr); cbv) | (refine hK _ _ ?_) | (refine NeedT.mk ?_ ?_))
    any_goals (((try clear hR3); (try clear hR2); (try clear hR); (try clear hK); (try simp only [ncCast] at *); (try simp only [castI_eq] at *); (try rw [ho]); (try dsimp only [Ar.real, IX.vo, IX.val, BX.val, IX.toN]); (try simp only [QP1]); (try simp only [decide_eq_true_eq]); (all_goals (repeat rw [wrap_i64 (by omega) (by omega)])); (all_goals (first | omega | (simp only [Int.ofNat_eq_natCast]; omega)))); done)
    · rw [e2 (by assumption) (by assumption) hno hb]
      exact .i rfl
    · refine hR _ (i + 1) (by show a.length - (i + 1) < a.length - i; omega) ⟨by show i + 1 ≤ a.length; omega, by show i + 1 ≤ b.length; omega, all_step hno (hz.trans (by assumption))⟩ ?_
      refine ⟨(by cbv), by cbv; repeat' (first | trivial | exact EqX.rfl' | exact EqO.rfl' | apply And.intro | ((try clear hR3); (try clear hR2); (try clear hR); (try clear hK); (try simp only [ncCast] at *); (try simp only [castI_eq] at *); refine EqX.i ?_; (try rw [ho]); (try dsimp only [Ar.real, IX.vo, IX.val, BX.val, IX.toN]); (try simp only [QP1]); (repeat rw [wrap_i64 (by omega) (by omega)]); omega)), by cbv; repeat' (first | trivial | exact EqO.rfl' | apply And.intro), by cbv; repeat' (first | trivial | exact EqO.rfl' | apply And.intro)⟩
    all_goals
      have hno2 := h3 (fun j hj => hno j (by ((try clear hR3); (try clear hR2); (try clear hR); (try clear hK); (try simp only [ncCast] at *); (try simp only [castI_eq] at *)); omega))
      repeat rw [if_neg (by ((try clear hR3); (try clear hR2); (try clear hR); (try clear hK); (try simp only [ncCast] at *); (try simp only [castI_eq] at *)); omega)] at hno2
      try rw [if_pos (by ((try clear hR3); (try clear hR2); (try clear hR); (try clear hK); (try simp only [ncCast] at *); (try simp only [castI_eq] at *)); omega)] at hno2
      try (exfalso; ((try clear hR3); (try clear hR2); (try clear hR); (try clear hK); (try simp only [ncCast] at *); (try simp only [castI_eq] at *)); omega)
      try rw [hno2]
      try exact .i rfl
end Go.Proofs.Ytddgcegimmcbgaa.Sy
namespace Go.Proofs.Ytddgcegimmcbgaa.Sy
open Go Go.Sy Go.Proofs.Ytddgcegimmcbgaa
def ixR {α : Type} [Inhabited α] (q : α → Bool) (l : List α) : Int := match nextAt (fun i => q (l.getD i default)) 0 l.length with | some i => i | none => -1
theorem ixR_hit {α : Type} [Inhabited α] {q : α → Bool} {l : List α} {i : Nat} (h1 : i < l.length) (hno : ∀ j, j < i → q (l.getD j default) = false) (h : q (l.getD i default) = true) : ixR q l = i := by
  unfold ixR
  rw [nextAt_some (k := i) (Nat.zero_le _) h1 h (fun j _ hj => hno j hj)]
theorem ixR_none {α : Type} [Inhabited α] {q : α → Bool} {l : List α} (hno : ∀ j, j < l.length → q (l.getD j default) = false) : ixR q l = -1 := by
  unfold ixR
  rw [nextAt_none (fun j _ hj => hno j hj)]
theorem x_IxFrm (q : Frm → Bool) (g : FuncId) (x0 : Int) (t0 : Nat) (hg : FnOk Try.prog g) (hq : ∀ a : Frm, XC Try.prog g ([.agg (Frm.X Ar.real a)] ++ [.ptr (.out 0) 0]) [.var [xi x0] t0] (xb (q a)) [.var [xi x0] t0]) (l : List Frm) (hl : l.length ≤ 1048576) :
    XC Try.prog 103 [.ro (SL Ar.real Frm.X l), .fn (.func g) [] [.ptr (.out 0) 0]] [.var [xi x0] t0] (xi (ixR q l)) [.var [xi x0] t0] := by
  have h1 := fun i => ixR_hit (q := q) (l := l) (i := i)
  have h2 := ixR_none (q := q) (l := l)
  generalize ixR q l = r at *
  (refine XC.of_body ([]) Try.func103 rfl Try.ntmps103 mixed (T := [(2, ti2), (3, ti3), (4, ti4), (94, ti94), (179, ti179)]) (.cons tok2 (.cons tok3 (.cons tok4 (.cons tok94 (.cons tok179 .nil))))) (by kernel_rfl) (by simp) rfl rfl rfl rfl rfl ?_; rintro o ho P hP c K hK; have hm : P.follows .mixedOrders = true := hP ▸ mixed; have hT : TOk P [(2, ti2), (3, ti3), (4, ti4), (94, ti94), (179, ti179)] := hP ▸ (.cons tok2 (.cons tok3 (.cons tok4 (.cons tok94 (.cons tok179 .nil))))); (try rw [← ho]); cbv; (repeat (refine StopN.mk ?_; cbv)))
  refine LoopN.over (o := o) (D := []) ho hm hT (by kernel_rfl) (fun i : Nat => [(8, xn i)]) (fun _ => []) (fun _ => []) (fun i => i ≤ l.length ∧ ∀ j, j < i → q (l.getD j default) = false) (fun i => l.length - i) 0 ⟨Nat.zero_le _, fun j hj => by omega⟩ ?_ ?_
  · refine ⟨(by cbv), by cbv; repeat' (first | trivial | exact EqX.rfl' | exact EqO.rfl' | apply And.intro | ((try clear hR3); (try clear hR2); (try clear hR); (try clear hK); (try simp only [ncCast] at *); (try simp only [castI_eq] at *); refine EqX.i ?_; (try rw [ho]); (try dsimp only [Ar.real, IX.vo, IX.val, BX.val, IX.toN]); (try simp only [QP1, QB7]); (repeat rw [wrap_i64 (by omega) (by omega)]); omega)), by cbv; repeat' (first | trivial | exact EqO.rfl' | apply And.intro), by cbv; repeat' (first | trivial | exact EqO.rfl' | apply And.intro)⟩
  · rintro i ⟨hi, hno⟩ R hR
    have e1 := hq (l.getD i default)
    have e2 := h1 i
    have el : o.nth l i = l.getD i default := by rw [ho, real_nth]
    rw [← ho, ← el] at e1
    rw [← el] at e2
    have e3 := fun h : q (o.nth l i) = false => all_step hno (by rw [← el]; exact h)
    generalize q (o.nth l i) = b at *
    cbv
    repeat' (first | (refine Br.mk (fun hb => ?_) (fun hb => ?_) <;> ((try rw [ho] at hb); (try dsimp only [Ar.real, IX.vo] at hb); (try simp only [QP1, QB7] at hb); (try simp only [QBo, beq_iff_eq, beq_eq_false_iff_ne, ne_eq] at hb))) | (refine StopN.mk ?_; cbv) | (refine CallI.objs [.out 0] hP e1 hg rfl rfl rfl rfl (by rfl) rfl rfl rfl rfl (by rfl) ⟨⟨_, rfl, rfl⟩, trivial⟩ ?_); cbv | (refine hK _ _ ?_) | (refine NeedT.mk ?_ ?_))
    any_goals (((try clear hR3); (try clear hR2); (try clear hR); (try clear hK); (try simp only [ncCast] at *); (try simp only [castI_eq] at *); (try rw [ho]); (try dsimp only [Ar.real, IX.vo, IX.val, BX.val, IX.toN]); (try simp only [QP1, QB7]); (try simp only [decide_eq_true_eq]); (all_goals (repeat rw [wrap_i64 (by omega) (by omega)])); (all_goals (first | omega | (simp only [Int.ofNat_eq_natCast]; omega)))); done)
    · rw [e2 (by assumption) hno (by assumption)]
      exact FinX_iOr rfl rfl
    · refine hR _ (i + 1) (by show l.length - (i + 1) < l.length - i; omega) ⟨by show i + 1 ≤ l.length; omega, e3 (by assumption)⟩ ?_
      refine ⟨(by cbv), by cbv; repeat' (first | trivial | exact EqX.rfl' | exact EqO.rfl' | apply And.intro | ((try clear hR3); (try clear hR2); (try clear hR); (try clear hK); (try simp only [ncCast] at *); (try simp only [castI_eq] at *); refine EqX.i ?_; (try rw [ho]); (try dsimp only [Ar.real, IX.vo, IX.val, BX.val, IX.toN]); (try simp only [QP1, QB7]); (repeat rw [wrap_i64 (by omega) (by omega)]); omega)), by cbv; repeat' (first | trivial | exact EqO.rfl' | apply And.intro), by cbv; repeat' (first | trivial | exact EqO.rfl' | apply And.intro)⟩
    · obtain rfl : i = l.length := by ((try clear hR3); (try clear hR2); (try clear hR); (try clear hK); (try simp only [ncCast] at *); (try simp only [castI_eq] at *)); omega
      rw [h2 hno]
      exact FinX_iOr rfl rfl
theorem x_IxAgt (q : Agt → Bool) (g : FuncId) (x0 : Int) (t0 : Nat) (hg : FnOk Try.prog g) (hq : ∀ a : Agt, XC Try.prog g ([.agg (Agt.X Ar.real a)] ++ [.ptr (.out 0) 0]) [.var [xi x0] t0] (xb (q a)) [.var [xi x0] t0]) (l : List Agt) (hl : l.length ≤ 1048576) :
    XC Try.prog 105 [.ro (SL Ar.real Agt.X l), .fn (.func g) [] [.ptr (.out 0) 0]] [.var [xi x0] t0] (xi (ixR q l)) [.var [xi x0] t0] := by
  have h1 := fun i => ixR_hit (q := q) (l := l) (i := i)
  have h2 := ixR_none (q := q) (l := l)
  generalize ixR q l = r at *
  (refine XC.of_body ([]) Try.func105 rfl Try.ntmps105 mixed (T := [(2, ti2), (3, ti3), (31, ti31), (95, ti95), (165, ti165)]) (.cons tok2 (.cons tok3 (.cons tok31 (.cons tok95 (.cons tok165 .nil))))) (by kernel_rfl) (by simp) rfl rfl rfl rfl rfl ?_; rintro o ho P hP c K hK; have hm : P.follows .mixedOrders = true := hP ▸ mixed; have hT : TOk P [(2, ti2), (3, ti3), (31, ti31), (95, ti95), (165, ti165)] := hP ▸ (.cons tok2 (.cons tok3 (.cons tok31 (.cons tok95 (.cons tok165 .nil))))); (try rw [← ho]); cbv; (repeat (refine StopN.mk ?_; cbv)))
  refine LoopN.over (o := o) (D := []) ho hm hT (by kernel_rfl) (fun i : Nat => [(8, xn i)]) (fun _ => []) (fun _ => []) (fun i => i ≤ l.length ∧ ∀ j, j < i → q (l.getD j default) = false) (fun i => l.length - i) 0 ⟨Nat.zero_le _, fun j hj => by omega⟩ ?_ ?_
  · refine ⟨(by cbv), by cbv; repeat' (first | trivial | exact EqX.rfl' | exact EqO.rfl' | apply And.intro | ((try clear hR3); (try clear hR2); (try clear hR); (try clear hK); (try simp only [ncCast] at *); (try simp only [castI_eq] at *); refine EqX.i ?_; (try rw [ho]); (try dsimp only [Ar.real, IX.vo, IX.val, BX.val, IX.toN]); (try simp only [QP1, QB7]); (repeat rw [wrap_i64 (by omega) (by omega)]); omega)), by cbv; repeat' (first | trivial | exact EqO.rfl' | apply And.intro), by cbv; repeat' (first | trivial | exact EqO.rfl' | apply And.intro)⟩
  · rintro i ⟨hi, hno⟩ R hR
    have e1 := hq (l.getD i default)
    have e2 := h1 i
    have el : o.nth l i = l.getD i default := by rw [ho, real_nth]
    rw [← ho, ← el] at e1
    rw [← el] at e2
    have e3 := fun h : q (o.nth l i) = false => all_step hno (by rw [← el]; exact h)
    generalize q (o.nth l i) = b at *
    cbv
    repeat' (first | (refine Br.mk (fun hb => ?_) (fun hb => ?_) <;> ((try rw [ho] at hb); (try dsimp only [Ar.real, IX.vo] at hb); (try simp only [QP1, QB7] at hb); (try simp only [QBo, beq_iff_eq, beq_eq_false_iff_ne, ne_eq] at hb))) | (refine StopN.mk ?_; cbv) | (refine CallI.objs [.out 0] hP e1 hg rfl rfl rfl rfl (by rfl) rfl rfl rfl rfl (by rfl) ⟨⟨_, rfl, rfl⟩, trivial⟩ ?_); cbv | (refine hK _ _ ?_) | (refine NeedT.mk ?_ ?_))
    any_goals (((try clear hR3); (try clear hR2); (try clear hR); (try clear hK); (try simp only [ncCast] at *); (try simp only [castI_eq] at *); (try rw [ho]); (try dsimp only [Ar.real, IX.vo, IX.val, BX.val, IX.toN]); (try simp only [QP1, QB7]); (try simp only [decide_eq_true_eq]); (all_goals (repeat rw [wrap_i64 (by omega) (by omega)])); (all_goals (first | omega | (simp only [Int.ofNat_eq_natCast]; omega)))); done)
    · rw [e2 (by assumption) hno (by assumption)]
      exact FinX_iOr rfl rfl
    · refine hR _ (i + 1) (by show l.length - (i + 1) < l.length - i; omega) ⟨by show i + 1 ≤ l.length; omega, e3 (by assumption)⟩ ?_
      refine ⟨(by cbv), by cbv; repeat' (first | trivial | exact EqX.rfl' | exact EqO.rfl' | apply And.intro | ((try clear hR3); (try clear hR2); (try clear hR); (try clear hK); (try simp only [ncCast] at *); (try simp only [castI_eq] at *); refine EqX.i ?_; (try rw [ho]); (try dsimp only [Ar.real, IX.vo, IX.val, BX.val, IX.toN]); (try simp only [QP1, QB7]); (repeat rw [wrap_i64 (by omega) (by omega)]); omega)), by cbv; repeat' (first | trivial | exact EqO.rfl' | apply And.intro), by cbv; repeat' (first | trivial | exact EqO.rfl' | apply And.intro)⟩
    · obtain rfl : i = l.length := by ((try clear hR3); (try clear hR2); (try clear hR); (try clear hK); (try simp only [ncCast] at *); (try simp only [castI_eq] at *)); omega
      rw [h2 hno]
      exact FinX_iOr rfl rfl
theorem x_IxOfr (q : Ofr → Bool) (g : FuncId) (x0 : Int) (t0 : Nat) (hg : FnOk Try.prog g) (hq : ∀ a : Ofr, XC Try.prog g ([.agg (Ofr.X Ar.real a)] ++ [.ptr (.out 0) 0]) [.var [xi x0] t0] (xb (q a)) [.var [xi x0] t0]) (l : List Ofr) (hl : l.length ≤ 1048576) :
    XC Try.prog 107 [.ro (SL Ar.real Ofr.X l), .fn (.func g) [] [.ptr (.out 0) 0]] [.var [xi x0] t0] (xi (ixR q l)) [.var [xi x0] t0] := by
  have h1 := fun i => ixR_hit (q := q) (l := l) (i := i)
  have h2 := ixR_none (q := q) (l := l)
  generalize ixR q l = r at *
  (refine XC.of_body ([]) Try.func107 rfl Try.ntmps107 mixed (T := [(2, ti2), (3, ti3), (31, ti31), (96, ti96), (167, ti167)]) (.cons tok2 (.cons tok3 (.cons tok31 (.cons tok96 (.cons tok167 .nil))))) (by kernel_rfl) (by simp) rfl rfl rfl rfl rfl ?_; rintro o ho P hP c K hK; have hm : P.follows .mixedOrders = true := hP ▸ mixed; have hT : TOk P [(2, ti2), (3, ti3), (31, ti31), (96, ti96), (167, ti167)] := hP ▸ (.cons tok2 (.cons tok3 (.cons tok31 (.cons tok96 (.cons tok167 .nil))))); (try rw [← ho]); cbv; (repeat (refine StopN.mk ?_; cbv)))
  refine LoopN.over (o := o) (D := []) ho hm hT (by kernel_rfl) (fun i : Nat => [(8, xn i)]) (fun _ => []) (fun _ => []) (fun i => i ≤ l.length ∧ ∀ j, j < i → q (l.getD j default) = false) (fun i => l.length - i) 0 ⟨Nat.zero_le _, fun j hj => by omega⟩ ?_ ?_
  · refine ⟨(by cbv), by cbv; repeat' (first | trivial | exact EqX.rfl' | exact EqO.rfl' | apply And.intro | ((try clear hR3); (try clear hR2); (try clear hR); (try clear hK); (try simp only [ncCast] at *); (try simp only [castI_eq] at *); refine EqX.i ?_; (try rw [ho]); (try dsimp only [Ar.real, IX.vo, IX.val, BX.val, IX.toN]); (try simp only [QP1, QB7]); (repeat rw [wrap_i64 (by omega) (by omega)]); omega)), by cbv; repeat' (first | trivial | exact EqO.rfl' | apply And.intro), by cbv; repeat' (first | trivial | exact EqO.rfl' | apply And.intro)⟩
  · rintro i ⟨hi, hno⟩ R hR
    have e1 := hq (l.getD i default)
    have e2 := h1 i
    have el : o.nth l i = l.getD i default := by rw [ho, real_nth]
    rw [← ho, ← el] at e1
    rw [← el] at e2
    have e3 := fun h : q (o.nth l i) = false => all_step hno (by rw [← el]; exact h)
    generalize q (o.nth l i) = b at *
    cbv
    repeat' (first | (refine Br.mk (fun hb => ?_) (fun hb => ?_) <;> ((try rw [ho] at hb); (try dsimp only [Ar.real, IX.vo] at hb); (try simp only [QP1, QB7] at hb); (try simp only [QBo, beq_iff_eq, beq_eq_false_iff_ne, ne_eq] at hb))) | (refine StopN.mk ?_; cbv) | (refine CallI.objs [.out 0] hP e1 hg rfl rfl rfl rfl (by rfl) rfl rfl rfl rfl (by rfl) ⟨⟨_, rfl, rfl⟩, trivial⟩ ?_); cbv | (refine hK _ _ ?_) | (refine NeedT.mk ?_ ?_))
    any_goals (((try clear hR3); (try clear hR2); (try clear hR); (try clear hK); (try simp only [ncCast] at *); (try simp only [castI_eq] at *); (try rw [ho]); (try dsimp only [Ar.real, IX.vo, IX.val, BX.val, IX.toN]); (try simp only [QP1, QB7]); (try simp only [decide_eq_true_eq]); (all_goals (repeat rw [wrap_i64 (by omega) (by omega)])); (all_goals (first | omega | (simp only [Int.ofNat_eq_natCast]; omega)))); done)
    · rw [e2 (by assumption) hno (by assumption)]
      exact FinX_iOr rfl rfl
    · refine hR _ (i + 1) (by show l.length - (i + 1) < l.length - i; omega) ⟨by show i + 1 ≤ l.length; omega, e3 (by assumption)⟩ ?_
      refine ⟨(by cbv), by cbv; repeat' (first | trivial | exact EqX.rfl' | exact EqO.rfl' | apply And.intro | ((try clear hR3); (try clear hR2); (try clear hR); (try clear hK); (try simp only [ncCast] at *); (try simp only [castI_eq] at *); refine EqX.i ?_; (try rw [ho]); (try dsimp only [Ar.real, IX.vo, IX.val, BX.val, IX.toN]); (try simp only [QP1, QB7]); (repeat rw [wrap_i64 (by omega) (by omega)]); omega)), by cbv; repeat' (first | trivial | exact EqO.rfl' | apply And.intro), by cbv; repeat' (first | trivial | exact EqO.rfl' | apply And.intro)⟩
    · obtain rfl : i = l.length := by ((try clear hR3); (try clear hR2); (try clear hR); (try clear hK); (try simp only [ncCast] at *); (try simp only [castI_eq] at *)); omega
      rw [h2 hno]
      exact FinX_iOr rfl rfl
theorem x_IxTsk (q : Tsk → Bool) (g : FuncId) (x0 x1 : Int) (t0 t1 : Nat) (hg : FnOk Try.prog g) (hq : ∀ a : Tsk, XC Try.prog g ([.agg (Tsk.X Ar.real a)] ++ [.ptr (.out 0) 0, .ptr (.out 1) 0]) [.var [xi x0] t0, .var [xi x1] t1] (xb (q a)) [.var [xi x0] t0, .var [xi x1] t1]) (l : List Tsk) (hl : l.length ≤ 1048576) :
    XC Try.prog 109 [.ro (SL Ar.real Tsk.X l), .fn (.func g) [] [.ptr (.out 0) 0, .ptr (.out 1) 0]] [.var [xi x0] t0, .var [xi x1] t1] (xi (ixR q l)) [.var [xi x0] t0, .var [xi x1] t1] := by
  have h1 := fun i => ixR_hit (q := q) (l := l) (i := i)
  have h2 := ixR_none (q := q) (l := l)
  generalize ixR q l = r at *
  (refine XC.of_body ([]) Try.func109 rfl Try.ntmps109 mixed (T := [(2, ti2), (3, ti3), (31, ti31), (97, ti97), (169, ti169)]) (.cons tok2 (.cons tok3 (.cons tok31 (.cons tok97 (.cons tok169 .nil))))) (by kernel_rfl) (by simp) rfl rfl rfl rfl rfl ?_; rintro o ho P hP c K hK; have hm : P.follows .mixedOrders = true := hP ▸ mixed; have hT : TOk P [(2, ti2), (3, ti3), (31, ti31), (97, ti97), (169, ti169)] := hP ▸ (.cons tok2 (.cons tok3 (.cons tok31 (.cons tok97 (.cons tok169 .nil))))); (try rw [← ho]); cbv; (repeat (refine StopN.mk ?_; cbv)))
  refine LoopN.over (o := o) (D := []) ho hm hT (by kernel_rfl) (fun i : Nat => [(8, xn i)]) (fun _ => []) (fun _ => []) (fun i => i ≤ l.length ∧ ∀ j, j < i → q (l.getD j default) = false) (fun i => l.length - i) 0 ⟨Nat.zero_le _, fun j hj => by omega⟩ ?_ ?_
  · refine ⟨(by cbv), by cbv; repeat' (first | trivial | exact EqX.rfl' | exact EqO.rfl' | apply And.intro | ((try clear hR3); (try clear hR2); (try clear hR); (try clear hK); (try simp only [ncCast] at *); (try simp only [castI_eq] at *); refine EqX.i ?_; (try rw [ho]); (try dsimp only [Ar.real, IX.vo, IX.val, BX.val, IX.toN]); (try simp only [QP1, QB7]); (repeat rw [wrap_i64 (by omega) (by omega)]); omega)), by cbv; repeat' (first | trivial | exact EqO.rfl' | apply And.intro), by cbv; repeat' (first | trivial | exact EqO.rfl' | apply And.intro)⟩
  · rintro i ⟨hi, hno⟩ R hR
    have e1 := hq (l.getD i default)
    have e2 := h1 i
    have el : o.nth l i = l.getD i default := by rw [ho, real_nth]
    rw [← ho, ← el] at e1
    rw [← el] at e2
    have e3 := fun h : q (o.nth l i) = false => all_step hno (by rw [← el]; exact h)
    generalize q (o.nth l i) = b at *
    cbv
    repeat' (first | (refine Br.mk (fun hb => ?_) (fun hb => ?_) <;> ((try rw [ho] at hb); (try dsimp only [Ar.real, IX.vo] at hb); (try simp only [QP1, QB7] at hb); (try simp only [QBo, beq_iff_eq, beq_eq_false_iff_ne, ne_eq] at hb))) | (refine StopN.mk ?_; cbv) | (refine CallI.objs [.out 0, .out 1] hP e1 hg rfl rfl rfl rfl (by rfl) rfl rfl rfl rfl (by rfl) ⟨⟨_, rfl, rfl⟩, ⟨_, rfl, rfl⟩, trivial⟩ ?_); cbv | (refine hK _ _ ?_) | (refine NeedT.mk ?_ ?_))
    any_goals (((try clear hR3); (try clear hR2); (try clear hR); (try clear hK); (try simp only [ncCast] at *); (try simp only [castI_eq] at *); (try rw [ho]); (try dsimp only [Ar.real, IX.vo, IX.val, BX.val, IX.toN]); (try simp only [QP1, QB7]); (try simp only [decide_eq_true_eq]); (all_goals (repeat rw [wrap_i64 (by omega) (by omega)])); (all_goals (first | omega | (simp only [Int.ofNat_eq_natCast]; omega)))); done)
    · rw [e2 (by assumption) hno (by assumption)]
      exact FinX_iOr rfl rfl
    · refine hR _ (i + 1) (by show l.length - (i + 1) < l.length - i; omega) ⟨by show i + 1 ≤ l.length; omega, e3 (by assumption)⟩ ?_
      refine ⟨(by cbv), by cbv; repeat' (first | trivial | exact EqX.rfl' | exact EqO.rfl' | apply And.intro | ((try clear hR3); (try clear hR2); (try clear hR); (try clear hK); (try simp only [ncCast] at *); (try simp only [castI_eq] at *); refine EqX.i ?_; (try rw [ho]); (try dsimp only [Ar.real, IX.vo, IX.val, BX.val, IX.toN]); (try simp only [QP1, QB7]); (repeat rw [wrap_i64 (by omega) (by omega)]); omega)), by cbv; repeat' (first | trivial | exact EqO.rfl' | apply And.intro), by cbv; repeat' (first | trivial | exact EqO.rfl' | apply And.intro)⟩
    · obtain rfl : i = l.length := by ((try clear hR3); (try clear hR2); (try clear hR); (try clear hK); (try simp only [ncCast] at *); (try simp only [castI_eq] at *)); omega
      rw [h2 hno]
      exact FinX_iOr rfl rfl
end Go.Proofs.Ytddgcegimmcbgaa.Sy
namespace Go.Proofs.Ytddgcegimmcbgaa.Sy
open Go Go.Sy Go.Proofs.Ytddgcegimmcbgaa
theorem x_Frame1 (id : Int) (a : Frm) : XC Try.prog 104 ([.agg (Frm.X Ar.real a)] ++ [.ptr (.out 0) 0]) [.var [xi id] 2] (xb (decide (a.id = id))) [.var [xi id] 2] := by
  (refine XC.of_body ([]) Try.func104 rfl Try.ntmps104 mixed (T := [(2, ti2), (3, ti3), (4, ti4), (179, ti179)]) (.cons tok2 (.cons tok3 (.cons tok4 (.cons tok179 .nil)))) (by kernel_rfl) (by simp) rfl rfl rfl rfl rfl ?_; rintro o ho P hP c K hK; have hm : P.follows .mixedOrders = true := hP ▸ mixed; have hT : TOk P [(2, ti2), (3, ti3), (4, ti4), (179, ti179)] := hP ▸ (.cons tok2 (.cons tok3 (.cons tok4 (.cons tok179 .nil)))); (try rw [← ho]); cbv; (repeat (refine StopN.mk ?_; cbv)))
  repeat' (first | (refine Br.mk (fun hb => ?_) (fun hb => ?_) <;> ((try rw [ho] at hb); (try dsimp only [Ar.real, IX.vo] at hb); (try simp only [QP1, QB7] at hb); (try simp only [QBo, beq_iff_eq, beq_eq_false_iff_ne, ne_eq] at hb))) | (refine StopN.mk ?_; cbv) | (refine hK _ _ ?_) | (refine NeedT.mk ?_ ?_))
  refine FinX_bOr ?_ rfl
  rw [ho]
  rfl
@[reducible] def atFrame (l : List Frm) (id : Int) : Int := ixR (fun a : Frm => decide (a.id = id)) l
theorem x_Frame (b : Bk) (hbk : BkOk b) (id : Int) : XC Try.prog 49 [.agg (Bk.X Ar.real b), xi id] [] (xi (atFrame b.fr id)) [] := by
  have hI := x_IxFrm (fun a : Frm => decide (a.id = id)) 104 id 2 fn104 (x_Frame1 id) b.fr hbk.n_fr
  unfold atFrame
  generalize ixR (fun a : Frm => decide (a.id = id)) b.fr = r at *
  obtain ⟨⟨c1, c2, c3, c4, c5, ⟨c6, c7, c8, c9⟩⟩, now, last, fr, ag, of, tk, fl⟩ := b
  dsimp only at *
  (refine XC.of_body ([]) Try.func49 rfl Try.ntmps49 mixed (T := [(2, ti2), (93, ti93), (94, ti94), (95, ti95), (96, ti96), (97, ti97), (98, ti98), (100, ti100), (179, ti179)]) (.cons tok2 (.cons tok93 (.cons tok94 (.cons tok95 (.cons tok96 (.cons tok97 (.cons tok98 (.cons tok100 (.cons tok179 .nil))))))))) (by kernel_rfl) (by simp) rfl rfl rfl rfl rfl ?_; rintro o ho P hP c K hK; have hm : P.follows .mixedOrders = true := hP ▸ mixed; have hT : TOk P [(2, ti2), (93, ti93), (94, ti94), (95, ti95), (96, ti96), (97, ti97), (98, ti98), (100, ti100), (179, ti179)] := hP ▸ (.cons tok2 (.cons tok93 (.cons tok94 (.cons tok95 (.cons tok96 (.cons tok97 (.cons tok98 (.cons tok100 (.cons tok179 .nil))))))))); (try rw [← ho]); cbv; (repeat (refine StopN.mk ?_; cbv)))
  rw [← ho] at hI
  repeat' (first | (refine Br.mk (fun hb => ?_) (fun hb => ?_) <;> ((try rw [ho] at hb); (try dsimp only [Ar.real, IX.vo] at hb); (try simp only [QP1, QB7] at hb); (try simp only [QBo, beq_iff_eq, beq_eq_false_iff_ne, ne_eq] at hb))) | (refine StopN.mk ?_; cbv) | (refine CallI.objs [.loc 1] hP hI fn103 rfl rfl rfl rfl (by rfl) rfl rfl rfl rfl (by rfl) ⟨⟨_, rfl, rfl⟩, trivial⟩ ?_); cbv | (refine hK _ _ ?_) | (refine NeedT.mk ?_ ?_))
  exact .i rfl
theorem x_r16Frame (b : Bk) (hbk : BkOk b) (id : Int) : XC Try.prog 50 [.agg (Bk.X Ar.real b), xi id] [] (xi (atFrame b.fr id)) [] := by
  have h1 := fun i => ixR_hit (q := fun a : Frm => decide (a.id = id)) (l := b.fr) (i := i)
  have h2 := ixR_none (q := fun a : Frm => decide (a.id = id)) (l := b.fr)
  have hn := hbk.n_fr
  unfold atFrame
  generalize ixR (fun a : Frm => decide (a.id = id)) b.fr = r at *
  obtain ⟨⟨c1, c2, c3, c4, c5, ⟨c6, c7, c8, c9⟩⟩, now, last, fr, ag, of, tk, fl⟩ := b
  dsimp only at *
  (refine XC.of_body ([]) Try.func50 rfl Try.ntmps50 mixed (T := [(2, ti2), (3, ti3), (4, ti4), (93, ti93), (94, ti94), (95, ti95), (96, ti96), (97, ti97), (98, ti98), (100, ti100), (179, ti179)]) (.cons tok2 (.cons tok3 (.cons tok4 (.cons tok93 (.cons tok94 (.cons tok95 (.cons tok96 (.cons tok97 (.cons tok98 (.cons tok100 (.cons tok179 .nil))))))))))) (by kernel_rfl) (by simp) rfl rfl rfl rfl rfl ?_; rintro o ho P hP c K hK; have hm : P.follows .mixedOrders = true := hP ▸ mixed; have hT : TOk P [(2, ti2), (3, ti3), (4, ti4), (93, ti93), (94, ti94), (95, ti95), (96, ti96), (97, ti97), (98, ti98), (100, ti100), (179, ti179)] := hP ▸ (.cons tok2 (.cons tok3 (.cons tok4 (.cons tok93 (.cons tok94 (.cons tok95 (.cons tok96 (.cons tok97 (.cons tok98 (.cons tok100 (.cons tok179 .nil))))))))))); (try rw [← ho]); cbv; (repeat (refine StopN.mk ?_; cbv)))
  refine LoopN.over (o := o) (D := []) ho hm hT (by kernel_rfl) (fun i : Nat => [(5, xn i)]) (fun _ => []) (fun _ => []) (fun i => i ≤ fr.length ∧ ∀ j, j < i → decide ((fr.getD j default).id = id) = false) (fun i => fr.length - i) 0 ⟨Nat.zero_le _, fun j hj => by omega⟩ ?_ ?_
  · refine ⟨(by cbv), by cbv; repeat' (first | trivial | exact EqX.rfl' | exact EqO.rfl' | apply And.intro | ((try clear hR3); (try clear hR2); (try clear hR); (try clear hK); (try simp only [ncCast] at *); (try simp only [castI_eq] at *); refine EqX.i ?_; (try rw [ho]); (try dsimp only [Ar.real, IX.vo, IX.val, BX.val, IX.toN]); (try simp only [QP1, QB7]); (repeat rw [wrap_i64 (by omega) (by omega)]); omega)), by cbv; repeat' (first | trivial | exact EqO.rfl' | apply And.intro), by cbv; repeat' (first | trivial | exact EqO.rfl' | apply And.intro)⟩
  · rintro i ⟨hi, hno⟩ R hR
    have e2 := h1 i
    cbv
    repeat' (first | (refine Br.mk (fun hb => ?_) (fun hb => ?_) <;> ((try rw [ho] at hb); (try dsimp only [Ar.real, IX.vo] at hb); (try simp only [QP1, QB7] at hb); (try simp only [QBo, beq_iff_eq, beq_eq_false_iff_ne, ne_eq] at hb))) | (refine StopN.mk ?_; cbv) | (refine hK _ _ ?_) | (refine NeedT.mk ?_ ?_))
    any_goals (((try clear hR3); (try clear hR2); (try clear hR); (try clear hK); (try simp only [ncCast] at *); (try simp only [castI_eq] at *); (try rw [ho]); (try dsimp only [Ar.real, IX.vo, IX.val, BX.val, IX.toN]); (try simp only [QP1, QB7]); (try simp only [decide_eq_true_eq]); (all_goals (repeat rw [wrap_i64 (by omega) (by omega)])); (all_goals (first | omega | (simp only [Int.ofNat_eq_natCast]; omega)))); done)
    · rw [e2 (by assumption) hno (decide_eq_true (by assumption))]
      exact .i rfl
    · refine hR _ (i + 1) (by show fr.length - (i + 1) < fr.length - i; omega) ⟨by show i + 1 ≤ fr.length; omega, all_step hno (decide_eq_false (by assumption))⟩ ?_
      refine ⟨(by cbv), by cbv; repeat' (first | trivial | exact EqX.rfl' | exact EqO.rfl' | apply And.intro | ((try clear hR3); (try clear hR2); (try clear hR); (try clear hK); (try simp only [ncCast] at *); (try simp only [castI_eq] at *); refine EqX.i ?_; (try rw [ho]); (try dsimp only [Ar.real, IX.vo, IX.val, BX.val, IX.toN]); (try simp only [QP1, QB7]); (repeat rw [wrap_i64 (by omega) (by omega)]); omega)), by cbv; repeat' (first | trivial | exact EqO.rfl' | apply And.intro), by cbv; repeat' (first | trivial | exact EqO.rfl' | apply And.intro)⟩
    · obtain rfl : i = fr.length := by ((try clear hR3); (try clear hR2); (try clear hR); (try clear hK); (try simp only [ncCast] at *); (try simp only [castI_eq] at *)); omega
      rw [h2 hno]
      exact .i rfl
theorem x_Agent1 (id : Int) (a : Agt) : XC Try.prog 106 ([.agg (Agt.X Ar.real a)] ++ [.ptr (.out 0) 0]) [.var [xi id] 2] (xb (decide (a.id = id))) [.var [xi id] 2] := by
  (refine XC.of_body ([]) Try.func106 rfl Try.ntmps106 mixed (T := [(2, ti2), (31, ti31), (165, ti165)]) (.cons tok2 (.cons tok31 (.cons tok165 .nil))) (by kernel_rfl) (by simp) rfl rfl rfl rfl rfl ?_; rintro o ho P hP c K hK; have hm : P.follows .mixedOrders = true := hP ▸ mixed; have hT : TOk P [(2, ti2), (31, ti31), (165, ti165)] := hP ▸ (.cons tok2 (.cons tok31 (.cons tok165 .nil))); (try rw [← ho]); cbv; (repeat (refine StopN.mk ?_; cbv)))
  repeat' (first | (refine Br.mk (fun hb => ?_) (fun hb => ?_) <;> ((try rw [ho] at hb); (try dsimp only [Ar.real, IX.vo] at hb); (try simp only [QP1, QB7] at hb); (try simp only [QBo, beq_iff_eq, beq_eq_false_iff_ne, ne_eq] at hb))) | (refine StopN.mk ?_; cbv) | (refine hK _ _ ?_) | (refine NeedT.mk ?_ ?_))
  refine FinX_bOr ?_ rfl
  rw [ho]
  rfl
@[reducible] def atAgent (l : List Agt) (id : Int) : Int := ixR (fun a : Agt => decide (a.id = id)) l
theorem x_Agent (b : Bk) (hbk : BkOk b) (id : Int) : XC Try.prog 51 [.agg (Bk.X Ar.real b), xi id] [] (xi (atAgent b.ag id)) [] := by
  have hI := x_IxAgt (fun a : Agt => decide (a.id = id)) 106 id 2 fn106 (x_Agent1 id) b.ag hbk.n_ag
  unfold atAgent
  generalize ixR (fun a : Agt => decide (a.id = id)) b.ag = r at *
  obtain ⟨⟨c1, c2, c3, c4, c5, ⟨c6, c7, c8, c9⟩⟩, now, last, fr, ag, of, tk, fl⟩ := b
  dsimp only at *
  (refine XC.of_body ([]) Try.func51 rfl Try.ntmps51 mixed (T := [(2, ti2), (93, ti93), (94, ti94), (95, ti95), (96, ti96), (97, ti97), (98, ti98), (100, ti100), (165, ti165)]) (.cons tok2 (.cons tok93 (.cons tok94 (.cons tok95 (.cons tok96 (.cons tok97 (.cons tok98 (.cons tok100 (.cons tok165 .nil))))))))) (by kernel_rfl) (by simp) rfl rfl rfl rfl rfl ?_; rintro o ho P hP c K hK; have hm : P.follows .mixedOrders = true := hP ▸ mixed; have hT : TOk P [(2, ti2), (93, ti93), (94, ti94), (95, ti95), (96, ti96), (97, ti97), (98, ti98), (100, ti100), (165, ti165)] := hP ▸ (.cons tok2 (.cons tok93 (.cons tok94 (.cons tok95 (.cons tok96 (.cons tok97 (.cons tok98 (.cons tok100 (.cons tok165 .nil))))))))); (try rw [← ho]); cbv; (repeat (refine StopN.mk ?_; cbv)))
  rw [← ho] at hI
  repeat' (first | (refine Br.mk (fun hb => ?_) (fun hb => ?_) <;> ((try rw [ho] at hb); (try dsimp only [Ar.real, IX.vo] at hb); (try simp only [QP1, QB7] at hb); (try simp only [QBo, beq_iff_eq, beq_eq_false_iff_ne, ne_eq] at hb))) | (refine StopN.mk ?_; cbv) | (refine CallI.objs [.loc 1] hP hI fn105 rfl rfl rfl rfl (by rfl) rfl rfl rfl rfl (by rfl) ⟨⟨_, rfl, rfl⟩, trivial⟩ ?_); cbv | (refine hK _ _ ?_) | (refine NeedT.mk ?_ ?_))
  exact .i rfl
theorem x_r16Agent (b : Bk) (hbk : BkOk b) (id : Int) : XC Try.prog 52 [.agg (Bk.X Ar.real b), xi id] [] (xi (atAgent b.ag id)) [] := by
  have h1 := fun i => ixR_hit (q := fun a : Agt => decide (a.id = id)) (l := b.ag) (i := i)
  have h2 := ixR_none (q := fun a : Agt => decide (a.id = id)) (l := b.ag)
  have hn := hbk.n_ag
  unfold atAgent
  generalize ixR (fun a : Agt => decide (a.id = id)) b.ag = r at *
  obtain ⟨⟨c1, c2, c3, c4, c5, ⟨c6, c7, c8, c9⟩⟩, now, last, fr, ag, of, tk, fl⟩ := b
  dsimp only at *
  (refine XC.of_body ([]) Try.func52 rfl Try.ntmps52 mixed (T := [(2, ti2), (3, ti3), (31, ti31), (93, ti93), (94, ti94), (95, ti95), (96, ti96), (97, ti97), (98, ti98), (100, ti100), (165, ti165)]) (.cons tok2 (.cons tok3 (.cons tok31 (.cons tok93 (.cons tok94 (.cons tok95 (.cons tok96 (.cons tok97 (.cons tok98 (.cons tok100 (.cons tok165 .nil))))))))))) (by kernel_rfl) (by simp) rfl rfl rfl rfl rfl ?_; rintro o ho P hP c K hK; have hm : P.follows .mixedOrders = true := hP ▸ mixed; have hT : TOk P [(2, ti2), (3, ti3), (31, ti31), (93, ti93), (94, ti94), (95, ti95), (96, ti96), (97, ti97), (98, ti98), (100, ti100), (165, ti165)] := hP ▸ (.cons tok2 (.cons tok3 (.cons tok31 (.cons tok93 (.cons tok94 (.cons tok95 (.cons tok96 (.cons tok97 (.cons tok98 (.cons tok100 (.cons tok165 .nil))))))))))); (try rw [← ho]); cbv; (repeat (refine StopN.mk ?_; cbv)))
  refine LoopN.over (o := o) (D := []) ho hm hT (by kernel_rfl) (fun i : Nat => [(5, xn i)]) (fun _ => []) (fun _ => []) (fun i => i ≤ ag.length ∧ ∀ j, j < i → decide ((ag.getD j default).id = id) = false) (fun i => ag.length - i) 0 ⟨Nat.zero_le _, fun j hj => by omega⟩ ?_ ?_
  · refine ⟨(by cbv), by cbv; repeat' (first | trivial | exact EqX.rfl' | exact EqO.rfl' | apply And.intro | ((try clear hR3); (try clear hR2); (try clear hR); (try clear hK); (try simp only [ncCast] at *); (try simp only [castI_eq] at *); refine EqX.i ?_; (try rw [ho]); (try dsimp only [Ar.real, IX.vo, IX.val, BX.val, IX.toN]); (try simp only [QP1, QB7]); (repeat rw [wrap_i64 (by omega) (by omega)]); omega)), by cbv; repeat' (first | trivial | exact EqO.rfl' | apply And.intro), by cbv; repeat' (first | trivial | exact EqO.rfl' | apply And.intro)⟩
  · rintro i ⟨hi, hno⟩ R hR
    have e2 := h1 i
    cbv
    repeat' (first | (refine Br.mk (fun hb => ?_) (fun hb => ?_) <;> ((try rw [ho] at hb); (try dsimp only [Ar.real, IX.vo] at hb); (try simp only [QP1, QB7] at hb); (try simp only [QBo, beq_iff_eq, beq_eq_false_iff_ne, ne_eq] at hb))) | (refine StopN.mk ?_; cbv) | (refine hK _ _ ?_) | (refine NeedT.mk ?_ ?_))
    any_goals (((try clear hR3); (try clear hR2); (try clear hR); (try clear hK); (try simp only [ncCast] at *); (try simp only [castI_eq] at *); (try rw [ho]); (try dsimp only [Ar.real, IX.vo, IX.val, BX.val, IX.toN]); (try simp only [QP1, QB7]); (try simp only [decide_eq_true_eq]); (all_goals (repeat rw [wrap_i64 (by omega) (by omega)])); (all_goals (first | omega | (simp only [Int.ofNat_eq_natCast]; omega)))); done)
    · rw [e2 (by assumption) hno (decide_eq_true (by assumption))]
      exact .i rfl
    · refine hR _ (i + 1) (by show ag.length - (i + 1) < ag.length - i; omega) ⟨by show i + 1 ≤ ag.length; omega, all_step hno (decide_eq_false (by assumption))⟩ ?_
      refine ⟨(by cbv), by cbv; repeat' (first | trivial | exact EqX.rfl' | exact EqO.rfl' | apply And.intro | ((try clear hR3); (try clear hR2); (try clear hR); (try clear hK); (try simp only [ncCast] at *); (try simp only [castI_eq] at *); refine EqX.i ?_; (try rw [ho]); (try dsimp only [Ar.real, IX.vo, IX.val, BX.val, IX.toN]); (try simp only [QP1, QB7]); (repeat rw [wrap_i64 (by omega) (by omega)]); omega)), by cbv; repeat' (first | trivial | exact EqO.rfl' | apply And.intro), by cbv; repeat' (first | trivial | exact EqO.rfl' | apply And.intro)⟩
    · obtain rfl : i = ag.length := by ((try clear hR3); (try clear hR2); (try clear hR); (try clear hK); (try simp only [ncCast] at *); (try simp only [castI_eq] at *)); omega
      rw [h2 hno]
      exact .i rfl
theorem x_Offer1 (id : Int) (a : Ofr) : XC Try.prog 108 ([.agg (Ofr.X Ar.real a)] ++ [.ptr (.out 0) 0]) [.var [xi id] 2] (xb (decide (a.id = id))) [.var [xi id] 2] := by
  (refine XC.of_body ([]) Try.func108 rfl Try.ntmps108 mixed (T := [(2, ti2), (31, ti31), (167, ti167)]) (.cons tok2 (.cons tok31 (.cons tok167 .nil))) (by kernel_rfl) (by simp) rfl rfl rfl rfl rfl ?_; rintro o ho P hP c K hK; have hm : P.follows .mixedOrders = true := hP ▸ mixed; have hT : TOk P [(2, ti2), (31, ti31), (167, ti167)] := hP ▸ (.cons tok2 (.cons tok31 (.cons tok167 .nil))); (try rw [← ho]); cbv; (repeat (refine StopN.mk ?_; cbv)))
  repeat' (first | (refine Br.mk (fun hb => ?_) (fun hb => ?_) <;> ((try rw [ho] at hb); (try dsimp only [Ar.real, IX.vo] at hb); (try simp only [QP1, QB7] at hb); (try simp only [QBo, beq_iff_eq, beq_eq_false_iff_ne, ne_eq] at hb))) | (refine StopN.mk ?_; cbv) | (refine hK _ _ ?_) | (refine NeedT.mk ?_ ?_))
  refine FinX_bOr ?_ rfl
  rw [ho]
  rfl
@[reducible] def atOffer (l : List Ofr) (id : Int) : Int := ixR (fun a : Ofr => decide (a.id = id)) l
theorem x_Offer (b : Bk) (hbk : BkOk b) (id : Int) : XC Try.prog 53 [.agg (Bk.X Ar.real b), xi id] [] (xi (atOffer b.of id)) [] := by
  have hI := x_IxOfr (fun a : Ofr => decide (a.id = id)) 108 id 2 fn108 (x_Offer1 id) b.of hbk.n_of
  unfold atOffer
  generalize ixR (fun a : Ofr => decide (a.id = id)) b.of = r at *
  obtain ⟨⟨c1, c2, c3, c4, c5, ⟨c6, c7, c8, c9⟩⟩, now, last, fr, ag, of, tk, fl⟩ := b
  dsimp only at *
  (refine XC.of_body ([]) Try.func53 rfl Try.ntmps53 mixed (T := [(2, ti2), (93, ti93), (94, ti94), (95, ti95), (96, ti96), (97, ti97), (98, ti98), (100, ti100), (167, ti167)]) (.cons tok2 (.cons tok93 (.cons tok94 (.cons tok95 (.cons tok96 (.cons tok97 (.cons tok98 (.cons tok100 (.cons tok167 .nil))))))))) (by kernel_rfl) (by simp) rfl rfl rfl rfl rfl ?_; rintro o ho P hP c K hK; have hm : P.follows .mixedOrders = true := hP ▸ mixed; have hT : TOk P [(2, ti2), (93, ti93), (94, ti94), (95, ti95), (96, ti96), (97, ti97), (98, ti98), (100, ti100), (167, ti167)] := hP ▸ (.cons tok2 (.cons tok93 (.cons tok94 (.cons tok95 (.cons tok96 (.cons tok97 (.cons tok98 (.cons tok100 (.cons tok167 .nil))))))))); (try rw [← ho]); cbv; (repeat (refine StopN.mk ?_; cbv)))
  rw [← ho] at hI
  repeat' (first | (refine Br.mk (fun hb => ?_) (fun hb => ?_) <;> ((try rw [ho] at hb); (try dsimp only [Ar.real, IX.vo] at hb); (try simp only [QP1, QB7] at hb); (try simp only [QBo, beq_iff_eq, beq_eq_false_iff_ne, ne_eq] at hb))) | (refine StopN.mk ?_; cbv) | (refine CallI.objs [.loc 1] hP hI fn107 rfl rfl rfl rfl (by rfl) rfl rfl rfl rfl (by rfl) ⟨⟨_, rfl, rfl⟩, trivial⟩ ?_); cbv | (refine hK _ _ ?_) | (refine NeedT.mk ?_ ?_))
  exact .i rfl
theorem x_r16Offer (b : Bk) (hbk : BkOk b) (id : Int) : XC Try.prog 54 [.agg (Bk.X Ar.real b), xi id] [] (xi (atOffer b.of id)) [] := by
  have h1 := fun i => ixR_hit (q := fun a : Ofr => decide (a.id = id)) (l := b.of) (i := i)
  have h2 := ixR_none (q := fun a : Ofr => decide (a.id = id)) (l := b.of)
  have hn := hbk.n_of
  unfold atOffer
  generalize ixR (fun a : Ofr => decide (a.id = id)) b.of = r at *
  obtain ⟨⟨c1, c2, c3, c4, c5, ⟨c6, c7, c8, c9⟩⟩, now, last, fr, ag, of, tk, fl⟩ := b
  dsimp only at *
  (refine XC.of_body ([]) Try.func54 rfl Try.ntmps54 mixed (T := [(2, ti2), (3, ti3), (31, ti31), (93, ti93), (94, ti94), (95, ti95), (96, ti96), (97, ti97), (98, ti98), (100, ti100), (167, ti167)]) (.cons tok2 (.cons tok3 (.cons tok31 (.cons tok93 (.cons tok94 (.cons tok95 (.cons tok96 (.cons tok97 (.cons tok98 (.cons tok100 (.cons tok167 .nil))))))))))) (by kernel_rfl) (by simp) rfl rfl rfl rfl rfl ?_; rintro o ho P hP c K hK; have hm : P.follows .mixedOrders = true := hP ▸ mixed; have hT : TOk P [(2, ti2), (3, ti3), (31, ti31), (93, ti93), (94, ti94), (95, ti95), (96, ti96), (97, ti97), (98, ti98), (100, ti100), (167, ti167)] := hP ▸ (.cons tok2 (.cons tok3 (.cons tok31 (.cons tok93 (.cons tok94 (.cons tok95 (.cons tok96 (.cons tok97 (.cons tok98 (.cons tok100 (.cons tok167 .nil))))))))))); (try rw [← ho]); cbv; (repeat (refine StopN.mk ?_; cbv)))
  refine LoopN.over (o := o) (D := []) ho hm hT (by kernel_rfl) (fun i : Nat => [(5, xn i)]) (fun _ => []) (fun _ => []) (fun i => i ≤ of.length ∧ ∀ j, j < i → decide ((of.getD j default).id = id) = false) (fun i => of.length - i) 0 ⟨Nat.zero_le _, fun j hj => by omega⟩ ?_ ?_
  · refine ⟨(by cbv), by cbv; repeat' (first | trivial | exact EqX.rfl' | exact EqO.rfl' | apply And.intro | ((try clear hR3); (try clear hR2); (try clear hR); (try clear hK); (try simp only [ncCast] at *); (try simp only [castI_eq] at *); refine EqX.i ?_; (try rw [ho]); (try dsimp only [Ar.real, IX.vo, IX.val, BX.val, IX.toN]); (try simp only [QP1, QB7]); (repeat rw [wrap_i64 (by omega) (by omega)]); omega)), by cbv; repeat' (first | trivial | exact EqO.rfl' | apply And.intro), by cbv; repeat' (first | trivial | exact EqO.rfl' | apply And.intro)⟩
  · rintro i ⟨hi, hno⟩ R hR
    have e2 := h1 i
    cbv
    repeat' (first | (refine Br.mk (fun hb => ?_) (fun hb => ?_) <;> ((try rw [ho] at hb); (try dsimp only [Ar.real, IX.vo] at hb); (try simp only [QP1, QB7] at hb); (try simp only [QBo, beq_iff_eq, beq_eq_false_iff_ne, ne_eq] at hb))) | (refine StopN.mk ?_; cbv) | (refine hK _ _ ?_) | (refine NeedT.mk ?_ ?_))
    any_goals (((try clear hR3); (try clear hR2); (try clear hR); (try clear hK); (try simp only [ncCast] at *); (try simp only [castI_eq] at *); (try rw [ho]); (try dsimp only [Ar.real, IX.vo, IX.val, BX.val, IX.toN]); (try simp only [QP1, QB7]); (try simp only [decide_eq_true_eq]); (all_goals (repeat rw [wrap_i64 (by omega) (by omega)])); (all_goals (first | omega | (simp only [Int.ofNat_eq_natCast]; omega)))); done)
    · rw [e2 (by assumption) hno (decide_eq_true (by assumption))]
      exact .i rfl
    · refine hR _ (i + 1) (by show of.length - (i + 1) < of.length - i; omega) ⟨by show i + 1 ≤ of.length; omega, all_step hno (decide_eq_false (by assumption))⟩ ?_
      refine ⟨(by cbv), by cbv; repeat' (first | trivial | exact EqX.rfl' | exact EqO.rfl' | apply And.intro | ((try clear hR3); (try clear hR2); (try clear hR); (try clear hK); (try simp only [ncCast] at *); (try simp only [castI_eq] at *); refine EqX.i ?_; (try rw [ho]); (try dsimp only [Ar.real, IX.vo, IX.val, BX.val, IX.toN]); (try simp only [QP1, QB7]); (repeat rw [wrap_i64 (by omega) (by omega)]); omega)), by cbv; repeat' (first | trivial | exact EqO.rfl' | apply And.intro), by cbv; repeat' (first | trivial | exact EqO.rfl' | apply And.intro)⟩
    · obtain rfl : i = of.length := by ((try clear hR3); (try clear hR2); (try clear hR); (try clear hK); (try simp only [ncCast] at *); (try simp only [castI_eq] at *)); omega
      rw [h2 hno]
      exact .i rfl
theorem x_Task1 (f id : Int) (a : Tsk) : XC Try.prog 110 ([.agg (Tsk.X Ar.real a)] ++ [.ptr (.out 0) 0, .ptr (.out 1) 0]) [.var [xi f] 2, .var [xi id] 2] (xb (decide (a.frame = f) && decide (a.id = id))) [.var [xi f] 2, .var [xi id] 2] := by
  (refine XC.of_body ([]) Try.func110 rfl Try.ntmps110 mixed (T := [(2, ti2), (31, ti31), (169, ti169)]) (.cons tok2 (.cons tok31 (.cons tok169 .nil))) (by kernel_rfl) (by simp) rfl rfl rfl rfl rfl ?_; rintro o ho P hP c K hK; have hm : P.follows .mixedOrders = true := hP ▸ mixed; have hT : TOk P [(2, ti2), (31, ti31), (169, ti169)] := hP ▸ (.cons tok2 (.cons tok31 (.cons tok169 .nil))); (try rw [← ho]); cbv; (repeat (refine StopN.mk ?_; cbv)))
  repeat' (first | (refine Br.mk (fun hb => ?_) (fun hb => ?_) <;> ((try rw [ho] at hb); (try dsimp only [Ar.real, IX.vo] at hb); (try simp only [QP1, QB7] at hb); (try simp only [QBo, beq_iff_eq, beq_eq_false_iff_ne, ne_eq] at hb))) | (refine StopN.mk ?_; cbv) | (refine hK _ _ ?_) | (refine NeedT.mk ?_ ?_))
  all_goals
    refine FinX_bOr ?_ rfl
    ((try clear hR3); (try clear hR2); (try clear hR); (try clear hK); (try simp only [ncCast] at *); (try simp only [castI_eq] at *); (try rw [ho]); (try dsimp only [Ar.real, IX.vo, IX.val, BX.val, IX.toN]); (try simp only [QP1, QB7]))
    simp [*]
@[reducible] def atTask (l : List Tsk) (f id : Int) : Int := ixR (fun a : Tsk => decide (a.frame = f) && decide (a.id = id)) l
theorem x_Task (b : Bk) (hbk : BkOk b) (f id : Int) : XC Try.prog 55 [.agg (Bk.X Ar.real b), xi f, xi id] [] (xi (atTask b.tk f id)) [] := by
  have hI := x_IxTsk (fun a : Tsk => decide (a.frame = f) && decide (a.id = id)) 110 f id 2 2 fn110 (x_Task1 f id) b.tk hbk.n_tk
  unfold atTask
  generalize ixR (fun a : Tsk => decide (a.frame = f) && decide (a.id = id)) b.tk = r at *
  obtain ⟨⟨c1, c2, c3, c4, c5, ⟨c6, c7, c8, c9⟩⟩, now, last, fr, ag, of, tk, fl⟩ := b
  dsimp only at *
  (refine XC.of_body ([]) Try.func55 rfl Try.ntmps55 mixed (T := [(2, ti2), (93, ti93), (94, ti94), (95, ti95), (96, ti96), (97, ti97), (98, ti98), (100, ti100), (169, ti169)]) (.cons tok2 (.cons tok93 (.cons tok94 (.cons tok95 (.cons tok96 (.cons tok97 (.cons tok98 (.cons tok100 (.cons tok169 .nil))))))))) (by kernel_rfl) (by simp) rfl rfl rfl rfl rfl ?_; rintro o ho P hP c K hK; have hm : P.follows .mixedOrders = true := hP ▸ mixed; have hT : TOk P [(2, ti2), (93, ti93), (94, ti94), (95, ti95), (96, ti96), (97, ti97), (98, ti98), (100, ti100), (169, ti169)] := hP ▸ (.cons tok2 (.cons tok93 (.cons tok94 (.cons tok95 (.cons tok96 (.cons tok97 (.cons tok98 (.cons tok100 (.cons tok169 .nil))))))))); (try rw [← ho]); cbv; (repeat (refine StopN.mk ?_; cbv)))
  rw [← ho] at hI
  repeat' (first | (refine Br.mk (fun hb => ?_) (fun hb => ?_) <;> ((try rw [ho] at hb); (try dsimp only [Ar.real, IX.vo] at hb); (try simp only [QP1, QB7] at hb); (try simp only [QBo, beq_iff_eq, beq_eq_false_iff_ne, ne_eq] at hb))) | (refine StopN.mk ?_; cbv) | (refine CallI.objs [.loc 1, .loc 2] hP hI fn109 rfl rfl rfl rfl (by rfl) rfl rfl rfl rfl (by rfl) ⟨⟨_, rfl, rfl⟩, ⟨_, rfl, rfl⟩, trivial⟩ ?_); cbv | (refine hK _ _ ?_) | (refine NeedT.mk ?_ ?_))
  exact .i rfl
theorem x_r16Task (b : Bk) (hbk : BkOk b) (f id : Int) : XC Try.prog 56 [.agg (Bk.X Ar.real b), xi f, xi id] [] (xi (atTask b.tk f id)) [] := by
  have h1 := fun i => ixR_hit (q := fun a : Tsk => decide (a.frame = f) && decide (a.id = id)) (l := b.tk) (i := i)
  have h2 := ixR_none (q := fun a : Tsk => decide (a.frame = f) && decide (a.id = id)) (l := b.tk)
  have hn := hbk.n_tk
  unfold atTask
  generalize ixR (fun a : Tsk => decide (a.frame = f) && decide (a.id = id)) b.tk = r at *
  obtain ⟨⟨c1, c2, c3, c4, c5, ⟨c6, c7, c8, c9⟩⟩, now, last, fr, ag, of, tk, fl⟩ := b
  dsimp only at *
  (refine XC.of_body ([]) Try.func56 rfl Try.ntmps56 mixed (T := [(2, ti2), (3, ti3), (31, ti31), (93, ti93), (94, ti94), (95, ti95), (96, ti96), (97, ti97), (98, ti98), (100, ti100), (169, ti169)]) (.cons tok2 (.cons tok3 (.cons tok31 (.cons tok93 (.cons tok94 (.cons tok95 (.cons tok96 (.cons tok97 (.cons tok98 (.cons tok100 (.cons tok169 .nil))))))))))) (by kernel_rfl) (by simp) rfl rfl rfl rfl rfl ?_; rintro o ho P hP c K hK; have hm : P.follows .mixedOrders = true := hP ▸ mixed; have hT : TOk P [(2, ti2), (3, ti3), (31, ti31), (93, ti93), (94, ti94), (95, ti95), (96, ti96), (97, ti97), (98, ti98), (100, ti100), (169, ti169)] := hP ▸ (.cons tok2 (.cons tok3 (.cons tok31 (.cons tok93 (.cons tok94 (.cons tok95 (.cons tok96 (.cons tok97 (.cons tok98 (.cons tok100 (.cons tok169 .nil))))))))))); (try rw [← ho]); cbv; (repeat (refine StopN.mk ?_; cbv)))
  refine LoopN.over (o := o) (D := []) ho hm hT (by kernel_rfl) (fun i : Nat => [(7, xn i)]) (fun _ => []) (fun _ => []) (fun i => i ≤ tk.length ∧ ∀ j, j < i → (decide ((tk.getD j default).frame = f) && decide ((tk.getD j default).id = id)) = false) (fun i => tk.length - i) 0 ⟨Nat.zero_le _, fun j hj => by omega⟩ ?_ ?_
  · refine ⟨(by cbv), by cbv; repeat' (first | trivial | exact EqX.rfl' | exact EqO.rfl' | apply And.intro | ((try clear hR3); (try clear hR2); (try clear hR); (try clear hK); (try simp only [ncCast] at *); (try simp only [castI_eq] at *); refine EqX.i ?_; (try rw [ho]); (try dsimp only [Ar.real, IX.vo, IX.val, BX.val, IX.toN]); (try simp only [QP1, QB7]); (repeat rw [wrap_i64 (by omega) (by omega)]); omega)), by cbv; repeat' (first | trivial | exact EqO.rfl' | apply And.intro), by cbv; repeat' (first | trivial | exact EqO.rfl' | apply And.intro)⟩
  · rintro i ⟨hi, hno⟩ R hR
    have e2 := h1 i
    cbv
    repeat' (first | (refine Br.mk (fun hb => ?_) (fun hb => ?_) <;> ((try rw [ho] at hb); (try dsimp only [Ar.real, IX.vo] at hb); (try simp only [QP1, QB7] at hb); (try simp only [QBo, beq_iff_eq, beq_eq_false_iff_ne, ne_eq] at hb))) | (refine StopN.mk ?_; cbv) | (refine hK _ _ ?_) | (refine NeedT.mk ?_ ?_))
    any_goals (((try clear hR3); (try clear hR2); (try clear hR); (try clear hK); (try simp only [ncCast] at *); (try simp only [castI_eq] at *); (try rw [ho]); (try dsimp only [Ar.real, IX.vo, IX.val, BX.val, IX.toN]); (try simp only [QP1, QB7]); (try simp only [decide_eq_true_eq]); (all_goals (repeat rw [wrap_i64 (by omega) (by omega)])); (all_goals (first | omega | (simp only [Int.ofNat_eq_natCast]; omega)))); done)
    · rw [e2 (by assumption) hno (by rw [decide_eq_true (by assumption), decide_eq_true (by assumption)]; rfl)]
      exact .i rfl
    · refine hR _ (i + 1) (by show tk.length - (i + 1) < tk.length - i; omega) ⟨by show i + 1 ≤ tk.length; omega, all_step hno (Bool.and_eq_false_iff.2 (.inr (decide_eq_false (by assumption))))⟩ ?_
      refine ⟨(by cbv), by cbv; repeat' (first | trivial | exact EqX.rfl' | exact EqO.rfl' | apply And.intro | ((try clear hR3); (try clear hR2); (try clear hR); (try clear hK); (try simp only [ncCast] at *); (try simp only [castI_eq] at *); refine EqX.i ?_; (try rw [ho]); (try dsimp only [Ar.real, IX.vo, IX.val, BX.val, IX.toN]); (try simp only [QP1, QB7]); (repeat rw [wrap_i64 (by omega) (by omega)]); omega)), by cbv; repeat' (first | trivial | exact EqO.rfl' | apply And.intro), by cbv; repeat' (first | trivial | exact EqO.rfl' | apply And.intro)⟩
    · refine hR _ (i + 1) (by show tk.length - (i + 1) < tk.length - i; omega) ⟨by show i + 1 ≤ tk.length; omega, all_step hno (Bool.and_eq_false_iff.2 (.inl (decide_eq_false (by assumption))))⟩ ?_
      refine ⟨(by cbv), by cbv; repeat' (first | trivial | exact EqX.rfl' | exact EqO.rfl' | apply And.intro | ((try clear hR3); (try clear hR2); (try clear hR); (try clear hK); (try simp only [ncCast] at *); (try simp only [castI_eq] at *); refine EqX.i ?_; (try rw [ho]); (try dsimp only [Ar.real, IX.vo, IX.val, BX.val, IX.toN]); (try simp only [QP1, QB7]); (repeat rw [wrap_i64 (by omega) (by omega)]); omega)), by cbv; repeat' (first | trivial | exact EqO.rfl' | apply And.intro), by cbv; repeat' (first | trivial | exact EqO.rfl' | apply And.intro)⟩
    · obtain rfl : i = tk.length := by ((try clear hR3); (try clear hR2); (try clear hR); (try clear hK); (try simp only [ncCast] at *); (try simp only [castI_eq] at *)); omega
      rw [h2 hno]
      exact .i rfl
end Go.Proofs.Ytddgcegimmcbgaa.Sy
namespace Go.Proofs.Ytddgcegimmcbgaa.Sy
open Go Go.Sy Go.Proofs.Ytddgcegimmcbgaa
def lenTo {α : Type} [Inhabited α] (f : α → Nat) (l : List α) : Nat → Nat
  | 0 => 0
  | i + 1 => lenTo f l i + f (l.getD i default)
theorem lenTo_bd {α : Type} [Inhabited α] {f : α → Nat} {l : List α} {m : Nat} (h : ∀ i, f (l.getD i default) ≤ m) : ∀ i, lenTo f l i ≤ i * m
  | 0 => Nat.zero_le _
  | i + 1 => by
    have h1 := lenTo_bd h i
    have h2 := h i
    rw [Nat.succ_mul]
    exact Nat.add_le_add h1 h2
def lenA (b : Bk) : Nat → Nat := lenTo (fun a : Agt => a.total.length + a.free.length) b.ag
def lenO (b : Bk) : Nat → Nat := lenTo (fun a : Ofr => a.vec.length) b.of
def lenT (b : Bk) : Nat → Nat := lenTo (fun a : Tsk => a.vec.length) b.tk
def lenF (b : Bk) : Nat → Nat := lenTo (fun a : Flt => a.vec.length) b.fl
def len5 (b : Bk) : Nat := b.fr.length + b.ag.length + b.of.length + b.tk.length + b.fl.length
def fewR (b : Bk) : Bool := decide (len5 b + lenA b b.ag.length + lenO b b.of.length + lenT b b.tk.length + lenF b b.fl.length ≤ 600)
theorem lens_bd {α : Type} [Inhabited α] {f : α → Nat} {l : List α} (hl : l.length ≤ 1048576) {m : Nat} (hm : m ≤ 2097152) (h : ∀ i, f (l.getD i default) ≤ m) (i : Nat) (hi : i ≤ l.length) : lenTo f l i ≤ 2199023255552 := by
  have h1 := lenTo_bd h i
  have h2 : i * m ≤ 1048576 * 2097152 := Nat.mul_le_mul (by omega) hm
  omega
structure StBn where
  i : Nat
  n : Nat
theorem x_Few (b : Bk) (hbk : BkOk b) : XC Try.prog 46 [.agg (Bk.X Ar.real b)] [] (xb (fewR b)) [] := by
  have hA := fun i hi => lens_bd hbk.n_ag (m := 2097152) (by decide) (f := fun a : Agt => a.total.length + a.free.length) (fun i => by have h1 := hbk.a1 i; have h2 := hbk.a2 i; show _ + _ ≤ _; omega) i hi
  have hO := fun i hi => lens_bd hbk.n_of (m := 1048576) (by decide) (f := fun a : Ofr => a.vec.length) hbk.o1 i hi
  have hT' := fun i hi => lens_bd hbk.n_tk (m := 1048576) (by decide) (f := fun a : Tsk => a.vec.length) hbk.t1 i hi
  have hF := fun i hi => lens_bd hbk.n_fl (m := 1048576) (by decide) (f := fun a : Flt => a.vec.length) hbk.l1 i hi
  have qA : ∀ i, lenA b (i + 1) = lenA b i + ((b.ag.getD i default).total.length + (b.ag.getD i default).free.length) := fun _ => rfl
  have qO : ∀ i, lenO b (i + 1) = lenO b i + (b.of.getD i default).vec.length := fun _ => rfl
  have qT : ∀ i, lenT b (i + 1) = lenT b i + (b.tk.getD i default).vec.length := fun _ => rfl
  have qF : ∀ i, lenF b (i + 1) = lenF b i + (b.fl.getD i default).vec.length := fun _ => rfl
  have zA : lenA b 0 = 0 := rfl
  have zO : lenO b 0 = 0 := rfl
  have zT : lenT b 0 = 0 := rfl
  have zF : lenF b 0 = 0 := rfl
  have hres : fewR b = decide (len5 b + lenA b b.ag.length + lenO b b.of.length + lenT b b.tk.length + lenF b b.fl.length ≤ 600) := rfl
  have h5 : len5 b = b.fr.length + b.ag.length + b.of.length + b.tk.length + b.fl.length := rfl
  have n1 := hbk.n_fr
  have n2 := hbk.n_ag
  have n3 := hbk.n_of
  have n4 := hbk.n_tk
  have n5 := hbk.n_fl
  have b1 := hbk.a1
  have b2 := hbk.a2
  have b3 := hbk.o1
  have b4 := hbk.t1
  have b5 := hbk.l1
  change ∀ i, i ≤ b.ag.length → lenA b i ≤ _ at hA
  change ∀ i, i ≤ b.of.length → lenO b i ≤ _ at hO
  change ∀ i, i ≤ b.tk.length → lenT b i ≤ _ at hT'
  change ∀ i, i ≤ b.fl.length → lenF b i ≤ _ at hF
  clear hbk
  generalize fewR b = r at *
  generalize len5 b = n0 at *
  generalize lenA b = LA at *
  generalize lenO b = LO at *
  generalize lenT b = LT at *
  generalize lenF b = LF at *
  obtain ⟨⟨c1, c2, c3, c4, c5, ⟨c6, c7, c8, c9⟩⟩, now, last, fr, ag, of, tk, fl⟩ := b
  dsimp only at *
  have hw5 : IntKind.i64.wrap (IntKind.i64.wrap (IntKind.i64.wrap (IntKind.i64.wrap ((fr.length : Int) + ag.length) + of.length) + tk.length) + fl.length) = (n0 : Int) := by
    rw [wrap_i64 (x := (fr.length : Int) + ag.length) (by omega) (by omega), wrap_i64 (x := (fr.length : Int) + ag.length + of.length) (by omega) (by omega), wrap_i64 (x := (fr.length : Int) + ag.length + of.length + tk.length) (by omega) (by omega), wrap_i64 (by omega) (by omega)]
    omega
  (refine XC.of_body ([(5, [])]) Try.func46 rfl Try.ntmps46 mixed (T := [(2, ti2), (3, ti3), (31, ti31), (93, ti93), (94, ti94), (95, ti95), (96, ti96), (97, ti97), (98, ti98), (100, ti100), (123, ti123), (165, ti165), (167, ti167), (169, ti169), (171, ti171), (179, ti179)]) (.cons tok2 (.cons tok3 (.cons tok31 (.cons tok93 (.cons tok94 (.cons tok95 (.cons tok96 (.cons tok97 (.cons tok98 (.cons tok100 (.cons tok123 (.cons tok165 (.cons tok167 (.cons tok169 (.cons tok171 (.cons tok179 .nil)))))))))))))))) (by kernel_rfl) (by simp) rfl rfl rfl rfl rfl ?_; rintro o ho P hP c K hK; have hm : P.follows .mixedOrders = true := hP ▸ mixed; have hT : TOk P [(2, ti2), (3, ti3), (31, ti31), (93, ti93), (94, ti94), (95, ti95), (96, ti96), (97, ti97), (98, ti98), (100, ti100), (123, ti123), (165, ti165), (167, ti167), (169, ti169), (171, ti171), (179, ti179)] := hP ▸ (.cons tok2 (.cons tok3 (.cons tok31 (.cons tok93 (.cons tok94 (.cons tok95 (.cons tok96 (.cons tok97 (.cons tok98 (.cons tok100 (.cons tok123 (.cons tok165 (.cons tok167 (.cons tok169 (.cons tok171 (.cons tok179 .nil)))))))))))))))); (try rw [← ho]); cbv; (repeat (refine StopN.mk ?_; cbv)))
  refine LoopN.over (o := o) (D := [(5, [])]) ho hm hT (by kernel_rfl) (fun s : StBn => [(4, xn s.i), (3, xn s.n)]) (fun _ => []) (fun _ => []) (fun s => s.i ≤ ag.length ∧ s.n = n0 + LA s.i) (fun s => ag.length - s.i) ⟨0, n0⟩ ⟨Nat.zero_le _, by rw [zA]; rfl⟩ ?_ ?_
  · refine ⟨(by cbv), by cbv; repeat' (first | trivial | exact EqX.rfl' | exact EqO.rfl' | apply And.intro | ((try clear hR3); (try clear hR2); (try clear hR); (try clear hK); (try simp only [ncCast] at *); (try simp only [castI_eq] at *); refine EqX.i ?_; (try rw [ho]); (try dsimp only [Ar.real, IX.vo, IX.val, BX.val, IX.toN]); (try simp only [QP1, QB7]); (repeat rw [wrap_i64 (by omega) (by omega)]); omega) | (refine EqX.i ?_; rw [ho]; exact hw5)), by cbv; repeat' (first | trivial | exact EqO.rfl' | apply And.intro | (refine EqX.i ?_; rw [ho]; exact hw5)), by cbv; repeat' (first | trivial | exact EqO.rfl' | apply And.intro | (refine EqX.i ?_; rw [ho]; exact hw5))⟩
  · rintro ⟨i, n1'⟩ ⟨hi, hn⟩ R hR
    dsimp only at hi hn
    have q1 := qA i
    have q2 := hA i hi
    have q3 := b1 i
    have q4 := b2 i
    obtain ⟨nx, hnx⟩ : ∃ x, x = n0 + LA (i + 1) := ⟨_, rfl⟩
    have hw : IntKind.i64.wrap (IntKind.i64.wrap ((n1' : Int) + (ag.getD i default).total.length) + (ag.getD i default).free.length) = (nx : Int) := by
      rw [wrap_i64 (x := (n1' : Int) + (ag.getD i default).total.length) (by omega) (by omega), wrap_i64 (by omega) (by omega)]
      omega
    cbv
    repeat' (first | (refine Br.mk (fun hb => ?_) (fun hb => ?_) <;> ((try rw [ho] at hb); (try dsimp only [Ar.real, IX.vo] at hb); (try simp only [QP1, QB7] at hb); (try simp only [QBo, beq_iff_eq, beq_eq_false_iff_ne, ne_eq] at hb))) | (refine StopN.mk ?_; cbv) | (refine hK _ _ ?_) | (refine NeedT.mk ?_ ?_))
    any_goals (((try clear hR3); (try clear hR2); (try clear hR); (try clear hK); (try simp only [ncCast] at *); (try simp only [castI_eq] at *); (try rw [ho]); (try dsimp only [Ar.real, IX.vo, IX.val, BX.val, IX.toN]); (try simp only [QP1, QB7]); (try simp only [decide_eq_true_eq]); (all_goals (repeat rw [wrap_i64 (by omega) (by omega)])); (all_goals (first | omega | (simp only [Int.ofNat_eq_natCast]; omega)))); done)
    · refine hR _ ⟨i + 1, nx⟩ (by show ag.length - (i + 1) < ag.length - i; omega) ⟨by show i + 1 ≤ ag.length; omega, hnx⟩ ?_
      clear hR
      refine ⟨(by cbv), by cbv; repeat' (first | trivial | exact EqX.rfl' | exact EqO.rfl' | apply And.intro | ((try clear hR3); (try clear hR2); (try clear hR); (try clear hK); (try simp only [ncCast] at *); (try simp only [castI_eq] at *); refine EqX.i ?_; (try rw [ho]); (try dsimp only [Ar.real, IX.vo, IX.val, BX.val, IX.toN]); (try simp only [QP1, QB7]); (repeat rw [wrap_i64 (by omega) (by omega)]); omega) | (refine EqX.i ?_; rw [ho]; exact hw)), by cbv; repeat' (first | trivial | exact EqO.rfl' | apply And.intro | (refine EqX.i ?_; rw [ho]; exact hw)), by cbv; repeat' (first | trivial | exact EqO.rfl' | apply And.intro | (refine EqX.i ?_; rw [ho]; exact hw))⟩
    · obtain rfl : i = ag.length := by ((try clear hR3); (try clear hR2); (try clear hR); (try clear hK); (try simp only [ncCast] at *); (try simp only [castI_eq] at *)); omega
      clear q1 hR hnx hw
      refine LoopN.over (o := o) (D := [(5, [])]) ho hm hT (by kernel_rfl) (fun s : StBn => [(5, xn s.i), (3, xn s.n)]) (fun _ => []) (fun _ => []) (fun s => s.i ≤ of.length ∧ s.n = n1' + LO s.i) (fun s => of.length - s.i) ⟨0, n1'⟩ ⟨Nat.zero_le _, by rw [zO]; rfl⟩ ?_ ?_
      · refine ⟨(by cbv), by cbv; repeat' (first | trivial | exact EqX.rfl' | exact EqO.rfl' | apply And.intro | ((try clear hR3); (try clear hR2); (try clear hR); (try clear hK); (try simp only [ncCast] at *); (try simp only [castI_eq] at *); refine EqX.i ?_; (try rw [ho]); (try dsimp only [Ar.real, IX.vo, IX.val, BX.val, IX.toN]); (try simp only [QP1, QB7]); (repeat rw [wrap_i64 (by omega) (by omega)]); omega)), by cbv; repeat' (first | trivial | exact EqO.rfl' | apply And.intro), by cbv; repeat' (first | trivial | exact EqO.rfl' | apply And.intro)⟩
      · rintro ⟨i2, n2'⟩ ⟨hi2, hn2⟩ R2 hR2
        dsimp only at hi2 hn2
        have q1 := qO i2
        have q2 := hO i2 hi2
        have q3 := b3 i2
        obtain ⟨nx, hnx⟩ : ∃ x, x = n1' + LO (i2 + 1) := ⟨_, rfl⟩
        cbv
        repeat' (first | (refine Br.mk (fun hb => ?_) (fun hb => ?_) <;> ((try rw [ho] at hb); (try dsimp only [Ar.real, IX.vo] at hb); (try simp only [QP1, QB7] at hb); (try simp only [QBo, beq_iff_eq, beq_eq_false_iff_ne, ne_eq] at hb))) | (refine StopN.mk ?_; cbv) | (refine hK _ _ ?_) | (refine NeedT.mk ?_ ?_))
        any_goals (((try clear hR3); (try clear hR2); (try clear hR); (try clear hK); (try simp only [ncCast] at *); (try simp only [castI_eq] at *); (try rw [ho]); (try dsimp only [Ar.real, IX.vo, IX.val, BX.val, IX.toN]); (try simp only [QP1, QB7]); (try simp only [decide_eq_true_eq]); (all_goals (repeat rw [wrap_i64 (by omega) (by omega)])); (all_goals (first | omega | (simp only [Int.ofNat_eq_natCast]; omega)))); done)
        · refine hR2 _ ⟨i2 + 1, nx⟩ (by show of.length - (i2 + 1) < of.length - i2; omega) ⟨by show i2 + 1 ≤ of.length; omega, hnx⟩ ?_
          clear hR2
          refine ⟨(by cbv), by cbv; repeat' (first | trivial | exact EqX.rfl' | exact EqO.rfl' | apply And.intro | ((try clear hR3); (try clear hR2); (try clear hR); (try clear hK); (try simp only [ncCast] at *); (try simp only [castI_eq] at *); refine EqX.i ?_; (try rw [ho]); (try dsimp only [Ar.real, IX.vo, IX.val, BX.val, IX.toN]); (try simp only [QP1, QB7]); (repeat rw [wrap_i64 (by omega) (by omega)]); omega)), by cbv; repeat' (first | trivial | exact EqO.rfl' | apply And.intro), by cbv; repeat' (first | trivial | exact EqO.rfl' | apply And.intro)⟩
        · obtain rfl : i2 = of.length := by ((try clear hR3); (try clear hR2); (try clear hR); (try clear hK); (try simp only [ncCast] at *); (try simp only [castI_eq] at *)); omega
          clear q1 hR2 hnx
          refine LoopN.over (o := o) (D := [(5, [])]) ho hm hT (by kernel_rfl) (fun s : StBn => [(6, xn s.i), (3, xn s.n)]) (fun _ => []) (fun _ => []) (fun s => s.i ≤ tk.length ∧ s.n = n2' + LT s.i) (fun s => tk.length - s.i) ⟨0, n2'⟩ ⟨Nat.zero_le _, by rw [zT]; rfl⟩ ?_ ?_
          · refine ⟨(by cbv), by cbv; repeat' (first | trivial | exact EqX.rfl' | exact EqO.rfl' | apply And.intro | ((try clear hR3); (try clear hR2); (try clear hR); (try clear hK); (try simp only [ncCast] at *); (try simp only [castI_eq] at *); refine EqX.i ?_; (try rw [ho]); (try dsimp only [Ar.real, IX.vo, IX.val, BX.val, IX.toN]); (try simp only [QP1, QB7]); (repeat rw [wrap_i64 (by omega) (by omega)]); omega)), by cbv; repeat' (first | trivial | exact EqO.rfl' | apply And.intro), by cbv; repeat' (first | trivial | exact EqO.rfl' | apply And.intro)⟩
          · rintro ⟨i3, n3'⟩ ⟨hi3, hn3⟩ R3 hR3
            dsimp only at hi3 hn3
            have q1 := qT i3
            have q2 := hT' i3 hi3
            have q3 := b4 i3
            obtain ⟨nx, hnx⟩ : ∃ x, x = n2' + LT (i3 + 1) := ⟨_, rfl⟩
            cbv
            repeat' (first | (refine Br.mk (fun hb => ?_) (fun hb => ?_) <;> ((try rw [ho] at hb); (try dsimp only [Ar.real, IX.vo] at hb); (try simp only [QP1, QB7] at hb); (try simp only [QBo, beq_iff_eq, beq_eq_false_iff_ne, ne_eq] at hb))) | (refine StopN.mk ?_; cbv) | (refine hK _ _ ?_) | (refine NeedT.mk ?_ ?_))
            any_goals (((try clear hR3); (try clear hR2); (try clear hR); (try clear hK); (try simp only [ncCast] at *); (try simp only [castI_eq] at *); (try rw [ho]); (try dsimp only [Ar.real, IX.vo, IX.val, BX.val, IX.toN]); (try simp only [QP1, QB7]); (try simp only [decide_eq_true_eq]); (all_goals (repeat rw [wrap_i64 (by omega) (by omega)])); (all_goals (first | omega | (simp only [Int.ofNat_eq_natCast]; omega)))); done)
            · refine hR3 _ ⟨i3 + 1, nx⟩ (by show tk.length - (i3 + 1) < tk.length - i3; omega) ⟨by show i3 + 1 ≤ tk.length; omega, hnx⟩ ?_
              clear hR3
              refine ⟨(by cbv), by cbv; repeat' (first | trivial | exact EqX.rfl' | exact EqO.rfl' | apply And.intro | ((try clear hR3); (try clear hR2); (try clear hR); (try clear hK); (try simp only [ncCast] at *); (try simp only [castI_eq] at *); refine EqX.i ?_; (try rw [ho]); (try dsimp only [Ar.real, IX.vo, IX.val, BX.val, IX.toN]); (try simp only [QP1, QB7]); (repeat rw [wrap_i64 (by omega) (by omega)]); omega)), by cbv; repeat' (first | trivial | exact EqO.rfl' | apply And.intro), by cbv; repeat' (first | trivial | exact EqO.rfl' | apply And.intro)⟩
            · obtain rfl : i3 = tk.length := by ((try clear hR3); (try clear hR2); (try clear hR); (try clear hK); (try simp only [ncCast] at *); (try simp only [castI_eq] at *)); omega
              clear q1 hR3 hnx
              refine LoopN.over (o := o) (D := [(5, [])]) ho hm hT (by kernel_rfl) (fun s : StBn => [(7, xn s.i), (3, xn s.n)]) (fun _ => []) (fun _ => []) (fun s => s.i ≤ fl.length ∧ s.n = n3' + LF s.i) (fun s => fl.length - s.i) ⟨0, n3'⟩ ⟨Nat.zero_le _, by rw [zF]; rfl⟩ ?_ ?_
              · refine ⟨(by cbv), by cbv; repeat' (first | trivial | exact EqX.rfl' | exact EqO.rfl' | apply And.intro | ((try clear hR3); (try clear hR2); (try clear hR); (try clear hK); (try simp only [ncCast] at *); (try simp only [castI_eq] at *); refine EqX.i ?_; (try rw [ho]); (try dsimp only [Ar.real, IX.vo, IX.val, BX.val, IX.toN]); (try simp only [QP1, QB7]); (repeat rw [wrap_i64 (by omega) (by omega)]); omega)), by cbv; repeat' (first | trivial | exact EqO.rfl' | apply And.intro), by cbv; repeat' (first | trivial | exact EqO.rfl' | apply And.intro)⟩
              · rintro ⟨i4, n4'⟩ ⟨hi4, hn4⟩ R4 hR4
                dsimp only at hi4 hn4
                have q1 := qF i4
                have q2 := hF i4 hi4
                have q3 := b5 i4
                obtain ⟨nx, hnx⟩ : ∃ x, x = n3' + LF (i4 + 1) := ⟨_, rfl⟩
                cbv
                repeat' (first | (refine Br.mk (fun hb => ?_) (fun hb => ?_) <;> ((try rw [ho] at hb); (try dsimp only [Ar.real, IX.vo] at hb); (try simp only [QP1, QB7] at hb); (try simp only [QBo, beq_iff_eq, beq_eq_false_iff_ne, ne_eq] at hb))) | (refine StopN.mk ?_; cbv) | (refine hK _ _ ?_) | (refine NeedT.mk ?_ ?_))
                any_goals (((try clear hR3); (try clear hR2); (try clear hR); (try clear hK); (try simp only [ncCast] at *); (try simp only [castI_eq] at *); (try rw [ho]); (try dsimp only [Ar.real, IX.vo, IX.val, BX.val, IX.toN]); (try simp only [QP1, QB7]); (try simp only [decide_eq_true_eq]); (all_goals (repeat rw [wrap_i64 (by omega) (by omega)])); (all_goals (first | omega | (simp only [Int.ofNat_eq_natCast]; omega)))); done)
                · refine hR4 _ ⟨i4 + 1, nx⟩ (by show fl.length - (i4 + 1) < fl.length - i4; omega) ⟨by show i4 + 1 ≤ fl.length; omega, hnx⟩ ?_
                  clear hR4
                  refine ⟨(by cbv), by cbv; repeat' (first | trivial | exact EqX.rfl' | exact EqO.rfl' | apply And.intro | ((try clear hR3); (try clear hR2); (try clear hR); (try clear hK); (try simp only [ncCast] at *); (try simp only [castI_eq] at *); refine EqX.i ?_; (try rw [ho]); (try dsimp only [Ar.real, IX.vo, IX.val, BX.val, IX.toN]); (try simp only [QP1, QB7]); (repeat rw [wrap_i64 (by omega) (by omega)]); omega)), by cbv; repeat' (first | trivial | exact EqO.rfl' | apply And.intro), by cbv; repeat' (first | trivial | exact EqO.rfl' | apply And.intro)⟩
                · obtain rfl : i4 = fl.length := by ((try clear hR3); (try clear hR2); (try clear hR); (try clear hK); (try simp only [ncCast] at *); (try simp only [castI_eq] at *)); omega
                  clear q1 hR4 hnx
                  rw [hres]
                  refine .b ?_
                  ((try clear hR3); (try clear hR2); (try clear hR); (try clear hK); (try simp only [ncCast] at *); (try simp only [castI_eq] at *); (try rw [ho]); (try dsimp only [Ar.real, IX.vo, IX.val, BX.val, IX.toN]); (try simp only [QP1, QB7]))
                  rw [decide_eq_decide]
                  (repeat rw [wrap_i64 (by omega) (by omega)])
                  omega
end Go.Proofs.Ytddgcegimmcbgaa.Sy
namespace Go.Proofs.Ytddgcegimmcbgaa.Sy
open Go Go.Sy Go.Proofs.Ytddgcegimmcbgaa
theorem Part.ext9 {a b : Part} (h1 : a.kind = b.kind) (h2 : a.role = b.role) (h3 : a.amount = b.amount) : a = b := by cases a; cases b; simp_all
def vEq (a b : List Part) : Bool := decide (a = b)
theorem x_EqualV (a b : List Part) (hab : a.length ≤ 1048576 ∧ b.length ≤ 1048576) : XC Try.prog 216 [.ro (SL Ar.real Part.X a), .ro (SL Ar.real Part.X b)] [] (xb (vEq a b)) [] := by
  obtain ⟨ha, hb'⟩ := hab
  (refine XC.of_body ([(6, [])]) Try.func216 rfl Try.ntmps216 mixed (T := [(2, ti2), (3, ti3), (31, ti31), (123, ti123)]) (.cons tok2 (.cons tok3 (.cons tok31 (.cons tok123 .nil)))) (by kernel_rfl) (by simp) rfl rfl rfl rfl rfl ?_; rintro o ho P hP c K hK; have hm : P.follows .mixedOrders = true := hP ▸ mixed; have hT : TOk P [(2, ti2), (3, ti3), (31, ti31), (123, ti123)] := hP ▸ (.cons tok2 (.cons tok3 (.cons tok31 (.cons tok123 .nil)))); (try rw [← ho]); cbv; (repeat (refine StopN.mk ?_; cbv)))
  repeat' (first | (refine Br.mk (fun hb => ?_) (fun hb => ?_) <;> ((try rw [ho] at hb); (try dsimp only [Ar.real, IX.vo] at hb); (try simp only [QP1, QB7] at hb); (try simp only [QBo, beq_iff_eq, beq_eq_false_iff_ne, ne_eq] at hb))) | (refine StopN.mk ?_; cbv) | (refine hK _ _ ?_) | (refine NeedT.mk ?_ ?_))
  · refine .b ?_
    ((try clear hR3); (try clear hR2); (try clear hR); (try clear hK); (try simp only [ncCast] at *); (try simp only [castI_eq] at *); (try rw [ho]); (try dsimp only [Ar.real, IX.vo, IX.val, BX.val, IX.toN]); (try simp only [QP1, QB7]))
    have hne : a ≠ b := fun e => ‹¬ a.length = b.length› (by rw [e])
    simp only [vEq, decide_eq_false hne]
  refine LoopN.over (o := o) (D := [(6, [])]) ho hm hT (by kernel_rfl) (fun i : Nat => [(13, xn i)]) (fun _ => []) (fun _ => []) (fun i => i ≤ a.length ∧ ∀ j, j < i → a.getD j default = b.getD j default) (fun i => a.length - i) 0 ⟨Nat.zero_le _, fun j hj => by omega⟩ ?_ ?_
  · refine ⟨(by cbv), by cbv; repeat' (first | trivial | exact EqX.rfl' | exact EqO.rfl' | apply And.intro | ((try clear hR3); (try clear hR2); (try clear hR); (try clear hK); (try simp only [ncCast] at *); (try simp only [castI_eq] at *); refine EqX.i ?_; (try rw [ho]); (try dsimp only [Ar.real, IX.vo, IX.val, BX.val, IX.toN]); (try simp only [QP1, QB7]); (repeat rw [wrap_i64 (by omega) (by omega)]); omega)), by cbv; repeat' (first | trivial | exact EqO.rfl' | apply And.intro), by cbv; repeat' (first | trivial | exact EqO.rfl' | apply And.intro)⟩
  · rintro i ⟨hi, hj⟩ R hR
    cbv
    repeat' (first | (refine Br.mk (fun hb => ?_) (fun hb => ?_) <;> ((try rw [ho] at hb); (try dsimp only [Ar.real, IX.vo] at hb); (try simp only [QP1, QB7] at hb); (try simp only [QBo, beq_iff_eq, beq_eq_false_iff_ne, ne_eq] at hb))) | (refine StopN.mk ?_; cbv) | (refine hK _ _ ?_) | (refine NeedT.mk ?_ ?_))
    any_goals (((try clear hR3); (try clear hR2); (try clear hR); (try clear hK); (try simp only [ncCast] at *); (try simp only [castI_eq] at *); (try rw [ho]); (try dsimp only [Ar.real, IX.vo, IX.val, BX.val, IX.toN]); (try simp only [QP1, QB7]); (try simp only [decide_eq_true_eq]); (all_goals (repeat rw [wrap_i64 (by omega) (by omega)])); (all_goals (first | omega | (simp only [Int.ofNat_eq_natCast]; omega)))); done)
    · have hne : a ≠ b := fun e => by
        ((try clear hR3); (try clear hR2); (try clear hR); (try clear hK); (try simp only [ncCast] at *); (try simp only [castI_eq] at *))
        subst e
        simp at hb
      refine .b ?_
      ((try clear hR3); (try clear hR2); (try clear hR); (try clear hK); (try simp only [ncCast] at *); (try simp only [castI_eq] at *); (try rw [ho]); (try dsimp only [Ar.real, IX.vo, IX.val, BX.val, IX.toN]); (try simp only [QP1, QB7]))
      simp only [vEq, decide_eq_false hne]
    · have he : a.getD i default = b.getD i default := by
        ((try clear hR3); (try clear hR2); (try clear hR); (try clear hK); (try simp only [ncCast] at *); (try simp only [castI_eq] at *))
        simp only [Bool.and_eq_true, decide_eq_true_eq] at hb
        exact Part.ext9 hb.1 hb.2.1 hb.2.2
      refine hR _ (i + 1) (by omega) ⟨by omega, fun j h => ?_⟩ ?_
      · rcases Nat.lt_or_ge j i with h3 | h3
        · exact hj j h3
        · obtain rfl : j = i := by omega
          exact he
      · refine ⟨(by cbv), by cbv; repeat' (first | trivial | exact EqX.rfl' | exact EqO.rfl' | apply And.intro | ((try clear hR3); (try clear hR2); (try clear hR); (try clear hK); (try simp only [ncCast] at *); (try simp only [castI_eq] at *); refine EqX.i ?_; (try rw [ho]); (try dsimp only [Ar.real, IX.vo, IX.val, BX.val, IX.toN]); (try simp only [QP1, QB7]); (repeat rw [wrap_i64 (by omega) (by omega)]); omega)), by cbv; repeat' (first | trivial | exact EqO.rfl' | apply And.intro), by cbv; repeat' (first | trivial | exact EqO.rfl' | apply And.intro)⟩
    · have he : a = b := by
        apply List.ext_getElem ‹a.length = b.length›
        intro j g1 g2
        have := hj j (by omega)
        simpa [List.getD_eq_getElem?_getD, g1, g2] using this
      refine .b ?_
      ((try clear hR3); (try clear hR2); (try clear hR); (try clear hK); (try simp only [ncCast] at *); (try simp only [castI_eq] at *); (try rw [ho]); (try dsimp only [Ar.real, IX.vo, IX.val, BX.val, IX.toN]); (try simp only [QP1, QB7]))
      simp only [vEq, decide_eq_true he]
theorem x_SameV (a b : List Part) (hab : a.length ≤ 1048576 ∧ b.length ≤ 1048576) : XC Try.prog 198 [.ro (SL Ar.real Part.X a), .ro (SL Ar.real Part.X b)] [] (xb (vEq a b)) [] := by
  (refine XC.of_body ([]) Try.func198 rfl Try.ntmps198 mixed (T := []) .nil (by kernel_rfl) (by simp) rfl rfl rfl rfl rfl ?_; rintro o ho P hP c K hK; have hm : P.follows .mixedOrders = true := hP ▸ mixed; have hT : TOk P [] := hP ▸ .nil; (try rw [← ho]); cbv; (repeat (refine StopN.mk ?_; cbv)))
  repeat' (first | (refine Br.mk (fun hb => ?_) (fun hb => ?_) <;> ((try rw [ho] at hb); (try dsimp only [Ar.real, IX.vo] at hb); (try simp only [QP1, QB7] at hb); (try simp only [QBo, beq_iff_eq, beq_eq_false_iff_ne, ne_eq] at hb))) | (refine StopN.mk ?_; cbv) | ((first | refine CallI.pure hP (x_EqualV _ _ ‹_›) fn216 (by first | rfl | (rw [ho]; done) | (rw [ho]; rfl)) (by rfl) (by first | rfl | (rw [ho]; done) | (rw [ho]; rfl)) ?_ | refine CallN.pure hP (x_EqualV _ _ ‹_›) fn216 (by first | rfl | (rw [ho]; done) | (rw [ho]; rfl)) (by rfl) (by first | rfl | (rw [ho]; done) | (rw [ho]; rfl)) ?_); (try rw [← ho]); generalize hr : vEq _ _ = r; (try rw [ho] at hr); (try dsimp only [Ar.real, IX.vo] at hr); (try simp only [QP1, QB7] at hr); cbv) | (refine hK _ _ ?_) | (refine NeedT.mk ?_ ?_))
  subst hr
  exact .b rfl
theorem XC_at {P : Program} {f : FuncId} {args args' : List X} {O O' : List OX} {r r' : X} (h : XC P f args O r O') (e : ∀ c, X.toDL c args = X.toDL c args') (hr : ∀ c, r.toD c = r'.toD c) : XC P f args' O r' O' := by
  intro c h1 h2
  rw [← e c, ← hr c]
  exact h c h1 h2
@[reducible] def il (n : Int) : X := .i .i64 (.lit n)
@[reducible] def l3 : X := .ro (.lits [[il 0, il 0, il 3]])
@[reducible] def l0 : X := .ro (.lits [])
def p3 : List Part := [⟨0, 0, 3⟩]
theorem d_right3 : XC Try.prog 180 [l3] [] (.b .t) [] := XC_at (x_vec_Right p3 (by decide)) (fun c => rfl) (fun c => by rw [show vecRight p3 = true from by decide]; rfl)
theorem d_right0 : XC Try.prog 180 [l0] [] (.b .t) [] := XC_at (x_vec_Right [] (by decide)) (fun c => rfl) (fun c => by rw [show vecRight [] = true from by decide]; rfl)
theorem d_only : XC Try.prog 214 [l3, .ro (.lits [[il 0], [il 2]])] [] l3 [] := XC_at (x_Only p3 [0, 2] (by decide) (by decide)) (fun c => rfl) (fun c => by rw [show onlyR p3 [0, 2] = p3 from by decide]; rfl)
theorem d_of : XC Try.prog 122 [l3] [] (.agg [il 3, il 0, il 0, il 0]) [] := XC_at (x_sumsOf p3 (by decide)) (fun c => rfl) (fun c => by rw [show sumsOf p3 = ⟨3, 0, 0, 0⟩ from by decide]; rfl)
theorem d_add : XC Try.prog 129 [.agg [il 0, il 0, il 0, il 0], .agg [il 3, il 0, il 0, il 0]] [] (.tup [.agg [il 3, il 0, il 0, il 0], .b .t]) [] := XC_at (x_sumsAdd ⟨0, 0, 0, 0⟩ ⟨3, 0, 0, 0⟩) (fun c => rfl) (fun c => by rw [show sumsAdd ⟨0, 0, 0, 0⟩ ⟨3, 0, 0, 0⟩ = (⟨3, 0, 0, 0⟩, true) from by decide]; rfl)
theorem d_same : XC Try.prog 198 [l3, l3] [] (.b .t) [] := XC_at (x_SameV p3 p3 (by decide)) (fun c => rfl) (fun c => by rw [show vEq p3 p3 = true from by decide]; rfl)
theorem d_same0 : XC Try.prog 198 [l0, l3] [] (.b .f) [] := XC_at (x_SameV [] p3 (by decide)) (fun c => rfl) (fun c => by rw [show vEq [] p3 = false from by decide]; rfl)
theorem d_shrOf : XC Try.prog 162 [.agg [il 3, il 0, il 0, il 0], .agg [il 3, il 0, il 0, il 0], il 3] [] (.agg [il 3, il 3, il 3]) [] := XC_at (x_shrOf ⟨3, 0, 0, 0⟩ ⟨3, 0, 0, 0⟩ 3) (fun c => rfl) (fun c => by rw [show shrOf ⟨3, 0, 0, 0⟩ ⟨3, 0, 0, 0⟩ 3 = ⟨3, 3, 3⟩ from by decide]; rfl)
theorem d_shrRight : XC Try.prog 165 [.agg [il 3, il 3, il 3]] [] (.b .t) [] := XC_at (x_shrRight ⟨3, 3, 3⟩) (fun c => rfl) (fun c => by rw [show shrRight ⟨3, 3, 3⟩ = true from by decide]; rfl)
theorem d_fracRight : XC Try.prog 78 [.agg [il 3, il 3]] [] (.b .t) [] := XC_at (x_fracRight 3 3) (fun c => rfl) (fun c => by rw [show fracRight 3 3 = true from by decide]; rfl)
theorem d_max : XC Try.prog 191 [.ro (.lits [[il 3], [il 0], [il 0], [il 0]])] [] (il 3) [] := by
  (refine XC.of_body ([]) Try.func191 rfl Try.ntmps191 mixed (T := [(2, ti2), (3, ti3), (34, ti34)]) (.cons tok2 (.cons tok3 (.cons tok34 .nil))) (by kernel_rfl) (by simp) rfl rfl rfl rfl rfl ?_; rintro o ho P hP c K hK; have hm : P.follows .mixedOrders = true := hP ▸ mixed; have hT : TOk P [(2, ti2), (3, ti3), (34, ti34)] := hP ▸ (.cons tok2 (.cons tok3 (.cons tok34 .nil))); (try rw [← ho]); cbv; (repeat (refine StopN.mk ?_; cbv)))
  repeat' (first | (refine Br.mk (fun hb => ?_) (fun hb => ?_) <;> ((try rw [ho] at hb); (try dsimp only [Ar.real, IX.vo] at hb); (try simp only [QP1, QB7] at hb); (try simp only [QBo, beq_iff_eq, beq_eq_false_iff_ne, ne_eq] at hb))) | (refine StopN.mk ?_; cbv) | (refine NeedT.mk (by rw [ho]; rfl) ?_) | (refine hK _ _ ?_) | (refine NeedT.mk ?_ ?_) | (refine LoopN.lay (o := o) (D := []) 5 ho hm hT (by kernel_rfl) ?_; cbv))
  exact .pure fun _ => rfl
theorem d_add3 : XC Try.prog 195 [l0, l3] [] (.tup [l3, .b .t]) [] := by
  (refine XC.of_body ([(5, [(11, 13), (11, 14)]), (6, [(2, 7), (3, 7), (4, 7), (5, 7)]), (7, [(7, 9), (7, 10)]), (8, [(2, 7), (3, 7), (4, 7), (5, 7)]), (10, []), (14, [(1, 5), (2, 5), (3, 5), (1, 7), (2, 7), (3, 7), (5, 7)])]) Try.func195 rfl Try.ntmps195 mixed (T := [(2, ti2), (3, ti3), (4, ti4), (31, ti31), (123, ti123)]) (.cons tok2 (.cons tok3 (.cons tok4 (.cons tok31 (.cons tok123 .nil))))) (by kernel_rfl) (by simp) rfl rfl rfl rfl rfl ?_; rintro o ho P hP c K hK; have hm : P.follows .mixedOrders = true := hP ▸ mixed; have hT : TOk P [(2, ti2), (3, ti3), (4, ti4), (31, ti31), (123, ti123)] := hP ▸ (.cons tok2 (.cons tok3 (.cons tok4 (.cons tok31 (.cons tok123 .nil))))); (try rw [← ho]); cbv; (repeat (refine StopN.mk ?_; cbv)))
  repeat' (first | (refine Br.mk (fun hb => ?_) (fun hb => ?_) <;> ((try rw [ho] at hb); (try dsimp only [Ar.real, IX.vo] at hb); (try simp only [QP1, QB7] at hb); (try simp only [QBo, beq_iff_eq, beq_eq_false_iff_ne, ne_eq] at hb))) | (refine StopN.mk ?_; cbv) | (first | refine NeedT.mk (by rw [ho]; rfl) ?_ | (first | refine CallI.pure hP d_right0 fn180 rfl rfl rfl ?_ | refine CallI.pure hP d_right3 fn180 rfl rfl rfl ?_); cbv) | ((first | refine CallI.pure hP (x_vec_Right _ ‹_›) fn180 (by first | rfl | (rw [ho]; done) | (rw [ho]; rfl)) (by rfl) (by first | rfl | (rw [ho]; done) | (rw [ho]; rfl)) ?_ | refine CallN.pure hP (x_vec_Right _ ‹_›) fn180 (by first | rfl | (rw [ho]; done) | (rw [ho]; rfl)) (by rfl) (by first | rfl | (rw [ho]; done) | (rw [ho]; rfl)) ?_); (try rw [← ho]); generalize hr : vecRight _ = r; (try rw [ho] at hr); (try dsimp only [Ar.real, IX.vo] at hr); (try simp only [QP1, QB7] at hr); cbv) | ((first | refine CallI.pure hP (x_vec_of _ _ _) fn182 (by first | rfl | (rw [ho]; done) | (rw [ho]; rfl)) (by rfl) (by first | rfl | (rw [ho]; done) | (rw [ho]; rfl)) ?_ | refine CallN.pure hP (x_vec_of _ _ _) fn182 (by first | rfl | (rw [ho]; done) | (rw [ho]; rfl)) (by rfl) (by first | rfl | (rw [ho]; done) | (rw [ho]; rfl)) ?_); (try rw [← ho]); cbv) | ((first | refine CallI.pure hP (x_slot_Cmp _ _ _ _) fn210 (by first | rfl | (rw [ho]; done) | (rw [ho]; rfl)) (by rfl) (by first | rfl | (rw [ho]; done) | (rw [ho]; rfl)) ?_ | refine CallN.pure hP (x_slot_Cmp _ _ _ _) fn210 (by first | rfl | (rw [ho]; done) | (rw [ho]; rfl)) (by rfl) (by first | rfl | (rw [ho]; done) | (rw [ho]; rfl)) ?_); (try rw [← ho]); generalize hr : slotCmp _ _ _ _ = r; (try rw [ho] at hr); (try dsimp only [Ar.real, IX.vo] at hr); (try simp only [QP1, QB7] at hr); cbv) | (refine hK _ _ ?_) | (refine NeedT.mk ?_ ?_) | (refine LoopN.lay (o := o) (D := [(5, [(11, 13), (11, 14)]), (6, [(2, 7), (3, 7), (4, 7), (5, 7)]), (7, [(7, 9), (7, 10)]), (8, [(2, 7), (3, 7), (4, 7), (5, 7)]), (10, []), (14, [(1, 5), (2, 5), (3, 5), (1, 7), (2, 7), (3, 7), (5, 7)])]) 3 ho hm hT (by kernel_rfl) ?_; cbv))
  exact .pure fun _ => rfl
theorem d_add0 : XC Try.prog 195 [l0, l0] [] (.tup [l0, .b .t]) [] := by
  (refine XC.of_body ([(5, [(11, 13), (11, 14)]), (6, [(2, 7), (3, 7), (4, 7), (5, 7)]), (7, [(7, 9), (7, 10)]), (8, [(2, 7), (3, 7), (4, 7), (5, 7)]), (10, []), (14, [(1, 5), (2, 5), (3, 5), (1, 7), (2, 7), (3, 7), (5, 7)])]) Try.func195 rfl Try.ntmps195 mixed (T := [(2, ti2), (3, ti3), (4, ti4), (31, ti31), (123, ti123)]) (.cons tok2 (.cons tok3 (.cons tok4 (.cons tok31 (.cons tok123 .nil))))) (by kernel_rfl) (by simp) rfl rfl rfl rfl rfl ?_; rintro o ho P hP c K hK; have hm : P.follows .mixedOrders = true := hP ▸ mixed; have hT : TOk P [(2, ti2), (3, ti3), (4, ti4), (31, ti31), (123, ti123)] := hP ▸ (.cons tok2 (.cons tok3 (.cons tok4 (.cons tok31 (.cons tok123 .nil))))); (try rw [← ho]); cbv; (repeat (refine StopN.mk ?_; cbv)))
  repeat' (first | (refine Br.mk (fun hb => ?_) (fun hb => ?_) <;> ((try rw [ho] at hb); (try dsimp only [Ar.real, IX.vo] at hb); (try simp only [QP1, QB7] at hb); (try simp only [QBo, beq_iff_eq, beq_eq_false_iff_ne, ne_eq] at hb))) | (refine StopN.mk ?_; cbv) | (first | refine NeedT.mk (by rw [ho]; rfl) ?_ | (first | refine CallI.pure hP d_right0 fn180 rfl rfl rfl ?_ | refine CallI.pure hP d_right3 fn180 rfl rfl rfl ?_); cbv) | ((first | refine CallI.pure hP (x_vec_Right _ ‹_›) fn180 (by first | rfl | (rw [ho]; done) | (rw [ho]; rfl)) (by rfl) (by first | rfl | (rw [ho]; done) | (rw [ho]; rfl)) ?_ | refine CallN.pure hP (x_vec_Right _ ‹_›) fn180 (by first | rfl | (rw [ho]; done) | (rw [ho]; rfl)) (by rfl) (by first | rfl | (rw [ho]; done) | (rw [ho]; rfl)) ?_); (try rw [← ho]); generalize hr : vecRight _ = r; (try rw [ho] at hr); (try dsimp only [Ar.real, IX.vo] at hr); (try simp only [QP1, QB7] at hr); cbv) | ((first | refine CallI.pure hP (x_vec_of _ _ _) fn182 (by first | rfl | (rw [ho]; done) | (rw [ho]; rfl)) (by rfl) (by first | rfl | (rw [ho]; done) | (rw [ho]; rfl)) ?_ | refine CallN.pure hP (x_vec_of _ _ _) fn182 (by first | rfl | (rw [ho]; done) | (rw [ho]; rfl)) (by rfl) (by first | rfl | (rw [ho]; done) | (rw [ho]; rfl)) ?_); (try rw [← ho]); cbv) | ((first | refine CallI.pure hP (x_slot_Cmp _ _ _ _) fn210 (by first | rfl | (rw [ho]; done) | (rw [ho]; rfl)) (by rfl) (by first | rfl | (rw [ho]; done) | (rw [ho]; rfl)) ?_ | refine CallN.pure hP (x_slot_Cmp _ _ _ _) fn210 (by first | rfl | (rw [ho]; done) | (rw [ho]; rfl)) (by rfl) (by first | rfl | (rw [ho]; done) | (rw [ho]; rfl)) ?_); (try rw [← ho]); generalize hr : slotCmp _ _ _ _ = r; (try rw [ho] at hr); (try dsimp only [Ar.real, IX.vo] at hr); (try simp only [QP1, QB7] at hr); cbv) | (refine hK _ _ ?_) | (refine NeedT.mk ?_ ?_) | (refine LoopN.lay (o := o) (D := [(5, [(11, 13), (11, 14)]), (6, [(2, 7), (3, 7), (4, 7), (5, 7)]), (7, [(7, 9), (7, 10)]), (8, [(2, 7), (3, 7), (4, 7), (5, 7)]), (10, []), (14, [(1, 5), (2, 5), (3, 5), (1, 7), (2, 7), (3, 7), (5, 7)])]) 3 ho hm hT (by kernel_rfl) ?_; cbv))
  exact .pure fun _ => rfl
theorem d_sdigits : XC Try.prog 167 [il 3] [] (.v (.string ⟨#[51]⟩)) [] := by
  (refine XC.of_body ([]) Try.func167 rfl Try.ntmps167 mixed (T := [(2, ti2), (5, ti5), (9, ti9), (264, ti264)]) (.cons tok2 (.cons tok5 (.cons tok9 (.cons tok264 .nil)))) (by kernel_rfl) (by simp) rfl rfl rfl rfl rfl ?_; rintro o ho P hP c K hK; have hm : P.follows .mixedOrders = true := hP ▸ mixed; have hT : TOk P [(2, ti2), (5, ti5), (9, ti9), (264, ti264)] := hP ▸ (.cons tok2 (.cons tok5 (.cons tok9 (.cons tok264 .nil)))); (try rw [← ho]); cbv; (repeat (refine StopN.mk ?_; cbv)))
  repeat' (first | (refine Br.mk (fun hb => ?_) (fun hb => ?_) <;> ((try rw [ho] at hb); (try dsimp only [Ar.real, IX.vo] at hb); (try simp only [QP1, QB7] at hb); (try simp only [QBo, beq_iff_eq, beq_eq_false_iff_ne, ne_eq] at hb))) | (refine StopN.mk ?_; cbv) | (refine hK _ _ ?_) | (refine NeedT.mk ?_ ?_))
  refine OpN.bytes [51] (by rw [hP]; exact tok264.k) (by rw [hP]; exact tok5.k) (by rw [hP]; exact tok9.k) (.inr rfl) rfl ?_
  rintro s rfl
  cbv
  repeat' (first | (refine Br.mk (fun hb => ?_) (fun hb => ?_) <;> ((try rw [ho] at hb); (try dsimp only [Ar.real, IX.vo] at hb); (try simp only [QP1, QB7] at hb); (try simp only [QBo, beq_iff_eq, beq_eq_false_iff_ne, ne_eq] at hb))) | (refine StopN.mk ?_; cbv) | (refine hK _ _ ?_) | (refine NeedT.mk ?_ ?_))
  exact .pure fun _ => rfl
theorem d_rdigits : XC Try.prog 201 [il 3] [] (.v (.string ⟨#[51]⟩)) [] := by
  (refine XC.of_body ([]) Try.func201 rfl Try.ntmps201 mixed (T := [(2, ti2), (3, ti3), (5, ti5), (9, ti9), (264, ti264), (276, ti276)]) (.cons tok2 (.cons tok3 (.cons tok5 (.cons tok9 (.cons tok264 (.cons tok276 .nil)))))) (by kernel_rfl) (by simp) rfl rfl rfl rfl rfl ?_; rintro o ho P hP c K hK; have hm : P.follows .mixedOrders = true := hP ▸ mixed; have hT : TOk P [(2, ti2), (3, ti3), (5, ti5), (9, ti9), (264, ti264), (276, ti276)] := hP ▸ (.cons tok2 (.cons tok3 (.cons tok5 (.cons tok9 (.cons tok264 (.cons tok276 .nil)))))); (try rw [← ho]); cbv; (repeat (refine StopN.mk ?_; cbv)))
  repeat' (first | (refine Br.mk (fun hb => ?_) (fun hb => ?_) <;> ((try rw [ho] at hb); (try dsimp only [Ar.real, IX.vo] at hb); (try simp only [QP1, QB7] at hb); (try simp only [QBo, beq_iff_eq, beq_eq_false_iff_ne, ne_eq] at hb))) | (refine StopN.mk ?_; cbv) | (refine NeedT.mk (by rw [ho]; rfl) ?_) | (refine hK _ _ ?_) | (refine NeedT.mk ?_ ?_) | (refine LoopN.lay (o := o) (D := []) 3 ho hm hT (by kernel_rfl) ?_; cbv))
  refine FrzN.frzv 0 3 rfl rfl rfl (.done ?_)
  cbv
  refine OpN.asl 19 rfl (by rw [hP]; exact tok276.k) (by rw [hP]; exact tok5.sz) (by decide) (by decide) rfl (by decide) (.inr ⟨_, rfl, rfl⟩) ?_
  cbv
  repeat' (first | (refine Br.mk (fun hb => ?_) (fun hb => ?_) <;> ((try rw [ho] at hb); (try dsimp only [Ar.real, IX.vo] at hb); (try simp only [QP1, QB7] at hb); (try simp only [QBo, beq_iff_eq, beq_eq_false_iff_ne, ne_eq] at hb))) | (refine StopN.mk ?_; cbv) | (refine NeedT.mk (by rw [ho]; rfl) ?_) | (refine hK _ _ ?_) | (refine NeedT.mk ?_ ?_) | (refine LoopN.lay (o := o) (D := []) 3 ho hm hT (by kernel_rfl) ?_; cbv))
  refine FrzN.frz 1 [29] rfl (fun t ht => by rw [List.mem_singleton.1 ht]; rfl) (.done ?_)
  cbv
  refine OpN.bytes [51] (by rw [hP]; exact tok264.k) (by rw [hP]; exact tok5.k) (by rw [hP]; exact tok9.k) (.inl rfl) rfl ?_
  rintro s rfl
  cbv
  repeat' (first | (refine Br.mk (fun hb => ?_) (fun hb => ?_) <;> ((try rw [ho] at hb); (try dsimp only [Ar.real, IX.vo] at hb); (try simp only [QP1, QB7] at hb); (try simp only [QBo, beq_iff_eq, beq_eq_false_iff_ne, ne_eq] at hb))) | (refine StopN.mk ?_; cbv) | (refine hK _ _ ?_) | (refine NeedT.mk ?_ ?_))
  exact .pure fun _ => rfl
theorem d_rtext : XC Try.prog 166 [.agg [il 3, il 3]] [] (.v (.string ⟨#[51, 47, 51]⟩)) [] := by
  (refine XC.of_body ([(3, [(2, 4), (2, 5)])]) Try.func166 rfl Try.ntmps166 mixed (T := [(2, ti2), (4, ti4), (9, ti9), (64, ti64)]) (.cons tok2 (.cons tok4 (.cons tok9 (.cons tok64 .nil)))) (by kernel_rfl) (by simp) rfl rfl rfl rfl rfl ?_; rintro o ho P hP c K hK; have hm : P.follows .mixedOrders = true := hP ▸ mixed; have hT : TOk P [(2, ti2), (4, ti4), (9, ti9), (64, ti64)] := hP ▸ (.cons tok2 (.cons tok4 (.cons tok9 (.cons tok64 .nil)))); (try rw [← ho]); cbv; (repeat (refine StopN.mk ?_; cbv)))
  repeat' (first | (refine Br.mk (fun hb => ?_) (fun hb => ?_) <;> ((try rw [ho] at hb); (try dsimp only [Ar.real, IX.vo] at hb); (try simp only [QP1, QB7] at hb); (try simp only [QBo, beq_iff_eq, beq_eq_false_iff_ne, ne_eq] at hb))) | (refine StopN.mk ?_; cbv) | (first | refine CallI.pure hP d_fracRight fn78 rfl rfl rfl ?_ | refine CallN.pure hP d_rdigits fn201 rfl rfl rfl ?_); cbv | ((first | refine CallI.pure hP (x_fracRight _ _) fn78 (by first | rfl | (rw [ho]; done) | (rw [ho]; rfl)) (by rfl) (by first | rfl | (rw [ho]; done) | (rw [ho]; rfl)) ?_ | refine CallN.pure hP (x_fracRight _ _) fn78 (by first | rfl | (rw [ho]; done) | (rw [ho]; rfl)) (by rfl) (by first | rfl | (rw [ho]; done) | (rw [ho]; rfl)) ?_); (try rw [← ho]); generalize hr : fracRight _ _ = r; (try rw [ho] at hr); (try dsimp only [Ar.real, IX.vo] at hr); (try simp only [QP1, QB7] at hr); cbv) | (refine hK _ _ ?_) | (refine NeedT.mk ?_ ?_))
  all_goals
    refine OpN.cat rfl rfl (by decide) ?_
    rintro s rfl
    cbv
  repeat' (first | (refine Br.mk (fun hb => ?_) (fun hb => ?_) <;> ((try rw [ho] at hb); (try dsimp only [Ar.real, IX.vo] at hb); (try simp only [QP1, QB7] at hb); (try simp only [QBo, beq_iff_eq, beq_eq_false_iff_ne, ne_eq] at hb))) | (refine StopN.mk ?_; cbv) | (first | refine CallI.pure hP d_fracRight fn78 rfl rfl rfl ?_ | refine CallN.pure hP d_rdigits fn201 rfl rfl rfl ?_); cbv | ((first | refine CallI.pure hP (x_fracRight _ _) fn78 (by first | rfl | (rw [ho]; done) | (rw [ho]; rfl)) (by rfl) (by first | rfl | (rw [ho]; done) | (rw [ho]; rfl)) ?_ | refine CallN.pure hP (x_fracRight _ _) fn78 (by first | rfl | (rw [ho]; done) | (rw [ho]; rfl)) (by rfl) (by first | rfl | (rw [ho]; done) | (rw [ho]; rfl)) ?_); (try rw [← ho]); generalize hr : fracRight _ _ = r; (try rw [ho] at hr); (try dsimp only [Ar.real, IX.vo] at hr); (try simp only [QP1, QB7] at hr); cbv) | (refine hK _ _ ?_) | (refine NeedT.mk ?_ ?_))
  all_goals
    refine OpN.cat rfl rfl (by decide) ?_
    rintro s rfl
    cbv
  repeat' (first | (refine Br.mk (fun hb => ?_) (fun hb => ?_) <;> ((try rw [ho] at hb); (try dsimp only [Ar.real, IX.vo] at hb); (try simp only [QP1, QB7] at hb); (try simp only [QBo, beq_iff_eq, beq_eq_false_iff_ne, ne_eq] at hb))) | (refine StopN.mk ?_; cbv) | ((first | refine CallI.pure hP (x_fracRight _ _) fn78 (by first | rfl | (rw [ho]; done) | (rw [ho]; rfl)) (by rfl) (by first | rfl | (rw [ho]; done) | (rw [ho]; rfl)) ?_ | refine CallN.pure hP (x_fracRight _ _) fn78 (by first | rfl | (rw [ho]; done) | (rw [ho]; rfl)) (by rfl) (by first | rfl | (rw [ho]; done) | (rw [ho]; rfl)) ?_); (try rw [← ho]); generalize hr : fracRight _ _ = r; (try rw [ho] at hr); (try dsimp only [Ar.real, IX.vo] at hr); (try simp only [QP1, QB7] at hr); cbv) | (refine hK _ _ ?_) | (refine NeedT.mk ?_ ?_))
  exact .pure fun _ => rfl
theorem d_text : XC Try.prog 113 [.agg [il 3, il 3, il 3]] [] (.v (.string ⟨#[51, 47, 51, 58, 51]⟩)) [] := by
  (refine XC.of_body ([(3, [(2, 4), (2, 5)])]) Try.func113 rfl Try.ntmps113 mixed (T := [(2, ti2), (4, ti4), (9, ti9), (64, ti64), (108, ti108)]) (.cons tok2 (.cons tok4 (.cons tok9 (.cons tok64 (.cons tok108 .nil))))) (by kernel_rfl) (by simp) rfl rfl rfl rfl rfl ?_; rintro o ho P hP c K hK; have hm : P.follows .mixedOrders = true := hP ▸ mixed; have hT : TOk P [(2, ti2), (4, ti4), (9, ti9), (64, ti64), (108, ti108)] := hP ▸ (.cons tok2 (.cons tok4 (.cons tok9 (.cons tok64 (.cons tok108 .nil))))); (try rw [← ho]); cbv; (repeat (refine StopN.mk ?_; cbv)))
  repeat' (first | (refine Br.mk (fun hb => ?_) (fun hb => ?_) <;> ((try rw [ho] at hb); (try dsimp only [Ar.real, IX.vo] at hb); (try simp only [QP1, QB7] at hb); (try simp only [QBo, beq_iff_eq, beq_eq_false_iff_ne, ne_eq] at hb))) | (refine StopN.mk ?_; cbv) | (first | refine CallI.pure hP d_shrRight fn165 rfl rfl rfl ?_ | refine CallN.pure hP d_rtext fn166 rfl rfl rfl ?_ | refine CallN.pure hP d_sdigits fn167 rfl rfl rfl ?_); cbv | ((first | refine CallI.pure hP (x_shrRight _) fn165 (by first | rfl | (rw [ho]; done) | (rw [ho]; rfl)) (by rfl) (by first | rfl | (rw [ho]; done) | (rw [ho]; rfl)) ?_ | refine CallN.pure hP (x_shrRight _) fn165 (by first | rfl | (rw [ho]; done) | (rw [ho]; rfl)) (by rfl) (by first | rfl | (rw [ho]; done) | (rw [ho]; rfl)) ?_); (try rw [← ho]); generalize hr : shrRight _ = r; (try rw [ho] at hr); (try dsimp only [Ar.real, IX.vo] at hr); (try simp only [QP1, QB7] at hr); cbv) | (refine hK _ _ ?_) | (refine NeedT.mk ?_ ?_))
  all_goals
    refine OpN.cat rfl rfl (by decide) ?_
    rintro s rfl
    cbv
  repeat' (first | (refine Br.mk (fun hb => ?_) (fun hb => ?_) <;> ((try rw [ho] at hb); (try dsimp only [Ar.real, IX.vo] at hb); (try simp only [QP1, QB7] at hb); (try simp only [QBo, beq_iff_eq, beq_eq_false_iff_ne, ne_eq] at hb))) | (refine StopN.mk ?_; cbv) | (first | refine CallI.pure hP d_shrRight fn165 rfl rfl rfl ?_ | refine CallN.pure hP d_rtext fn166 rfl rfl rfl ?_ | refine CallN.pure hP d_sdigits fn167 rfl rfl rfl ?_); cbv | ((first | refine CallI.pure hP (x_shrRight _) fn165 (by first | rfl | (rw [ho]; done) | (rw [ho]; rfl)) (by rfl) (by first | rfl | (rw [ho]; done) | (rw [ho]; rfl)) ?_ | refine CallN.pure hP (x_shrRight _) fn165 (by first | rfl | (rw [ho]; done) | (rw [ho]; rfl)) (by rfl) (by first | rfl | (rw [ho]; done) | (rw [ho]; rfl)) ?_); (try rw [← ho]); generalize hr : shrRight _ = r; (try rw [ho] at hr); (try dsimp only [Ar.real, IX.vo] at hr); (try simp only [QP1, QB7] at hr); cbv) | (refine hK _ _ ?_) | (refine NeedT.mk ?_ ?_))
  all_goals
    refine OpN.cat rfl rfl (by decide) ?_
    rintro s rfl
    cbv
  repeat' (first | (refine Br.mk (fun hb => ?_) (fun hb => ?_) <;> ((try rw [ho] at hb); (try dsimp only [Ar.real, IX.vo] at hb); (try simp only [QP1, QB7] at hb); (try simp only [QBo, beq_iff_eq, beq_eq_false_iff_ne, ne_eq] at hb))) | (refine StopN.mk ?_; cbv) | ((first | refine CallI.pure hP (x_shrRight _) fn165 (by first | rfl | (rw [ho]; done) | (rw [ho]; rfl)) (by rfl) (by first | rfl | (rw [ho]; done) | (rw [ho]; rfl)) ?_ | refine CallN.pure hP (x_shrRight _) fn165 (by first | rfl | (rw [ho]; done) | (rw [ho]; rfl)) (by rfl) (by first | rfl | (rw [ho]; done) | (rw [ho]; rfl)) ?_); (try rw [← ho]); generalize hr : shrRight _ = r; (try rw [ho] at hr); (try dsimp only [Ar.real, IX.vo] at hr); (try simp only [QP1, QB7] at hr); cbv) | (refine hK _ _ ?_) | (refine NeedT.mk ?_ ?_))
  exact .pure fun _ => rfl
end Go.Proofs.Ytddgcegimmcbgaa.Sy
namespace Go.Proofs.Ytddgcegimmcbgaa.Sy
open Go Go.Sy Go.Proofs.Ytddgcegimmcbgaa
@[reducible] def cfL : List X := [il 9, il 9, il 9, il 0, il 9, il 0, il 0, il 0, il 0]
@[reducible] def agL : X := .ro (.lits [[il 1, l3, l0]])
@[reducible] def bkA : X := .agg (cfL ++ [il 0, il 1, .ro (.lits [[il 4, il 2, il 3, .b .t, .b .f, il 0, il 0]]), agL, .ro (.lits [[il 1, il 4, il 1, l3, il 0]]), l0, l0])
@[reducible] def bkB : X := .agg (cfL ++ [il 0, il 0, l0, agL, l0, l0, l0])
def wthB (x y z : Int) : Bool := decide (y ≤ x) && decide (x ≤ z)
theorem x_within (x y z : Int) : XC Try.prog 213 [xi x, xi y, xi z] [] (xb (wthB x y z)) [] := by
  (refine XC.of_body ([]) Try.func213 rfl Try.ntmps213 mixed (T := [(2, ti2)]) (.cons tok2 .nil) (by kernel_rfl) (by simp) rfl rfl rfl rfl rfl ?_; rintro o ho P hP c K hK; have hm : P.follows .mixedOrders = true := hP ▸ mixed; have hT : TOk P [(2, ti2)] := hP ▸ (.cons tok2 .nil); (try rw [← ho]); cbv; (repeat (refine StopN.mk ?_; cbv)))
  repeat' (first | (refine Br.mk (fun hb => ?_) (fun hb => ?_) <;> ((try rw [ho] at hb); (try dsimp only [Ar.real, IX.vo] at hb); (try simp only [QP1, QB7] at hb); (try simp only [QBo, beq_iff_eq, beq_eq_false_iff_ne, ne_eq] at hb))) | (refine StopN.mk ?_; cbv) | (refine hK _ _ ?_) | (refine NeedT.mk ?_ ?_))
  all_goals
    refine .b ?_
    unfold wthB
    ((try clear hR3); (try clear hR2); (try clear hR); (try clear hK); (try simp only [ncCast] at *); (try simp only [castI_eq] at *); (try rw [ho]); (try dsimp only [Ar.real, IX.vo, IX.val, BX.val, IX.toN]); (try simp only [QP1, QB7]))
    simp [*]
  all_goals omega
def numB (x : Int) : Bool := decide (1 ≤ x) && decide (x ≤ 9007199254740992)
theorem x_number (x : Int) : XC Try.prog 190 [xi x] [] (xb (numB x)) [] := by
  (refine XC.of_body ([]) Try.func190 rfl Try.ntmps190 mixed (T := [(2, ti2)]) (.cons tok2 .nil) (by kernel_rfl) (by simp) rfl rfl rfl rfl rfl ?_; rintro o ho P hP c K hK; have hm : P.follows .mixedOrders = true := hP ▸ mixed; have hT : TOk P [(2, ti2)] := hP ▸ (.cons tok2 .nil); (try rw [← ho]); cbv; (repeat (refine StopN.mk ?_; cbv)))
  repeat' (first | (refine Br.mk (fun hb => ?_) (fun hb => ?_) <;> ((try rw [ho] at hb); (try dsimp only [Ar.real, IX.vo] at hb); (try simp only [QP1, QB7] at hb); (try simp only [QBo, beq_iff_eq, beq_eq_false_iff_ne, ne_eq] at hb))) | (refine StopN.mk ?_; cbv) | (refine hK _ _ ?_) | (refine NeedT.mk ?_ ?_))
  all_goals
    refine .b ?_
    unfold numB
    ((try clear hR3); (try clear hR2); (try clear hR); (try clear hK); (try simp only [ncCast] at *); (try simp only [castI_eq] at *); (try rw [ho]); (try dsimp only [Ar.real, IX.vo, IX.val, BX.val, IX.toN]); (try simp only [QP1, QB7]))
    simp [*]
  all_goals omega
theorem d_within {x y z : Int} (h : wthB x y z = true) : XC Try.prog 213 [il x, il y, il z] [] (.b .t) [] := XC_at (x_within x y z) (fun c => rfl) (fun c => by rw [h]; rfl)
theorem d_number {x : Int} (h : numB x = true) : XC Try.prog 190 [il x] [] (.b .t) [] := XC_at (x_number x) (fun c => rfl) (fun c => by rw [h]; rfl)
theorem d_check : XC Try.prog 189 [.agg cfL] [] (il 0) [] := by
  have a1 := d_within (x := 0) (y := 0) (z := 9007199254740992) (by decide)
  have a2 := d_within (x := 9) (y := 0) (z := 9007199254740992) (by decide)
  have a3 := d_within (x := 9) (y := 1) (z := 9007199254740992) (by decide)
  have a4 := d_within (x := 9) (y := 1) (z := 4096) (by decide)
  (refine XC.of_body ([]) Try.func189 rfl Try.ntmps189 mixed (T := [(2, ti2), (3, ti3), (4, ti4), (52, ti52), (93, ti93)]) (.cons tok2 (.cons tok3 (.cons tok4 (.cons tok52 (.cons tok93 .nil))))) (by kernel_rfl) (by simp) rfl rfl rfl rfl rfl ?_; rintro o ho P hP c K hK; have hm : P.follows .mixedOrders = true := hP ▸ mixed; have hT : TOk P [(2, ti2), (3, ti3), (4, ti4), (52, ti52), (93, ti93)] := hP ▸ (.cons tok2 (.cons tok3 (.cons tok4 (.cons tok52 (.cons tok93 .nil))))); (try rw [← ho]); cbv; (repeat (refine StopN.mk ?_; cbv)))
  repeat' (first | (refine Br.mk (fun hb => ?_) (fun hb => ?_) <;> ((try rw [ho] at hb); (try dsimp only [Ar.real, IX.vo] at hb); (try simp only [QP1, QB7] at hb); (try simp only [QBo, beq_iff_eq, beq_eq_false_iff_ne, ne_eq] at hb))) | (refine StopN.mk ?_; cbv) | (first | refine NeedT.mk (by rw [ho]; rfl) ?_ | (first | refine CallI.pure hP a1 fn213 rfl rfl rfl ?_ | refine CallI.pure hP a2 fn213 rfl rfl rfl ?_ | refine CallI.pure hP a3 fn213 rfl rfl rfl ?_ | refine CallI.pure hP a4 fn213 rfl rfl rfl ?_); cbv) | ((first | refine CallI.pure hP (x_within _ _ _) fn213 (by first | rfl | (rw [ho]; done) | (rw [ho]; rfl)) (by rfl) (by first | rfl | (rw [ho]; done) | (rw [ho]; rfl)) ?_ | refine CallN.pure hP (x_within _ _ _) fn213 (by first | rfl | (rw [ho]; done) | (rw [ho]; rfl)) (by rfl) (by first | rfl | (rw [ho]; done) | (rw [ho]; rfl)) ?_); (try rw [← ho]); generalize hr : wthB _ _ _ = r; (try rw [ho] at hr); (try dsimp only [Ar.real, IX.vo] at hr); (try simp only [QP1, QB7] at hr); cbv) | (refine hK _ _ ?_) | (refine NeedT.mk ?_ ?_) | (refine LoopN.lay (o := o) (D := []) 6 ho hm hT (by kernel_rfl) ?_; cbv))
  exact .pure fun _ => rfl
@[reducible] def bA : List X := cfL ++ [il 0, il 1, .ro (.lits [[il 4, il 2, il 3, .b .t, .b .f, il 0, il 0]]), agL, .ro (.lits [[il 1, il 4, il 1, l3, il 0]]), l0, l0]
@[reducible] def bB : List X := cfL ++ [il 0, il 0, l0, agL, l0, l0, l0]
theorem d_setA : XC Try.prog 153 [.agg bA] [] (.b .t) [] := by
  (refine XC.of_body ([]) Try.func153 rfl Try.ntmps153 mixed (T := [(2, ti2), (3, ti3), (52, ti52), (53, ti53), (93, ti93), (94, ti94), (95, ti95), (96, ti96), (97, ti97), (98, ti98), (100, ti100), (225, ti225)]) (.cons tok2 (.cons tok3 (.cons tok52 (.cons tok53 (.cons tok93 (.cons tok94 (.cons tok95 (.cons tok96 (.cons tok97 (.cons tok98 (.cons tok100 (.cons tok225 .nil)))))))))))) (by kernel_rfl) (by simp) rfl rfl rfl rfl rfl ?_; rintro o ho P hP c K hK; have hm : P.follows .mixedOrders = true := hP ▸ mixed; have hT : TOk P [(2, ti2), (3, ti3), (52, ti52), (53, ti53), (93, ti93), (94, ti94), (95, ti95), (96, ti96), (97, ti97), (98, ti98), (100, ti100), (225, ti225)] := hP ▸ (.cons tok2 (.cons tok3 (.cons tok52 (.cons tok53 (.cons tok93 (.cons tok94 (.cons tok95 (.cons tok96 (.cons tok97 (.cons tok98 (.cons tok100 (.cons tok225 .nil)))))))))))); (try rw [← ho]); cbv; (repeat (refine StopN.mk ?_; cbv)))
  repeat' (first | (refine Br.mk (fun hb => ?_) (fun hb => ?_) <;> ((try rw [ho] at hb); (try dsimp only [Ar.real, IX.vo] at hb); (try simp only [QP1, QB7] at hb); (try simp only [QBo, beq_iff_eq, beq_eq_false_iff_ne, ne_eq] at hb))) | (refine StopN.mk ?_; cbv) | (refine CallI.pure hP d_check fn189 rfl rfl rfl ?_); cbv | (refine hK _ _ ?_) | (refine NeedT.mk ?_ ?_))
  exact .pure fun _ => rfl
theorem d_setB : XC Try.prog 153 [.agg bB] [] (.b .t) [] := by
  (refine XC.of_body ([]) Try.func153 rfl Try.ntmps153 mixed (T := [(2, ti2), (3, ti3), (52, ti52), (53, ti53), (93, ti93), (94, ti94), (95, ti95), (96, ti96), (97, ti97), (98, ti98), (100, ti100), (225, ti225)]) (.cons tok2 (.cons tok3 (.cons tok52 (.cons tok53 (.cons tok93 (.cons tok94 (.cons tok95 (.cons tok96 (.cons tok97 (.cons tok98 (.cons tok100 (.cons tok225 .nil)))))))))))) (by kernel_rfl) (by simp) rfl rfl rfl rfl rfl ?_; rintro o ho P hP c K hK; have hm : P.follows .mixedOrders = true := hP ▸ mixed; have hT : TOk P [(2, ti2), (3, ti3), (52, ti52), (53, ti53), (93, ti93), (94, ti94), (95, ti95), (96, ti96), (97, ti97), (98, ti98), (100, ti100), (225, ti225)] := hP ▸ (.cons tok2 (.cons tok3 (.cons tok52 (.cons tok53 (.cons tok93 (.cons tok94 (.cons tok95 (.cons tok96 (.cons tok97 (.cons tok98 (.cons tok100 (.cons tok225 .nil)))))))))))); (try rw [← ho]); cbv; (repeat (refine StopN.mk ?_; cbv)))
  repeat' (first | (refine Br.mk (fun hb => ?_) (fun hb => ?_) <;> ((try rw [ho] at hb); (try dsimp only [Ar.real, IX.vo] at hb); (try simp only [QP1, QB7] at hb); (try simp only [QBo, beq_iff_eq, beq_eq_false_iff_ne, ne_eq] at hb))) | (refine StopN.mk ?_; cbv) | (refine CallI.pure hP d_check fn189 rfl rfl rfl ?_); cbv | (refine hK _ _ ?_) | (refine NeedT.mk ?_ ?_))
  exact .pure fun _ => rfl
theorem d_framesA : XC Try.prog 154 [.agg bA] [] (.b .t) [] := by
  have a1 := d_number (x := 4) (by decide)
  (refine XC.of_body ([(5, [])]) Try.func154 rfl Try.ntmps154 mixed (T := [(2, ti2), (3, ti3), (4, ti4), (52, ti52), (93, ti93), (94, ti94), (95, ti95), (96, ti96), (97, ti97), (98, ti98), (100, ti100), (179, ti179), (225, ti225), (255, ti255)]) (.cons tok2 (.cons tok3 (.cons tok4 (.cons tok52 (.cons tok93 (.cons tok94 (.cons tok95 (.cons tok96 (.cons tok97 (.cons tok98 (.cons tok100 (.cons tok179 (.cons tok225 (.cons tok255 .nil)))))))))))))) (by kernel_rfl) (by simp) rfl rfl rfl rfl rfl ?_; rintro o ho P hP c K hK; have hm : P.follows .mixedOrders = true := hP ▸ mixed; have hT : TOk P [(2, ti2), (3, ti3), (4, ti4), (52, ti52), (93, ti93), (94, ti94), (95, ti95), (96, ti96), (97, ti97), (98, ti98), (100, ti100), (179, ti179), (225, ti225), (255, ti255)] := hP ▸ (.cons tok2 (.cons tok3 (.cons tok4 (.cons tok52 (.cons tok93 (.cons tok94 (.cons tok95 (.cons tok96 (.cons tok97 (.cons tok98 (.cons tok100 (.cons tok179 (.cons tok225 (.cons tok255 .nil)))))))))))))); (try rw [← ho]); cbv; (repeat (refine StopN.mk ?_; cbv)))
  repeat' (first | (refine Br.mk (fun hb => ?_) (fun hb => ?_) <;> ((try rw [ho] at hb); (try dsimp only [Ar.real, IX.vo] at hb); (try simp only [QP1, QB7] at hb); (try simp only [QBo, beq_iff_eq, beq_eq_false_iff_ne, ne_eq] at hb))) | (refine StopN.mk ?_; cbv) | (first | refine NeedT.mk (by rw [ho]; rfl) ?_ | refine CallN.pure hP a1 fn190 rfl rfl rfl ?_; cbv) | ((first | refine CallI.pure hP (x_number _) fn190 (by first | rfl | (rw [ho]; done) | (rw [ho]; rfl)) (by rfl) (by first | rfl | (rw [ho]; done) | (rw [ho]; rfl)) ?_ | refine CallN.pure hP (x_number _) fn190 (by first | rfl | (rw [ho]; done) | (rw [ho]; rfl)) (by rfl) (by first | rfl | (rw [ho]; done) | (rw [ho]; rfl)) ?_); (try rw [← ho]); generalize hr : numB _ = r; (try rw [ho] at hr); (try dsimp only [Ar.real, IX.vo] at hr); (try simp only [QP1, QB7] at hr); cbv) | (refine hK _ _ ?_) | (refine NeedT.mk ?_ ?_) | (refine LoopN.lay (o := o) (D := [(5, [])]) 3 ho hm hT (by kernel_rfl) ?_; cbv))
  all_goals exact .pure fun _ => rfl
theorem d_framesB : XC Try.prog 154 [.agg bB] [] (.b .t) [] := by
  (refine XC.of_body ([(5, [])]) Try.func154 rfl Try.ntmps154 mixed (T := [(2, ti2), (3, ti3), (4, ti4), (52, ti52), (93, ti93), (94, ti94), (95, ti95), (96, ti96), (97, ti97), (98, ti98), (100, ti100), (179, ti179), (225, ti225), (255, ti255)]) (.cons tok2 (.cons tok3 (.cons tok4 (.cons tok52 (.cons tok93 (.cons tok94 (.cons tok95 (.cons tok96 (.cons tok97 (.cons tok98 (.cons tok100 (.cons tok179 (.cons tok225 (.cons tok255 .nil)))))))))))))) (by kernel_rfl) (by simp) rfl rfl rfl rfl rfl ?_; rintro o ho P hP c K hK; have hm : P.follows .mixedOrders = true := hP ▸ mixed; have hT : TOk P [(2, ti2), (3, ti3), (4, ti4), (52, ti52), (93, ti93), (94, ti94), (95, ti95), (96, ti96), (97, ti97), (98, ti98), (100, ti100), (179, ti179), (225, ti225), (255, ti255)] := hP ▸ (.cons tok2 (.cons tok3 (.cons tok4 (.cons tok52 (.cons tok93 (.cons tok94 (.cons tok95 (.cons tok96 (.cons tok97 (.cons tok98 (.cons tok100 (.cons tok179 (.cons tok225 (.cons tok255 .nil)))))))))))))); (try rw [← ho]); cbv; (repeat (refine StopN.mk ?_; cbv)))
  repeat' (first | (refine Br.mk (fun hb => ?_) (fun hb => ?_) <;> ((try rw [ho] at hb); (try dsimp only [Ar.real, IX.vo] at hb); (try simp only [QP1, QB7] at hb); (try simp only [QBo, beq_iff_eq, beq_eq_false_iff_ne, ne_eq] at hb))) | (refine StopN.mk ?_; cbv) | (first | refine NeedT.mk (by rw [ho]; rfl) ?_) | ((first | refine CallI.pure hP (x_number _) fn190 (by first | rfl | (rw [ho]; done) | (rw [ho]; rfl)) (by rfl) (by first | rfl | (rw [ho]; done) | (rw [ho]; rfl)) ?_ | refine CallN.pure hP (x_number _) fn190 (by first | rfl | (rw [ho]; done) | (rw [ho]; rfl)) (by rfl) (by first | rfl | (rw [ho]; done) | (rw [ho]; rfl)) ?_); (try rw [← ho]); generalize hr : numB _ = r; (try rw [ho] at hr); (try dsimp only [Ar.real, IX.vo] at hr); (try simp only [QP1, QB7] at hr); cbv) | (refine hK _ _ ?_) | (refine NeedT.mk ?_ ?_) | (refine LoopN.lay (o := o) (D := [(5, [])]) 3 ho hm hT (by kernel_rfl) ?_; cbv))
  all_goals exact .pure fun _ => rfl
theorem d_agents (b : List X) (hb' : b = bA ∨ b = bB) : XC Try.prog 155 [.agg b] [] (.b .t) [] := by
  have a1 := d_number (x := 1) (by decide)
  rcases hb' with rfl | rfl
  all_goals
    (refine XC.of_body ([(4, [])]) Try.func155 rfl Try.ntmps155 mixed (T := [(2, ti2), (3, ti3), (4, ti4), (31, ti31), (52, ti52), (93, ti93), (94, ti94), (95, ti95), (96, ti96), (97, ti97), (98, ti98), (100, ti100), (123, ti123), (165, ti165), (225, ti225)]) (.cons tok2 (.cons tok3 (.cons tok4 (.cons tok31 (.cons tok52 (.cons tok93 (.cons tok94 (.cons tok95 (.cons tok96 (.cons tok97 (.cons tok98 (.cons tok100 (.cons tok123 (.cons tok165 (.cons tok225 .nil))))))))))))))) (by kernel_rfl) (by simp) rfl rfl rfl rfl rfl ?_; rintro o ho P hP c K hK; have hm : P.follows .mixedOrders = true := hP ▸ mixed; have hT : TOk P [(2, ti2), (3, ti3), (4, ti4), (31, ti31), (52, ti52), (93, ti93), (94, ti94), (95, ti95), (96, ti96), (97, ti97), (98, ti98), (100, ti100), (123, ti123), (165, ti165), (225, ti225)] := hP ▸ (.cons tok2 (.cons tok3 (.cons tok4 (.cons tok31 (.cons tok52 (.cons tok93 (.cons tok94 (.cons tok95 (.cons tok96 (.cons tok97 (.cons tok98 (.cons tok100 (.cons tok123 (.cons tok165 (.cons tok225 .nil))))))))))))))); (try rw [← ho]); cbv; (repeat (refine StopN.mk ?_; cbv)))
    repeat' (first | (refine Br.mk (fun hb => ?_) (fun hb => ?_) <;> ((try rw [ho] at hb); (try dsimp only [Ar.real, IX.vo] at hb); (try simp only [QP1, QB7] at hb); (try simp only [QBo, beq_iff_eq, beq_eq_false_iff_ne, ne_eq] at hb))) | (refine StopN.mk ?_; cbv) | (first | refine NeedT.mk (by rw [ho]; rfl) ?_ | (first | refine CallN.pure hP a1 fn190 rfl rfl rfl ?_ | refine CallN.pure hP d_right3 fn180 rfl rfl rfl ?_ | refine CallN.pure hP d_right0 fn180 rfl rfl rfl ?_); cbv) | ((first | refine CallI.pure hP (x_vec_Right _ ‹_›) fn180 (by first | rfl | (rw [ho]; done) | (rw [ho]; rfl)) (by rfl) (by first | rfl | (rw [ho]; done) | (rw [ho]; rfl)) ?_ | refine CallN.pure hP (x_vec_Right _ ‹_›) fn180 (by first | rfl | (rw [ho]; done) | (rw [ho]; rfl)) (by rfl) (by first | rfl | (rw [ho]; done) | (rw [ho]; rfl)) ?_); (try rw [← ho]); generalize hr : vecRight _ = r; (try rw [ho] at hr); (try dsimp only [Ar.real, IX.vo] at hr); (try simp only [QP1, QB7] at hr); cbv) | ((first | refine CallI.pure hP (x_number _) fn190 (by first | rfl | (rw [ho]; done) | (rw [ho]; rfl)) (by rfl) (by first | rfl | (rw [ho]; done) | (rw [ho]; rfl)) ?_ | refine CallN.pure hP (x_number _) fn190 (by first | rfl | (rw [ho]; done) | (rw [ho]; rfl)) (by rfl) (by first | rfl | (rw [ho]; done) | (rw [ho]; rfl)) ?_); (try rw [← ho]); generalize hr : numB _ = r; (try rw [ho] at hr); (try dsimp only [Ar.real, IX.vo] at hr); (try simp only [QP1, QB7] at hr); cbv) | (refine hK _ _ ?_) | (refine NeedT.mk ?_ ?_) | (refine LoopN.lay (o := o) (D := [(4, [])]) 3 ho hm hT (by kernel_rfl) ?_; cbv))
    all_goals exact .pure fun _ => rfl
theorem d_most (b : List X) (hb' : b = bA ∨ b = bB) : XC Try.prog 156 [.agg b] [] (.b .t) [] := by
  rcases hb' with rfl | rfl
  all_goals
    (refine XC.of_body ([(5, [(0, 3), (0, 8), (1, 8), (2, 8), (3, 8), (4, 8)]), (6, [(3, 5), (4, 5), (3, 6), (4, 6), (3, 7), (4, 7), (3, 8), (4, 8)])]) Try.func156 rfl Try.ntmps156 mixed (T := [(2, ti2), (3, ti3), (4, ti4), (31, ti31), (52, ti52), (61, ti61), (93, ti93), (94, ti94), (95, ti95), (96, ti96), (97, ti97), (98, ti98), (100, ti100), (123, ti123), (165, ti165), (225, ti225)]) (.cons tok2 (.cons tok3 (.cons tok4 (.cons tok31 (.cons tok52 (.cons tok61 (.cons tok93 (.cons tok94 (.cons tok95 (.cons tok96 (.cons tok97 (.cons tok98 (.cons tok100 (.cons tok123 (.cons tok165 (.cons tok225 .nil)))))))))))))))) (by kernel_rfl) (by simp) rfl rfl rfl rfl rfl ?_; rintro o ho P hP c K hK; have hm : P.follows .mixedOrders = true := hP ▸ mixed; have hT : TOk P [(2, ti2), (3, ti3), (4, ti4), (31, ti31), (52, ti52), (61, ti61), (93, ti93), (94, ti94), (95, ti95), (96, ti96), (97, ti97), (98, ti98), (100, ti100), (123, ti123), (165, ti165), (225, ti225)] := hP ▸ (.cons tok2 (.cons tok3 (.cons tok4 (.cons tok31 (.cons tok52 (.cons tok61 (.cons tok93 (.cons tok94 (.cons tok95 (.cons tok96 (.cons tok97 (.cons tok98 (.cons tok100 (.cons tok123 (.cons tok165 (.cons tok225 .nil)))))))))))))))); (try rw [← ho]); cbv; (repeat (refine StopN.mk ?_; cbv)))
    repeat' (first | (refine Br.mk (fun hb => ?_) (fun hb => ?_) <;> ((try rw [ho] at hb); (try dsimp only [Ar.real, IX.vo] at hb); (try simp only [QP1, QB7] at hb); (try simp only [QBo, beq_iff_eq, beq_eq_false_iff_ne, ne_eq] at hb))) | (refine StopN.mk ?_; cbv) | (first | refine NeedT.mk (by rw [ho]; rfl) ?_ | (first | refine FrzN.frzv 3 6 rfl rfl rfl (.done ?_) | refine OpN.asl 0 rfl (by rw [hP]; exact tok61.k) (by rw [hP]; exact tok2.sz) (by decide) (by decide) rfl (by decide) (.inl ⟨rfl, rfl⟩) ?_ | refine CallN.pure hP d_of fn122 rfl rfl rfl ?_ | refine CallN.pure hP d_add fn129 rfl rfl rfl ?_ | refine CallN.pure hP d_max fn191 rfl rfl rfl ?_); cbv) | ((first | refine CallI.pure hP (x_sumsOf _ ‹_›) fn122 (by first | rfl | (rw [ho]; done) | (rw [ho]; rfl)) (by rfl) (by first | rfl | (rw [ho]; done) | (rw [ho]; rfl)) ?_ | refine CallN.pure hP (x_sumsOf _ ‹_›) fn122 (by first | rfl | (rw [ho]; done) | (rw [ho]; rfl)) (by rfl) (by first | rfl | (rw [ho]; done) | (rw [ho]; rfl)) ?_); (try rw [← ho]); generalize hr : sumsOf _ = r; (try rw [ho] at hr); (try dsimp only [Ar.real, IX.vo] at hr); (try simp only [QP1, QB7] at hr); cbv) | ((first | refine CallI.pure hP (x_sumsAdd _ _) fn129 (by first | rfl | (rw [ho]; done) | (rw [ho]; rfl)) (by rfl) (by first | rfl | (rw [ho]; done) | (rw [ho]; rfl)) ?_ | refine CallN.pure hP (x_sumsAdd _ _) fn129 (by first | rfl | (rw [ho]; done) | (rw [ho]; rfl)) (by rfl) (by first | rfl | (rw [ho]; done) | (rw [ho]; rfl)) ?_); (try rw [← ho]); generalize hr : sumsAdd _ _ = r; (try rw [ho] at hr); (try dsimp only [Ar.real, IX.vo] at hr); (try simp only [QP1, QB7] at hr); cbv) | (refine hK _ _ ?_) | (refine NeedT.mk ?_ ?_) | (refine LoopN.lay (o := o) (D := [(5, [(0, 3), (0, 8), (1, 8), (2, 8), (3, 8), (4, 8)]), (6, [(3, 5), (4, 5), (3, 6), (4, 6), (3, 7), (4, 7), (3, 8), (4, 8)])]) 3 ho hm hT (by kernel_rfl) ?_; cbv))
    all_goals exact .pure fun _ => rfl
def kA : Bk := ⟨⟨9, 9, 9, 0, 9, ⟨0, 0, 0, 0⟩⟩, 0, 1, [⟨4, 2, 3, true, false, 0, 0⟩], [⟨1, p3, []⟩], [⟨1, 4, 1, p3, 0⟩], [], []⟩
theorem kA_ok : BkOk kA := ⟨by decide, by decide, by decide, by decide, by decide,
  fun i => match i with | 0 => by decide | i + 1 => by show (default : Agt).total.length ≤ _; decide,
  fun i => match i with | 0 => by decide | i + 1 => by show (default : Agt).free.length ≤ _; decide,
  fun i => match i with | 0 => by decide | i + 1 => by show (default : Ofr).vec.length ≤ _; decide,
  fun i => by show (default : Tsk).vec.length ≤ _; decide,
  fun i => by show (default : Flt).vec.length ≤ _; decide⟩
theorem d_frame4 : XC Try.prog 49 [.agg bA, il 4] [] (il 0) [] := XC_at (x_Frame kA kA_ok 4) (fun c => rfl) (fun c => by rw [show atFrame kA.fr 4 = 0 from by decide]; rfl)
theorem d_agent1 : XC Try.prog 51 [.agg bA, il 1] [] (il 0) [] := XC_at (x_Agent kA kA_ok 1) (fun c => rfl) (fun c => by rw [show atAgent kA.ag 1 = 0 from by decide]; rfl)
theorem d_agent2 : XC Try.prog 51 [.agg bA, il 2] [] (il (-1)) [] := XC_at (x_Agent kA kA_ok 2) (fun c => rfl) (fun c => by rw [show atAgent kA.ag 2 = -1 from by decide]; rfl)
theorem d_offer1 : XC Try.prog 53 [.agg bA, il 1] [] (il 0) [] := XC_at (x_Offer kA kA_ok 1) (fun c => rfl) (fun c => by rw [show atOffer kA.of 1 = 0 from by decide]; rfl)
@[reducible] def f4 : X := .agg [il 4, il 2, il 3, .b .t, .b .f, il 0, il 0]
theorem d_held : XC Try.prog 192 [.agg bA, il 4, il 1, l3] [] (.tup [f4, .b .t]) [] := by
  (refine XC.of_body ([(5, [(0, 4), (0, 5), (4, 8), (5, 8), (6, 10), (8, 10)])]) Try.func192 rfl Try.ntmps192 mixed (T := [(2, ti2), (3, ti3), (4, ti4), (31, ti31), (43, ti43), (93, ti93), (94, ti94), (95, ti95), (96, ti96), (97, ti97), (98, ti98), (100, ti100), (123, ti123), (179, ti179), (225, ti225)]) (.cons tok2 (.cons tok3 (.cons tok4 (.cons tok31 (.cons tok43 (.cons tok93 (.cons tok94 (.cons tok95 (.cons tok96 (.cons tok97 (.cons tok98 (.cons tok100 (.cons tok123 (.cons tok179 (.cons tok225 .nil))))))))))))))) (by kernel_rfl) (by simp) rfl rfl rfl rfl rfl ?_; rintro o ho P hP c K hK; have hm : P.follows .mixedOrders = true := hP ▸ mixed; have hT : TOk P [(2, ti2), (3, ti3), (4, ti4), (31, ti31), (43, ti43), (93, ti93), (94, ti94), (95, ti95), (96, ti96), (97, ti97), (98, ti98), (100, ti100), (123, ti123), (179, ti179), (225, ti225)] := hP ▸ (.cons tok2 (.cons tok3 (.cons tok4 (.cons tok31 (.cons tok43 (.cons tok93 (.cons tok94 (.cons tok95 (.cons tok96 (.cons tok97 (.cons tok98 (.cons tok100 (.cons tok123 (.cons tok179 (.cons tok225 .nil))))))))))))))); (try rw [← ho]); cbv; (repeat (refine StopN.mk ?_; cbv)))
  repeat' (first | (refine Br.mk (fun hb => ?_) (fun hb => ?_) <;> ((try rw [ho] at hb); (try dsimp only [Ar.real, IX.vo] at hb); (try simp only [QP1, QB7] at hb); (try simp only [QBo, beq_iff_eq, beq_eq_false_iff_ne, ne_eq] at hb))) | (refine StopN.mk ?_; cbv) | (first | refine NeedT.mk (by rw [ho]; rfl) ?_ | (first | refine CallI.pure hP d_frame4 fn49 rfl rfl rfl ?_ | refine CallI.pure hP d_agent1 fn51 rfl rfl rfl ?_ | refine CallI.pure hP d_right3 fn180 rfl rfl rfl ?_ | refine CallN.pure hP d_only fn214 rfl rfl rfl ?_); cbv) | ((first | refine CallI.pure hP (x_Frame _ ‹_› _) fn49 (by first | rfl | (rw [ho]; done) | (rw [ho]; rfl)) (by rfl) (by first | rfl | (rw [ho]; done) | (rw [ho]; rfl)) ?_ | refine CallN.pure hP (x_Frame _ ‹_› _) fn49 (by first | rfl | (rw [ho]; done) | (rw [ho]; rfl)) (by rfl) (by first | rfl | (rw [ho]; done) | (rw [ho]; rfl)) ?_); (try rw [← ho]); generalize hr : atFrame _ _ = r; (try rw [ho] at hr); (try dsimp only [Ar.real, IX.vo] at hr); (try simp only [QP1, QB7] at hr); cbv) | ((first | refine CallI.pure hP (x_Agent _ ‹_› _) fn51 (by first | rfl | (rw [ho]; done) | (rw [ho]; rfl)) (by rfl) (by first | rfl | (rw [ho]; done) | (rw [ho]; rfl)) ?_ | refine CallN.pure hP (x_Agent _ ‹_› _) fn51 (by first | rfl | (rw [ho]; done) | (rw [ho]; rfl)) (by rfl) (by first | rfl | (rw [ho]; done) | (rw [ho]; rfl)) ?_); (try rw [← ho]); generalize hr : atAgent _ _ = r; (try rw [ho] at hr); (try dsimp only [Ar.real, IX.vo] at hr); (try simp only [QP1, QB7] at hr); cbv) | ((first | refine CallI.pure hP (x_vec_Right _ ‹_›) fn180 (by first | rfl | (rw [ho]; done) | (rw [ho]; rfl)) (by rfl) (by first | rfl | (rw [ho]; done) | (rw [ho]; rfl)) ?_ | refine CallN.pure hP (x_vec_Right _ ‹_›) fn180 (by first | rfl | (rw [ho]; done) | (rw [ho]; rfl)) (by rfl) (by first | rfl | (rw [ho]; done) | (rw [ho]; rfl)) ?_); (try rw [← ho]); generalize hr : vecRight _ = r; (try rw [ho] at hr); (try dsimp only [Ar.real, IX.vo] at hr); (try simp only [QP1, QB7] at hr); cbv) | ((first | refine CallI.pure hP (x_Only _ _ ‹_› ‹_›) fn214 (by first | rfl | (rw [ho]; done) | (rw [ho]; rfl)) (by rfl) (by first | rfl | (rw [ho]; done) | (rw [ho]; rfl)) ?_ | refine CallN.pure hP (x_Only _ _ ‹_› ‹_›) fn214 (by first | rfl | (rw [ho]; done) | (rw [ho]; rfl)) (by rfl) (by first | rfl | (rw [ho]; done) | (rw [ho]; rfl)) ?_); (try rw [← ho]); generalize hr : onlyR _ _ = r; (try rw [ho] at hr); (try dsimp only [Ar.real, IX.vo] at hr); (try simp only [QP1, QB7] at hr); cbv) | (refine hK _ _ ?_) | (refine NeedT.mk ?_ ?_))
  exact .pure fun _ => rfl
theorem d_offersA : XC Try.prog 157 [.agg bA] [] (.b .t) [] := by
  (refine XC.of_body ([(5, [])]) Try.func157 rfl Try.ntmps157 mixed (T := [(2, ti2), (3, ti3), (4, ti4), (31, ti31), (52, ti52), (93, ti93), (94, ti94), (95, ti95), (96, ti96), (97, ti97), (98, ti98), (100, ti100), (123, ti123), (167, ti167), (179, ti179), (225, ti225)]) (.cons tok2 (.cons tok3 (.cons tok4 (.cons tok31 (.cons tok52 (.cons tok93 (.cons tok94 (.cons tok95 (.cons tok96 (.cons tok97 (.cons tok98 (.cons tok100 (.cons tok123 (.cons tok167 (.cons tok179 (.cons tok225 .nil)))))))))))))))) (by kernel_rfl) (by simp) rfl rfl rfl rfl rfl ?_; rintro o ho P hP c K hK; have hm : P.follows .mixedOrders = true := hP ▸ mixed; have hT : TOk P [(2, ti2), (3, ti3), (4, ti4), (31, ti31), (52, ti52), (93, ti93), (94, ti94), (95, ti95), (96, ti96), (97, ti97), (98, ti98), (100, ti100), (123, ti123), (167, ti167), (179, ti179), (225, ti225)] := hP ▸ (.cons tok2 (.cons tok3 (.cons tok4 (.cons tok31 (.cons tok52 (.cons tok93 (.cons tok94 (.cons tok95 (.cons tok96 (.cons tok97 (.cons tok98 (.cons tok100 (.cons tok123 (.cons tok167 (.cons tok179 (.cons tok225 .nil)))))))))))))))); (try rw [← ho]); cbv; (repeat (refine StopN.mk ?_; cbv)))
  repeat' (first | (refine Br.mk (fun hb => ?_) (fun hb => ?_) <;> ((try rw [ho] at hb); (try dsimp only [Ar.real, IX.vo] at hb); (try simp only [QP1, QB7] at hb); (try simp only [QBo, beq_iff_eq, beq_eq_false_iff_ne, ne_eq] at hb))) | (refine StopN.mk ?_; cbv) | (first | refine NeedT.mk (by rw [ho]; rfl) ?_ | (first | refine CallI.pure hP d_held fn192 rfl rfl rfl ?_ | refine CallN.pure hP d_held fn192 rfl rfl rfl ?_); cbv) | (refine hK _ _ ?_) | (refine NeedT.mk ?_ ?_) | (refine LoopN.lay (o := o) (D := [(5, [])]) 3 ho hm hT (by kernel_rfl) ?_; cbv))
  all_goals exact .pure fun _ => rfl
theorem d_offersB : XC Try.prog 157 [.agg bB] [] (.b .t) [] := by
  (refine XC.of_body ([(5, [])]) Try.func157 rfl Try.ntmps157 mixed (T := [(2, ti2), (3, ti3), (4, ti4), (31, ti31), (52, ti52), (93, ti93), (94, ti94), (95, ti95), (96, ti96), (97, ti97), (98, ti98), (100, ti100), (123, ti123), (167, ti167), (179, ti179), (225, ti225)]) (.cons tok2 (.cons tok3 (.cons tok4 (.cons tok31 (.cons tok52 (.cons tok93 (.cons tok94 (.cons tok95 (.cons tok96 (.cons tok97 (.cons tok98 (.cons tok100 (.cons tok123 (.cons tok167 (.cons tok179 (.cons tok225 .nil)))))))))))))))) (by kernel_rfl) (by simp) rfl rfl rfl rfl rfl ?_; rintro o ho P hP c K hK; have hm : P.follows .mixedOrders = true := hP ▸ mixed; have hT : TOk P [(2, ti2), (3, ti3), (4, ti4), (31, ti31), (52, ti52), (93, ti93), (94, ti94), (95, ti95), (96, ti96), (97, ti97), (98, ti98), (100, ti100), (123, ti123), (167, ti167), (179, ti179), (225, ti225)] := hP ▸ (.cons tok2 (.cons tok3 (.cons tok4 (.cons tok31 (.cons tok52 (.cons tok93 (.cons tok94 (.cons tok95 (.cons tok96 (.cons tok97 (.cons tok98 (.cons tok100 (.cons tok123 (.cons tok167 (.cons tok179 (.cons tok225 .nil)))))))))))))))); (try rw [← ho]); cbv; (repeat (refine StopN.mk ?_; cbv)))
  repeat' (first | (refine Br.mk (fun hb => ?_) (fun hb => ?_) <;> ((try rw [ho] at hb); (try dsimp only [Ar.real, IX.vo] at hb); (try simp only [QP1, QB7] at hb); (try simp only [QBo, beq_iff_eq, beq_eq_false_iff_ne, ne_eq] at hb))) | (refine StopN.mk ?_; cbv) | (refine NeedT.mk (by rw [ho]; rfl) ?_) | (refine hK _ _ ?_) | (refine NeedT.mk ?_ ?_) | (refine LoopN.lay (o := o) (D := [(5, [])]) 3 ho hm hT (by kernel_rfl) ?_; cbv))
  all_goals exact .pure fun _ => rfl
theorem d_tasks (b : List X) (hb' : b = bA ∨ b = bB) : XC Try.prog 158 [.agg b] [] (.b .t) [] := by
  rcases hb' with rfl | rfl
  all_goals
    (refine XC.of_body ([(7, [(13, 14), (13, 15), (13, 16), (13, 19), (13, 20), (13, 21), (13, 22), (13, 23)])]) Try.func158 rfl Try.ntmps158 mixed (T := [(2, ti2), (3, ti3), (4, ti4), (31, ti31), (43, ti43), (52, ti52), (93, ti93), (94, ti94), (95, ti95), (96, ti96), (97, ti97), (98, ti98), (100, ti100), (123, ti123), (169, ti169), (179, ti179), (225, ti225)]) (.cons tok2 (.cons tok3 (.cons tok4 (.cons tok31 (.cons tok43 (.cons tok52 (.cons tok93 (.cons tok94 (.cons tok95 (.cons tok96 (.cons tok97 (.cons tok98 (.cons tok100 (.cons tok123 (.cons tok169 (.cons tok179 (.cons tok225 .nil))))))))))))))))) (by kernel_rfl) (by simp) rfl rfl rfl rfl rfl ?_; rintro o ho P hP c K hK; have hm : P.follows .mixedOrders = true := hP ▸ mixed; have hT : TOk P [(2, ti2), (3, ti3), (4, ti4), (31, ti31), (43, ti43), (52, ti52), (93, ti93), (94, ti94), (95, ti95), (96, ti96), (97, ti97), (98, ti98), (100, ti100), (123, ti123), (169, ti169), (179, ti179), (225, ti225)] := hP ▸ (.cons tok2 (.cons tok3 (.cons tok4 (.cons tok31 (.cons tok43 (.cons tok52 (.cons tok93 (.cons tok94 (.cons tok95 (.cons tok96 (.cons tok97 (.cons tok98 (.cons tok100 (.cons tok123 (.cons tok169 (.cons tok179 (.cons tok225 .nil))))))))))))))))); (try rw [← ho]); cbv; (repeat (refine StopN.mk ?_; cbv)))
    repeat' (first | (refine Br.mk (fun hb => ?_) (fun hb => ?_) <;> ((try rw [ho] at hb); (try dsimp only [Ar.real, IX.vo] at hb); (try simp only [QP1, QB7] at hb); (try simp only [QBo, beq_iff_eq, beq_eq_false_iff_ne, ne_eq] at hb))) | (refine StopN.mk ?_; cbv) | (refine NeedT.mk (by rw [ho]; rfl) ?_) | ((first | refine CallI.pure hP (x_Or3 _ _ _) fn99 (by first | rfl | (rw [ho]; done) | (rw [ho]; rfl)) (by rfl) (by first | rfl | (rw [ho]; done) | (rw [ho]; rfl)) ?_ | refine CallN.pure hP (x_Or3 _ _ _) fn99 (by first | rfl | (rw [ho]; done) | (rw [ho]; rfl)) (by rfl) (by first | rfl | (rw [ho]; done) | (rw [ho]; rfl)) ?_); (try rw [← ho]); generalize hr : or3 _ _ _ = r; (try rw [ho] at hr); (try dsimp only [Ar.real, IX.vo] at hr); (try simp only [QP1, QB7] at hr); cbv) | ((first | refine CallI.pure hP (x_CmpL _ _) fn101 (by first | rfl | (rw [ho]; done) | (rw [ho]; rfl)) (by rfl) (by first | rfl | (rw [ho]; done) | (rw [ho]; rfl)) ?_ | refine CallN.pure hP (x_CmpL _ _) fn101 (by first | rfl | (rw [ho]; done) | (rw [ho]; rfl)) (by rfl) (by first | rfl | (rw [ho]; done) | (rw [ho]; rfl)) ?_); (try rw [← ho]); generalize hr : cmpI _ _ = r; (try rw [ho] at hr); (try dsimp only [Ar.real, IX.vo] at hr); (try simp only [QP1, QB7] at hr); cbv) | ((first | refine CallI.pure hP (x_number _) fn190 (by first | rfl | (rw [ho]; done) | (rw [ho]; rfl)) (by rfl) (by first | rfl | (rw [ho]; done) | (rw [ho]; rfl)) ?_ | refine CallN.pure hP (x_number _) fn190 (by first | rfl | (rw [ho]; done) | (rw [ho]; rfl)) (by rfl) (by first | rfl | (rw [ho]; done) | (rw [ho]; rfl)) ?_); (try rw [← ho]); generalize hr : numB _ = r; (try rw [ho] at hr); (try dsimp only [Ar.real, IX.vo] at hr); (try simp only [QP1, QB7] at hr); cbv) | (refine hK _ _ ?_) | (refine NeedT.mk ?_ ?_) | (refine LoopN.lay (o := o) (D := [(7, [(13, 14), (13, 15), (13, 16), (13, 19), (13, 20), (13, 21), (13, 22), (13, 23)])]) 3 ho hm hT (by kernel_rfl) ?_; cbv))
    all_goals exact .pure fun _ => rfl
theorem d_filters (b : List X) (hb' : b = bA ∨ b = bB) : XC Try.prog 159 [.agg b] [] (.b .t) [] := by
  rcases hb' with rfl | rfl
  all_goals
    (refine XC.of_body ([(6, [])]) Try.func159 rfl Try.ntmps159 mixed (T := [(2, ti2), (3, ti3), (4, ti4), (31, ti31), (52, ti52), (93, ti93), (94, ti94), (95, ti95), (96, ti96), (97, ti97), (98, ti98), (100, ti100), (123, ti123), (171, ti171), (225, ti225)]) (.cons tok2 (.cons tok3 (.cons tok4 (.cons tok31 (.cons tok52 (.cons tok93 (.cons tok94 (.cons tok95 (.cons tok96 (.cons tok97 (.cons tok98 (.cons tok100 (.cons tok123 (.cons tok171 (.cons tok225 .nil))))))))))))))) (by kernel_rfl) (by simp) rfl rfl rfl rfl rfl ?_; rintro o ho P hP c K hK; have hm : P.follows .mixedOrders = true := hP ▸ mixed; have hT : TOk P [(2, ti2), (3, ti3), (4, ti4), (31, ti31), (52, ti52), (93, ti93), (94, ti94), (95, ti95), (96, ti96), (97, ti97), (98, ti98), (100, ti100), (123, ti123), (171, ti171), (225, ti225)] := hP ▸ (.cons tok2 (.cons tok3 (.cons tok4 (.cons tok31 (.cons tok52 (.cons tok93 (.cons tok94 (.cons tok95 (.cons tok96 (.cons tok97 (.cons tok98 (.cons tok100 (.cons tok123 (.cons tok171 (.cons tok225 .nil))))))))))))))); (try rw [← ho]); cbv; (repeat (refine StopN.mk ?_; cbv)))
    repeat' (first | (refine Br.mk (fun hb => ?_) (fun hb => ?_) <;> ((try rw [ho] at hb); (try dsimp only [Ar.real, IX.vo] at hb); (try simp only [QP1, QB7] at hb); (try simp only [QBo, beq_iff_eq, beq_eq_false_iff_ne, ne_eq] at hb))) | (refine StopN.mk ?_; cbv) | (refine NeedT.mk (by rw [ho]; rfl) ?_) | ((first | refine CallI.pure hP (x_Frame _ ‹_› _) fn49 (by first | rfl | (rw [ho]; done) | (rw [ho]; rfl)) (by rfl) (by first | rfl | (rw [ho]; done) | (rw [ho]; rfl)) ?_ | refine CallN.pure hP (x_Frame _ ‹_› _) fn49 (by first | rfl | (rw [ho]; done) | (rw [ho]; rfl)) (by rfl) (by first | rfl | (rw [ho]; done) | (rw [ho]; rfl)) ?_); (try rw [← ho]); generalize hr : atFrame _ _ = r; (try rw [ho] at hr); (try dsimp only [Ar.real, IX.vo] at hr); (try simp only [QP1, QB7] at hr); cbv) | ((first | refine CallI.pure hP (x_Agent _ ‹_› _) fn51 (by first | rfl | (rw [ho]; done) | (rw [ho]; rfl)) (by rfl) (by first | rfl | (rw [ho]; done) | (rw [ho]; rfl)) ?_ | refine CallN.pure hP (x_Agent _ ‹_› _) fn51 (by first | rfl | (rw [ho]; done) | (rw [ho]; rfl)) (by rfl) (by first | rfl | (rw [ho]; done) | (rw [ho]; rfl)) ?_); (try rw [← ho]); generalize hr : atAgent _ _ = r; (try rw [ho] at hr); (try dsimp only [Ar.real, IX.vo] at hr); (try simp only [QP1, QB7] at hr); cbv) | ((first | refine CallI.pure hP (x_vec_Right _ ‹_›) fn180 (by first | rfl | (rw [ho]; done) | (rw [ho]; rfl)) (by rfl) (by first | rfl | (rw [ho]; done) | (rw [ho]; rfl)) ?_ | refine CallN.pure hP (x_vec_Right _ ‹_›) fn180 (by first | rfl | (rw [ho]; done) | (rw [ho]; rfl)) (by rfl) (by first | rfl | (rw [ho]; done) | (rw [ho]; rfl)) ?_); (try rw [← ho]); generalize hr : vecRight _ = r; (try rw [ho] at hr); (try dsimp only [Ar.real, IX.vo] at hr); (try simp only [QP1, QB7] at hr); cbv) | (refine hK _ _ ?_) | (refine NeedT.mk ?_ ?_) | (refine LoopN.lay (o := o) (D := [(6, [])]) 3 ho hm hT (by kernel_rfl) ?_; cbv))
    all_goals exact .pure fun _ => rfl
@[reducible] def mB : MX := .put .nil [.lit 1] l0
@[reducible] def mA : MX := .put mB [.lit 1] l3
@[reducible] def ldO (v : Nat) (m : MX) : List OX := [.var [.mp (.out 2)] 260, .var [.b .t] 4, .map v false 1 m]
theorem d_led0 : XC Try.prog 194 [il 1, l0, .ptr (.out 0) 0, .ptr (.out 1) 0] (ldO 0 .nil) (.tup []) (ldO 1 mB) := by
  (refine XC.of_body ([]) Try.func194 rfl Try.ntmps194 mixed (T := [(2, ti2), (4, ti4), (31, ti31), (260, ti260)]) (.cons tok2 (.cons tok4 (.cons tok31 (.cons tok260 .nil)))) (by kernel_rfl) (by simp) rfl rfl rfl rfl rfl ?_; rintro o ho P hP c K hK; have hm : P.follows .mixedOrders = true := hP ▸ mixed; have hT : TOk P [(2, ti2), (4, ti4), (31, ti31), (260, ti260)] := hP ▸ (.cons tok2 (.cons tok4 (.cons tok31 (.cons tok260 .nil)))); (try rw [← ho]); cbv; (repeat (refine StopN.mk ?_; cbv)))
  repeat' (first | (refine Br.mk (fun hb => ?_) (fun hb => ?_) <;> ((try rw [ho] at hb); (try dsimp only [Ar.real, IX.vo] at hb); (try simp only [QP1, QB7] at hb); (try simp only [QBo, beq_iff_eq, beq_eq_false_iff_ne, ne_eq] at hb))) | (refine StopN.mk ?_; cbv) | (first | refine NeedT.mk (by rw [ho]; rfl) ?_ | (first | refine CallI.pure hP d_add0 fn195 rfl rfl rfl ?_ | refine CallN.pure hP d_add0 fn195 rfl rfl rfl ?_); cbv) | (refine hK _ _ ?_) | (refine NeedT.mk ?_ ?_))
  exact ⟨fun _ => rfl, upLr _⟩
theorem d_led3 : XC Try.prog 194 [il 1, l3, .ptr (.out 0) 0, .ptr (.out 1) 0] (ldO 1 mB) (.tup []) (ldO 2 mA) := by
  (refine XC.of_body ([]) Try.func194 rfl Try.ntmps194 mixed (T := [(2, ti2), (4, ti4), (31, ti31), (260, ti260)]) (.cons tok2 (.cons tok4 (.cons tok31 (.cons tok260 .nil)))) (by kernel_rfl) (by simp) rfl rfl rfl rfl rfl ?_; rintro o ho P hP c K hK; have hm : P.follows .mixedOrders = true := hP ▸ mixed; have hT : TOk P [(2, ti2), (4, ti4), (31, ti31), (260, ti260)] := hP ▸ (.cons tok2 (.cons tok4 (.cons tok31 (.cons tok260 .nil)))); (try rw [← ho]); cbv; (repeat (refine StopN.mk ?_; cbv)))
  repeat' (first | (refine Br.mk (fun hb => ?_) (fun hb => ?_) <;> ((try rw [ho] at hb); (try dsimp only [Ar.real, IX.vo] at hb); (try simp only [QP1, QB7] at hb); (try simp only [QBo, beq_iff_eq, beq_eq_false_iff_ne, ne_eq] at hb))) | (refine StopN.mk ?_; cbv) | (first | refine NeedT.mk (by rw [ho]; rfl) ?_ | (first | refine CallI.pure hP d_add3 fn195 rfl rfl rfl ?_ | refine CallN.pure hP d_add3 fn195 rfl rfl rfl ?_); cbv) | (refine hK _ _ ?_) | (refine NeedT.mk ?_ ?_))
  exact ⟨fun _ => rfl, upLr _⟩
@[reducible] def lgO (v : Nat) (m : MX) : List OX := [.var [.mp (.out 1)] 260, .map v false 1 m]
theorem d_lsA : XC Try.prog 197 [.agg [il 1, l3, l0], .ptr (.out 0) 0] (lgO 2 mA) (.b .f) (lgO 2 mA) := by
  (refine XC.of_body ([]) Try.func197 rfl Try.ntmps197 mixed (T := [(2, ti2), (4, ti4), (31, ti31), (123, ti123), (165, ti165), (260, ti260)]) (.cons tok2 (.cons tok4 (.cons tok31 (.cons tok123 (.cons tok165 (.cons tok260 .nil)))))) (by kernel_rfl) (by simp) rfl rfl rfl rfl rfl ?_; rintro o ho P hP c K hK; have hm : P.follows .mixedOrders = true := hP ▸ mixed; have hT : TOk P [(2, ti2), (4, ti4), (31, ti31), (123, ti123), (165, ti165), (260, ti260)] := hP ▸ (.cons tok2 (.cons tok4 (.cons tok31 (.cons tok123 (.cons tok165 (.cons tok260 .nil)))))); (try rw [← ho]); cbv; (repeat (refine StopN.mk ?_; cbv)))
  repeat' (first | (refine Br.mk (fun hb => ?_) (fun hb => ?_) <;> ((try rw [ho] at hb); (try dsimp only [Ar.real, IX.vo] at hb); (try simp only [QP1, QB7] at hb); (try simp only [QBo, beq_iff_eq, beq_eq_false_iff_ne, ne_eq] at hb))) | (refine StopN.mk ?_; cbv) | (first | refine NeedT.mk (by rw [ho]; rfl) ?_ | (first | refine CallI.pure hP d_same fn198 rfl rfl rfl ?_ | refine CallN.pure hP d_same fn198 rfl rfl rfl ?_); cbv) | ((first | refine CallI.pure hP (x_SameV _ _ ‹_›) fn198 (by first | rfl | (rw [ho]; done) | (rw [ho]; rfl)) (by rfl) (by first | rfl | (rw [ho]; done) | (rw [ho]; rfl)) ?_ | refine CallN.pure hP (x_SameV _ _ ‹_›) fn198 (by first | rfl | (rw [ho]; done) | (rw [ho]; rfl)) (by rfl) (by first | rfl | (rw [ho]; done) | (rw [ho]; rfl)) ?_); (try rw [← ho]); generalize hr : vEq _ _ = r; (try rw [ho] at hr); (try dsimp only [Ar.real, IX.vo] at hr); (try simp only [QP1, QB7] at hr); cbv) | (refine hK _ _ ?_) | (refine NeedT.mk ?_ ?_))
  exact ⟨fun _ => rfl, upLr _⟩
theorem d_lsB : XC Try.prog 197 [.agg [il 1, l3, l0], .ptr (.out 0) 0] (lgO 1 mB) (.b .t) (lgO 1 mB) := by
  (refine XC.of_body ([]) Try.func197 rfl Try.ntmps197 mixed (T := [(2, ti2), (4, ti4), (31, ti31), (123, ti123), (165, ti165), (260, ti260)]) (.cons tok2 (.cons tok4 (.cons tok31 (.cons tok123 (.cons tok165 (.cons tok260 .nil)))))) (by kernel_rfl) (by simp) rfl rfl rfl rfl rfl ?_; rintro o ho P hP c K hK; have hm : P.follows .mixedOrders = true := hP ▸ mixed; have hT : TOk P [(2, ti2), (4, ti4), (31, ti31), (123, ti123), (165, ti165), (260, ti260)] := hP ▸ (.cons tok2 (.cons tok4 (.cons tok31 (.cons tok123 (.cons tok165 (.cons tok260 .nil)))))); (try rw [← ho]); cbv; (repeat (refine StopN.mk ?_; cbv)))
  repeat' (first | (refine Br.mk (fun hb => ?_) (fun hb => ?_) <;> ((try rw [ho] at hb); (try dsimp only [Ar.real, IX.vo] at hb); (try simp only [QP1, QB7] at hb); (try simp only [QBo, beq_iff_eq, beq_eq_false_iff_ne, ne_eq] at hb))) | (refine StopN.mk ?_; cbv) | (first | refine NeedT.mk (by rw [ho]; rfl) ?_ | (first | refine CallI.pure hP d_same0 fn198 rfl rfl rfl ?_ | refine CallN.pure hP d_same0 fn198 rfl rfl rfl ?_); cbv) | ((first | refine CallI.pure hP (x_SameV _ _ ‹_›) fn198 (by first | rfl | (rw [ho]; done) | (rw [ho]; rfl)) (by rfl) (by first | rfl | (rw [ho]; done) | (rw [ho]; rfl)) ?_ | refine CallN.pure hP (x_SameV _ _ ‹_›) fn198 (by first | rfl | (rw [ho]; done) | (rw [ho]; rfl)) (by rfl) (by first | rfl | (rw [ho]; done) | (rw [ho]; rfl)) ?_); (try rw [← ho]); generalize hr : vEq _ _ = r; (try rw [ho] at hr); (try dsimp only [Ar.real, IX.vo] at hr); (try simp only [QP1, QB7] at hr); cbv) | (refine hK _ _ ?_) | (refine NeedT.mk ?_ ?_))
  exact ⟨fun _ => rfl, upLr _⟩
theorem d_ixA : XC Try.prog 105 [agL, .fn (.func 197) [] [.ptr (.out 0) 0]] (lgO 2 mA) (il (-1)) (lgO 2 mA) := by
  (refine XC.of_body ([]) Try.func105 rfl Try.ntmps105 mixed (T := [(2, ti2), (3, ti3), (31, ti31), (95, ti95), (165, ti165)]) (.cons tok2 (.cons tok3 (.cons tok31 (.cons tok95 (.cons tok165 .nil))))) (by kernel_rfl) (by simp) rfl rfl rfl rfl rfl ?_; rintro o ho P hP c K hK; have hm : P.follows .mixedOrders = true := hP ▸ mixed; have hT : TOk P [(2, ti2), (3, ti3), (31, ti31), (95, ti95), (165, ti165)] := hP ▸ (.cons tok2 (.cons tok3 (.cons tok31 (.cons tok95 (.cons tok165 .nil))))); (try rw [← ho]); cbv; (repeat (refine StopN.mk ?_; cbv)))
  repeat' (first | (refine Br.mk (fun hb => ?_) (fun hb => ?_) <;> ((try rw [ho] at hb); (try dsimp only [Ar.real, IX.vo] at hb); (try simp only [QP1, QB7] at hb); (try simp only [QBo, beq_iff_eq, beq_eq_false_iff_ne, ne_eq] at hb))) | (refine StopN.mk ?_; cbv) | (first | refine NeedT.mk (by rw [ho]; rfl) ?_ | (first | refine CallI.objs [.out 0, .out 1] hP d_lsA fn197 rfl rfl rfl rfl (by rfl) rfl rfl rfl rfl (by rfl) ⟨⟨_, rfl, rfl⟩, ⟨_, rfl, rfl⟩, trivial⟩ ?_ | refine CallN.objs [.out 0, .out 1] hP d_lsA fn197 rfl rfl rfl rfl (by rfl) rfl rfl rfl rfl (by rfl) ⟨⟨_, rfl, rfl⟩, ⟨_, rfl, rfl⟩, trivial⟩ ?_); cbv) | (refine hK _ _ ?_) | (refine NeedT.mk ?_ ?_) | (refine LoopN.lay (o := o) (D := []) 3 ho hm hT (by kernel_rfl) ?_; cbv))
  exact ⟨fun _ => rfl, upLr _⟩
theorem d_ixB : XC Try.prog 105 [agL, .fn (.func 197) [] [.ptr (.out 0) 0]] (lgO 1 mB) (il 0) (lgO 1 mB) := by
  (refine XC.of_body ([]) Try.func105 rfl Try.ntmps105 mixed (T := [(2, ti2), (3, ti3), (31, ti31), (95, ti95), (165, ti165)]) (.cons tok2 (.cons tok3 (.cons tok31 (.cons tok95 (.cons tok165 .nil))))) (by kernel_rfl) (by simp) rfl rfl rfl rfl rfl ?_; rintro o ho P hP c K hK; have hm : P.follows .mixedOrders = true := hP ▸ mixed; have hT : TOk P [(2, ti2), (3, ti3), (31, ti31), (95, ti95), (165, ti165)] := hP ▸ (.cons tok2 (.cons tok3 (.cons tok31 (.cons tok95 (.cons tok165 .nil))))); (try rw [← ho]); cbv; (repeat (refine StopN.mk ?_; cbv)))
  repeat' (first | (refine Br.mk (fun hb => ?_) (fun hb => ?_) <;> ((try rw [ho] at hb); (try dsimp only [Ar.real, IX.vo] at hb); (try simp only [QP1, QB7] at hb); (try simp only [QBo, beq_iff_eq, beq_eq_false_iff_ne, ne_eq] at hb))) | (refine StopN.mk ?_; cbv) | (first | refine NeedT.mk (by rw [ho]; rfl) ?_ | (first | refine CallI.objs [.out 0, .out 1] hP d_lsB fn197 rfl rfl rfl rfl (by rfl) rfl rfl rfl rfl (by rfl) ⟨⟨_, rfl, rfl⟩, ⟨_, rfl, rfl⟩, trivial⟩ ?_ | refine CallN.objs [.out 0, .out 1] hP d_lsB fn197 rfl rfl rfl rfl (by rfl) rfl rfl rfl rfl (by rfl) ⟨⟨_, rfl, rfl⟩, ⟨_, rfl, rfl⟩, trivial⟩ ?_); cbv) | (refine hK _ _ ?_) | (refine NeedT.mk ?_ ?_) | (refine LoopN.lay (o := o) (D := []) 3 ho hm hT (by kernel_rfl) ?_; cbv))
  exact ⟨fun _ => rfl, upLr _⟩
theorem d_ctA : XC Try.prog 196 [agL, .fn (.func 197) [] [.ptr (.out 0) 0]] (lgO 2 mA) (.b .f) (lgO 2 mA) := by
  (refine XC.of_body ([]) Try.func196 rfl Try.ntmps196 mixed (T := [(3, ti3)]) (.cons tok3 .nil) (by kernel_rfl) (by simp) rfl rfl rfl rfl rfl ?_; rintro o ho P hP c K hK; have hm : P.follows .mixedOrders = true := hP ▸ mixed; have hT : TOk P [(3, ti3)] := hP ▸ (.cons tok3 .nil); (try rw [← ho]); cbv; (repeat (refine StopN.mk ?_; cbv)))
  repeat' (first | (refine Br.mk (fun hb => ?_) (fun hb => ?_) <;> ((try rw [ho] at hb); (try dsimp only [Ar.real, IX.vo] at hb); (try simp only [QP1, QB7] at hb); (try simp only [QBo, beq_iff_eq, beq_eq_false_iff_ne, ne_eq] at hb))) | (refine StopN.mk ?_; cbv) | ((first | refine CallI.objs [.out 0, .out 1] hP d_ixA fn105 rfl rfl rfl rfl (by rfl) rfl rfl rfl rfl (by rfl) ⟨⟨_, rfl, rfl⟩, ⟨_, rfl, rfl⟩, trivial⟩ ?_ | refine CallN.objs [.out 0, .out 1] hP d_ixA fn105 rfl rfl rfl rfl (by rfl) rfl rfl rfl rfl (by rfl) ⟨⟨_, rfl, rfl⟩, ⟨_, rfl, rfl⟩, trivial⟩ ?_); cbv) | (refine hK _ _ ?_) | (refine NeedT.mk ?_ ?_))
  exact ⟨fun _ => rfl, upLr _⟩
theorem d_ctB : XC Try.prog 196 [agL, .fn (.func 197) [] [.ptr (.out 0) 0]] (lgO 1 mB) (.b .t) (lgO 1 mB) := by
  (refine XC.of_body ([]) Try.func196 rfl Try.ntmps196 mixed (T := [(3, ti3)]) (.cons tok3 .nil) (by kernel_rfl) (by simp) rfl rfl rfl rfl rfl ?_; rintro o ho P hP c K hK; have hm : P.follows .mixedOrders = true := hP ▸ mixed; have hT : TOk P [(3, ti3)] := hP ▸ (.cons tok3 .nil); (try rw [← ho]); cbv; (repeat (refine StopN.mk ?_; cbv)))
  repeat' (first | (refine Br.mk (fun hb => ?_) (fun hb => ?_) <;> ((try rw [ho] at hb); (try dsimp only [Ar.real, IX.vo] at hb); (try simp only [QP1, QB7] at hb); (try simp only [QBo, beq_iff_eq, beq_eq_false_iff_ne, ne_eq] at hb))) | (refine StopN.mk ?_; cbv) | ((first | refine CallI.objs [.out 0, .out 1] hP d_ixB fn105 rfl rfl rfl rfl (by rfl) rfl rfl rfl rfl (by rfl) ⟨⟨_, rfl, rfl⟩, ⟨_, rfl, rfl⟩, trivial⟩ ?_ | refine CallN.objs [.out 0, .out 1] hP d_ixB fn105 rfl rfl rfl rfl (by rfl) rfl rfl rfl rfl (by rfl) ⟨⟨_, rfl, rfl⟩, ⟨_, rfl, rfl⟩, trivial⟩ ?_); cbv) | (refine hK _ _ ?_) | (refine NeedT.mk ?_ ?_))
  exact ⟨fun _ => rfl, upLr _⟩
theorem d_ledgerA : XC Try.prog 160 [.agg bA] [] (.b .t) [] := by
  (refine XC.of_body ([]) Try.func160 rfl Try.ntmps160 mixed (T := [(2, ti2), (3, ti3), (4, ti4), (31, ti31), (93, ti93), (94, ti94), (95, ti95), (96, ti96), (97, ti97), (98, ti98), (100, ti100), (123, ti123), (165, ti165), (167, ti167), (169, ti169), (225, ti225), (260, ti260)]) (.cons tok2 (.cons tok3 (.cons tok4 (.cons tok31 (.cons tok93 (.cons tok94 (.cons tok95 (.cons tok96 (.cons tok97 (.cons tok98 (.cons tok100 (.cons tok123 (.cons tok165 (.cons tok167 (.cons tok169 (.cons tok225 (.cons tok260 .nil))))))))))))))))) (by kernel_rfl) (by simp) rfl rfl rfl rfl rfl ?_; rintro o ho P hP c K hK; have hm : P.follows .mixedOrders = true := hP ▸ mixed; have hT : TOk P [(2, ti2), (3, ti3), (4, ti4), (31, ti31), (93, ti93), (94, ti94), (95, ti95), (96, ti96), (97, ti97), (98, ti98), (100, ti100), (123, ti123), (165, ti165), (167, ti167), (169, ti169), (225, ti225), (260, ti260)] := hP ▸ (.cons tok2 (.cons tok3 (.cons tok4 (.cons tok31 (.cons tok93 (.cons tok94 (.cons tok95 (.cons tok96 (.cons tok97 (.cons tok98 (.cons tok100 (.cons tok123 (.cons tok165 (.cons tok167 (.cons tok169 (.cons tok225 (.cons tok260 .nil))))))))))))))))); (try rw [← ho]); cbv; (repeat (refine StopN.mk ?_; cbv)))
  repeat' (first | (refine Br.mk (fun hb => ?_) (fun hb => ?_) <;> ((try rw [ho] at hb); (try dsimp only [Ar.real, IX.vo] at hb); (try simp only [QP1, QB7] at hb); (try simp only [QBo, beq_iff_eq, beq_eq_false_iff_ne, ne_eq] at hb))) | (refine StopN.mk ?_; cbv) | (first | refine NeedT.mk (by rw [ho]; rfl) ?_ | (first | refine CallI.objs [.loc 2, .loc 3, .loc 1] hP d_led0 fn194 rfl rfl rfl rfl (by rfl) rfl rfl rfl rfl (by rfl) ⟨⟨_, rfl, rfl⟩, ⟨_, rfl, rfl⟩, ⟨_, rfl, rfl⟩, trivial⟩ ?_ | refine CallI.objs [.loc 2, .loc 3, .loc 1] hP d_led3 fn194 rfl rfl rfl rfl (by rfl) rfl rfl rfl rfl (by rfl) ⟨⟨_, rfl, rfl⟩, ⟨_, rfl, rfl⟩, ⟨_, rfl, rfl⟩, trivial⟩ ?_ | refine CallI.objs [.loc 2, .loc 1] hP d_ctA fn196 rfl rfl rfl rfl (by rfl) rfl rfl rfl rfl (by rfl) ⟨⟨_, rfl, rfl⟩, ⟨_, rfl, rfl⟩, trivial⟩ ?_); cbv) | (refine hK _ _ ?_) | (refine NeedT.mk ?_ ?_) | (refine LoopN.lay (o := o) (D := []) 3 ho hm hT (by kernel_rfl) ?_; cbv))
  all_goals exact .pure fun _ => rfl
theorem d_ledgerB : XC Try.prog 160 [.agg bB] [] (.b .f) [] := by
  (refine XC.of_body ([]) Try.func160 rfl Try.ntmps160 mixed (T := [(2, ti2), (3, ti3), (4, ti4), (31, ti31), (93, ti93), (94, ti94), (95, ti95), (96, ti96), (97, ti97), (98, ti98), (100, ti100), (123, ti123), (165, ti165), (167, ti167), (169, ti169), (225, ti225), (260, ti260)]) (.cons tok2 (.cons tok3 (.cons tok4 (.cons tok31 (.cons tok93 (.cons tok94 (.cons tok95 (.cons tok96 (.cons tok97 (.cons tok98 (.cons tok100 (.cons tok123 (.cons tok165 (.cons tok167 (.cons tok169 (.cons tok225 (.cons tok260 .nil))))))))))))))))) (by kernel_rfl) (by simp) rfl rfl rfl rfl rfl ?_; rintro o ho P hP c K hK; have hm : P.follows .mixedOrders = true := hP ▸ mixed; have hT : TOk P [(2, ti2), (3, ti3), (4, ti4), (31, ti31), (93, ti93), (94, ti94), (95, ti95), (96, ti96), (97, ti97), (98, ti98), (100, ti100), (123, ti123), (165, ti165), (167, ti167), (169, ti169), (225, ti225), (260, ti260)] := hP ▸ (.cons tok2 (.cons tok3 (.cons tok4 (.cons tok31 (.cons tok93 (.cons tok94 (.cons tok95 (.cons tok96 (.cons tok97 (.cons tok98 (.cons tok100 (.cons tok123 (.cons tok165 (.cons tok167 (.cons tok169 (.cons tok225 (.cons tok260 .nil))))))))))))))))); (try rw [← ho]); cbv; (repeat (refine StopN.mk ?_; cbv)))
  repeat' (first | (refine Br.mk (fun hb => ?_) (fun hb => ?_) <;> ((try rw [ho] at hb); (try dsimp only [Ar.real, IX.vo] at hb); (try simp only [QP1, QB7] at hb); (try simp only [QBo, beq_iff_eq, beq_eq_false_iff_ne, ne_eq] at hb))) | (refine StopN.mk ?_; cbv) | (first | refine NeedT.mk (by rw [ho]; rfl) ?_ | (first | refine CallI.objs [.loc 2, .loc 3, .loc 1] hP d_led0 fn194 rfl rfl rfl rfl (by rfl) rfl rfl rfl rfl (by rfl) ⟨⟨_, rfl, rfl⟩, ⟨_, rfl, rfl⟩, ⟨_, rfl, rfl⟩, trivial⟩ ?_ | refine CallI.objs [.loc 2, .loc 1] hP d_ctB fn196 rfl rfl rfl rfl (by rfl) rfl rfl rfl rfl (by rfl) ⟨⟨_, rfl, rfl⟩, ⟨_, rfl, rfl⟩, trivial⟩ ?_); cbv) | (refine hK _ _ ?_) | (refine NeedT.mk ?_ ?_) | (refine LoopN.lay (o := o) (D := []) 3 ho hm hT (by kernel_rfl) ?_; cbv))
  all_goals exact .pure fun _ => rfl
theorem d_rightA : XC Try.prog 111 [.agg bA] [] (.tup [il 0, .b .t]) [] := by
  have a3 := d_agents bA (.inl rfl)
  have a4 := d_most bA (.inl rfl)
  have a6 := d_tasks bA (.inl rfl)
  have a7 := d_filters bA (.inl rfl)
  (refine XC.of_body ([]) Try.func111 rfl Try.ntmps111 mixed (T := [(2, ti2), (3, ti3), (4, ti4), (26, ti26), (93, ti93), (94, ti94), (95, ti95), (96, ti96), (97, ti97), (98, ti98), (100, ti100), (225, ti225), (226, ti226)]) (.cons tok2 (.cons tok3 (.cons tok4 (.cons tok26 (.cons tok93 (.cons tok94 (.cons tok95 (.cons tok96 (.cons tok97 (.cons tok98 (.cons tok100 (.cons tok225 (.cons tok226 .nil))))))))))))) (by kernel_rfl) (by simp) rfl rfl rfl rfl rfl ?_; rintro o ho P hP c K hK; have hm : P.follows .mixedOrders = true := hP ▸ mixed; have hT : TOk P [(2, ti2), (3, ti3), (4, ti4), (26, ti26), (93, ti93), (94, ti94), (95, ti95), (96, ti96), (97, ti97), (98, ti98), (100, ti100), (225, ti225), (226, ti226)] := hP ▸ (.cons tok2 (.cons tok3 (.cons tok4 (.cons tok26 (.cons tok93 (.cons tok94 (.cons tok95 (.cons tok96 (.cons tok97 (.cons tok98 (.cons tok100 (.cons tok225 (.cons tok226 .nil))))))))))))); (try rw [← ho]); cbv; (repeat (refine StopN.mk ?_; cbv)))
  repeat' (first | (refine Br.mk (fun hb => ?_) (fun hb => ?_) <;> ((try rw [ho] at hb); (try dsimp only [Ar.real, IX.vo] at hb); (try simp only [QP1, QB7] at hb); (try simp only [QBo, beq_iff_eq, beq_eq_false_iff_ne, ne_eq] at hb))) | (refine StopN.mk ?_; cbv) | (first | refine NeedT.mk (by rw [ho]; rfl) ?_ | (first | refine CallI.pure hP d_setA fn153 rfl rfl rfl ?_ | refine CallI.pure hP d_framesA fn154 rfl rfl rfl ?_ | refine CallI.pure hP a3 fn155 rfl rfl rfl ?_ | refine CallI.pure hP a4 fn156 rfl rfl rfl ?_ | refine CallI.pure hP d_offersA fn157 rfl rfl rfl ?_ | refine CallI.pure hP a6 fn158 rfl rfl rfl ?_ | refine CallI.pure hP a7 fn159 rfl rfl rfl ?_ | refine CallI.pure hP d_ledgerA fn160 rfl rfl rfl ?_); cbv) | (refine hK _ _ ?_) | (refine NeedT.mk ?_ ?_) | (refine LoopN.lay (o := o) (D := []) 9 ho hm hT (by kernel_rfl) ?_; cbv))
  exact .pure fun _ => rfl
theorem d_rightB : XC Try.prog 111 [.agg bB] [] (.tup [il 8, .b .f]) [] := by
  have a3 := d_agents bB (.inr rfl)
  have a4 := d_most bB (.inr rfl)
  have a6 := d_tasks bB (.inr rfl)
  have a7 := d_filters bB (.inr rfl)
  (refine XC.of_body ([]) Try.func111 rfl Try.ntmps111 mixed (T := [(2, ti2), (3, ti3), (4, ti4), (26, ti26), (93, ti93), (94, ti94), (95, ti95), (96, ti96), (97, ti97), (98, ti98), (100, ti100), (225, ti225), (226, ti226)]) (.cons tok2 (.cons tok3 (.cons tok4 (.cons tok26 (.cons tok93 (.cons tok94 (.cons tok95 (.cons tok96 (.cons tok97 (.cons tok98 (.cons tok100 (.cons tok225 (.cons tok226 .nil))))))))))))) (by kernel_rfl) (by simp) rfl rfl rfl rfl rfl ?_; rintro o ho P hP c K hK; have hm : P.follows .mixedOrders = true := hP ▸ mixed; have hT : TOk P [(2, ti2), (3, ti3), (4, ti4), (26, ti26), (93, ti93), (94, ti94), (95, ti95), (96, ti96), (97, ti97), (98, ti98), (100, ti100), (225, ti225), (226, ti226)] := hP ▸ (.cons tok2 (.cons tok3 (.cons tok4 (.cons tok26 (.cons tok93 (.cons tok94 (.cons tok95 (.cons tok96 (.cons tok97 (.cons tok98 (.cons tok100 (.cons tok225 (.cons tok226 .nil))))))))))))); (try rw [← ho]); cbv; (repeat (refine StopN.mk ?_; cbv)))
  repeat' (first | (refine Br.mk (fun hb => ?_) (fun hb => ?_) <;> ((try rw [ho] at hb); (try dsimp only [Ar.real, IX.vo] at hb); (try simp only [QP1, QB7] at hb); (try simp only [QBo, beq_iff_eq, beq_eq_false_iff_ne, ne_eq] at hb))) | (refine StopN.mk ?_; cbv) | (first | refine NeedT.mk (by rw [ho]; rfl) ?_ | (first | refine CallI.pure hP d_setB fn153 rfl rfl rfl ?_ | refine CallI.pure hP d_framesB fn154 rfl rfl rfl ?_ | refine CallI.pure hP a3 fn155 rfl rfl rfl ?_ | refine CallI.pure hP a4 fn156 rfl rfl rfl ?_ | refine CallI.pure hP d_offersB fn157 rfl rfl rfl ?_ | refine CallI.pure hP a6 fn158 rfl rfl rfl ?_ | refine CallI.pure hP a7 fn159 rfl rfl rfl ?_ | refine CallI.pure hP d_ledgerB fn160 rfl rfl rfl ?_); cbv) | (refine hK _ _ ?_) | (refine NeedT.mk ?_ ?_) | (refine LoopN.lay (o := o) (D := []) 9 ho hm hT (by kernel_rfl) ?_; cbv))
  exact .pure fun _ => rfl
end Go.Proofs.Ytddgcegimmcbgaa.Sy
namespace Go.Proofs.Ytddgcegimmcbgaa.Sy
open Go Go.Sy Go.Proofs.Ytddgcegimmcbgaa
theorem x_RoleShare1 (role : Int) (a : Frm) : XC Try.prog 161 ([.agg (Frm.X Ar.real a)] ++ [.ptr (.out 0) 0]) [.var [xi role] 3] (xb (decide (a.role = role))) [.var [xi role] 3] := by
  (refine XC.of_body ([]) Try.func161 rfl Try.ntmps161 mixed (T := [(2, ti2), (3, ti3), (4, ti4), (179, ti179)]) (.cons tok2 (.cons tok3 (.cons tok4 (.cons tok179 .nil)))) (by kernel_rfl) (by simp) rfl rfl rfl rfl rfl ?_; rintro o ho P hP c K hK; have hm : P.follows .mixedOrders = true := hP ▸ mixed; have hT : TOk P [(2, ti2), (3, ti3), (4, ti4), (179, ti179)] := hP ▸ (.cons tok2 (.cons tok3 (.cons tok4 (.cons tok179 .nil)))); (try rw [← ho]); cbv; (repeat (refine StopN.mk ?_; cbv)))
  repeat' (first | (refine Br.mk (fun hb => ?_) (fun hb => ?_) <;> ((try rw [ho] at hb); (try dsimp only [Ar.real, IX.vo] at hb); (try simp only [QP1, QB7] at hb); (try simp only [QBo, beq_iff_eq, beq_eq_false_iff_ne, ne_eq] at hb))) | (refine StopN.mk ?_; cbv) | (refine hK _ _ ?_) | (refine NeedT.mk ?_ ?_))
  refine FinX_bOr ?_ rfl
  rw [ho]
  rfl
@[reducible] def rsO : List OX := [.var bA 100, .var [il 2] 3]
theorem d_rsum1 : XC Try.prog 200 [il 4, .ptr (.out 0) 0, .ptr (.out 1) 0] rsO (.b .t) rsO := by
  (refine XC.of_body ([(2, [])]) Try.func200 rfl Try.ntmps200 mixed (T := [(2, ti2), (3, ti3), (4, ti4), (93, ti93), (94, ti94), (95, ti95), (96, ti96), (97, ti97), (98, ti98), (100, ti100), (179, ti179)]) (.cons tok2 (.cons tok3 (.cons tok4 (.cons tok93 (.cons tok94 (.cons tok95 (.cons tok96 (.cons tok97 (.cons tok98 (.cons tok100 (.cons tok179 .nil))))))))))) (by kernel_rfl) (by simp) rfl rfl rfl rfl rfl ?_; rintro o ho P hP c K hK; have hm : P.follows .mixedOrders = true := hP ▸ mixed; have hT : TOk P [(2, ti2), (3, ti3), (4, ti4), (93, ti93), (94, ti94), (95, ti95), (96, ti96), (97, ti97), (98, ti98), (100, ti100), (179, ti179)] := hP ▸ (.cons tok2 (.cons tok3 (.cons tok4 (.cons tok93 (.cons tok94 (.cons tok95 (.cons tok96 (.cons tok97 (.cons tok98 (.cons tok100 (.cons tok179 .nil))))))))))); (try rw [← ho]); cbv; (repeat (refine StopN.mk ?_; cbv)))
  repeat' (first | (refine Br.mk (fun hb => ?_) (fun hb => ?_) <;> ((try rw [ho] at hb); (try dsimp only [Ar.real, IX.vo] at hb); (try simp only [QP1, QB7] at hb); (try simp only [QBo, beq_iff_eq, beq_eq_false_iff_ne, ne_eq] at hb))) | (refine StopN.mk ?_; cbv) | (first | refine NeedT.mk (by rw [ho]; rfl) ?_ | (first | refine CallI.pure hP d_frame4 fn49 rfl rfl rfl ?_ | refine CallN.pure hP d_frame4 fn49 rfl rfl rfl ?_); cbv) | ((first | refine CallI.pure hP (x_Frame _ ‹_› _) fn49 (by first | rfl | (rw [ho]; done) | (rw [ho]; rfl)) (by rfl) (by first | rfl | (rw [ho]; done) | (rw [ho]; rfl)) ?_ | refine CallN.pure hP (x_Frame _ ‹_› _) fn49 (by first | rfl | (rw [ho]; done) | (rw [ho]; rfl)) (by rfl) (by first | rfl | (rw [ho]; done) | (rw [ho]; rfl)) ?_); (try rw [← ho]); generalize hr : atFrame _ _ = r; (try rw [ho] at hr); (try dsimp only [Ar.real, IX.vo] at hr); (try simp only [QP1, QB7] at hr); cbv) | (refine hK _ _ ?_) | (refine NeedT.mk ?_ ?_))
  exact ⟨fun _ => rfl, upLr _⟩
@[reducible] def s3 : X := .agg [il 3, il 0, il 0, il 0]
theorem d_sum : XC Try.prog 199 [.agg bA, .fn (.func 200) [] [.ptr (.out 0) 0, .ptr (.out 1) 0]] rsO s3 rsO := by
  (refine XC.of_body ([(6, [(0, 3)]), (12, [(0, 3)])]) Try.func199 rfl Try.ntmps199 mixed (T := [(2, ti2), (3, ti3), (31, ti31), (61, ti61), (93, ti93), (94, ti94), (95, ti95), (96, ti96), (97, ti97), (98, ti98), (100, ti100), (123, ti123), (167, ti167), (169, ti169)]) (.cons tok2 (.cons tok3 (.cons tok31 (.cons tok61 (.cons tok93 (.cons tok94 (.cons tok95 (.cons tok96 (.cons tok97 (.cons tok98 (.cons tok100 (.cons tok123 (.cons tok167 (.cons tok169 .nil)))))))))))))) (by kernel_rfl) (by simp) rfl rfl rfl rfl rfl ?_; rintro o ho P hP c K hK; have hm : P.follows .mixedOrders = true := hP ▸ mixed; have hT : TOk P [(2, ti2), (3, ti3), (31, ti31), (61, ti61), (93, ti93), (94, ti94), (95, ti95), (96, ti96), (97, ti97), (98, ti98), (100, ti100), (123, ti123), (167, ti167), (169, ti169)] := hP ▸ (.cons tok2 (.cons tok3 (.cons tok31 (.cons tok61 (.cons tok93 (.cons tok94 (.cons tok95 (.cons tok96 (.cons tok97 (.cons tok98 (.cons tok100 (.cons tok123 (.cons tok167 (.cons tok169 .nil)))))))))))))); (try rw [← ho]); cbv; (repeat (refine StopN.mk ?_; cbv)))
  repeat' (first | (refine Br.mk (fun hb => ?_) (fun hb => ?_) <;> ((try rw [ho] at hb); (try dsimp only [Ar.real, IX.vo] at hb); (try simp only [QP1, QB7] at hb); (try simp only [QBo, beq_iff_eq, beq_eq_false_iff_ne, ne_eq] at hb))) | (refine StopN.mk ?_; cbv) | (first | refine NeedT.mk (by rw [ho]; rfl) ?_ | (first | refine CallI.objs [.out 0, .out 1] hP d_rsum1 fn200 rfl rfl rfl rfl (by rfl) rfl rfl rfl rfl (by rfl) ⟨⟨_, rfl, rfl⟩, ⟨_, rfl, rfl⟩, trivial⟩ ?_ | refine CallN.pure hP d_of fn122 rfl rfl rfl ?_ | refine CallN.pure hP d_add fn129 rfl rfl rfl ?_); cbv) | ((first | refine CallI.pure hP (x_sumsOf _ ‹_›) fn122 (by first | rfl | (rw [ho]; done) | (rw [ho]; rfl)) (by rfl) (by first | rfl | (rw [ho]; done) | (rw [ho]; rfl)) ?_ | refine CallN.pure hP (x_sumsOf _ ‹_›) fn122 (by first | rfl | (rw [ho]; done) | (rw [ho]; rfl)) (by rfl) (by first | rfl | (rw [ho]; done) | (rw [ho]; rfl)) ?_); (try rw [← ho]); generalize hr : sumsOf _ = r; (try rw [ho] at hr); (try dsimp only [Ar.real, IX.vo] at hr); (try simp only [QP1, QB7] at hr); cbv) | ((first | refine CallI.pure hP (x_sumsAdd _ _) fn129 (by first | rfl | (rw [ho]; done) | (rw [ho]; rfl)) (by rfl) (by first | rfl | (rw [ho]; done) | (rw [ho]; rfl)) ?_ | refine CallN.pure hP (x_sumsAdd _ _) fn129 (by first | rfl | (rw [ho]; done) | (rw [ho]; rfl)) (by rfl) (by first | rfl | (rw [ho]; done) | (rw [ho]; rfl)) ?_); (try rw [← ho]); generalize hr : sumsAdd _ _ = r; (try rw [ho] at hr); (try dsimp only [Ar.real, IX.vo] at hr); (try simp only [QP1, QB7] at hr); cbv) | (refine hK _ _ ?_) | (refine NeedT.mk ?_ ?_) | (refine LoopN.lay (o := o) (D := [(6, [(0, 3)]), (12, [(0, 3)])]) 3 ho hm hT (by kernel_rfl) ?_; cbv))
  all_goals exact ⟨fun _ => rfl, upLr _⟩
theorem d_rolesum : XC Try.prog 163 [.agg bA, il 2] [] s3 [] := by
  (refine XC.of_body ([]) Try.func163 rfl Try.ntmps163 mixed (T := [(2, ti2), (3, ti3), (61, ti61), (93, ti93), (94, ti94), (95, ti95), (96, ti96), (97, ti97), (98, ti98), (100, ti100)]) (.cons tok2 (.cons tok3 (.cons tok61 (.cons tok93 (.cons tok94 (.cons tok95 (.cons tok96 (.cons tok97 (.cons tok98 (.cons tok100 .nil)))))))))) (by kernel_rfl) (by simp) rfl rfl rfl rfl rfl ?_; rintro o ho P hP c K hK; have hm : P.follows .mixedOrders = true := hP ▸ mixed; have hT : TOk P [(2, ti2), (3, ti3), (61, ti61), (93, ti93), (94, ti94), (95, ti95), (96, ti96), (97, ti97), (98, ti98), (100, ti100)] := hP ▸ (.cons tok2 (.cons tok3 (.cons tok61 (.cons tok93 (.cons tok94 (.cons tok95 (.cons tok96 (.cons tok97 (.cons tok98 (.cons tok100 .nil)))))))))); (try rw [← ho]); cbv; (repeat (refine StopN.mk ?_; cbv)))
  repeat' (first | (refine Br.mk (fun hb => ?_) (fun hb => ?_) <;> ((try rw [ho] at hb); (try dsimp only [Ar.real, IX.vo] at hb); (try simp only [QP1, QB7] at hb); (try simp only [QBo, beq_iff_eq, beq_eq_false_iff_ne, ne_eq] at hb))) | (refine StopN.mk ?_; cbv) | ((first | refine CallI.objs [.loc 0, .loc 1] hP d_sum fn199 rfl rfl rfl rfl (by rfl) rfl rfl rfl rfl (by rfl) ⟨⟨_, rfl, rfl⟩, ⟨_, rfl, rfl⟩, trivial⟩ ?_ | refine CallN.objs [.loc 0, .loc 1] hP d_sum fn199 rfl rfl rfl rfl (by rfl) rfl rfl rfl rfl (by rfl) ⟨⟨_, rfl, rfl⟩, ⟨_, rfl, rfl⟩, trivial⟩ ?_); cbv) | (refine hK _ _ ?_) | (refine NeedT.mk ?_ ?_))
  exact .pure fun _ => rfl
theorem d_total : XC Try.prog 164 [.agg bA] [] s3 [] := by
  (refine XC.of_body ([(5, [(0, 3)])]) Try.func164 rfl Try.ntmps164 mixed (T := [(2, ti2), (3, ti3), (31, ti31), (61, ti61), (93, ti93), (94, ti94), (95, ti95), (96, ti96), (97, ti97), (98, ti98), (100, ti100), (123, ti123), (165, ti165)]) (.cons tok2 (.cons tok3 (.cons tok31 (.cons tok61 (.cons tok93 (.cons tok94 (.cons tok95 (.cons tok96 (.cons tok97 (.cons tok98 (.cons tok100 (.cons tok123 (.cons tok165 .nil))))))))))))) (by kernel_rfl) (by simp) rfl rfl rfl rfl rfl ?_; rintro o ho P hP c K hK; have hm : P.follows .mixedOrders = true := hP ▸ mixed; have hT : TOk P [(2, ti2), (3, ti3), (31, ti31), (61, ti61), (93, ti93), (94, ti94), (95, ti95), (96, ti96), (97, ti97), (98, ti98), (100, ti100), (123, ti123), (165, ti165)] := hP ▸ (.cons tok2 (.cons tok3 (.cons tok31 (.cons tok61 (.cons tok93 (.cons tok94 (.cons tok95 (.cons tok96 (.cons tok97 (.cons tok98 (.cons tok100 (.cons tok123 (.cons tok165 .nil))))))))))))); (try rw [← ho]); cbv; (repeat (refine StopN.mk ?_; cbv)))
  repeat' (first | (refine Br.mk (fun hb => ?_) (fun hb => ?_) <;> ((try rw [ho] at hb); (try dsimp only [Ar.real, IX.vo] at hb); (try simp only [QP1, QB7] at hb); (try simp only [QBo, beq_iff_eq, beq_eq_false_iff_ne, ne_eq] at hb))) | (refine StopN.mk ?_; cbv) | (first | refine NeedT.mk (by rw [ho]; rfl) ?_ | (first | refine CallN.pure hP d_of fn122 rfl rfl rfl ?_ | refine CallN.pure hP d_add fn129 rfl rfl rfl ?_); cbv) | ((first | refine CallI.pure hP (x_sumsOf _ ‹_›) fn122 (by first | rfl | (rw [ho]; done) | (rw [ho]; rfl)) (by rfl) (by first | rfl | (rw [ho]; done) | (rw [ho]; rfl)) ?_ | refine CallN.pure hP (x_sumsOf _ ‹_›) fn122 (by first | rfl | (rw [ho]; done) | (rw [ho]; rfl)) (by rfl) (by first | rfl | (rw [ho]; done) | (rw [ho]; rfl)) ?_); (try rw [← ho]); generalize hr : sumsOf _ = r; (try rw [ho] at hr); (try dsimp only [Ar.real, IX.vo] at hr); (try simp only [QP1, QB7] at hr); cbv) | ((first | refine CallI.pure hP (x_sumsAdd _ _) fn129 (by first | rfl | (rw [ho]; done) | (rw [ho]; rfl)) (by rfl) (by first | rfl | (rw [ho]; done) | (rw [ho]; rfl)) ?_ | refine CallN.pure hP (x_sumsAdd _ _) fn129 (by first | rfl | (rw [ho]; done) | (rw [ho]; rfl)) (by rfl) (by first | rfl | (rw [ho]; done) | (rw [ho]; rfl)) ?_); (try rw [← ho]); generalize hr : sumsAdd _ _ = r; (try rw [ho] at hr); (try dsimp only [Ar.real, IX.vo] at hr); (try simp only [QP1, QB7] at hr); cbv) | (refine hK _ _ ?_) | (refine NeedT.mk ?_ ?_) | (refine LoopN.lay (o := o) (D := [(5, [(0, 3)])]) 3 ho hm hT (by kernel_rfl) ?_; cbv))
  all_goals exact .pure fun _ => rfl
theorem d_ixR : XC Try.prog 103 [.ro (.lits [[il 4, il 2, il 3, .b .t, .b .f, il 0, il 0]]), .fn (.func 161) [] [.ptr (.out 0) 0]] [.var [il 2] 3] (il 0) [.var [il 2] 3] := by
  have h := x_IxFrm (fun a : Frm => decide (a.role = 2)) 161 2 3 fn161 (x_RoleShare1 2) kA.fr (by decide)
  intro c h1 h2
  have := h c h1 h2
  rw [show ixR (fun a : Frm => decide (a.role = 2)) kA.fr = 0 from by decide] at this
  exact this
theorem d_roleshare : XC Try.prog 112 [.agg bA, il 2] [] (.tup [.agg [il 3, il 3, il 3], .b .t]) [] := by
  (refine XC.of_body ([(4, [(2, 3), (2, 5), (4, 5), (2, 6), (4, 6), (2, 8), (4, 8), (2, 9), (4, 9), (2, 10), (4, 10)])]) Try.func112 rfl Try.ntmps112 mixed (T := [(2, ti2), (3, ti3), (4, ti4), (64, ti64), (93, ti93), (94, ti94), (95, ti95), (96, ti96), (97, ti97), (98, ti98), (100, ti100), (108, ti108), (179, ti179)]) (.cons tok2 (.cons tok3 (.cons tok4 (.cons tok64 (.cons tok93 (.cons tok94 (.cons tok95 (.cons tok96 (.cons tok97 (.cons tok98 (.cons tok100 (.cons tok108 (.cons tok179 .nil))))))))))))) (by kernel_rfl) (by simp) rfl rfl rfl rfl rfl ?_; rintro o ho P hP c K hK; have hm : P.follows .mixedOrders = true := hP ▸ mixed; have hT : TOk P [(2, ti2), (3, ti3), (4, ti4), (64, ti64), (93, ti93), (94, ti94), (95, ti95), (96, ti96), (97, ti97), (98, ti98), (100, ti100), (108, ti108), (179, ti179)] := hP ▸ (.cons tok2 (.cons tok3 (.cons tok4 (.cons tok64 (.cons tok93 (.cons tok94 (.cons tok95 (.cons tok96 (.cons tok97 (.cons tok98 (.cons tok100 (.cons tok108 (.cons tok179 .nil))))))))))))); (try rw [← ho]); cbv; (repeat (refine StopN.mk ?_; cbv)))
  repeat' (first | (refine Br.mk (fun hb => ?_) (fun hb => ?_) <;> ((try rw [ho] at hb); (try dsimp only [Ar.real, IX.vo] at hb); (try simp only [QP1, QB7] at hb); (try simp only [QBo, beq_iff_eq, beq_eq_false_iff_ne, ne_eq] at hb))) | (refine StopN.mk ?_; cbv) | (first | refine NeedT.mk (by rw [ho]; rfl) ?_ | (first | refine CallI.objs [.loc 1] hP d_ixR fn103 rfl rfl rfl rfl (by rfl) rfl rfl rfl rfl (by rfl) ⟨⟨_, rfl, rfl⟩, trivial⟩ ?_ | refine CallN.pure hP d_rolesum fn163 rfl rfl rfl ?_ | refine CallN.pure hP d_total fn164 rfl rfl rfl ?_ | refine CallN.pure hP d_shrOf fn162 rfl rfl rfl ?_); cbv) | ((first | refine CallI.pure hP (x_shrOf _ _ _) fn162 (by first | rfl | (rw [ho]; done) | (rw [ho]; rfl)) (by rfl) (by first | rfl | (rw [ho]; done) | (rw [ho]; rfl)) ?_ | refine CallN.pure hP (x_shrOf _ _ _) fn162 (by first | rfl | (rw [ho]; done) | (rw [ho]; rfl)) (by rfl) (by first | rfl | (rw [ho]; done) | (rw [ho]; rfl)) ?_); (try rw [← ho]); generalize hr : shrOf _ _ _ = r; (try rw [ho] at hr); (try dsimp only [Ar.real, IX.vo] at hr); (try simp only [QP1, QB7] at hr); cbv) | (refine hK _ _ ?_) | (refine NeedT.mk ?_ ?_))
  exact .pure fun _ => rfl
theorem x_works16 : XC Try.prog 57 [] [] (xb true) [] := by
  (refine XC.of_body ([]) Try.func57 rfl Try.ntmps57 mixed (T := [(2, ti2), (3, ti3), (4, ti4), (9, ti9), (31, ti31), (52, ti52), (64, ti64), (93, ti93), (94, ti94), (95, ti95), (96, ti96), (97, ti97), (98, ti98), (100, ti100), (108, ti108), (123, ti123), (165, ti165), (167, ti167), (179, ti179)]) (.cons tok2 (.cons tok3 (.cons tok4 (.cons tok9 (.cons tok31 (.cons tok52 (.cons tok64 (.cons tok93 (.cons tok94 (.cons tok95 (.cons tok96 (.cons tok97 (.cons tok98 (.cons tok100 (.cons tok108 (.cons tok123 (.cons tok165 (.cons tok167 (.cons tok179 .nil))))))))))))))))))) (by kernel_rfl) (by simp) rfl rfl rfl rfl rfl ?_; rintro o ho P hP c K hK; have hm : P.follows .mixedOrders = true := hP ▸ mixed; have hT : TOk P [(2, ti2), (3, ti3), (4, ti4), (9, ti9), (31, ti31), (52, ti52), (64, ti64), (93, ti93), (94, ti94), (95, ti95), (96, ti96), (97, ti97), (98, ti98), (100, ti100), (108, ti108), (123, ti123), (165, ti165), (167, ti167), (179, ti179)] := hP ▸ (.cons tok2 (.cons tok3 (.cons tok4 (.cons tok9 (.cons tok31 (.cons tok52 (.cons tok64 (.cons tok93 (.cons tok94 (.cons tok95 (.cons tok96 (.cons tok97 (.cons tok98 (.cons tok100 (.cons tok108 (.cons tok123 (.cons tok165 (.cons tok167 (.cons tok179 .nil))))))))))))))))))); (try rw [← ho]); cbv; (repeat (refine StopN.mk ?_; cbv)))
  repeat' (first | (refine Br.mk (fun hb => ?_) (fun hb => ?_) <;> ((try rw [ho] at hb); (try dsimp only [Ar.real, IX.vo] at hb); (try simp only [QP1, QB7] at hb); (try simp only [QBo, beq_iff_eq, beq_eq_false_iff_ne, ne_eq] at hb))) | (refine StopN.mk ?_; cbv) | (first | refine NeedT.mk (by rw [ho]; rfl) ?_ | (first | refine CallI.pure hP d_rightA fn111 rfl rfl rfl ?_ | refine CallI.pure hP d_rightB fn111 rfl rfl rfl ?_ | refine CallI.pure hP d_roleshare fn112 rfl rfl rfl ?_ | refine CallI.pure hP d_text fn113 rfl rfl rfl ?_ | refine CallI.pure hP d_offer1 fn53 rfl rfl rfl ?_ | refine CallI.pure hP d_agent2 fn51 rfl rfl rfl ?_ | refine CallN.pure hP d_text fn113 rfl rfl rfl ?_ | refine CallN.pure hP d_offer1 fn53 rfl rfl rfl ?_ | refine CallN.pure hP d_agent2 fn51 rfl rfl rfl ?_); cbv) | ((first | refine CallI.pure hP (x_Agent _ ‹_› _) fn51 (by first | rfl | (rw [ho]; done) | (rw [ho]; rfl)) (by rfl) (by first | rfl | (rw [ho]; done) | (rw [ho]; rfl)) ?_ | refine CallN.pure hP (x_Agent _ ‹_› _) fn51 (by first | rfl | (rw [ho]; done) | (rw [ho]; rfl)) (by rfl) (by first | rfl | (rw [ho]; done) | (rw [ho]; rfl)) ?_); (try rw [← ho]); generalize hr : atAgent _ _ = r; (try rw [ho] at hr); (try dsimp only [Ar.real, IX.vo] at hr); (try simp only [QP1, QB7] at hr); cbv) | ((first | refine CallI.pure hP (x_Offer _ ‹_› _) fn53 (by first | rfl | (rw [ho]; done) | (rw [ho]; rfl)) (by rfl) (by first | rfl | (rw [ho]; done) | (rw [ho]; rfl)) ?_ | refine CallN.pure hP (x_Offer _ ‹_› _) fn53 (by first | rfl | (rw [ho]; done) | (rw [ho]; rfl)) (by rfl) (by first | rfl | (rw [ho]; done) | (rw [ho]; rfl)) ?_); (try rw [← ho]); generalize hr : atOffer _ _ = r; (try rw [ho] at hr); (try dsimp only [Ar.real, IX.vo] at hr); (try simp only [QP1, QB7] at hr); cbv) | (refine hK _ _ ?_) | (refine NeedT.mk ?_ ?_))
  · exact .b rfl
  · exact absurd trivial hb
end Go.Proofs.Ytddgcegimmcbgaa.Sy
namespace Go.Proofs.Ytddgcegimmcbgaa.Sy
open Go Go.Sy Go.Proofs.Ytddgcegimmcbgaa
theorem x_BookPlaces (b : Bk) (hbk : BkOk b) (id f : Int) (x y : List Part) (hx : x.length ≤ 1048576) (hy : y.length ≤ 1048576) :
    XC Try.prog 9 [.agg (Bk.X Ar.real b), .agg [xi id, xi f], .agg [.ro (SL Ar.real Part.X x), .ro (SL Ar.real Part.X y)]] [] (xb true) [] := by
  have hWk := x_works16
  have hFw := x_Few b hbk
  have hO1 := x_Order x y hx hy
  have hO2 := x_r16Order x y hx hy
  have hO3 := x_Order x x hx hx
  rw [ordV_self] at hO3
  have hF1 := x_Frame b hbk id
  have hF2 := x_r16Frame b hbk id
  have hA1 := x_Agent b hbk id
  have hA2 := x_r16Agent b hbk id
  have hQ1 := x_Offer b hbk id
  have hQ2 := x_r16Offer b hbk id
  have hT1 := x_Task b hbk f id
  have hT2 := x_r16Task b hbk f id
  generalize fewR b = fw at *
  generalize ordV x y = r at *
  generalize atFrame b.fr id = r1 at *
  generalize atAgent b.ag id = r2 at *
  generalize atOffer b.of id = r3 at *
  generalize atTask b.tk f id = r4 at *
  obtain ⟨⟨c1, c2, c3, c4, c5, ⟨c6, c7, c8, c9⟩⟩, now, last, fr, ag, of, tk, fl⟩ := b
  clear hbk
  (refine XC.of_body ([(1, []), (6, [(2, 3), (10, 11), (19, 20), (29, 30)])]) Try.func9 rfl Try.ntmps9 mixed (T := [(2, ti2), (3, ti3), (4, ti4), (31, ti31), (41, ti41), (93, ti93), (94, ti94), (95, ti95), (96, ti96), (97, ti97), (98, ti98), (100, ti100), (101, ti101), (123, ti123)]) (.cons tok2 (.cons tok3 (.cons tok4 (.cons tok31 (.cons tok41 (.cons tok93 (.cons tok94 (.cons tok95 (.cons tok96 (.cons tok97 (.cons tok98 (.cons tok100 (.cons tok101 (.cons tok123 .nil)))))))))))))) (by kernel_rfl) (by simp) rfl rfl rfl rfl rfl ?_; rintro o ho P hP c K hK; have hm : P.follows .mixedOrders = true := hP ▸ mixed; have hT : TOk P [(2, ti2), (3, ti3), (4, ti4), (31, ti31), (41, ti41), (93, ti93), (94, ti94), (95, ti95), (96, ti96), (97, ti97), (98, ti98), (100, ti100), (101, ti101), (123, ti123)] := hP ▸ (.cons tok2 (.cons tok3 (.cons tok4 (.cons tok31 (.cons tok41 (.cons tok93 (.cons tok94 (.cons tok95 (.cons tok96 (.cons tok97 (.cons tok98 (.cons tok100 (.cons tok101 (.cons tok123 .nil)))))))))))))); (try rw [← ho]); cbv; (repeat (refine StopN.mk ?_; cbv)))
  rw [← ho] at hFw hO1 hO2 hO3 hF1 hF2 hA1 hA2 hQ1 hQ2 hT1 hT2
  repeat' (first | (refine Br.mk (fun hb => ?_) (fun hb => ?_) <;> ((try rw [ho] at hb); (try dsimp only [Ar.real, IX.vo] at hb); (try simp only [QP1, QB7] at hb); (try simp only [QBo, beq_iff_eq, beq_eq_false_iff_ne, ne_eq] at hb))) | (refine StopN.mk ?_; cbv) | (first | refine CallI.pure hP hFw fn46 rfl rfl rfl ?_ | refine CallI.pure hP hO1 fn47 rfl rfl rfl ?_ | refine CallI.pure hP hO3 fn47 rfl rfl rfl ?_ | refine CallI.pure hP hO2 fn48 rfl rfl rfl ?_ | refine CallN.pure hP hF1 fn49 rfl rfl rfl ?_ | refine CallN.pure hP hF2 fn50 rfl rfl rfl ?_ | refine CallN.pure hP hA1 fn51 rfl rfl rfl ?_ | refine CallN.pure hP hA2 fn52 rfl rfl rfl ?_ | refine CallN.pure hP hQ1 fn53 rfl rfl rfl ?_ | refine CallN.pure hP hQ2 fn54 rfl rfl rfl ?_ | refine CallN.pure hP hT1 fn55 rfl rfl rfl ?_ | refine CallN.pure hP hT2 fn56 rfl rfl rfl ?_ | refine CallN.pure hP hWk fn57 rfl rfl rfl ?_); cbv | ((first | refine CallI.pure hP (x_Few _ ‹_›) fn46 (by first | rfl | (rw [ho]; done) | (rw [ho]; rfl)) (by rfl) (by first | rfl | (rw [ho]; done) | (rw [ho]; rfl)) ?_ | refine CallN.pure hP (x_Few _ ‹_›) fn46 (by first | rfl | (rw [ho]; done) | (rw [ho]; rfl)) (by rfl) (by first | rfl | (rw [ho]; done) | (rw [ho]; rfl)) ?_); (try rw [← ho]); generalize hr : fewR _ = r; (try rw [ho] at hr); (try dsimp only [Ar.real, IX.vo] at hr); (try simp only [QP1, QB7] at hr); cbv) | ((first | refine CallI.pure hP (x_Order _ _ ‹_› ‹_›) fn47 (by first | rfl | (rw [ho]; done) | (rw [ho]; rfl)) (by rfl) (by first | rfl | (rw [ho]; done) | (rw [ho]; rfl)) ?_ | refine CallN.pure hP (x_Order _ _ ‹_› ‹_›) fn47 (by first | rfl | (rw [ho]; done) | (rw [ho]; rfl)) (by rfl) (by first | rfl | (rw [ho]; done) | (rw [ho]; rfl)) ?_); (try rw [← ho]); generalize hr : ordV _ _ = r; (try rw [ho] at hr); (try dsimp only [Ar.real, IX.vo] at hr); (try simp only [QP1, QB7] at hr); cbv) | ((first | refine CallI.pure hP (x_r16Order _ _ ‹_› ‹_›) fn48 (by first | rfl | (rw [ho]; done) | (rw [ho]; rfl)) (by rfl) (by first | rfl | (rw [ho]; done) | (rw [ho]; rfl)) ?_ | refine CallN.pure hP (x_r16Order _ _ ‹_› ‹_›) fn48 (by first | rfl | (rw [ho]; done) | (rw [ho]; rfl)) (by rfl) (by first | rfl | (rw [ho]; done) | (rw [ho]; rfl)) ?_); (try rw [← ho]); generalize hr : ordV _ _ = r; (try rw [ho] at hr); (try dsimp only [Ar.real, IX.vo] at hr); (try simp only [QP1, QB7] at hr); cbv) | ((first | refine CallI.pure hP (x_Frame _ ‹_› _) fn49 (by first | rfl | (rw [ho]; done) | (rw [ho]; rfl)) (by rfl) (by first | rfl | (rw [ho]; done) | (rw [ho]; rfl)) ?_ | refine CallN.pure hP (x_Frame _ ‹_› _) fn49 (by first | rfl | (rw [ho]; done) | (rw [ho]; rfl)) (by rfl) (by first | rfl | (rw [ho]; done) | (rw [ho]; rfl)) ?_); (try rw [← ho]); generalize hr : atFrame _ _ = r; (try rw [ho] at hr); (try dsimp only [Ar.real, IX.vo] at hr); (try simp only [QP1, QB7] at hr); cbv) | ((first | refine CallI.pure hP (x_r16Frame _ ‹_› _) fn50 (by first | rfl | (rw [ho]; done) | (rw [ho]; rfl)) (by rfl) (by first | rfl | (rw [ho]; done) | (rw [ho]; rfl)) ?_ | refine CallN.pure hP (x_r16Frame _ ‹_› _) fn50 (by first | rfl | (rw [ho]; done) | (rw [ho]; rfl)) (by rfl) (by first | rfl | (rw [ho]; done) | (rw [ho]; rfl)) ?_); (try rw [← ho]); generalize hr : atFrame _ _ = r; (try rw [ho] at hr); (try dsimp only [Ar.real, IX.vo] at hr); (try simp only [QP1, QB7] at hr); cbv) | ((first | refine CallI.pure hP (x_Agent _ ‹_› _) fn51 (by first | rfl | (rw [ho]; done) | (rw [ho]; rfl)) (by rfl) (by first | rfl | (rw [ho]; done) | (rw [ho]; rfl)) ?_ | refine CallN.pure hP (x_Agent _ ‹_› _) fn51 (by first | rfl | (rw [ho]; done) | (rw [ho]; rfl)) (by rfl) (by first | rfl | (rw [ho]; done) | (rw [ho]; rfl)) ?_); (try rw [← ho]); generalize hr : atAgent _ _ = r; (try rw [ho] at hr); (try dsimp only [Ar.real, IX.vo] at hr); (try simp only [QP1, QB7] at hr); cbv) | ((first | refine CallI.pure hP (x_r16Agent _ ‹_› _) fn52 (by first | rfl | (rw [ho]; done) | (rw [ho]; rfl)) (by rfl) (by first | rfl | (rw [ho]; done) | (rw [ho]; rfl)) ?_ | refine CallN.pure hP (x_r16Agent _ ‹_› _) fn52 (by first | rfl | (rw [ho]; done) | (rw [ho]; rfl)) (by rfl) (by first | rfl | (rw [ho]; done) | (rw [ho]; rfl)) ?_); (try rw [← ho]); generalize hr : atAgent _ _ = r; (try rw [ho] at hr); (try dsimp only [Ar.real, IX.vo] at hr); (try simp only [QP1, QB7] at hr); cbv) | ((first | refine CallI.pure hP (x_Offer _ ‹_› _) fn53 (by first | rfl | (rw [ho]; done) | (rw [ho]; rfl)) (by rfl) (by first | rfl | (rw [ho]; done) | (rw [ho]; rfl)) ?_ | refine CallN.pure hP (x_Offer _ ‹_› _) fn53 (by first | rfl | (rw [ho]; done) | (rw [ho]; rfl)) (by rfl) (by first | rfl | (rw [ho]; done) | (rw [ho]; rfl)) ?_); (try rw [← ho]); generalize hr : atOffer _ _ = r; (try rw [ho] at hr); (try dsimp only [Ar.real, IX.vo] at hr); (try simp only [QP1, QB7] at hr); cbv) | ((first | refine CallI.pure hP (x_r16Offer _ ‹_› _) fn54 (by first | rfl | (rw [ho]; done) | (rw [ho]; rfl)) (by rfl) (by first | rfl | (rw [ho]; done) | (rw [ho]; rfl)) ?_ | refine CallN.pure hP (x_r16Offer _ ‹_› _) fn54 (by first | rfl | (rw [ho]; done) | (rw [ho]; rfl)) (by rfl) (by first | rfl | (rw [ho]; done) | (rw [ho]; rfl)) ?_); (try rw [← ho]); generalize hr : atOffer _ _ = r; (try rw [ho] at hr); (try dsimp only [Ar.real, IX.vo] at hr); (try simp only [QP1, QB7] at hr); cbv) | ((first | refine CallI.pure hP (x_Task _ ‹_› _ _) fn55 (by first | rfl | (rw [ho]; done) | (rw [ho]; rfl)) (by rfl) (by first | rfl | (rw [ho]; done) | (rw [ho]; rfl)) ?_ | refine CallN.pure hP (x_Task _ ‹_› _ _) fn55 (by first | rfl | (rw [ho]; done) | (rw [ho]; rfl)) (by rfl) (by first | rfl | (rw [ho]; done) | (rw [ho]; rfl)) ?_); (try rw [← ho]); generalize hr : atTask _ _ _ = r; (try rw [ho] at hr); (try dsimp only [Ar.real, IX.vo] at hr); (try simp only [QP1, QB7] at hr); cbv) | ((first | refine CallI.pure hP (x_r16Task _ ‹_› _ _) fn56 (by first | rfl | (rw [ho]; done) | (rw [ho]; rfl)) (by rfl) (by first | rfl | (rw [ho]; done) | (rw [ho]; rfl)) ?_ | refine CallN.pure hP (x_r16Task _ ‹_› _ _) fn56 (by first | rfl | (rw [ho]; done) | (rw [ho]; rfl)) (by rfl) (by first | rfl | (rw [ho]; done) | (rw [ho]; rfl)) ?_); (try rw [← ho]); generalize hr : atTask _ _ _ = r; (try rw [ho] at hr); (try dsimp only [Ar.real, IX.vo] at hr); (try simp only [QP1, QB7] at hr); cbv) | ((first | refine CallI.pure hP (x_works16) fn57 (by first | rfl | (rw [ho]; done) | (rw [ho]; rfl)) (by rfl) (by first | rfl | (rw [ho]; done) | (rw [ho]; rfl)) ?_ | refine CallN.pure hP (x_works16) fn57 (by first | rfl | (rw [ho]; done) | (rw [ho]; rfl)) (by rfl) (by first | rfl | (rw [ho]; done) | (rw [ho]; rfl)) ?_); (try rw [← ho]); cbv) | (refine hK _ _ ?_) | (refine NeedT.mk ?_ ?_))
  all_goals first
    | exact .b rfl
    | exact absurd trivial hb
end Go.Proofs.Ytddgcegimmcbgaa.Sy

/-
  Books as data. Plain theorems.
-/
import Derived.Test.YtlblpbahoblihaaGreatMc
import Derived.Test.YtlblpbahoblihaaGreatMb
import Derived.Test.YtlblpbahoblihaaGreatSyZf
import Derived.Test.YtlblpbahoblihaaGreatMa
set_option linter.unusedSectionVars false
set_option maxRecDepth 100000
set_option maxHeartbeats 8000000
set_option linter.unusedVariables false
set_option linter.unusedSimpArgs false
namespace Go.Proofs.YtlblpbahoblihaaGreat.Sy
open Go Go.Sy Go.Proofs.YtlblpbahoblihaaGreat
structure Frm where
  id : Int
  role : Int
  weight : Int
  up : Bool
  quiet : Bool
  time : Int
  til : Int
  deriving DecidableEq
instance : Inhabited Frm := ⟨⟨0, 0, 0, false, false, 0, 0⟩⟩
def foldAFrm_id (e : Frm) := (by
  have h : PLift (e.id = e.id) := ⟨rfl⟩
  conv at h => arg 1; lhs; delta Frm.id
  exact h)
theorem foldFrm_id (e : Frm) : type_of% (foldAFrm_id e).down := (foldAFrm_id e).down
def foldAFrm_role (e : Frm) := (by
  have h : PLift (e.role = e.role) := ⟨rfl⟩
  conv at h => arg 1; lhs; delta Frm.role
  exact h)
theorem foldFrm_role (e : Frm) : type_of% (foldAFrm_role e).down := (foldAFrm_role e).down
def foldAFrm_weight (e : Frm) := (by
  have h : PLift (e.weight = e.weight) := ⟨rfl⟩
  conv at h => arg 1; lhs; delta Frm.weight
  exact h)
theorem foldFrm_weight (e : Frm) : type_of% (foldAFrm_weight e).down := (foldAFrm_weight e).down
def foldAFrm_up (e : Frm) := (by
  have h : PLift (e.up = e.up) := ⟨rfl⟩
  conv at h => arg 1; lhs; delta Frm.up
  exact h)
theorem foldFrm_up (e : Frm) : type_of% (foldAFrm_up e).down := (foldAFrm_up e).down
def foldAFrm_quiet (e : Frm) := (by
  have h : PLift (e.quiet = e.quiet) := ⟨rfl⟩
  conv at h => arg 1; lhs; delta Frm.quiet
  exact h)
theorem foldFrm_quiet (e : Frm) : type_of% (foldAFrm_quiet e).down := (foldAFrm_quiet e).down
def foldAFrm_time (e : Frm) := (by
  have h : PLift (e.time = e.time) := ⟨rfl⟩
  conv at h => arg 1; lhs; delta Frm.time
  exact h)
theorem foldFrm_time (e : Frm) : type_of% (foldAFrm_time e).down := (foldAFrm_time e).down
def foldAFrm_til (e : Frm) := (by
  have h : PLift (e.til = e.til) := ⟨rfl⟩
  conv at h => arg 1; lhs; delta Frm.til
  exact h)
theorem foldFrm_til (e : Frm) : type_of% (foldAFrm_til e).down := (foldAFrm_til e).down
theorem foldFrm : (⟨0, 0, 0, false, false, 0, 0⟩ : Frm) = default := rfl
def Frm.X (_ : Ar) (f : Frm) : List X := [xi f.id, xi f.role, xi f.weight, xb f.up, xb f.quiet, xi f.time, xi f.til]
structure Agt where
  id : Int
  total : List Part
  free : List Part
  deriving DecidableEq
instance : Inhabited Agt := ⟨⟨0, [], []⟩⟩
def foldAAgt_id (e : Agt) := (by
  have h : PLift (e.id = e.id) := ⟨rfl⟩
  conv at h => arg 1; lhs; delta Agt.id
  exact h)
theorem foldAgt_id (e : Agt) : type_of% (foldAAgt_id e).down := (foldAAgt_id e).down
def foldAAgt_total (e : Agt) := (by
  have h : PLift (e.total = e.total) := ⟨rfl⟩
  conv at h => arg 1; lhs; delta Agt.total
  exact h)
theorem foldAgt_total (e : Agt) : type_of% (foldAAgt_total e).down := (foldAAgt_total e).down
def foldAAgt_free (e : Agt) := (by
  have h : PLift (e.free = e.free) := ⟨rfl⟩
  conv at h => arg 1; lhs; delta Agt.free
  exact h)
theorem foldAgt_free (e : Agt) : type_of% (foldAAgt_free e).down := (foldAAgt_free e).down
theorem foldAgt : (⟨0, [], []⟩ : Agt) = default := rfl
def Agt.X (o : Ar) (a : Agt) : List X := [xi a.id, .ro (SL o Part.X a.total), .ro (SL o Part.X a.free)]
structure Ofr where
  id : Int
  frame : Int
  agent : Int
  vec : List Part
  til : Int
  deriving DecidableEq
instance : Inhabited Ofr := ⟨⟨0, 0, 0, [], 0⟩⟩
def foldAOfr_id (e : Ofr) := (by
  have h : PLift (e.id = e.id) := ⟨rfl⟩
  conv at h => arg 1; lhs; delta Ofr.id
  exact h)
theorem foldOfr_id (e : Ofr) : type_of% (foldAOfr_id e).down := (foldAOfr_id e).down
def foldAOfr_frame (e : Ofr) := (by
  have h : PLift (e.frame = e.frame) := ⟨rfl⟩
  conv at h => arg 1; lhs; delta Ofr.frame
  exact h)
theorem foldOfr_frame (e : Ofr) : type_of% (foldAOfr_frame e).down := (foldAOfr_frame e).down
def foldAOfr_agent (e : Ofr) := (by
  have h : PLift (e.agent = e.agent) := ⟨rfl⟩
  conv at h => arg 1; lhs; delta Ofr.agent
  exact h)
theorem foldOfr_agent (e : Ofr) : type_of% (foldAOfr_agent e).down := (foldAOfr_agent e).down
def foldAOfr_vec (e : Ofr) := (by
  have h : PLift (e.vec = e.vec) := ⟨rfl⟩
  conv at h => arg 1; lhs; delta Ofr.vec
  exact h)
theorem foldOfr_vec (e : Ofr) : type_of% (foldAOfr_vec e).down := (foldAOfr_vec e).down
def foldAOfr_til (e : Ofr) := (by
  have h : PLift (e.til = e.til) := ⟨rfl⟩
  conv at h => arg 1; lhs; delta Ofr.til
  exact h)
theorem foldOfr_til (e : Ofr) : type_of% (foldAOfr_til e).down := (foldAOfr_til e).down
theorem foldOfr : (⟨0, 0, 0, [], 0⟩ : Ofr) = default := rfl
def Ofr.X (o : Ar) (f : Ofr) : List X := [xi f.id, xi f.frame, xi f.agent, .ro (SL o Part.X f.vec), xi f.til]
structure Tsk where
  frame : Int
  id : Int
  agent : Int
  vec : List Part
  deriving DecidableEq
instance : Inhabited Tsk := ⟨⟨0, 0, 0, []⟩⟩
def foldATsk_frame (e : Tsk) := (by
  have h : PLift (e.frame = e.frame) := ⟨rfl⟩
  conv at h => arg 1; lhs; delta Tsk.frame
  exact h)
theorem foldTsk_frame (e : Tsk) : type_of% (foldATsk_frame e).down := (foldATsk_frame e).down
def foldATsk_id (e : Tsk) := (by
  have h : PLift (e.id = e.id) := ⟨rfl⟩
  conv at h => arg 1; lhs; delta Tsk.id
  exact h)
theorem foldTsk_id (e : Tsk) : type_of% (foldATsk_id e).down := (foldATsk_id e).down
def foldATsk_agent (e : Tsk) := (by
  have h : PLift (e.agent = e.agent) := ⟨rfl⟩
  conv at h => arg 1; lhs; delta Tsk.agent
  exact h)
theorem foldTsk_agent (e : Tsk) : type_of% (foldATsk_agent e).down := (foldATsk_agent e).down
def foldATsk_vec (e : Tsk) := (by
  have h : PLift (e.vec = e.vec) := ⟨rfl⟩
  conv at h => arg 1; lhs; delta Tsk.vec
  exact h)
theorem foldTsk_vec (e : Tsk) : type_of% (foldATsk_vec e).down := (foldATsk_vec e).down
theorem foldTsk : (⟨0, 0, 0, []⟩ : Tsk) = default := rfl
def Tsk.X (o : Ar) (f : Tsk) : List X := [xi f.frame, xi f.id, xi f.agent, .ro (SL o Part.X f.vec)]
structure Flt where
  frame : Int
  agent : Int
  til : Int
  vec : List Part
  deriving DecidableEq
instance : Inhabited Flt := ⟨⟨0, 0, 0, []⟩⟩
def foldAFlt_frame (e : Flt) := (by
  have h : PLift (e.frame = e.frame) := ⟨rfl⟩
  conv at h => arg 1; lhs; delta Flt.frame
  exact h)
theorem foldFlt_frame (e : Flt) : type_of% (foldAFlt_frame e).down := (foldAFlt_frame e).down
def foldAFlt_agent (e : Flt) := (by
  have h : PLift (e.agent = e.agent) := ⟨rfl⟩
  conv at h => arg 1; lhs; delta Flt.agent
  exact h)
theorem foldFlt_agent (e : Flt) : type_of% (foldAFlt_agent e).down := (foldAFlt_agent e).down
def foldAFlt_til (e : Flt) := (by
  have h : PLift (e.til = e.til) := ⟨rfl⟩
  conv at h => arg 1; lhs; delta Flt.til
  exact h)
theorem foldFlt_til (e : Flt) : type_of% (foldAFlt_til e).down := (foldAFlt_til e).down
def foldAFlt_vec (e : Flt) := (by
  have h : PLift (e.vec = e.vec) := ⟨rfl⟩
  conv at h => arg 1; lhs; delta Flt.vec
  exact h)
theorem foldFlt_vec (e : Flt) : type_of% (foldAFlt_vec e).down := (foldAFlt_vec e).down
theorem foldFlt : (⟨0, 0, 0, []⟩ : Flt) = default := rfl
theorem QP1 : type_of% (And.intro @foldFrm (And.intro @foldAgt (And.intro @foldOfr (And.intro @foldTsk (And.intro @foldFlt (And.intro @foldFrm_id (And.intro @foldFrm_role (And.intro @foldFrm_weight (And.intro @foldFrm_up (And.intro @foldFrm_quiet (And.intro @foldFrm_time (And.intro @foldFrm_til (And.intro @foldAgt_id (And.intro @foldAgt_total (And.intro @foldAgt_free (And.intro @foldOfr_id (And.intro @foldOfr_frame (And.intro @foldOfr_agent (And.intro @foldOfr_vec (And.intro @foldOfr_til (And.intro @foldTsk_frame (And.intro @foldTsk_id (And.intro @foldTsk_agent (And.intro @foldTsk_vec (And.intro @foldFlt_frame (And.intro @foldFlt_agent (And.intro @foldFlt_til (And.intro @foldFlt_vec (QB7))))))))))))))))))))))))))))) := And.intro @foldFrm (And.intro @foldAgt (And.intro @foldOfr (And.intro @foldTsk (And.intro @foldFlt (And.intro @foldFrm_id (And.intro @foldFrm_role (And.intro @foldFrm_weight (And.intro @foldFrm_up (And.intro @foldFrm_quiet (And.intro @foldFrm_time (And.intro @foldFrm_til (And.intro @foldAgt_id (And.intro @foldAgt_total (And.intro @foldAgt_free (And.intro @foldOfr_id (And.intro @foldOfr_frame (And.intro @foldOfr_agent (And.intro @foldOfr_vec (And.intro @foldOfr_til (And.intro @foldTsk_frame (And.intro @foldTsk_id (And.intro @foldTsk_agent (And.intro @foldTsk_vec (And.intro @foldFlt_frame (And.intro @foldFlt_agent (And.intro @foldFlt_til (And.intro @foldFlt_vec (QB7))))))))))))))))))))))))))))
def Flt.X (o : Ar) (f : Flt) : List X := [xi f.frame, xi f.agent, xi f.til, .ro (SL o Part.X f.vec)]
structure Cfg where
  hor : Int
  most : Int
  ids : Int
  life : Int
  cap : Int
  min : S4
  deriving DecidableEq
def Cfg.X (o : Ar) (c : Cfg) : List X := [xi c.hor, xi c.most, xi c.ids, xi c.life, xi c.cap, xi c.min.a, xi c.min.b, xi c.min.c, xi c.min.d]
structure Bk where
  cfg : Cfg
  now : Int
  last : Int
  fr : List Frm
  ag : List Agt
  of : List Ofr
  tk : List Tsk
  fl : List Flt
def Bk.X (o : Ar) (b : Bk) : List X := [xi b.cfg.hor, xi b.cfg.most, xi b.cfg.ids, xi b.cfg.life, xi b.cfg.cap, xi b.cfg.min.a, xi b.cfg.min.b, xi b.cfg.min.c, xi b.cfg.min.d, xi b.now, xi b.last,
  .ro (SL o Frm.X b.fr), .ro (SL o Agt.X b.ag), .ro (SL o Ofr.X b.of), .ro (SL o Tsk.X b.tk), .ro (SL o Flt.X b.fl)]
structure BkOk (b : Bk) : Prop where
  n_fr : b.fr.length ≤ 1048576
  n_ag : b.ag.length ≤ 1048576
  n_of : b.of.length ≤ 1048576
  n_tk : b.tk.length ≤ 1048576
  n_fl : b.fl.length ≤ 1048576
  a1 : ∀ i, (b.ag.getD i default).total.length ≤ 1048576
  a2 : ∀ i, (b.ag.getD i default).free.length ≤ 1048576
  o1 : ∀ i, (b.of.getD i default).vec.length ≤ 1048576
  t1 : ∀ i, (b.tk.getD i default).vec.length ≤ 1048576
  l1 : ∀ i, (b.fl.getD i default).vec.length ≤ 1048576
end Go.Proofs.YtlblpbahoblihaaGreat.Sy
namespace Go.Proofs.YtlblpbahoblihaaGreat.Sy
open Go Go.Sy Go.Proofs.YtlblpbahoblihaaGreat
theorem all_step {Q : Nat → Prop} {i : Nat} (h : ∀ j, j < i → Q j) (hi : Q i) : ∀ j, j < i + 1 → Q j := fun j hj => by
  rcases Nat.lt_or_ge j i with h5 | h5
  · exact h j h5
  · obtain rfl : j = i := by omega
    exact hi
def cmpI (x y : Int) : Int := if x < y then -1 else if y < x then 1 else 0
theorem x_nanL (x : Int) : XC Tryz.prog 121 [xi x] [] (.b .f) [] := by
  (refine XC.of_body ([]) Tryz.func121 rfl Tryz.ntmps121 mixed (T := tl121) tk121 (by kernel_rfl) (by simp) rfl rfl rfl rfl rfl ?_; rintro o ho P hP c K hK; have hm : P.follows .mixedOrders = true := hP ▸ mixed; have hT : TOk P tl121 := hP ▸ tk121; (try rw [← ho]); cbv; (repeat (refine StopN.mk ?_; cbv)))
  repeat' (first | (refine Br.mk (fun hb => ?_) (fun hb => ?_) <;> ((try rw [ho] at hb); (try dsimp only [Ar.real, IX.vo] at hb); (try simp only [QP1] at hb); (try simp only [QBo, beq_iff_eq, beq_eq_false_iff_ne, ne_eq] at hb))) | (refine StopN.mk ?_; cbv) | (refine hK _ _ ?_) | (refine NeedT.mk ?_ ?_))
  exact .pure fun _ => by simp only [X.toD, BX.val]; rw [ho]; simp [real_not, real_eq]
theorem x_CmpL (x y : Int) : XC Tryz.prog 86 [xi x, xi y] [] (xi (cmpI x y)) [] := by
  (refine XC.of_body ([]) Tryz.func86 rfl Tryz.ntmps86 mixed (T := tl86) tk86 (by kernel_rfl) (by simp) rfl rfl rfl rfl rfl ?_; rintro o ho P hP c K hK; have hm : P.follows .mixedOrders = true := hP ▸ mixed; have hT : TOk P tl86 := hP ▸ tk86; (try rw [← ho]); cbv; (repeat (refine StopN.mk ?_; cbv)))
  repeat' (first | (refine Br.mk (fun hb => ?_) (fun hb => ?_) <;> ((try rw [ho] at hb); (try dsimp only [Ar.real, IX.vo] at hb); (try simp only [QP1] at hb); (try simp only [QBo, beq_iff_eq, beq_eq_false_iff_ne, ne_eq] at hb))) | (refine StopN.mk ?_; cbv) | (refine CallI.pure hP (x_nanL _) fn121 (by first | rfl | (rw [ho]; try rfl)) (by rfl) (by first | rfl | (rw [ho]; try rfl)) ?_; (try rw [← ho]); cbv) | (refine hK _ _ ?_) | (refine NeedT.mk ?_ ?_))
  all_goals
    refine .i ?_
    unfold cmpI
    ((try clear hR3); (try clear hR2); (try clear hR); (try clear hK); (try simp only [ncCast] at *); (try simp only [castI_eq] at *); (try rw [ho]); (try dsimp only [Ar.real, IX.vo, IX.val, BX.val, IX.toN]); (try simp only [QP1]))
    repeat' split
    all_goals omega
def or3 (x y z : Int) : Int := if x ≠ 0 then x else if y ≠ 0 then y else z
theorem x_Or3 (x y z : Int) : XC Tryz.prog 85 [.ro (.lits [[xi x], [xi y], [xi z]])] [] (xi (or3 x y z)) [] := by
  (refine XC.of_body ([]) Tryz.func85 rfl Tryz.ntmps85 mixed (T := tl85) tk85 (by kernel_rfl) (by simp) rfl rfl rfl rfl rfl ?_; rintro o ho P hP c K hK; have hm : P.follows .mixedOrders = true := hP ▸ mixed; have hT : TOk P tl85 := hP ▸ tk85; (try rw [← ho]); cbv; (repeat (refine StopN.mk ?_; cbv)))
  repeat' (first | (refine Br.mk (fun hb => ?_) (fun hb => ?_) <;> ((try rw [ho] at hb); (try dsimp only [Ar.real, IX.vo] at hb); (try simp only [QP1] at hb); (try simp only [QBo, beq_iff_eq, beq_eq_false_iff_ne, ne_eq] at hb))) | (refine StopN.mk ?_; cbv) | (refine hK _ _ ?_) | (refine NeedT.mk ?_ ?_) | (refine LoopN.lay (o := o) (D := []) 4 ho hm hT (by kernel_rfl) ?_; cbv))
  any_goals (((try clear hR3); (try clear hR2); (try clear hR); (try clear hK); (try simp only [ncCast] at *); (try simp only [castI_eq] at *); (try rw [ho]); (try dsimp only [Ar.real, IX.vo, IX.val, BX.val, IX.toN]); (try simp only [QP1]); (try simp only [decide_eq_true_eq]); (all_goals (repeat rw [wrap_i64 (by omega) (by omega)])); (all_goals (first | omega | (simp only [Int.ofNat_eq_natCast]; omega)))); done)
  all_goals
    refine .i ?_
    unfold or3
    ((try clear hR3); (try clear hR2); (try clear hR); (try clear hK); (try simp only [ncCast] at *); (try simp only [castI_eq] at *); (try rw [ho]); (try dsimp only [Ar.real, IX.vo, IX.val, BX.val, IX.toN]); (try simp only [QP1]))
    repeat' split
    all_goals (first | omega | simp_all)
def ordP (p q : Part) : Int := or3 (cmpI p.kind q.kind) (cmpI p.role q.role) (cmpI p.amount q.amount)
end Go.Proofs.YtlblpbahoblihaaGreat.Sy
namespace Go.Proofs.YtlblpbahoblihaaGreat.Sy
open Go Go.Sy Go.Proofs.YtlblpbahoblihaaGreat
def ordAt (a b : List Part) (i : Nat) : Int := ordP (a.getD i default) (b.getD i default)
def ordE (a b : List Part) : Int := if a.length < b.length then -1 else if b.length < a.length then 1 else 0
def ordV (a b : List Part) : Int := match nextAt (fun i => decide (ordAt a b i ≠ 0)) 0 (min a.length b.length) with | some i => ordAt a b i | none => ordE a b
theorem ordV_hit {a b : List Part} {i : Nat} (h1 : i < a.length) (h2 : i < b.length) (hno : ∀ j, j < i → ordAt a b j = 0) (h : ordAt a b i ≠ 0) : ordV a b = ordAt a b i := by
  unfold ordV
  rw [nextAt_some (k := i) (Nat.zero_le _) (by omega) (by simp [h]) (fun j _ hj => by simp [hno j hj])]
theorem ordV_end {a b : List Part} (hno : ∀ j, j < min a.length b.length → ordAt a b j = 0) : ordV a b = ordE a b := by
  unfold ordV
  rw [nextAt_none (fun j _ hj => by simp [hno j hj])]
theorem x_r16part (p q : Part) : XC Tryz.prog 115 [.agg (Part.X Ar.real p), .agg (Part.X Ar.real q)] [] (xi (ordP p q)) [] := by
  (refine XC.of_body ([]) Tryz.func115 rfl Tryz.ntmps115 mixed (T := tl115) tk115 (by kernel_rfl) (by simp) rfl rfl rfl rfl rfl ?_; rintro o ho P hP c K hK; have hm : P.follows .mixedOrders = true := hP ▸ mixed; have hT : TOk P tl115 := hP ▸ tk115; (try rw [← ho]); cbv; (repeat (refine StopN.mk ?_; cbv)))
  repeat' (first | (refine Br.mk (fun hb => ?_) (fun hb => ?_) <;> ((try rw [ho] at hb); (try dsimp only [Ar.real, IX.vo] at hb); (try simp only [QP1] at hb); (try simp only [QBo, beq_iff_eq, beq_eq_false_iff_ne, ne_eq] at hb))) | (refine StopN.mk ?_; cbv) | (refine hK _ _ ?_) | (refine NeedT.mk ?_ ?_))
  all_goals
    refine .i ?_
    ((try clear hR3); (try clear hR2); (try clear hR); (try clear hK); (try simp only [ncCast] at *); (try simp only [castI_eq] at *); (try rw [ho]); (try dsimp only [Ar.real, IX.vo, IX.val, BX.val, IX.toN]); (try simp only [QP1]))
    simp only [Bool.and_eq_true, Bool.and_eq_false_iff, decide_eq_true_eq, decide_eq_false_iff_not] at *
    unfold ordP or3 cmpI
    repeat' split
    all_goals omega
theorem x_r16Order (a b : List Part) (ha : a.length ≤ 1048576) (hb' : b.length ≤ 1048576) : XC Tryz.prog 79 [.ro (SL Ar.real Part.X a), .ro (SL Ar.real Part.X b)] [] (xi (ordV a b)) [] := by
  have h1 := fun i => x_r16part (a.getD i default) (b.getD i default)
  have h2 := fun i hi1 hi2 hno h => ordV_hit (a := a) (b := b) (i := i) hi1 hi2 hno h
  have h3 := ordV_end (a := a) (b := b)
  unfold ordE at h3
  generalize ordV a b = r at *
  have h0 : ∀ i, ordP (a.getD i default) (b.getD i default) = ordAt a b i := fun _ => rfl
  simp only [h0] at h1
  clear h0
  generalize ordAt a b = O at *
  (refine XC.of_body (dt79) Tryz.func79 rfl Tryz.ntmps79 mixed (T := tl79) tk79 (by kernel_rfl) (by simp) rfl rfl rfl rfl rfl ?_; rintro o ho P hP c K hK; have hm : P.follows .mixedOrders = true := hP ▸ mixed; have hT : TOk P tl79 := hP ▸ tk79; (try rw [← ho]); cbv; (repeat (refine StopN.mk ?_; cbv)))
  refine LoopN.over (o := o) (D := dt79) ho hm hT (by kernel_rfl) (fun i : Nat => [(5, xn i)]) (fun _ => []) (fun _ => []) (fun i => i ≤ a.length ∧ i ≤ b.length ∧ ∀ j, j < i → O j = 0) (fun i => a.length - i) 0 ⟨Nat.zero_le _, Nat.zero_le _, fun j hj => by omega⟩ ?_ ?_
  · (refine ⟨?_, ?_, ?_, ?_⟩ <;> cbv <;> repeat' (first | trivial | exact EqX.rfl' | exact EqO.rfl' | apply And.intro | ((try clear hR3); (try clear hR2); (try clear hR); (try clear hK); (try simp only [ncCast] at *); (try simp only [castI_eq] at *); refine EqX.i ?_; (try rw [ho]); (try dsimp only [Ar.real, IX.vo, IX.val, BX.val, IX.toN]); (try simp only [QP1]); (repeat rw [wrap_i64 (by omega) (by omega)]); omega)))
  · rintro i ⟨hi, hi2, hno⟩ R hR
    have e1 := h1 i
    have e2 := h2 i
    have ea : o.nth a i = a.getD i default := by rw [ho, real_nth]
    have eb : o.nth b i = b.getD i default := by rw [ho, real_nth]
    rw [← ea, ← eb, ← ho] at e1
    generalize hz : O i = z at *
    cbv
    repeat' (first | (refine Br.mk (fun hb => ?_) (fun hb => ?_) <;> ((try rw [ho] at hb); (try dsimp only [Ar.real, IX.vo] at hb); (try simp only [QP1] at hb); (try simp only [QBo, beq_iff_eq, beq_eq_false_iff_ne, ne_eq] at hb))) | (refine StopN.mk ?_; cbv) | (first | refine CallN.pure hP e1 fn115 rfl rfl rfl ?_ | refine CallI.pure hP e1 fn115 rfl rfl rfl ?_); cbv | (refine hK _ _ ?_) | (refine NeedT.mk ?_ ?_))
    any_goals (((try clear hR3); (try clear hR2); (try clear hR); (try clear hK); (try simp only [ncCast] at *); (try simp only [castI_eq] at *); (try rw [ho]); (try dsimp only [Ar.real, IX.vo, IX.val, BX.val, IX.toN]); (try simp only [QP1]); (try simp only [decide_eq_true_eq]); (all_goals (repeat rw [wrap_i64 (by omega) (by omega)])); (all_goals (first | omega | (simp only [Int.ofNat_eq_natCast]; omega)))); done)
    · rw [e2 (by assumption) (by assumption) hno hb]
      exact .i rfl
    · refine hR _ (i + 1) (by show a.length - (i + 1) < a.length - i; omega) ⟨by show i + 1 ≤ a.length; omega, by show i + 1 ≤ b.length; omega, all_step hno (hz.trans (by assumption))⟩ ?_
      (refine ⟨?_, ?_, ?_, ?_⟩ <;> cbv <;> repeat' (first | trivial | exact EqX.rfl' | exact EqO.rfl' | apply And.intro | ((try clear hR3); (try clear hR2); (try clear hR); (try clear hK); (try simp only [ncCast] at *); (try simp only [castI_eq] at *); refine EqX.i ?_; (try rw [ho]); (try dsimp only [Ar.real, IX.vo, IX.val, BX.val, IX.toN]); (try simp only [QP1]); (repeat rw [wrap_i64 (by omega) (by omega)]); omega)))
    all_goals
      have hno2 := h3 (fun j hj => hno j (by ((try clear hR3); (try clear hR2); (try clear hR); (try clear hK); (try simp only [ncCast] at *); (try simp only [castI_eq] at *)); omega))
      repeat rw [if_neg (by ((try clear hR3); (try clear hR2); (try clear hR); (try clear hK); (try simp only [ncCast] at *); (try simp only [castI_eq] at *)); omega)] at hno2
      try rw [if_pos (by ((try clear hR3); (try clear hR2); (try clear hR); (try clear hK); (try simp only [ncCast] at *); (try simp only [castI_eq] at *)); omega)] at hno2
      try (exfalso; ((try clear hR3); (try clear hR2); (try clear hR); (try clear hK); (try simp only [ncCast] at *); (try simp only [castI_eq] at *)); omega)
      try rw [hno2]
      try exact .i rfl
end Go.Proofs.YtlblpbahoblihaaGreat.Sy
namespace Go.Proofs.YtlblpbahoblihaaGreat.Sy
open Go Go.Sy Go.Proofs.YtlblpbahoblihaaGreat
def ixR {α : Type} [Inhabited α] (q : α → Bool) (l : List α) : Int := match nextAt (fun i => q (l.getD i default)) 0 l.length with | some i => i | none => -1
theorem ixR_hit {α : Type} [Inhabited α] {q : α → Bool} {l : List α} {i : Nat} (h1 : i < l.length) (hno : ∀ j, j < i → q (l.getD j default) = false) (h : q (l.getD i default) = true) : ixR q l = i := by
  unfold ixR
  rw [nextAt_some (k := i) (Nat.zero_le _) h1 h (fun j _ hj => hno j hj)]
theorem ixR_none {α : Type} [Inhabited α] {q : α → Bool} {l : List α} (hno : ∀ j, j < l.length → q (l.getD j default) = false) : ixR q l = -1 := by
  unfold ixR
  rw [nextAt_none (fun j _ hj => hno j hj)]
theorem x_IxFrm (q : Frm → Bool) (g : FuncId) (x0 : Int) (t0 : Nat) (hg : FnOk Tryz.prog g) (hq : ∀ a : Frm, XC Tryz.prog g ([.agg (Frm.X Ar.real a)] ++ [.ptr (.out 0) 0]) [.var [xi x0] t0] (xb (q a)) [.var [xi x0] t0]) (l : List Frm) (hl : l.length ≤ 1048576) :
    XC Tryz.prog 42 [.ro (SL Ar.real Frm.X l), .fn (.func g) [] [.ptr (.out 0) 0]] [.var [xi x0] t0] (xi (ixR q l)) [.var [xi x0] t0] := by
  have h1 := fun i => ixR_hit (q := q) (l := l) (i := i)
  have h2 := ixR_none (q := q) (l := l)
  generalize ixR q l = r at *
  (refine XC.of_body ([]) Tryz.func42 rfl Tryz.ntmps42 mixed (T := tl42) tk42 (by kernel_rfl) (by simp) rfl rfl rfl rfl rfl ?_; rintro o ho P hP c K hK; have hm : P.follows .mixedOrders = true := hP ▸ mixed; have hT : TOk P tl42 := hP ▸ tk42; (try rw [← ho]); cbv; (repeat (refine StopN.mk ?_; cbv)))
  refine LoopN.over (o := o) (D := []) ho hm hT (by kernel_rfl) (fun i : Nat => [(8, xn i)]) (fun _ => []) (fun _ => []) (fun i => i ≤ l.length ∧ ∀ j, j < i → q (l.getD j default) = false) (fun i => l.length - i) 0 ⟨Nat.zero_le _, fun j hj => by omega⟩ ?_ ?_
  · (refine ⟨?_, ?_, ?_, ?_⟩ <;> cbv <;> repeat' (first | trivial | exact EqX.rfl' | exact EqO.rfl' | apply And.intro | ((try clear hR3); (try clear hR2); (try clear hR); (try clear hK); (try simp only [ncCast] at *); (try simp only [castI_eq] at *); refine EqX.i ?_; (try rw [ho]); (try dsimp only [Ar.real, IX.vo, IX.val, BX.val, IX.toN]); (try simp only [QP1, QB7]); (repeat rw [wrap_i64 (by omega) (by omega)]); omega)))
  · rintro i ⟨hi, hno⟩ R hR
    have e1 := hq (l.getD i default)
    have e2 := h1 i
    have el : o.nth l i = l.getD i default := by rw [ho, real_nth]
    rw [← ho, ← el] at e1
    rw [← el] at e2
    have e3 := fun h : q (o.nth l i) = false => all_step hno (by rw [← el]; exact h)
    generalize q (o.nth l i) = b at *
    cbv
    repeat' (first | (refine Br.mk (fun hb => ?_) (fun hb => ?_) <;> ((try rw [ho] at hb); (try dsimp only [Ar.real, IX.vo] at hb); (try simp only [QP1, QB7] at hb); (try simp only [QBo, beq_iff_eq, beq_eq_false_iff_ne, ne_eq] at hb))) | (refine StopN.mk ?_; cbv) | (refine CallI.objs [.out 0] hP e1 hg rfl rfl rfl rfl (by rfl) rfl rfl rfl rfl (by rfl) ⟨⟨_, rfl, rfl⟩, trivial⟩ ?_); cbv | (refine hK _ _ ?_) | (refine NeedT.mk ?_ ?_))
    any_goals (((try clear hR3); (try clear hR2); (try clear hR); (try clear hK); (try simp only [ncCast] at *); (try simp only [castI_eq] at *); (try rw [ho]); (try dsimp only [Ar.real, IX.vo, IX.val, BX.val, IX.toN]); (try simp only [QP1, QB7]); (try simp only [decide_eq_true_eq]); (all_goals (repeat rw [wrap_i64 (by omega) (by omega)])); (all_goals (first | omega | (simp only [Int.ofNat_eq_natCast]; omega)))); done)
    · rw [e2 (by assumption) hno (by assumption)]
      exact FinX_iOr rfl rfl
    · refine hR _ (i + 1) (by show l.length - (i + 1) < l.length - i; omega) ⟨by show i + 1 ≤ l.length; omega, e3 (by assumption)⟩ ?_
      (refine ⟨?_, ?_, ?_, ?_⟩ <;> cbv <;> repeat' (first | trivial | exact EqX.rfl' | exact EqO.rfl' | apply And.intro | ((try clear hR3); (try clear hR2); (try clear hR); (try clear hK); (try simp only [ncCast] at *); (try simp only [castI_eq] at *); refine EqX.i ?_; (try rw [ho]); (try dsimp only [Ar.real, IX.vo, IX.val, BX.val, IX.toN]); (try simp only [QP1, QB7]); (repeat rw [wrap_i64 (by omega) (by omega)]); omega)))
    · obtain rfl : i = l.length := by ((try clear hR3); (try clear hR2); (try clear hR); (try clear hK); (try simp only [ncCast] at *); (try simp only [castI_eq] at *)); omega
      rw [h2 hno]
      exact FinX_iOr rfl rfl
theorem x_IxAgt (q : Agt → Bool) (g : FuncId) (x0 : Int) (t0 : Nat) (hg : FnOk Tryz.prog g) (hq : ∀ a : Agt, XC Tryz.prog g ([.agg (Agt.X Ar.real a)] ++ [.ptr (.out 0) 0]) [.var [xi x0] t0] (xb (q a)) [.var [xi x0] t0]) (l : List Agt) (hl : l.length ≤ 1048576) :
    XC Tryz.prog 66 [.ro (SL Ar.real Agt.X l), .fn (.func g) [] [.ptr (.out 0) 0]] [.var [xi x0] t0] (xi (ixR q l)) [.var [xi x0] t0] := by
  have h1 := fun i => ixR_hit (q := q) (l := l) (i := i)
  have h2 := ixR_none (q := q) (l := l)
  generalize ixR q l = r at *
  (refine XC.of_body ([]) Tryz.func66 rfl Tryz.ntmps66 mixed (T := tl66) tk66 (by kernel_rfl) (by simp) rfl rfl rfl rfl rfl ?_; rintro o ho P hP c K hK; have hm : P.follows .mixedOrders = true := hP ▸ mixed; have hT : TOk P tl66 := hP ▸ tk66; (try rw [← ho]); cbv; (repeat (refine StopN.mk ?_; cbv)))
  refine LoopN.over (o := o) (D := []) ho hm hT (by kernel_rfl) (fun i : Nat => [(8, xn i)]) (fun _ => []) (fun _ => []) (fun i => i ≤ l.length ∧ ∀ j, j < i → q (l.getD j default) = false) (fun i => l.length - i) 0 ⟨Nat.zero_le _, fun j hj => by omega⟩ ?_ ?_
  · (refine ⟨?_, ?_, ?_, ?_⟩ <;> cbv <;> repeat' (first | trivial | exact EqX.rfl' | exact EqO.rfl' | apply And.intro | ((try clear hR3); (try clear hR2); (try clear hR); (try clear hK); (try simp only [ncCast] at *); (try simp only [castI_eq] at *); refine EqX.i ?_; (try rw [ho]); (try dsimp only [Ar.real, IX.vo, IX.val, BX.val, IX.toN]); (try simp only [QP1, QB7]); (repeat rw [wrap_i64 (by omega) (by omega)]); omega)))
  · rintro i ⟨hi, hno⟩ R hR
    have e1 := hq (l.getD i default)
    have e2 := h1 i
    have el : o.nth l i = l.getD i default := by rw [ho, real_nth]
    rw [← ho, ← el] at e1
    rw [← el] at e2
    have e3 := fun h : q (o.nth l i) = false => all_step hno (by rw [← el]; exact h)
    generalize q (o.nth l i) = b at *
    cbv
    repeat' (first | (refine Br.mk (fun hb => ?_) (fun hb => ?_) <;> ((try rw [ho] at hb); (try dsimp only [Ar.real, IX.vo] at hb); (try simp only [QP1, QB7] at hb); (try simp only [QBo, beq_iff_eq, beq_eq_false_iff_ne, ne_eq] at hb))) | (refine StopN.mk ?_; cbv) | (refine CallI.objs [.out 0] hP e1 hg rfl rfl rfl rfl (by rfl) rfl rfl rfl rfl (by rfl) ⟨⟨_, rfl, rfl⟩, trivial⟩ ?_); cbv | (refine hK _ _ ?_) | (refine NeedT.mk ?_ ?_))
    any_goals (((try clear hR3); (try clear hR2); (try clear hR); (try clear hK); (try simp only [ncCast] at *); (try simp only [castI_eq] at *); (try rw [ho]); (try dsimp only [Ar.real, IX.vo, IX.val, BX.val, IX.toN]); (try simp only [QP1, QB7]); (try simp only [decide_eq_true_eq]); (all_goals (repeat rw [wrap_i64 (by omega) (by omega)])); (all_goals (first | omega | (simp only [Int.ofNat_eq_natCast]; omega)))); done)
    · rw [e2 (by assumption) hno (by assumption)]
      exact FinX_iOr rfl rfl
    · refine hR _ (i + 1) (by show l.length - (i + 1) < l.length - i; omega) ⟨by show i + 1 ≤ l.length; omega, e3 (by assumption)⟩ ?_
      (refine ⟨?_, ?_, ?_, ?_⟩ <;> cbv <;> repeat' (first | trivial | exact EqX.rfl' | exact EqO.rfl' | apply And.intro | ((try clear hR3); (try clear hR2); (try clear hR); (try clear hK); (try simp only [ncCast] at *); (try simp only [castI_eq] at *); refine EqX.i ?_; (try rw [ho]); (try dsimp only [Ar.real, IX.vo, IX.val, BX.val, IX.toN]); (try simp only [QP1, QB7]); (repeat rw [wrap_i64 (by omega) (by omega)]); omega)))
    · obtain rfl : i = l.length := by ((try clear hR3); (try clear hR2); (try clear hR); (try clear hK); (try simp only [ncCast] at *); (try simp only [castI_eq] at *)); omega
      rw [h2 hno]
      exact FinX_iOr rfl rfl
theorem x_IxOfr (q : Ofr → Bool) (g : FuncId) (x0 : Int) (t0 : Nat) (hg : FnOk Tryz.prog g) (hq : ∀ a : Ofr, XC Tryz.prog g ([.agg (Ofr.X Ar.real a)] ++ [.ptr (.out 0) 0]) [.var [xi x0] t0] (xb (q a)) [.var [xi x0] t0]) (l : List Ofr) (hl : l.length ≤ 1048576) :
    XC Tryz.prog 64 [.ro (SL Ar.real Ofr.X l), .fn (.func g) [] [.ptr (.out 0) 0]] [.var [xi x0] t0] (xi (ixR q l)) [.var [xi x0] t0] := by
  have h1 := fun i => ixR_hit (q := q) (l := l) (i := i)
  have h2 := ixR_none (q := q) (l := l)
  generalize ixR q l = r at *
  (refine XC.of_body ([]) Tryz.func64 rfl Tryz.ntmps64 mixed (T := tl64) tk64 (by kernel_rfl) (by simp) rfl rfl rfl rfl rfl ?_; rintro o ho P hP c K hK; have hm : P.follows .mixedOrders = true := hP ▸ mixed; have hT : TOk P tl64 := hP ▸ tk64; (try rw [← ho]); cbv; (repeat (refine StopN.mk ?_; cbv)))
  refine LoopN.over (o := o) (D := []) ho hm hT (by kernel_rfl) (fun i : Nat => [(8, xn i)]) (fun _ => []) (fun _ => []) (fun i => i ≤ l.length ∧ ∀ j, j < i → q (l.getD j default) = false) (fun i => l.length - i) 0 ⟨Nat.zero_le _, fun j hj => by omega⟩ ?_ ?_
  · (refine ⟨?_, ?_, ?_, ?_⟩ <;> cbv <;> repeat' (first | trivial | exact EqX.rfl' | exact EqO.rfl' | apply And.intro | ((try clear hR3); (try clear hR2); (try clear hR); (try clear hK); (try simp only [ncCast] at *); (try simp only [castI_eq] at *); refine EqX.i ?_; (try rw [ho]); (try dsimp only [Ar.real, IX.vo, IX.val, BX.val, IX.toN]); (try simp only [QP1, QB7]); (repeat rw [wrap_i64 (by omega) (by omega)]); omega)))
  · rintro i ⟨hi, hno⟩ R hR
    have e1 := hq (l.getD i default)
    have e2 := h1 i
    have el : o.nth l i = l.getD i default := by rw [ho, real_nth]
    rw [← ho, ← el] at e1
    rw [← el] at e2
    have e3 := fun h : q (o.nth l i) = false => all_step hno (by rw [← el]; exact h)
    generalize q (o.nth l i) = b at *
    cbv
    repeat' (first | (refine Br.mk (fun hb => ?_) (fun hb => ?_) <;> ((try rw [ho] at hb); (try dsimp only [Ar.real, IX.vo] at hb); (try simp only [QP1, QB7] at hb); (try simp only [QBo, beq_iff_eq, beq_eq_false_iff_ne, ne_eq] at hb))) | (refine StopN.mk ?_; cbv) | (refine CallI.objs [.out 0] hP e1 hg rfl rfl rfl rfl (by rfl) rfl rfl rfl rfl (by rfl) ⟨⟨_, rfl, rfl⟩, trivial⟩ ?_); cbv | (refine hK _ _ ?_) | (refine NeedT.mk ?_ ?_))
    any_goals (((try clear hR3); (try clear hR2); (try clear hR); (try clear hK); (try simp only [ncCast] at *); (try simp only [castI_eq] at *); (try rw [ho]); (try dsimp only [Ar.real, IX.vo, IX.val, BX.val, IX.toN]); (try simp only [QP1, QB7]); (try simp only [decide_eq_true_eq]); (all_goals (repeat rw [wrap_i64 (by omega) (by omega)])); (all_goals (first | omega | (simp only [Int.ofNat_eq_natCast]; omega)))); done)
    · rw [e2 (by assumption) hno (by assumption)]
      exact FinX_iOr rfl rfl
    · refine hR _ (i + 1) (by show l.length - (i + 1) < l.length - i; omega) ⟨by show i + 1 ≤ l.length; omega, e3 (by assumption)⟩ ?_
      (refine ⟨?_, ?_, ?_, ?_⟩ <;> cbv <;> repeat' (first | trivial | exact EqX.rfl' | exact EqO.rfl' | apply And.intro | ((try clear hR3); (try clear hR2); (try clear hR); (try clear hK); (try simp only [ncCast] at *); (try simp only [castI_eq] at *); refine EqX.i ?_; (try rw [ho]); (try dsimp only [Ar.real, IX.vo, IX.val, BX.val, IX.toN]); (try simp only [QP1, QB7]); (repeat rw [wrap_i64 (by omega) (by omega)]); omega)))
    · obtain rfl : i = l.length := by ((try clear hR3); (try clear hR2); (try clear hR); (try clear hK); (try simp only [ncCast] at *); (try simp only [castI_eq] at *)); omega
      rw [h2 hno]
      exact FinX_iOr rfl rfl
end Go.Proofs.YtlblpbahoblihaaGreat.Sy
namespace Go.Proofs.YtlblpbahoblihaaGreat.Sy
open Go Go.Sy Go.Proofs.YtlblpbahoblihaaGreat
theorem x_Frame1 (id : Int) (a : Frm) : XC Tryz.prog 71 ([.agg (Frm.X Ar.real a)] ++ [.ptr (.out 0) 0]) [.var [xi id] 2] (xb (decide (a.id = id))) [.var [xi id] 2] := by
  (refine XC.of_body ([]) Tryz.func71 rfl Tryz.ntmps71 mixed (T := tl71) tk71 (by kernel_rfl) (by simp) rfl rfl rfl rfl rfl ?_; rintro o ho P hP c K hK; have hm : P.follows .mixedOrders = true := hP ▸ mixed; have hT : TOk P tl71 := hP ▸ tk71; (try rw [← ho]); cbv; (repeat (refine StopN.mk ?_; cbv)))
  repeat' (first | (refine Br.mk (fun hb => ?_) (fun hb => ?_) <;> ((try rw [ho] at hb); (try dsimp only [Ar.real, IX.vo] at hb); (try simp only [QP1, QB7] at hb); (try simp only [QBo, beq_iff_eq, beq_eq_false_iff_ne, ne_eq] at hb))) | (refine StopN.mk ?_; cbv) | (refine hK _ _ ?_) | (refine NeedT.mk ?_ ?_))
  refine FinX_bOr ?_ rfl
  rw [ho]
  rfl
@[reducible] def atFrame (l : List Frm) (id : Int) : Int := ixR (fun a : Frm => decide (a.id = id)) l
theorem x_Frame (b : Bk) (hbk : BkOk b) (id : Int) : XC Tryz.prog 38 [.agg (Bk.X Ar.real b), xi id] [] (xi (atFrame b.fr id)) [] := by
  have hI := x_IxFrm (fun a : Frm => decide (a.id = id)) 71 id 2 fn71 (x_Frame1 id) b.fr hbk.n_fr
  unfold atFrame
  generalize ixR (fun a : Frm => decide (a.id = id)) b.fr = r at *
  obtain ⟨⟨c1, c2, c3, c4, c5, ⟨c6, c7, c8, c9⟩⟩, now, last, fr, ag, of, tk, fl⟩ := b
  dsimp only at *
  (refine XC.of_body ([]) Tryz.func38 rfl Tryz.ntmps38 mixed (T := tl38) tk38 (by kernel_rfl) (by simp) rfl rfl rfl rfl rfl ?_; rintro o ho P hP c K hK; have hm : P.follows .mixedOrders = true := hP ▸ mixed; have hT : TOk P tl38 := hP ▸ tk38; (try rw [← ho]); cbv; (repeat (refine StopN.mk ?_; cbv)))
  rw [← ho] at hI
  repeat' (first | (refine Br.mk (fun hb => ?_) (fun hb => ?_) <;> ((try rw [ho] at hb); (try dsimp only [Ar.real, IX.vo] at hb); (try simp only [QP1, QB7] at hb); (try simp only [QBo, beq_iff_eq, beq_eq_false_iff_ne, ne_eq] at hb))) | (refine StopN.mk ?_; cbv) | (refine CallI.objs [.loc 1] hP hI fn42 rfl rfl rfl rfl (by rfl) rfl rfl rfl rfl (by rfl) ⟨⟨_, rfl, rfl⟩, trivial⟩ ?_); cbv | (refine hK _ _ ?_) | (refine NeedT.mk ?_ ?_))
  exact .i rfl
theorem x_r16Frame (b : Bk) (hbk : BkOk b) (id : Int) : XC Tryz.prog 17 [.agg (Bk.X Ar.real b), xi id] [] (xi (atFrame b.fr id)) [] := by
  have h1 := fun i => ixR_hit (q := fun a : Frm => decide (a.id = id)) (l := b.fr) (i := i)
  have h2 := ixR_none (q := fun a : Frm => decide (a.id = id)) (l := b.fr)
  have hn := hbk.n_fr
  unfold atFrame
  generalize ixR (fun a : Frm => decide (a.id = id)) b.fr = r at *
  obtain ⟨⟨c1, c2, c3, c4, c5, ⟨c6, c7, c8, c9⟩⟩, now, last, fr, ag, of, tk, fl⟩ := b
  dsimp only at *
  (refine XC.of_body ([]) Tryz.func17 rfl Tryz.ntmps17 mixed (T := tl17) tk17 (by kernel_rfl) (by simp) rfl rfl rfl rfl rfl ?_; rintro o ho P hP c K hK; have hm : P.follows .mixedOrders = true := hP ▸ mixed; have hT : TOk P tl17 := hP ▸ tk17; (try rw [← ho]); cbv; (repeat (refine StopN.mk ?_; cbv)))
  refine LoopN.over (o := o) (D := []) ho hm hT (by kernel_rfl) (fun i : Nat => [(5, xn i)]) (fun _ => []) (fun _ => []) (fun i => i ≤ fr.length ∧ ∀ j, j < i → decide ((fr.getD j default).id = id) = false) (fun i => fr.length - i) 0 ⟨Nat.zero_le _, fun j hj => by omega⟩ ?_ ?_
  · (refine ⟨?_, ?_, ?_, ?_⟩ <;> cbv <;> repeat' (first | trivial | exact EqX.rfl' | exact EqO.rfl' | apply And.intro | ((try clear hR3); (try clear hR2); (try clear hR); (try clear hK); (try simp only [ncCast] at *); (try simp only [castI_eq] at *); refine EqX.i ?_; (try rw [ho]); (try dsimp only [Ar.real, IX.vo, IX.val, BX.val, IX.toN]); (try simp only [QP1, QB7]); (repeat rw [wrap_i64 (by omega) (by omega)]); omega)))
  · rintro i ⟨hi, hno⟩ R hR
    have e2 := h1 i
    cbv
    repeat' (first | (refine Br.mk (fun hb => ?_) (fun hb => ?_) <;> ((try rw [ho] at hb); (try dsimp only [Ar.real, IX.vo] at hb); (try simp only [QP1, QB7] at hb); (try simp only [QBo, beq_iff_eq, beq_eq_false_iff_ne, ne_eq] at hb))) | (refine StopN.mk ?_; cbv) | (refine hK _ _ ?_) | (refine NeedT.mk ?_ ?_))
    any_goals (((try clear hR3); (try clear hR2); (try clear hR); (try clear hK); (try simp only [ncCast] at *); (try simp only [castI_eq] at *); (try rw [ho]); (try dsimp only [Ar.real, IX.vo, IX.val, BX.val, IX.toN]); (try simp only [QP1, QB7]); (try simp only [decide_eq_true_eq]); (all_goals (repeat rw [wrap_i64 (by omega) (by omega)])); (all_goals (first | omega | (simp only [Int.ofNat_eq_natCast]; omega)))); done)
    · rw [e2 (by assumption) hno (decide_eq_true (by assumption))]
      exact .i rfl
    · refine hR _ (i + 1) (by show fr.length - (i + 1) < fr.length - i; omega) ⟨by show i + 1 ≤ fr.length; omega, all_step hno (decide_eq_false (by assumption))⟩ ?_
      (refine ⟨?_, ?_, ?_, ?_⟩ <;> cbv <;> repeat' (first | trivial | exact EqX.rfl' | exact EqO.rfl' | apply And.intro | ((try clear hR3); (try clear hR2); (try clear hR); (try clear hK); (try simp only [ncCast] at *); (try simp only [castI_eq] at *); refine EqX.i ?_; (try rw [ho]); (try dsimp only [Ar.real, IX.vo, IX.val, BX.val, IX.toN]); (try simp only [QP1, QB7]); (repeat rw [wrap_i64 (by omega) (by omega)]); omega)))
    · obtain rfl : i = fr.length := by ((try clear hR3); (try clear hR2); (try clear hR); (try clear hK); (try simp only [ncCast] at *); (try simp only [castI_eq] at *)); omega
      rw [h2 hno]
      exact .i rfl
theorem x_Agent1 (id : Int) (a : Agt) : XC Tryz.prog 67 ([.agg (Agt.X Ar.real a)] ++ [.ptr (.out 0) 0]) [.var [xi id] 2] (xb (decide (a.id = id))) [.var [xi id] 2] := by
  (refine XC.of_body ([]) Tryz.func67 rfl Tryz.ntmps67 mixed (T := tl67) tk67 (by kernel_rfl) (by simp) rfl rfl rfl rfl rfl ?_; rintro o ho P hP c K hK; have hm : P.follows .mixedOrders = true := hP ▸ mixed; have hT : TOk P tl67 := hP ▸ tk67; (try rw [← ho]); cbv; (repeat (refine StopN.mk ?_; cbv)))
  repeat' (first | (refine Br.mk (fun hb => ?_) (fun hb => ?_) <;> ((try rw [ho] at hb); (try dsimp only [Ar.real, IX.vo] at hb); (try simp only [QP1, QB7] at hb); (try simp only [QBo, beq_iff_eq, beq_eq_false_iff_ne, ne_eq] at hb))) | (refine StopN.mk ?_; cbv) | (refine hK _ _ ?_) | (refine NeedT.mk ?_ ?_))
  refine FinX_bOr ?_ rfl
  rw [ho]
  rfl
@[reducible] def atAgent (l : List Agt) (id : Int) : Int := ixR (fun a : Agt => decide (a.id = id)) l
theorem x_Agent (b : Bk) (hbk : BkOk b) (id : Int) : XC Tryz.prog 30 [.agg (Bk.X Ar.real b), xi id] [] (xi (atAgent b.ag id)) [] := by
  have hI := x_IxAgt (fun a : Agt => decide (a.id = id)) 67 id 2 fn67 (x_Agent1 id) b.ag hbk.n_ag
  unfold atAgent
  generalize ixR (fun a : Agt => decide (a.id = id)) b.ag = r at *
  obtain ⟨⟨c1, c2, c3, c4, c5, ⟨c6, c7, c8, c9⟩⟩, now, last, fr, ag, of, tk, fl⟩ := b
  dsimp only at *
  (refine XC.of_body ([]) Tryz.func30 rfl Tryz.ntmps30 mixed (T := tl30) tk30 (by kernel_rfl) (by simp) rfl rfl rfl rfl rfl ?_; rintro o ho P hP c K hK; have hm : P.follows .mixedOrders = true := hP ▸ mixed; have hT : TOk P tl30 := hP ▸ tk30; (try rw [← ho]); cbv; (repeat (refine StopN.mk ?_; cbv)))
  rw [← ho] at hI
  repeat' (first | (refine Br.mk (fun hb => ?_) (fun hb => ?_) <;> ((try rw [ho] at hb); (try dsimp only [Ar.real, IX.vo] at hb); (try simp only [QP1, QB7] at hb); (try simp only [QBo, beq_iff_eq, beq_eq_false_iff_ne, ne_eq] at hb))) | (refine StopN.mk ?_; cbv) | (refine CallI.objs [.loc 1] hP hI fn66 rfl rfl rfl rfl (by rfl) rfl rfl rfl rfl (by rfl) ⟨⟨_, rfl, rfl⟩, trivial⟩ ?_); cbv | (refine hK _ _ ?_) | (refine NeedT.mk ?_ ?_))
  exact .i rfl
theorem x_r16Agent (b : Bk) (hbk : BkOk b) (id : Int) : XC Tryz.prog 48 [.agg (Bk.X Ar.real b), xi id] [] (xi (atAgent b.ag id)) [] := by
  have h1 := fun i => ixR_hit (q := fun a : Agt => decide (a.id = id)) (l := b.ag) (i := i)
  have h2 := ixR_none (q := fun a : Agt => decide (a.id = id)) (l := b.ag)
  have hn := hbk.n_ag
  unfold atAgent
  generalize ixR (fun a : Agt => decide (a.id = id)) b.ag = r at *
  obtain ⟨⟨c1, c2, c3, c4, c5, ⟨c6, c7, c8, c9⟩⟩, now, last, fr, ag, of, tk, fl⟩ := b
  dsimp only at *
  (refine XC.of_body ([]) Tryz.func48 rfl Tryz.ntmps48 mixed (T := tl48) tk48 (by kernel_rfl) (by simp) rfl rfl rfl rfl rfl ?_; rintro o ho P hP c K hK; have hm : P.follows .mixedOrders = true := hP ▸ mixed; have hT : TOk P tl48 := hP ▸ tk48; (try rw [← ho]); cbv; (repeat (refine StopN.mk ?_; cbv)))
  refine LoopN.over (o := o) (D := []) ho hm hT (by kernel_rfl) (fun i : Nat => [(5, xn i)]) (fun _ => []) (fun _ => []) (fun i => i ≤ ag.length ∧ ∀ j, j < i → decide ((ag.getD j default).id = id) = false) (fun i => ag.length - i) 0 ⟨Nat.zero_le _, fun j hj => by omega⟩ ?_ ?_
  · (refine ⟨?_, ?_, ?_, ?_⟩ <;> cbv <;> repeat' (first | trivial | exact EqX.rfl' | exact EqO.rfl' | apply And.intro | ((try clear hR3); (try clear hR2); (try clear hR); (try clear hK); (try simp only [ncCast] at *); (try simp only [castI_eq] at *); refine EqX.i ?_; (try rw [ho]); (try dsimp only [Ar.real, IX.vo, IX.val, BX.val, IX.toN]); (try simp only [QP1, QB7]); (repeat rw [wrap_i64 (by omega) (by omega)]); omega)))
  · rintro i ⟨hi, hno⟩ R hR
    have e2 := h1 i
    cbv
    repeat' (first | (refine Br.mk (fun hb => ?_) (fun hb => ?_) <;> ((try rw [ho] at hb); (try dsimp only [Ar.real, IX.vo] at hb); (try simp only [QP1, QB7] at hb); (try simp only [QBo, beq_iff_eq, beq_eq_false_iff_ne, ne_eq] at hb))) | (refine StopN.mk ?_; cbv) | (refine hK _ _ ?_) | (refine NeedT.mk ?_ ?_))
    any_goals (((try clear hR3); (try clear hR2); (try clear hR); (try clear hK); (try simp only [ncCast] at *); (try simp only [castI_eq] at *); (try rw [ho]); (try dsimp only [Ar.real, IX.vo, IX.val, BX.val, IX.toN]); (try simp only [QP1, QB7]); (try simp only [decide_eq_true_eq]); (all_goals (repeat rw [wrap_i64 (by omega) (by omega)])); (all_goals (first | omega | (simp only [Int.ofNat_eq_natCast]; omega)))); done)
    · rw [e2 (by assumption) hno (decide_eq_true (by assumption))]
      exact .i rfl
    · refine hR _ (i + 1) (by show ag.length - (i + 1) < ag.length - i; omega) ⟨by show i + 1 ≤ ag.length; omega, all_step hno (decide_eq_false (by assumption))⟩ ?_
      (refine ⟨?_, ?_, ?_, ?_⟩ <;> cbv <;> repeat' (first | trivial | exact EqX.rfl' | exact EqO.rfl' | apply And.intro | ((try clear hR3); (try clear hR2); (try clear hR); (try clear hK); (try simp only [ncCast] at *); (try simp only [castI_eq] at *); refine EqX.i ?_; (try rw [ho]); (try dsimp only [Ar.real, IX.vo, IX.val, BX.val, IX.toN]); (try simp only [QP1, QB7]); (repeat rw [wrap_i64 (by omega) (by omega)]); omega)))
    · obtain rfl : i = ag.length := by ((try clear hR3); (try clear hR2); (try clear hR); (try clear hK); (try simp only [ncCast] at *); (try simp only [castI_eq] at *)); omega
      rw [h2 hno]
      exact .i rfl
theorem x_Offer1 (id : Int) (a : Ofr) : XC Tryz.prog 65 ([.agg (Ofr.X Ar.real a)] ++ [.ptr (.out 0) 0]) [.var [xi id] 2] (xb (decide (a.id = id))) [.var [xi id] 2] := by
  (refine XC.of_body ([]) Tryz.func65 rfl Tryz.ntmps65 mixed (T := tl65) tk65 (by kernel_rfl) (by simp) rfl rfl rfl rfl rfl ?_; rintro o ho P hP c K hK; have hm : P.follows .mixedOrders = true := hP ▸ mixed; have hT : TOk P tl65 := hP ▸ tk65; (try rw [← ho]); cbv; (repeat (refine StopN.mk ?_; cbv)))
  repeat' (first | (refine Br.mk (fun hb => ?_) (fun hb => ?_) <;> ((try rw [ho] at hb); (try dsimp only [Ar.real, IX.vo] at hb); (try simp only [QP1, QB7] at hb); (try simp only [QBo, beq_iff_eq, beq_eq_false_iff_ne, ne_eq] at hb))) | (refine StopN.mk ?_; cbv) | (refine hK _ _ ?_) | (refine NeedT.mk ?_ ?_))
  refine FinX_bOr ?_ rfl
  rw [ho]
  rfl
@[reducible] def atOffer (l : List Ofr) (id : Int) : Int := ixR (fun a : Ofr => decide (a.id = id)) l
theorem x_Offer (b : Bk) (hbk : BkOk b) (id : Int) : XC Tryz.prog 29 [.agg (Bk.X Ar.real b), xi id] [] (xi (atOffer b.of id)) [] := by
  have hI := x_IxOfr (fun a : Ofr => decide (a.id = id)) 65 id 2 fn65 (x_Offer1 id) b.of hbk.n_of
  unfold atOffer
  generalize ixR (fun a : Ofr => decide (a.id = id)) b.of = r at *
  obtain ⟨⟨c1, c2, c3, c4, c5, ⟨c6, c7, c8, c9⟩⟩, now, last, fr, ag, of, tk, fl⟩ := b
  dsimp only at *
  (refine XC.of_body ([]) Tryz.func29 rfl Tryz.ntmps29 mixed (T := tl29) tk29 (by kernel_rfl) (by simp) rfl rfl rfl rfl rfl ?_; rintro o ho P hP c K hK; have hm : P.follows .mixedOrders = true := hP ▸ mixed; have hT : TOk P tl29 := hP ▸ tk29; (try rw [← ho]); cbv; (repeat (refine StopN.mk ?_; cbv)))
  rw [← ho] at hI
  repeat' (first | (refine Br.mk (fun hb => ?_) (fun hb => ?_) <;> ((try rw [ho] at hb); (try dsimp only [Ar.real, IX.vo] at hb); (try simp only [QP1, QB7] at hb); (try simp only [QBo, beq_iff_eq, beq_eq_false_iff_ne, ne_eq] at hb))) | (refine StopN.mk ?_; cbv) | (refine CallI.objs [.loc 1] hP hI fn64 rfl rfl rfl rfl (by rfl) rfl rfl rfl rfl (by rfl) ⟨⟨_, rfl, rfl⟩, trivial⟩ ?_); cbv | (refine hK _ _ ?_) | (refine NeedT.mk ?_ ?_))
  exact .i rfl
@[reducible] def atTask (l : List Tsk) (f id : Int) : Int := ixR (fun a : Tsk => decide (a.frame = f) && decide (a.id = id)) l
end Go.Proofs.YtlblpbahoblihaaGreat.Sy
namespace Go.Proofs.YtlblpbahoblihaaGreat.Sy
open Go Go.Sy Go.Proofs.YtlblpbahoblihaaGreat
def lenTo {α : Type} [Inhabited α] (f : α → Nat) (l : List α) : Nat → Nat
  | 0 => 0
  | i + 1 => lenTo f l i + f (l.getD i default)
theorem lenTo_bd {α : Type} [Inhabited α] {f : α → Nat} {l : List α} {m : Nat} (h : ∀ i, f (l.getD i default) ≤ m) : ∀ i, lenTo f l i ≤ i * m
  | 0 => Nat.zero_le _
  | i + 1 => by
    have h1 := lenTo_bd h i
    have h2 := h i
    rw [Nat.succ_mul]
    exact Nat.add_le_add h1 h2
def lenA (b : Bk) : Nat → Nat := lenTo (fun a : Agt => a.total.length + a.free.length) b.ag
def lenO (b : Bk) : Nat → Nat := lenTo (fun a : Ofr => a.vec.length) b.of
def lenT (b : Bk) : Nat → Nat := lenTo (fun a : Tsk => a.vec.length) b.tk
def lenF (b : Bk) : Nat → Nat := lenTo (fun a : Flt => a.vec.length) b.fl
def len5 (b : Bk) : Nat := b.fr.length + b.ag.length + b.of.length + b.tk.length + b.fl.length
def fewR (b : Bk) : Bool := decide (len5 b + lenA b b.ag.length + lenO b b.of.length + lenT b b.tk.length + lenF b b.fl.length ≤ 600)
theorem lens_bd {α : Type} [Inhabited α] {f : α → Nat} {l : List α} (hl : l.length ≤ 1048576) {m : Nat} (hm : m ≤ 2097152) (h : ∀ i, f (l.getD i default) ≤ m) (i : Nat) (hi : i ≤ l.length) : lenTo f l i ≤ 2199023255552 := by
  have h1 := lenTo_bd h i
  have h2 : i * m ≤ 1048576 * 2097152 := Nat.mul_le_mul (by omega) hm
  omega
structure StBn where
  i : Nat
  n : Nat
theorem x_Few (b : Bk) (hbk : BkOk b) : XC Tryz.prog 4 [.agg (Bk.X Ar.real b)] [] (xb (fewR b)) [] := by
  have hA := fun i hi => lens_bd hbk.n_ag (m := 2097152) (by decide) (f := fun a : Agt => a.total.length + a.free.length) (fun i => by have h1 := hbk.a1 i; have h2 := hbk.a2 i; show _ + _ ≤ _; omega) i hi
  have hO := fun i hi => lens_bd hbk.n_of (m := 1048576) (by decide) (f := fun a : Ofr => a.vec.length) hbk.o1 i hi
  have hT' := fun i hi => lens_bd hbk.n_tk (m := 1048576) (by decide) (f := fun a : Tsk => a.vec.length) hbk.t1 i hi
  have hF := fun i hi => lens_bd hbk.n_fl (m := 1048576) (by decide) (f := fun a : Flt => a.vec.length) hbk.l1 i hi
  have qA : ∀ i, lenA b (i + 1) = lenA b i + ((b.ag.getD i default).total.length + (b.ag.getD i default).free.length) := fun _ => rfl
  have qO : ∀ i, lenO b (i + 1) = lenO b i + (b.of.getD i default).vec.length := fun _ => rfl
  have qT : ∀ i, lenT b (i + 1) = lenT b i + (b.tk.getD i default).vec.length := fun _ => rfl
  have qF : ∀ i, lenF b (i + 1) = lenF b i + (b.fl.getD i default).vec.length := fun _ => rfl
  have zA : lenA b 0 = 0 := rfl
  have zO : lenO b 0 = 0 := rfl
  have zT : lenT b 0 = 0 := rfl
  have zF : lenF b 0 = 0 := rfl
  have hres : fewR b = decide (len5 b + lenA b b.ag.length + lenO b b.of.length + lenT b b.tk.length + lenF b b.fl.length ≤ 600) := rfl
  have h5 : len5 b = b.fr.length + b.ag.length + b.of.length + b.tk.length + b.fl.length := rfl
  have n1 := hbk.n_fr
  have n2 := hbk.n_ag
  have n3 := hbk.n_of
  have n4 := hbk.n_tk
  have n5 := hbk.n_fl
  have b1 := hbk.a1
  have b2 := hbk.a2
  have b3 := hbk.o1
  have b4 := hbk.t1
  have b5 := hbk.l1
  change ∀ i, i ≤ b.ag.length → lenA b i ≤ _ at hA
  change ∀ i, i ≤ b.of.length → lenO b i ≤ _ at hO
  change ∀ i, i ≤ b.tk.length → lenT b i ≤ _ at hT'
  change ∀ i, i ≤ b.fl.length → lenF b i ≤ _ at hF
  clear hbk
  generalize fewR b = r at *
  generalize len5 b = n0 at *
  generalize lenA b = LA at *
  generalize lenO b = LO at *
  generalize lenT b = LT at *
  generalize lenF b = LF at *
  obtain ⟨⟨c1, c2, c3, c4, c5, ⟨c6, c7, c8, c9⟩⟩, now, last, fr, ag, of, tk, fl⟩ := b
  dsimp only at *
  have hw5 : IntKind.i64.wrap (IntKind.i64.wrap (IntKind.i64.wrap (IntKind.i64.wrap ((fr.length : Int) + ag.length) + of.length) + tk.length) + fl.length) = (n0 : Int) := by
    rw [wrap_i64 (x := (fr.length : Int) + ag.length) (by omega) (by omega), wrap_i64 (x := (fr.length : Int) + ag.length + of.length) (by omega) (by omega), wrap_i64 (x := (fr.length : Int) + ag.length + of.length + tk.length) (by omega) (by omega), wrap_i64 (by omega) (by omega)]
    omega
  (refine XC.of_body (dt4) Tryz.func4 rfl Tryz.ntmps4 mixed (T := tl4) tk4 (by kernel_rfl) (by simp) rfl rfl rfl rfl rfl ?_; rintro o ho P hP c K hK; have hm : P.follows .mixedOrders = true := hP ▸ mixed; have hT : TOk P tl4 := hP ▸ tk4; (try rw [← ho]); cbv; (repeat (refine StopN.mk ?_; cbv)))
  refine LoopN.over (o := o) (D := dt4) ho hm hT (by kernel_rfl) (fun s : StBn => [(4, xn s.i), (3, xn s.n)]) (fun _ => []) (fun _ => []) (fun s => s.i ≤ ag.length ∧ s.n = n0 + LA s.i) (fun s => ag.length - s.i) ⟨0, n0⟩ ⟨Nat.zero_le _, by rw [zA]; rfl⟩ ?_ ?_
  · (refine ⟨?_, ?_, ?_, ?_⟩ <;> cbv <;> repeat' (first | trivial | exact EqX.rfl' | exact EqO.rfl' | apply And.intro | ((try clear hR3); (try clear hR2); (try clear hR); (try clear hK); (try simp only [ncCast] at *); (try simp only [castI_eq] at *); refine EqX.i ?_; (try rw [ho]); (try dsimp only [Ar.real, IX.vo, IX.val, BX.val, IX.toN]); (try simp only [QP1, QB7]); (repeat rw [wrap_i64 (by omega) (by omega)]); omega) | (refine EqX.i ?_; rw [ho]; exact hw5)))
  · rintro ⟨i, n1'⟩ ⟨hi, hn⟩ R hR
    dsimp only at hi hn
    have q1 := qA i
    have q2 := hA i hi
    have q3 := b1 i
    have q4 := b2 i
    obtain ⟨nx, hnx⟩ : ∃ x, x = n0 + LA (i + 1) := ⟨_, rfl⟩
    have hw : IntKind.i64.wrap (IntKind.i64.wrap ((n1' : Int) + (ag.getD i default).total.length) + (ag.getD i default).free.length) = (nx : Int) := by
      rw [wrap_i64 (x := (n1' : Int) + (ag.getD i default).total.length) (by omega) (by omega), wrap_i64 (by omega) (by omega)]
      omega
    cbv
    repeat' (first | (refine Br.mk (fun hb => ?_) (fun hb => ?_) <;> ((try rw [ho] at hb); (try dsimp only [Ar.real, IX.vo] at hb); (try simp only [QP1, QB7] at hb); (try simp only [QBo, beq_iff_eq, beq_eq_false_iff_ne, ne_eq] at hb))) | (refine StopN.mk ?_; cbv) | (refine hK _ _ ?_) | (refine NeedT.mk ?_ ?_))
    any_goals (((try clear hR3); (try clear hR2); (try clear hR); (try clear hK); (try simp only [ncCast] at *); (try simp only [castI_eq] at *); (try rw [ho]); (try dsimp only [Ar.real, IX.vo, IX.val, BX.val, IX.toN]); (try simp only [QP1, QB7]); (try simp only [decide_eq_true_eq]); (all_goals (repeat rw [wrap_i64 (by omega) (by omega)])); (all_goals (first | omega | (simp only [Int.ofNat_eq_natCast]; omega)))); done)
    · refine hR _ ⟨i + 1, nx⟩ (by show ag.length - (i + 1) < ag.length - i; omega) ⟨by show i + 1 ≤ ag.length; omega, hnx⟩ ?_
      clear hR
      (refine ⟨?_, ?_, ?_, ?_⟩ <;> cbv <;> repeat' (first | trivial | exact EqX.rfl' | exact EqO.rfl' | apply And.intro | ((try clear hR3); (try clear hR2); (try clear hR); (try clear hK); (try simp only [ncCast] at *); (try simp only [castI_eq] at *); refine EqX.i ?_; (try rw [ho]); (try dsimp only [Ar.real, IX.vo, IX.val, BX.val, IX.toN]); (try simp only [QP1, QB7]); (repeat rw [wrap_i64 (by omega) (by omega)]); omega) | (refine EqX.i ?_; rw [ho]; exact hw)))
    · obtain rfl : i = ag.length := by ((try clear hR3); (try clear hR2); (try clear hR); (try clear hK); (try simp only [ncCast] at *); (try simp only [castI_eq] at *)); omega
      clear q1 hR hnx hw
      refine LoopN.over (o := o) (D := dt4) ho hm hT (by kernel_rfl) (fun s : StBn => [(5, xn s.i), (3, xn s.n)]) (fun _ => []) (fun _ => []) (fun s => s.i ≤ of.length ∧ s.n = n1' + LO s.i) (fun s => of.length - s.i) ⟨0, n1'⟩ ⟨Nat.zero_le _, by rw [zO]; rfl⟩ ?_ ?_
      · (refine ⟨?_, ?_, ?_, ?_⟩ <;> cbv <;> repeat' (first | trivial | exact EqX.rfl' | exact EqO.rfl' | apply And.intro | ((try clear hR3); (try clear hR2); (try clear hR); (try clear hK); (try simp only [ncCast] at *); (try simp only [castI_eq] at *); refine EqX.i ?_; (try rw [ho]); (try dsimp only [Ar.real, IX.vo, IX.val, BX.val, IX.toN]); (try simp only [QP1, QB7]); (repeat rw [wrap_i64 (by omega) (by omega)]); omega)))
      · rintro ⟨i2, n2'⟩ ⟨hi2, hn2⟩ R2 hR2
        dsimp only at hi2 hn2
        have q1 := qO i2
        have q2 := hO i2 hi2
        have q3 := b3 i2
        obtain ⟨nx, hnx⟩ : ∃ x, x = n1' + LO (i2 + 1) := ⟨_, rfl⟩
        cbv
        repeat' (first | (refine Br.mk (fun hb => ?_) (fun hb => ?_) <;> ((try rw [ho] at hb); (try dsimp only [Ar.real, IX.vo] at hb); (try simp only [QP1, QB7] at hb); (try simp only [QBo, beq_iff_eq, beq_eq_false_iff_ne, ne_eq] at hb))) | (refine StopN.mk ?_; cbv) | (refine hK _ _ ?_) | (refine NeedT.mk ?_ ?_))
        any_goals (((try clear hR3); (try clear hR2); (try clear hR); (try clear hK); (try simp only [ncCast] at *); (try simp only [castI_eq] at *); (try rw [ho]); (try dsimp only [Ar.real, IX.vo, IX.val, BX.val, IX.toN]); (try simp only [QP1, QB7]); (try simp only [decide_eq_true_eq]); (all_goals (repeat rw [wrap_i64 (by omega) (by omega)])); (all_goals (first | omega | (simp only [Int.ofNat_eq_natCast]; omega)))); done)
        · refine hR2 _ ⟨i2 + 1, nx⟩ (by show of.length - (i2 + 1) < of.length - i2; omega) ⟨by show i2 + 1 ≤ of.length; omega, hnx⟩ ?_
          clear hR2
          (refine ⟨?_, ?_, ?_, ?_⟩ <;> cbv <;> repeat' (first | trivial | exact EqX.rfl' | exact EqO.rfl' | apply And.intro | ((try clear hR3); (try clear hR2); (try clear hR); (try clear hK); (try simp only [ncCast] at *); (try simp only [castI_eq] at *); refine EqX.i ?_; (try rw [ho]); (try dsimp only [Ar.real, IX.vo, IX.val, BX.val, IX.toN]); (try simp only [QP1, QB7]); (repeat rw [wrap_i64 (by omega) (by omega)]); omega)))
        · obtain rfl : i2 = of.length := by ((try clear hR3); (try clear hR2); (try clear hR); (try clear hK); (try simp only [ncCast] at *); (try simp only [castI_eq] at *)); omega
          clear q1 hR2 hnx
          refine LoopN.over (o := o) (D := dt4) ho hm hT (by kernel_rfl) (fun s : StBn => [(6, xn s.i), (3, xn s.n)]) (fun _ => []) (fun _ => []) (fun s => s.i ≤ tk.length ∧ s.n = n2' + LT s.i) (fun s => tk.length - s.i) ⟨0, n2'⟩ ⟨Nat.zero_le _, by rw [zT]; rfl⟩ ?_ ?_
          · (refine ⟨?_, ?_, ?_, ?_⟩ <;> cbv <;> repeat' (first | trivial | exact EqX.rfl' | exact EqO.rfl' | apply And.intro | ((try clear hR3); (try clear hR2); (try clear hR); (try clear hK); (try simp only [ncCast] at *); (try simp only [castI_eq] at *); refine EqX.i ?_; (try rw [ho]); (try dsimp only [Ar.real, IX.vo, IX.val, BX.val, IX.toN]); (try simp only [QP1, QB7]); (repeat rw [wrap_i64 (by omega) (by omega)]); omega)))
          · rintro ⟨i3, n3'⟩ ⟨hi3, hn3⟩ R3 hR3
            dsimp only at hi3 hn3
            have q1 := qT i3
            have q2 := hT' i3 hi3
            have q3 := b4 i3
            obtain ⟨nx, hnx⟩ : ∃ x, x = n2' + LT (i3 + 1) := ⟨_, rfl⟩
            cbv
            repeat' (first | (refine Br.mk (fun hb => ?_) (fun hb => ?_) <;> ((try rw [ho] at hb); (try dsimp only [Ar.real, IX.vo] at hb); (try simp only [QP1, QB7] at hb); (try simp only [QBo, beq_iff_eq, beq_eq_false_iff_ne, ne_eq] at hb))) | (refine StopN.mk ?_; cbv) | (refine hK _ _ ?_) | (refine NeedT.mk ?_ ?_))
            any_goals (((try clear hR3); (try clear hR2); (try clear hR); (try clear hK); (try simp only [ncCast] at *); (try simp only [castI_eq] at *); (try rw [ho]); (try dsimp only [Ar.real, IX.vo, IX.val, BX.val, IX.toN]); (try simp only [QP1, QB7]); (try simp only [decide_eq_true_eq]); (all_goals (repeat rw [wrap_i64 (by omega) (by omega)])); (all_goals (first | omega | (simp only [Int.ofNat_eq_natCast]; omega)))); done)
            · refine hR3 _ ⟨i3 + 1, nx⟩ (by show tk.length - (i3 + 1) < tk.length - i3; omega) ⟨by show i3 + 1 ≤ tk.length; omega, hnx⟩ ?_
              clear hR3
              (refine ⟨?_, ?_, ?_, ?_⟩ <;> cbv <;> repeat' (first | trivial | exact EqX.rfl' | exact EqO.rfl' | apply And.intro | ((try clear hR3); (try clear hR2); (try clear hR); (try clear hK); (try simp only [ncCast] at *); (try simp only [castI_eq] at *); refine EqX.i ?_; (try rw [ho]); (try dsimp only [Ar.real, IX.vo, IX.val, BX.val, IX.toN]); (try simp only [QP1, QB7]); (repeat rw [wrap_i64 (by omega) (by omega)]); omega)))
            · obtain rfl : i3 = tk.length := by ((try clear hR3); (try clear hR2); (try clear hR); (try clear hK); (try simp only [ncCast] at *); (try simp only [castI_eq] at *)); omega
              clear q1 hR3 hnx
              refine LoopN.over (o := o) (D := dt4) ho hm hT (by kernel_rfl) (fun s : StBn => [(7, xn s.i), (3, xn s.n)]) (fun _ => []) (fun _ => []) (fun s => s.i ≤ fl.length ∧ s.n = n3' + LF s.i) (fun s => fl.length - s.i) ⟨0, n3'⟩ ⟨Nat.zero_le _, by rw [zF]; rfl⟩ ?_ ?_
              · (refine ⟨?_, ?_, ?_, ?_⟩ <;> cbv <;> repeat' (first | trivial | exact EqX.rfl' | exact EqO.rfl' | apply And.intro | ((try clear hR3); (try clear hR2); (try clear hR); (try clear hK); (try simp only [ncCast] at *); (try simp only [castI_eq] at *); refine EqX.i ?_; (try rw [ho]); (try dsimp only [Ar.real, IX.vo, IX.val, BX.val, IX.toN]); (try simp only [QP1, QB7]); (repeat rw [wrap_i64 (by omega) (by omega)]); omega)))
              · rintro ⟨i4, n4'⟩ ⟨hi4, hn4⟩ R4 hR4
                dsimp only at hi4 hn4
                have q1 := qF i4
                have q2 := hF i4 hi4
                have q3 := b5 i4
                obtain ⟨nx, hnx⟩ : ∃ x, x = n3' + LF (i4 + 1) := ⟨_, rfl⟩
                cbv
                repeat' (first | (refine Br.mk (fun hb => ?_) (fun hb => ?_) <;> ((try rw [ho] at hb); (try dsimp only [Ar.real, IX.vo] at hb); (try simp only [QP1, QB7] at hb); (try simp only [QBo, beq_iff_eq, beq_eq_false_iff_ne, ne_eq] at hb))) | (refine StopN.mk ?_; cbv) | (refine hK _ _ ?_) | (refine NeedT.mk ?_ ?_))
                any_goals (((try clear hR3); (try clear hR2); (try clear hR); (try clear hK); (try simp only [ncCast] at *); (try simp only [castI_eq] at *); (try rw [ho]); (try dsimp only [Ar.real, IX.vo, IX.val, BX.val, IX.toN]); (try simp only [QP1, QB7]); (try simp only [decide_eq_true_eq]); (all_goals (repeat rw [wrap_i64 (by omega) (by omega)])); (all_goals (first | omega | (simp only [Int.ofNat_eq_natCast]; omega)))); done)
                · refine hR4 _ ⟨i4 + 1, nx⟩ (by show fl.length - (i4 + 1) < fl.length - i4; omega) ⟨by show i4 + 1 ≤ fl.length; omega, hnx⟩ ?_
                  clear hR4
                  (refine ⟨?_, ?_, ?_, ?_⟩ <;> cbv <;> repeat' (first | trivial | exact EqX.rfl' | exact EqO.rfl' | apply And.intro | ((try clear hR3); (try clear hR2); (try clear hR); (try clear hK); (try simp only [ncCast] at *); (try simp only [castI_eq] at *); refine EqX.i ?_; (try rw [ho]); (try dsimp only [Ar.real, IX.vo, IX.val, BX.val, IX.toN]); (try simp only [QP1, QB7]); (repeat rw [wrap_i64 (by omega) (by omega)]); omega)))
                · obtain rfl : i4 = fl.length := by ((try clear hR3); (try clear hR2); (try clear hR); (try clear hK); (try simp only [ncCast] at *); (try simp only [castI_eq] at *)); omega
                  clear q1 hR4 hnx
                  rw [hres]
                  refine .b ?_
                  ((try clear hR3); (try clear hR2); (try clear hR); (try clear hK); (try simp only [ncCast] at *); (try simp only [castI_eq] at *); (try rw [ho]); (try dsimp only [Ar.real, IX.vo, IX.val, BX.val, IX.toN]); (try simp only [QP1, QB7]))
                  rw [decide_eq_decide]
                  (repeat rw [wrap_i64 (by omega) (by omega)])
                  omega
end Go.Proofs.YtlblpbahoblihaaGreat.Sy
namespace Go.Proofs.YtlblpbahoblihaaGreat.Sy
open Go Go.Sy Go.Proofs.YtlblpbahoblihaaGreat
theorem Part.ext9 {a b : Part} (h1 : a.kind = b.kind) (h2 : a.role = b.role) (h3 : a.amount = b.amount) : a = b := by cases a; cases b; simp_all
def vEq (a b : List Part) : Bool := decide (a = b)
theorem x_EqualV (a b : List Part) (hab : a.length ≤ 1048576 ∧ b.length ≤ 1048576) : XC Tryz.prog 124 [.ro (SL Ar.real Part.X a), .ro (SL Ar.real Part.X b)] [] (xb (vEq a b)) [] := by
  obtain ⟨ha, hb'⟩ := hab
  (refine XC.of_body (dt124) Tryz.func124 rfl Tryz.ntmps124 mixed (T := tl124) tk124 (by kernel_rfl) (by simp) rfl rfl rfl rfl rfl ?_; rintro o ho P hP c K hK; have hm : P.follows .mixedOrders = true := hP ▸ mixed; have hT : TOk P tl124 := hP ▸ tk124; (try rw [← ho]); cbv; (repeat (refine StopN.mk ?_; cbv)))
  repeat' (first | (refine Br.mk (fun hb => ?_) (fun hb => ?_) <;> ((try rw [ho] at hb); (try dsimp only [Ar.real, IX.vo] at hb); (try simp only [QP1, QB7] at hb); (try simp only [QBo, beq_iff_eq, beq_eq_false_iff_ne, ne_eq] at hb))) | (refine StopN.mk ?_; cbv) | (refine hK _ _ ?_) | (refine NeedT.mk ?_ ?_))
  · refine .b ?_
    ((try clear hR3); (try clear hR2); (try clear hR); (try clear hK); (try simp only [ncCast] at *); (try simp only [castI_eq] at *); (try rw [ho]); (try dsimp only [Ar.real, IX.vo, IX.val, BX.val, IX.toN]); (try simp only [QP1, QB7]))
    have hne : a ≠ b := fun e => ‹¬ a.length = b.length› (by rw [e])
    simp only [vEq, decide_eq_false hne]
  refine LoopN.over (o := o) (D := dt124) ho hm hT (by kernel_rfl) (fun i : Nat => [(13, xn i)]) (fun _ => []) (fun _ => []) (fun i => i ≤ a.length ∧ ∀ j, j < i → a.getD j default = b.getD j default) (fun i => a.length - i) 0 ⟨Nat.zero_le _, fun j hj => by omega⟩ ?_ ?_
  · (refine ⟨?_, ?_, ?_, ?_⟩ <;> cbv <;> repeat' (first | trivial | exact EqX.rfl' | exact EqO.rfl' | apply And.intro | ((try clear hR3); (try clear hR2); (try clear hR); (try clear hK); (try simp only [ncCast] at *); (try simp only [castI_eq] at *); refine EqX.i ?_; (try rw [ho]); (try dsimp only [Ar.real, IX.vo, IX.val, BX.val, IX.toN]); (try simp only [QP1, QB7]); (repeat rw [wrap_i64 (by omega) (by omega)]); omega)))
  · rintro i ⟨hi, hj⟩ R hR
    cbv
    repeat' (first | (refine Br.mk (fun hb => ?_) (fun hb => ?_) <;> ((try rw [ho] at hb); (try dsimp only [Ar.real, IX.vo] at hb); (try simp only [QP1, QB7] at hb); (try simp only [QBo, beq_iff_eq, beq_eq_false_iff_ne, ne_eq] at hb))) | (refine StopN.mk ?_; cbv) | (refine hK _ _ ?_) | (refine NeedT.mk ?_ ?_))
    any_goals (((try clear hR3); (try clear hR2); (try clear hR); (try clear hK); (try simp only [ncCast] at *); (try simp only [castI_eq] at *); (try rw [ho]); (try dsimp only [Ar.real, IX.vo, IX.val, BX.val, IX.toN]); (try simp only [QP1, QB7]); (try simp only [decide_eq_true_eq]); (all_goals (repeat rw [wrap_i64 (by omega) (by omega)])); (all_goals (first | omega | (simp only [Int.ofNat_eq_natCast]; omega)))); done)
    · have hne : a ≠ b := fun e => by
        ((try clear hR3); (try clear hR2); (try clear hR); (try clear hK); (try simp only [ncCast] at *); (try simp only [castI_eq] at *))
        subst e
        simp at hb
      refine .b ?_
      ((try clear hR3); (try clear hR2); (try clear hR); (try clear hK); (try simp only [ncCast] at *); (try simp only [castI_eq] at *); (try rw [ho]); (try dsimp only [Ar.real, IX.vo, IX.val, BX.val, IX.toN]); (try simp only [QP1, QB7]))
      simp only [vEq, decide_eq_false hne]
    · have he : a.getD i default = b.getD i default := by
        ((try clear hR3); (try clear hR2); (try clear hR); (try clear hK); (try simp only [ncCast] at *); (try simp only [castI_eq] at *))
        simp only [Bool.and_eq_true, decide_eq_true_eq] at hb
        exact Part.ext9 hb.1 hb.2.1 hb.2.2
      refine hR _ (i + 1) (by omega) ⟨by omega, fun j h => ?_⟩ ?_
      · rcases Nat.lt_or_ge j i with h3 | h3
        · exact hj j h3
        · obtain rfl : j = i := by omega
          exact he
      · (refine ⟨?_, ?_, ?_, ?_⟩ <;> cbv <;> repeat' (first | trivial | exact EqX.rfl' | exact EqO.rfl' | apply And.intro | ((try clear hR3); (try clear hR2); (try clear hR); (try clear hK); (try simp only [ncCast] at *); (try simp only [castI_eq] at *); refine EqX.i ?_; (try rw [ho]); (try dsimp only [Ar.real, IX.vo, IX.val, BX.val, IX.toN]); (try simp only [QP1, QB7]); (repeat rw [wrap_i64 (by omega) (by omega)]); omega)))
    · have he : a = b := by
        apply List.ext_getElem ‹a.length = b.length›
        intro j g1 g2
        have := hj j (by omega)
        simpa [List.getD_eq_getElem?_getD, g1, g2] using this
      refine .b ?_
      ((try clear hR3); (try clear hR2); (try clear hR); (try clear hK); (try simp only [ncCast] at *); (try simp only [castI_eq] at *); (try rw [ho]); (try dsimp only [Ar.real, IX.vo, IX.val, BX.val, IX.toN]); (try simp only [QP1, QB7]))
      simp only [vEq, decide_eq_true he]
theorem x_SameV (a b : List Part) (hab : a.length ≤ 1048576 ∧ b.length ≤ 1048576) : XC Tryz.prog 92 [.ro (SL Ar.real Part.X a), .ro (SL Ar.real Part.X b)] [] (xb (vEq a b)) [] := by
  (refine XC.of_body ([]) Tryz.func92 rfl Tryz.ntmps92 mixed (T := tl92) tk92 (by kernel_rfl) (by simp) rfl rfl rfl rfl rfl ?_; rintro o ho P hP c K hK; have hm : P.follows .mixedOrders = true := hP ▸ mixed; have hT : TOk P tl92 := hP ▸ tk92; (try rw [← ho]); cbv; (repeat (refine StopN.mk ?_; cbv)))
  repeat' (first | (refine Br.mk (fun hb => ?_) (fun hb => ?_) <;> ((try rw [ho] at hb); (try dsimp only [Ar.real, IX.vo] at hb); (try simp only [QP1, QB7] at hb); (try simp only [QBo, beq_iff_eq, beq_eq_false_iff_ne, ne_eq] at hb))) | (refine StopN.mk ?_; cbv) | (refine CallI.pure hP (x_EqualV _ _ ‹_›) fn124 (by first | rfl | (rw [ho]; try rfl)) (by rfl) (by first | rfl | (rw [ho]; try rfl)) ?_; (try rw [← ho]); generalize hr : vEq _ _ = r; (try rw [ho] at hr); (try dsimp only [Ar.real, IX.vo] at hr); (try simp only [QP1, QB7] at hr); cbv) | (refine hK _ _ ?_) | (refine NeedT.mk ?_ ?_))
  subst hr
  exact .b rfl
theorem XC_at {P : Program} {f : FuncId} {args args' : List X} {O O' : List OX} {r r' : X} (h : XC P f args O r O') (e : ∀ c, X.toDL c args = X.toDL c args') (hr : ∀ c, r.toD c = r'.toD c) : XC P f args' O r' O' := by
  intro c h1 h2
  rw [← e c, ← hr c]
  exact h c h1 h2
@[reducible] def il (n : Int) : X := .i .i64 (.lit n)
@[reducible] def l3 : X := .ro (.lits [[il 0, il 0, il 3]])
@[reducible] def l0 : X := .ro (.lits [])
def p3 : List Part := [⟨0, 0, 3⟩]
theorem d_right3 : XC Tryz.prog 69 [l3] [] (.b .t) [] := XC_at (x_vec_Right p3 (by decide)) (fun c => rfl) (fun c => by rw [show vecRight p3 = true from by decide]; rfl)
theorem d_right0 : XC Tryz.prog 69 [l0] [] (.b .t) [] := XC_at (x_vec_Right [] (by decide)) (fun c => rfl) (fun c => by rw [show vecRight [] = true from by decide]; rfl)
theorem d_only : XC Tryz.prog 120 [l3, .ro (.lits [[il 0], [il 2]])] [] l3 [] := XC_at (x_Only p3 [0, 2] (by decide) (by decide)) (fun c => rfl) (fun c => by rw [show onlyR p3 [0, 2] = p3 from by decide]; rfl)
theorem d_of : XC Tryz.prog 32 [l3] [] (.agg [il 3, il 0, il 0, il 0]) [] := XC_at (x_sumsOf p3 (by decide)) (fun c => rfl) (fun c => by rw [show sumsOf p3 = ⟨3, 0, 0, 0⟩ from by decide]; rfl)
theorem d_add : XC Tryz.prog 31 [.agg [il 0, il 0, il 0, il 0], .agg [il 3, il 0, il 0, il 0]] [] (.tup [.agg [il 3, il 0, il 0, il 0], .b .t]) [] := XC_at (x_sumsAdd ⟨0, 0, 0, 0⟩ ⟨3, 0, 0, 0⟩) (fun c => rfl) (fun c => by rw [show sumsAdd ⟨0, 0, 0, 0⟩ ⟨3, 0, 0, 0⟩ = (⟨3, 0, 0, 0⟩, true) from by decide]; rfl)
theorem d_same : XC Tryz.prog 92 [l3, l3] [] (.b .t) [] := XC_at (x_SameV p3 p3 (by decide)) (fun c => rfl) (fun c => by rw [show vEq p3 p3 = true from by decide]; rfl)
theorem d_same0 : XC Tryz.prog 92 [l0, l3] [] (.b .f) [] := XC_at (x_SameV [] p3 (by decide)) (fun c => rfl) (fun c => by rw [show vEq [] p3 = false from by decide]; rfl)
theorem d_shrOf : XC Tryz.prog 41 [.agg [il 3, il 0, il 0, il 0], .agg [il 3, il 0, il 0, il 0], il 3] [] (.agg [il 3, il 3, il 3]) [] := XC_at (x_shrOf ⟨3, 0, 0, 0⟩ ⟨3, 0, 0, 0⟩ 3) (fun c => rfl) (fun c => by rw [show shrOf ⟨3, 0, 0, 0⟩ ⟨3, 0, 0, 0⟩ 3 = ⟨3, 3, 3⟩ from by decide]; rfl)
theorem d_shrRight : XC Tryz.prog 61 [.agg [il 3, il 3, il 3]] [] (.b .t) [] := XC_at (x_shrRight ⟨3, 3, 3⟩) (fun c => rfl) (fun c => by rw [show shrRight ⟨3, 3, 3⟩ = true from by decide]; rfl)
theorem d_fracRight : XC Tryz.prog 93 [.agg [il 3, il 3]] [] (.b .t) [] := XC_at (x_fracRight 3 3) (fun c => rfl) (fun c => by rw [show fracRight 3 3 = true from by decide]; rfl)
theorem d_max : XC Tryz.prog 83 [.ro (.lits [[il 3], [il 0], [il 0], [il 0]])] [] (il 3) [] := by
  (refine XC.of_body ([]) Tryz.func83 rfl Tryz.ntmps83 mixed (T := tl83) tk83 (by kernel_rfl) (by simp) rfl rfl rfl rfl rfl ?_; rintro o ho P hP c K hK; have hm : P.follows .mixedOrders = true := hP ▸ mixed; have hT : TOk P tl83 := hP ▸ tk83; (try rw [← ho]); cbv; (repeat (refine StopN.mk ?_; cbv)))
  repeat' (first | (refine Br.mk (fun hb => ?_) (fun hb => ?_) <;> ((try rw [ho] at hb); (try dsimp only [Ar.real, IX.vo] at hb); (try simp only [QP1, QB7] at hb); (try simp only [QBo, beq_iff_eq, beq_eq_false_iff_ne, ne_eq] at hb))) | (refine StopN.mk ?_; cbv) | (refine NeedT.mk (by rw [ho]; rfl) ?_) | (refine hK _ _ ?_) | (refine NeedT.mk ?_ ?_) | (refine LoopN.lay (o := o) (D := []) 5 ho hm hT (by kernel_rfl) ?_; cbv))
  exact .pure fun _ => rfl
theorem d_add3 : XC Tryz.prog 89 [l0, l3] [] (.tup [l3, .b .t]) [] := by
  (refine XC.of_body (dt89) Tryz.func89 rfl Tryz.ntmps89 mixed (T := tl89) tk89 (by kernel_rfl) (by simp) rfl rfl rfl rfl rfl ?_; rintro o ho P hP c K hK; have hm : P.follows .mixedOrders = true := hP ▸ mixed; have hT : TOk P tl89 := hP ▸ tk89; (try rw [← ho]); cbv; (repeat (refine StopN.mk ?_; cbv)))
  repeat' (first | (refine Br.mk (fun hb => ?_) (fun hb => ?_) <;> ((try rw [ho] at hb); (try dsimp only [Ar.real, IX.vo] at hb); (try simp only [QP1, QB7] at hb); (try simp only [QBo, beq_iff_eq, beq_eq_false_iff_ne, ne_eq] at hb))) | (refine StopN.mk ?_; cbv) | (first | refine NeedT.mk (by rw [ho]; rfl) ?_ | (first | refine CallI.pure hP d_right0 fn69 rfl rfl rfl ?_ | refine CallI.pure hP d_right3 fn69 rfl rfl rfl ?_); cbv) | ((first | refine CallI.pure hP (x_vec_of _ _ _) fn96 (by first | rfl | (rw [ho]; try rfl)) (by rfl) (by first | rfl | (rw [ho]; try rfl)) ?_ | refine CallN.pure hP (x_vec_of _ _ _) fn96 (by first | rfl | (rw [ho]; try rfl)) (by rfl) (by first | rfl | (rw [ho]; try rfl)) ?_); (try rw [← ho]); cbv) | ((first | refine CallI.pure hP (x_slot_Cmp _ _ _ _) fn98 (by first | rfl | (rw [ho]; try rfl)) (by rfl) (by first | rfl | (rw [ho]; try rfl)) ?_ | refine CallN.pure hP (x_slot_Cmp _ _ _ _) fn98 (by first | rfl | (rw [ho]; try rfl)) (by rfl) (by first | rfl | (rw [ho]; try rfl)) ?_); (try rw [← ho]); generalize hr : slotCmp _ _ _ _ = r; (try rw [ho] at hr); (try dsimp only [Ar.real, IX.vo] at hr); (try simp only [QP1, QB7] at hr); cbv) | (refine hK _ _ ?_) | (refine NeedT.mk ?_ ?_) | (refine LoopN.lay (o := o) (D := dt89) 3 ho hm hT (by kernel_rfl) ?_; cbv))
  exact .pure fun _ => rfl
theorem d_add0 : XC Tryz.prog 89 [l0, l0] [] (.tup [l0, .b .t]) [] := by
  (refine XC.of_body (dt89) Tryz.func89 rfl Tryz.ntmps89 mixed (T := tl89) tk89 (by kernel_rfl) (by simp) rfl rfl rfl rfl rfl ?_; rintro o ho P hP c K hK; have hm : P.follows .mixedOrders = true := hP ▸ mixed; have hT : TOk P tl89 := hP ▸ tk89; (try rw [← ho]); cbv; (repeat (refine StopN.mk ?_; cbv)))
  repeat' (first | (refine Br.mk (fun hb => ?_) (fun hb => ?_) <;> ((try rw [ho] at hb); (try dsimp only [Ar.real, IX.vo] at hb); (try simp only [QP1, QB7] at hb); (try simp only [QBo, beq_iff_eq, beq_eq_false_iff_ne, ne_eq] at hb))) | (refine StopN.mk ?_; cbv) | (first | refine NeedT.mk (by rw [ho]; rfl) ?_ | (first | refine CallI.pure hP d_right0 fn69 rfl rfl rfl ?_ | refine CallI.pure hP d_right3 fn69 rfl rfl rfl ?_); cbv) | ((first | refine CallI.pure hP (x_vec_of _ _ _) fn96 (by first | rfl | (rw [ho]; try rfl)) (by rfl) (by first | rfl | (rw [ho]; try rfl)) ?_ | refine CallN.pure hP (x_vec_of _ _ _) fn96 (by first | rfl | (rw [ho]; try rfl)) (by rfl) (by first | rfl | (rw [ho]; try rfl)) ?_); (try rw [← ho]); cbv) | ((first | refine CallI.pure hP (x_slot_Cmp _ _ _ _) fn98 (by first | rfl | (rw [ho]; try rfl)) (by rfl) (by first | rfl | (rw [ho]; try rfl)) ?_ | refine CallN.pure hP (x_slot_Cmp _ _ _ _) fn98 (by first | rfl | (rw [ho]; try rfl)) (by rfl) (by first | rfl | (rw [ho]; try rfl)) ?_); (try rw [← ho]); generalize hr : slotCmp _ _ _ _ = r; (try rw [ho] at hr); (try dsimp only [Ar.real, IX.vo] at hr); (try simp only [QP1, QB7] at hr); cbv) | (refine hK _ _ ?_) | (refine NeedT.mk ?_ ?_) | (refine LoopN.lay (o := o) (D := dt89) 3 ho hm hT (by kernel_rfl) ?_; cbv))
  exact .pure fun _ => rfl
theorem d_sdigits : XC Tryz.prog 63 [il 3] [] (.v (.string ⟨#[51]⟩)) [] := by
  (refine XC.of_body ([]) Tryz.func63 rfl Tryz.ntmps63 mixed (T := tl63) tk63 (by kernel_rfl) (by simp) rfl rfl rfl rfl rfl ?_; rintro o ho P hP c K hK; have hm : P.follows .mixedOrders = true := hP ▸ mixed; have hT : TOk P tl63 := hP ▸ tk63; (try rw [← ho]); cbv; (repeat (refine StopN.mk ?_; cbv)))
  repeat' (first | (refine Br.mk (fun hb => ?_) (fun hb => ?_) <;> ((try rw [ho] at hb); (try dsimp only [Ar.real, IX.vo] at hb); (try simp only [QP1, QB7] at hb); (try simp only [QBo, beq_iff_eq, beq_eq_false_iff_ne, ne_eq] at hb))) | (refine StopN.mk ?_; cbv) | (refine hK _ _ ?_) | (refine NeedT.mk ?_ ?_))
  refine OpN.bytes [51] (by rw [hP]; exact tok132.k) (by rw [hP]; exact tok5.k) (by rw [hP]; exact tok9.k) (.inr rfl) rfl ?_
  rintro s rfl
  cbv
  repeat' (first | (refine Br.mk (fun hb => ?_) (fun hb => ?_) <;> ((try rw [ho] at hb); (try dsimp only [Ar.real, IX.vo] at hb); (try simp only [QP1, QB7] at hb); (try simp only [QBo, beq_iff_eq, beq_eq_false_iff_ne, ne_eq] at hb))) | (refine StopN.mk ?_; cbv) | (refine hK _ _ ?_) | (refine NeedT.mk ?_ ?_))
  exact .pure fun _ => rfl
theorem d_rdigits : XC Tryz.prog 94 [il 3] [] (.v (.string ⟨#[51]⟩)) [] := by
  (refine XC.of_body ([]) Tryz.func94 rfl Tryz.ntmps94 mixed (T := tl94) tk94 (by kernel_rfl) (by simp) rfl rfl rfl rfl rfl ?_; rintro o ho P hP c K hK; have hm : P.follows .mixedOrders = true := hP ▸ mixed; have hT : TOk P tl94 := hP ▸ tk94; (try rw [← ho]); cbv; (repeat (refine StopN.mk ?_; cbv)))
  repeat' (first | (refine Br.mk (fun hb => ?_) (fun hb => ?_) <;> ((try rw [ho] at hb); (try dsimp only [Ar.real, IX.vo] at hb); (try simp only [QP1, QB7] at hb); (try simp only [QBo, beq_iff_eq, beq_eq_false_iff_ne, ne_eq] at hb))) | (refine StopN.mk ?_; cbv) | (refine NeedT.mk (by rw [ho]; rfl) ?_) | (refine hK _ _ ?_) | (refine NeedT.mk ?_ ?_) | (refine LoopN.lay (o := o) (D := []) 3 ho hm hT (by kernel_rfl) ?_; cbv))
  refine FrzN.frzv 0 3 rfl rfl rfl (.done ?_)
  cbv
  refine OpN.asl 19 rfl (by rw [hP]; exact tok155.k) (by rw [hP]; exact tok5.sz) (by decide) (by decide) rfl (by decide) (.inr ⟨_, rfl, rfl⟩) ?_
  cbv
  repeat' (first | (refine Br.mk (fun hb => ?_) (fun hb => ?_) <;> ((try rw [ho] at hb); (try dsimp only [Ar.real, IX.vo] at hb); (try simp only [QP1, QB7] at hb); (try simp only [QBo, beq_iff_eq, beq_eq_false_iff_ne, ne_eq] at hb))) | (refine StopN.mk ?_; cbv) | (refine NeedT.mk (by rw [ho]; rfl) ?_) | (refine hK _ _ ?_) | (refine NeedT.mk ?_ ?_) | (refine LoopN.lay (o := o) (D := []) 3 ho hm hT (by kernel_rfl) ?_; cbv))
  refine FrzN.frz 1 [29] rfl (fun t ht => by rw [List.mem_singleton.1 ht]; rfl) (.done ?_)
  cbv
  refine OpN.bytes [51] (by rw [hP]; exact tok132.k) (by rw [hP]; exact tok5.k) (by rw [hP]; exact tok9.k) (.inl rfl) rfl ?_
  rintro s rfl
  cbv
  repeat' (first | (refine Br.mk (fun hb => ?_) (fun hb => ?_) <;> ((try rw [ho] at hb); (try dsimp only [Ar.real, IX.vo] at hb); (try simp only [QP1, QB7] at hb); (try simp only [QBo, beq_iff_eq, beq_eq_false_iff_ne, ne_eq] at hb))) | (refine StopN.mk ?_; cbv) | (refine hK _ _ ?_) | (refine NeedT.mk ?_ ?_))
  exact .pure fun _ => rfl
theorem d_rtext : XC Tryz.prog 62 [.agg [il 3, il 3]] [] (.v (.string ⟨#[51, 47, 51]⟩)) [] := by
  (refine XC.of_body (dt62) Tryz.func62 rfl Tryz.ntmps62 mixed (T := tl62) tk62 (by kernel_rfl) (by simp) rfl rfl rfl rfl rfl ?_; rintro o ho P hP c K hK; have hm : P.follows .mixedOrders = true := hP ▸ mixed; have hT : TOk P tl62 := hP ▸ tk62; (try rw [← ho]); cbv; (repeat (refine StopN.mk ?_; cbv)))
  repeat' (first | (refine Br.mk (fun hb => ?_) (fun hb => ?_) <;> ((try rw [ho] at hb); (try dsimp only [Ar.real, IX.vo] at hb); (try simp only [QP1, QB7] at hb); (try simp only [QBo, beq_iff_eq, beq_eq_false_iff_ne, ne_eq] at hb))) | (refine StopN.mk ?_; cbv) | (first | refine CallI.pure hP d_fracRight fn93 rfl rfl rfl ?_ | refine CallN.pure hP d_rdigits fn94 rfl rfl rfl ?_); cbv | (refine hK _ _ ?_) | (refine NeedT.mk ?_ ?_))
  all_goals
    refine OpN.cat rfl rfl (by decide) ?_
    rintro s rfl
    cbv
  repeat' (first | (refine Br.mk (fun hb => ?_) (fun hb => ?_) <;> ((try rw [ho] at hb); (try dsimp only [Ar.real, IX.vo] at hb); (try simp only [QP1, QB7] at hb); (try simp only [QBo, beq_iff_eq, beq_eq_false_iff_ne, ne_eq] at hb))) | (refine StopN.mk ?_; cbv) | (first | refine CallI.pure hP d_fracRight fn93 rfl rfl rfl ?_ | refine CallN.pure hP d_rdigits fn94 rfl rfl rfl ?_); cbv | (refine hK _ _ ?_) | (refine NeedT.mk ?_ ?_))
  all_goals
    refine OpN.cat rfl rfl (by decide) ?_
    rintro s rfl
    cbv
  repeat' (first | (refine Br.mk (fun hb => ?_) (fun hb => ?_) <;> ((try rw [ho] at hb); (try dsimp only [Ar.real, IX.vo] at hb); (try simp only [QP1, QB7] at hb); (try simp only [QBo, beq_iff_eq, beq_eq_false_iff_ne, ne_eq] at hb))) | (refine StopN.mk ?_; cbv) | ((first | refine CallI.pure hP (x_fracRight _ _) fn93 (by first | rfl | (rw [ho]; try rfl)) (by rfl) (by first | rfl | (rw [ho]; try rfl)) ?_ | refine CallN.pure hP (x_fracRight _ _) fn93 (by first | rfl | (rw [ho]; try rfl)) (by rfl) (by first | rfl | (rw [ho]; try rfl)) ?_); (try rw [← ho]); generalize hr : fracRight _ _ = r; (try rw [ho] at hr); (try dsimp only [Ar.real, IX.vo] at hr); (try simp only [QP1, QB7] at hr); cbv) | (refine hK _ _ ?_) | (refine NeedT.mk ?_ ?_))
  exact .pure fun _ => rfl
theorem d_text : XC Tryz.prog 28 [.agg [il 3, il 3, il 3]] [] (.v (.string ⟨#[51, 47, 51, 58, 51]⟩)) [] := by
  (refine XC.of_body (dt28) Tryz.func28 rfl Tryz.ntmps28 mixed (T := tl28) tk28 (by kernel_rfl) (by simp) rfl rfl rfl rfl rfl ?_; rintro o ho P hP c K hK; have hm : P.follows .mixedOrders = true := hP ▸ mixed; have hT : TOk P tl28 := hP ▸ tk28; (try rw [← ho]); cbv; (repeat (refine StopN.mk ?_; cbv)))
  repeat' (first | (refine Br.mk (fun hb => ?_) (fun hb => ?_) <;> ((try rw [ho] at hb); (try dsimp only [Ar.real, IX.vo] at hb); (try simp only [QP1, QB7] at hb); (try simp only [QBo, beq_iff_eq, beq_eq_false_iff_ne, ne_eq] at hb))) | (refine StopN.mk ?_; cbv) | (first | refine CallI.pure hP d_shrRight fn61 rfl rfl rfl ?_ | refine CallN.pure hP d_rtext fn62 rfl rfl rfl ?_ | refine CallN.pure hP d_sdigits fn63 rfl rfl rfl ?_); cbv | (refine hK _ _ ?_) | (refine NeedT.mk ?_ ?_))
  all_goals
    refine OpN.cat rfl rfl (by decide) ?_
    rintro s rfl
    cbv
  repeat' (first | (refine Br.mk (fun hb => ?_) (fun hb => ?_) <;> ((try rw [ho] at hb); (try dsimp only [Ar.real, IX.vo] at hb); (try simp only [QP1, QB7] at hb); (try simp only [QBo, beq_iff_eq, beq_eq_false_iff_ne, ne_eq] at hb))) | (refine StopN.mk ?_; cbv) | (first | refine CallI.pure hP d_shrRight fn61 rfl rfl rfl ?_ | refine CallN.pure hP d_rtext fn62 rfl rfl rfl ?_ | refine CallN.pure hP d_sdigits fn63 rfl rfl rfl ?_); cbv | (refine hK _ _ ?_) | (refine NeedT.mk ?_ ?_))
  all_goals
    refine OpN.cat rfl rfl (by decide) ?_
    rintro s rfl
    cbv
  repeat' (first | (refine Br.mk (fun hb => ?_) (fun hb => ?_) <;> ((try rw [ho] at hb); (try dsimp only [Ar.real, IX.vo] at hb); (try simp only [QP1, QB7] at hb); (try simp only [QBo, beq_iff_eq, beq_eq_false_iff_ne, ne_eq] at hb))) | (refine StopN.mk ?_; cbv) | ((first | refine CallI.pure hP (x_shrRight _) fn61 (by first | rfl | (rw [ho]; try rfl)) (by rfl) (by first | rfl | (rw [ho]; try rfl)) ?_ | refine CallN.pure hP (x_shrRight _) fn61 (by first | rfl | (rw [ho]; try rfl)) (by rfl) (by first | rfl | (rw [ho]; try rfl)) ?_); (try rw [← ho]); generalize hr : shrRight _ = r; (try rw [ho] at hr); (try dsimp only [Ar.real, IX.vo] at hr); (try simp only [QP1, QB7] at hr); cbv) | (refine hK _ _ ?_) | (refine NeedT.mk ?_ ?_))
  exact .pure fun _ => rfl
end Go.Proofs.YtlblpbahoblihaaGreat.Sy
namespace Go.Proofs.YtlblpbahoblihaaGreat.Sy
open Go Go.Sy Go.Proofs.YtlblpbahoblihaaGreat
@[reducible] def cfL : List X := [il 9, il 9, il 9, il 0, il 9, il 0, il 0, il 0, il 0]
@[reducible] def agL : X := .ro (.lits [[il 1, l3, l0]])
@[reducible] def bkA : X := .agg (cfL ++ [il 0, il 1, .ro (.lits [[il 4, il 2, il 3, .b .t, .b .f, il 0, il 0]]), agL, .ro (.lits [[il 1, il 4, il 1, l3, il 0]]), l0, l0])
@[reducible] def bkB : X := .agg (cfL ++ [il 0, il 0, l0, agL, l0, l0, l0])
def wthB (x y z : Int) : Bool := decide (y ≤ x) && decide (x ≤ z)
theorem x_within (x y z : Int) : XC Tryz.prog 119 [xi x, xi y, xi z] [] (xb (wthB x y z)) [] := by
  (refine XC.of_body ([]) Tryz.func119 rfl Tryz.ntmps119 mixed (T := tl119) tk119 (by kernel_rfl) (by simp) rfl rfl rfl rfl rfl ?_; rintro o ho P hP c K hK; have hm : P.follows .mixedOrders = true := hP ▸ mixed; have hT : TOk P tl119 := hP ▸ tk119; (try rw [← ho]); cbv; (repeat (refine StopN.mk ?_; cbv)))
  repeat' (first | (refine Br.mk (fun hb => ?_) (fun hb => ?_) <;> ((try rw [ho] at hb); (try dsimp only [Ar.real, IX.vo] at hb); (try simp only [QP1, QB7] at hb); (try simp only [QBo, beq_iff_eq, beq_eq_false_iff_ne, ne_eq] at hb))) | (refine StopN.mk ?_; cbv) | (refine hK _ _ ?_) | (refine NeedT.mk ?_ ?_))
  all_goals
    refine .b ?_
    unfold wthB
    ((try clear hR3); (try clear hR2); (try clear hR); (try clear hK); (try simp only [ncCast] at *); (try simp only [castI_eq] at *); (try rw [ho]); (try dsimp only [Ar.real, IX.vo, IX.val, BX.val, IX.toN]); (try simp only [QP1, QB7]))
    simp [*]
  all_goals omega
def numB (x : Int) : Bool := decide (1 ≤ x) && decide (x ≤ 9007199254740992)
theorem x_number (x : Int) : XC Tryz.prog 82 [xi x] [] (xb (numB x)) [] := by
  (refine XC.of_body ([]) Tryz.func82 rfl Tryz.ntmps82 mixed (T := tl82) tk82 (by kernel_rfl) (by simp) rfl rfl rfl rfl rfl ?_; rintro o ho P hP c K hK; have hm : P.follows .mixedOrders = true := hP ▸ mixed; have hT : TOk P tl82 := hP ▸ tk82; (try rw [← ho]); cbv; (repeat (refine StopN.mk ?_; cbv)))
  repeat' (first | (refine Br.mk (fun hb => ?_) (fun hb => ?_) <;> ((try rw [ho] at hb); (try dsimp only [Ar.real, IX.vo] at hb); (try simp only [QP1, QB7] at hb); (try simp only [QBo, beq_iff_eq, beq_eq_false_iff_ne, ne_eq] at hb))) | (refine StopN.mk ?_; cbv) | (refine hK _ _ ?_) | (refine NeedT.mk ?_ ?_))
  all_goals
    refine .b ?_
    unfold numB
    ((try clear hR3); (try clear hR2); (try clear hR); (try clear hK); (try simp only [ncCast] at *); (try simp only [castI_eq] at *); (try rw [ho]); (try dsimp only [Ar.real, IX.vo, IX.val, BX.val, IX.toN]); (try simp only [QP1, QB7]))
    simp [*]
  all_goals omega
theorem d_within {x y z : Int} (h : wthB x y z = true) : XC Tryz.prog 119 [il x, il y, il z] [] (.b .t) [] := XC_at (x_within x y z) (fun c => rfl) (fun c => by rw [h]; rfl)
theorem d_number {x : Int} (h : numB x = true) : XC Tryz.prog 82 [il x] [] (.b .t) [] := XC_at (x_number x) (fun c => rfl) (fun c => by rw [h]; rfl)
theorem d_check : XC Tryz.prog 81 [.agg cfL] [] (il 0) [] := by
  have a1 := d_within (x := 0) (y := 0) (z := 9007199254740992) (by decide)
  have a2 := d_within (x := 9) (y := 0) (z := 9007199254740992) (by decide)
  have a3 := d_within (x := 9) (y := 1) (z := 9007199254740992) (by decide)
  have a4 := d_within (x := 9) (y := 1) (z := 4096) (by decide)
  (refine XC.of_body ([]) Tryz.func81 rfl Tryz.ntmps81 mixed (T := tl81) tk81 (by kernel_rfl) (by simp) rfl rfl rfl rfl rfl ?_; rintro o ho P hP c K hK; have hm : P.follows .mixedOrders = true := hP ▸ mixed; have hT : TOk P tl81 := hP ▸ tk81; (try rw [← ho]); cbv; (repeat (refine StopN.mk ?_; cbv)))
  repeat' (first | (refine Br.mk (fun hb => ?_) (fun hb => ?_) <;> ((try rw [ho] at hb); (try dsimp only [Ar.real, IX.vo] at hb); (try simp only [QP1, QB7] at hb); (try simp only [QBo, beq_iff_eq, beq_eq_false_iff_ne, ne_eq] at hb))) | (refine StopN.mk ?_; cbv) | (first | refine NeedT.mk (by rw [ho]; rfl) ?_ | (first | refine CallI.pure hP a1 fn119 rfl rfl rfl ?_ | refine CallI.pure hP a2 fn119 rfl rfl rfl ?_ | refine CallI.pure hP a3 fn119 rfl rfl rfl ?_ | refine CallI.pure hP a4 fn119 rfl rfl rfl ?_); cbv) | (refine hK _ _ ?_) | (refine NeedT.mk ?_ ?_) | (refine LoopN.lay (o := o) (D := []) 6 ho hm hT (by kernel_rfl) ?_; cbv))
  exact .pure fun _ => rfl
@[reducible] def bA : List X := cfL ++ [il 0, il 1, .ro (.lits [[il 4, il 2, il 3, .b .t, .b .f, il 0, il 0]]), agL, .ro (.lits [[il 1, il 4, il 1, l3, il 0]]), l0, l0]
@[reducible] def bB : List X := cfL ++ [il 0, il 0, l0, agL, l0, l0, l0]
theorem d_setA : XC Tryz.prog 53 [.agg bA] [] (.b .t) [] := by
  (refine XC.of_body ([]) Tryz.func53 rfl Tryz.ntmps53 mixed (T := tl53) tk53 (by kernel_rfl) (by simp) rfl rfl rfl rfl rfl ?_; rintro o ho P hP c K hK; have hm : P.follows .mixedOrders = true := hP ▸ mixed; have hT : TOk P tl53 := hP ▸ tk53; (try rw [← ho]); cbv; (repeat (refine StopN.mk ?_; cbv)))
  repeat' (first | (refine Br.mk (fun hb => ?_) (fun hb => ?_) <;> ((try rw [ho] at hb); (try dsimp only [Ar.real, IX.vo] at hb); (try simp only [QP1, QB7] at hb); (try simp only [QBo, beq_iff_eq, beq_eq_false_iff_ne, ne_eq] at hb))) | (refine StopN.mk ?_; cbv) | (refine CallI.pure hP d_check fn81 rfl rfl rfl ?_); cbv | (refine hK _ _ ?_) | (refine NeedT.mk ?_ ?_))
  exact .pure fun _ => rfl
theorem d_setB : XC Tryz.prog 53 [.agg bB] [] (.b .t) [] := by
  (refine XC.of_body ([]) Tryz.func53 rfl Tryz.ntmps53 mixed (T := tl53) tk53 (by kernel_rfl) (by simp) rfl rfl rfl rfl rfl ?_; rintro o ho P hP c K hK; have hm : P.follows .mixedOrders = true := hP ▸ mixed; have hT : TOk P tl53 := hP ▸ tk53; (try rw [← ho]); cbv; (repeat (refine StopN.mk ?_; cbv)))
  repeat' (first | (refine Br.mk (fun hb => ?_) (fun hb => ?_) <;> ((try rw [ho] at hb); (try dsimp only [Ar.real, IX.vo] at hb); (try simp only [QP1, QB7] at hb); (try simp only [QBo, beq_iff_eq, beq_eq_false_iff_ne, ne_eq] at hb))) | (refine StopN.mk ?_; cbv) | (refine CallI.pure hP d_check fn81 rfl rfl rfl ?_); cbv | (refine hK _ _ ?_) | (refine NeedT.mk ?_ ?_))
  exact .pure fun _ => rfl
theorem d_framesA : XC Tryz.prog 54 [.agg bA] [] (.b .t) [] := by
  have a1 := d_number (x := 4) (by decide)
  (refine XC.of_body (dt54) Tryz.func54 rfl Tryz.ntmps54 mixed (T := tl54) tk54 (by kernel_rfl) (by simp) rfl rfl rfl rfl rfl ?_; rintro o ho P hP c K hK; have hm : P.follows .mixedOrders = true := hP ▸ mixed; have hT : TOk P tl54 := hP ▸ tk54; (try rw [← ho]); cbv; (repeat (refine StopN.mk ?_; cbv)))
  repeat' (first | (refine Br.mk (fun hb => ?_) (fun hb => ?_) <;> ((try rw [ho] at hb); (try dsimp only [Ar.real, IX.vo] at hb); (try simp only [QP1, QB7] at hb); (try simp only [QBo, beq_iff_eq, beq_eq_false_iff_ne, ne_eq] at hb))) | (refine StopN.mk ?_; cbv) | (first | refine NeedT.mk (by rw [ho]; rfl) ?_ | refine CallN.pure hP a1 fn82 rfl rfl rfl ?_; cbv) | (refine hK _ _ ?_) | (refine NeedT.mk ?_ ?_) | (refine LoopN.lay (o := o) (D := dt54) 3 ho hm hT (by kernel_rfl) ?_; cbv))
  all_goals exact .pure fun _ => rfl
theorem d_framesB : XC Tryz.prog 54 [.agg bB] [] (.b .t) [] := by
  (refine XC.of_body (dt54) Tryz.func54 rfl Tryz.ntmps54 mixed (T := tl54) tk54 (by kernel_rfl) (by simp) rfl rfl rfl rfl rfl ?_; rintro o ho P hP c K hK; have hm : P.follows .mixedOrders = true := hP ▸ mixed; have hT : TOk P tl54 := hP ▸ tk54; (try rw [← ho]); cbv; (repeat (refine StopN.mk ?_; cbv)))
  repeat' (first | (refine Br.mk (fun hb => ?_) (fun hb => ?_) <;> ((try rw [ho] at hb); (try dsimp only [Ar.real, IX.vo] at hb); (try simp only [QP1, QB7] at hb); (try simp only [QBo, beq_iff_eq, beq_eq_false_iff_ne, ne_eq] at hb))) | (refine StopN.mk ?_; cbv) | (first | refine NeedT.mk (by rw [ho]; rfl) ?_) | ((first | refine CallI.pure hP (x_number _) fn82 (by first | rfl | (rw [ho]; try rfl)) (by rfl) (by first | rfl | (rw [ho]; try rfl)) ?_ | refine CallN.pure hP (x_number _) fn82 (by first | rfl | (rw [ho]; try rfl)) (by rfl) (by first | rfl | (rw [ho]; try rfl)) ?_); (try rw [← ho]); generalize hr : numB _ = r; (try rw [ho] at hr); (try dsimp only [Ar.real, IX.vo] at hr); (try simp only [QP1, QB7] at hr); cbv) | (refine hK _ _ ?_) | (refine NeedT.mk ?_ ?_) | (refine LoopN.lay (o := o) (D := dt54) 3 ho hm hT (by kernel_rfl) ?_; cbv))
  all_goals exact .pure fun _ => rfl
theorem d_agents (b : List X) (hb' : b = bA ∨ b = bB) : XC Tryz.prog 55 [.agg b] [] (.b .t) [] := by
  have a1 := d_number (x := 1) (by decide)
  rcases hb' with rfl | rfl
  all_goals
    (refine XC.of_body (dt55) Tryz.func55 rfl Tryz.ntmps55 mixed (T := tl55) tk55 (by kernel_rfl) (by simp) rfl rfl rfl rfl rfl ?_; rintro o ho P hP c K hK; have hm : P.follows .mixedOrders = true := hP ▸ mixed; have hT : TOk P tl55 := hP ▸ tk55; (try rw [← ho]); cbv; (repeat (refine StopN.mk ?_; cbv)))
    repeat' (first | (refine Br.mk (fun hb => ?_) (fun hb => ?_) <;> ((try rw [ho] at hb); (try dsimp only [Ar.real, IX.vo] at hb); (try simp only [QP1, QB7] at hb); (try simp only [QBo, beq_iff_eq, beq_eq_false_iff_ne, ne_eq] at hb))) | (refine StopN.mk ?_; cbv) | (first | refine NeedT.mk (by rw [ho]; rfl) ?_ | (first | refine CallN.pure hP a1 fn82 rfl rfl rfl ?_ | refine CallN.pure hP d_right3 fn69 rfl rfl rfl ?_ | refine CallN.pure hP d_right0 fn69 rfl rfl rfl ?_); cbv) | (refine hK _ _ ?_) | (refine NeedT.mk ?_ ?_) | (refine LoopN.lay (o := o) (D := dt55) 3 ho hm hT (by kernel_rfl) ?_; cbv))
    all_goals exact .pure fun _ => rfl
theorem d_most (b : List X) (hb' : b = bA ∨ b = bB) : XC Tryz.prog 56 [.agg b] [] (.b .t) [] := by
  rcases hb' with rfl | rfl
  all_goals
    (refine XC.of_body (dt56) Tryz.func56 rfl Tryz.ntmps56 mixed (T := tl56) tk56 (by kernel_rfl) (by simp) rfl rfl rfl rfl rfl ?_; rintro o ho P hP c K hK; have hm : P.follows .mixedOrders = true := hP ▸ mixed; have hT : TOk P tl56 := hP ▸ tk56; (try rw [← ho]); cbv; (repeat (refine StopN.mk ?_; cbv)))
    repeat' (first | (refine Br.mk (fun hb => ?_) (fun hb => ?_) <;> ((try rw [ho] at hb); (try dsimp only [Ar.real, IX.vo] at hb); (try simp only [QP1, QB7] at hb); (try simp only [QBo, beq_iff_eq, beq_eq_false_iff_ne, ne_eq] at hb))) | (refine StopN.mk ?_; cbv) | (first | refine NeedT.mk (by rw [ho]; rfl) ?_ | (first | refine FrzN.frzv 3 6 rfl rfl rfl (.done ?_) | refine OpN.asl 0 rfl (by rw [hP]; exact tok35.k) (by rw [hP]; exact tok2.sz) (by decide) (by decide) rfl (by decide) (.inl ⟨rfl, rfl⟩) ?_ | refine CallN.pure hP d_of fn32 rfl rfl rfl ?_ | refine CallN.pure hP d_add fn31 rfl rfl rfl ?_ | refine CallN.pure hP d_max fn83 rfl rfl rfl ?_); cbv) | (refine hK _ _ ?_) | (refine NeedT.mk ?_ ?_) | (refine LoopN.lay (o := o) (D := dt56) 3 ho hm hT (by kernel_rfl) ?_; cbv))
    all_goals exact .pure fun _ => rfl
def kA : Bk := ⟨⟨9, 9, 9, 0, 9, ⟨0, 0, 0, 0⟩⟩, 0, 1, [⟨4, 2, 3, true, false, 0, 0⟩], [⟨1, p3, []⟩], [⟨1, 4, 1, p3, 0⟩], [], []⟩
theorem kA_ok : BkOk kA := ⟨by decide, by decide, by decide, by decide, by decide,
  fun i => match i with | 0 => by decide | i + 1 => by show (default : Agt).total.length ≤ _; decide,
  fun i => match i with | 0 => by decide | i + 1 => by show (default : Agt).free.length ≤ _; decide,
  fun i => match i with | 0 => by decide | i + 1 => by show (default : Ofr).vec.length ≤ _; decide,
  fun i => by show (default : Tsk).vec.length ≤ _; decide,
  fun i => by show (default : Flt).vec.length ≤ _; decide⟩
theorem d_frame4 : XC Tryz.prog 38 [.agg bA, il 4] [] (il 0) [] := XC_at (x_Frame kA kA_ok 4) (fun c => rfl) (fun c => by rw [show atFrame kA.fr 4 = 0 from by decide]; rfl)
theorem d_agent1 : XC Tryz.prog 30 [.agg bA, il 1] [] (il 0) [] := XC_at (x_Agent kA kA_ok 1) (fun c => rfl) (fun c => by rw [show atAgent kA.ag 1 = 0 from by decide]; rfl)
theorem d_agent2 : XC Tryz.prog 30 [.agg bA, il 2] [] (il (-1)) [] := XC_at (x_Agent kA kA_ok 2) (fun c => rfl) (fun c => by rw [show atAgent kA.ag 2 = -1 from by decide]; rfl)
theorem d_offer1 : XC Tryz.prog 29 [.agg bA, il 1] [] (il 0) [] := XC_at (x_Offer kA kA_ok 1) (fun c => rfl) (fun c => by rw [show atOffer kA.of 1 = 0 from by decide]; rfl)
@[reducible] def f4 : X := .agg [il 4, il 2, il 3, .b .t, .b .f, il 0, il 0]
theorem d_held : XC Tryz.prog 84 [.agg bA, il 4, il 1, l3] [] (.tup [f4, .b .t]) [] := by
  (refine XC.of_body (dt84) Tryz.func84 rfl Tryz.ntmps84 mixed (T := tl84) tk84 (by kernel_rfl) (by simp) rfl rfl rfl rfl rfl ?_; rintro o ho P hP c K hK; have hm : P.follows .mixedOrders = true := hP ▸ mixed; have hT : TOk P tl84 := hP ▸ tk84; (try rw [← ho]); cbv; (repeat (refine StopN.mk ?_; cbv)))
  repeat' (first | (refine Br.mk (fun hb => ?_) (fun hb => ?_) <;> ((try rw [ho] at hb); (try dsimp only [Ar.real, IX.vo] at hb); (try simp only [QP1, QB7] at hb); (try simp only [QBo, beq_iff_eq, beq_eq_false_iff_ne, ne_eq] at hb))) | (refine StopN.mk ?_; cbv) | (first | refine NeedT.mk (by rw [ho]; rfl) ?_ | (first | refine CallI.pure hP d_frame4 fn38 rfl rfl rfl ?_ | refine CallI.pure hP d_agent1 fn30 rfl rfl rfl ?_ | refine CallI.pure hP d_right3 fn69 rfl rfl rfl ?_ | refine CallN.pure hP d_only fn120 rfl rfl rfl ?_); cbv) | (refine hK _ _ ?_) | (refine NeedT.mk ?_ ?_))
  exact .pure fun _ => rfl
theorem d_offersA : XC Tryz.prog 57 [.agg bA] [] (.b .t) [] := by
  (refine XC.of_body (dt57) Tryz.func57 rfl Tryz.ntmps57 mixed (T := tl57) tk57 (by kernel_rfl) (by simp) rfl rfl rfl rfl rfl ?_; rintro o ho P hP c K hK; have hm : P.follows .mixedOrders = true := hP ▸ mixed; have hT : TOk P tl57 := hP ▸ tk57; (try rw [← ho]); cbv; (repeat (refine StopN.mk ?_; cbv)))
  repeat' (first | (refine Br.mk (fun hb => ?_) (fun hb => ?_) <;> ((try rw [ho] at hb); (try dsimp only [Ar.real, IX.vo] at hb); (try simp only [QP1, QB7] at hb); (try simp only [QBo, beq_iff_eq, beq_eq_false_iff_ne, ne_eq] at hb))) | (refine StopN.mk ?_; cbv) | (first | refine NeedT.mk (by rw [ho]; rfl) ?_ | (first | refine CallI.pure hP d_held fn84 rfl rfl rfl ?_ | refine CallN.pure hP d_held fn84 rfl rfl rfl ?_); cbv) | (refine hK _ _ ?_) | (refine NeedT.mk ?_ ?_) | (refine LoopN.lay (o := o) (D := dt57) 3 ho hm hT (by kernel_rfl) ?_; cbv))
  all_goals exact .pure fun _ => rfl
theorem d_offersB : XC Tryz.prog 57 [.agg bB] [] (.b .t) [] := by
  (refine XC.of_body (dt57) Tryz.func57 rfl Tryz.ntmps57 mixed (T := tl57) tk57 (by kernel_rfl) (by simp) rfl rfl rfl rfl rfl ?_; rintro o ho P hP c K hK; have hm : P.follows .mixedOrders = true := hP ▸ mixed; have hT : TOk P tl57 := hP ▸ tk57; (try rw [← ho]); cbv; (repeat (refine StopN.mk ?_; cbv)))
  repeat' (first | (refine Br.mk (fun hb => ?_) (fun hb => ?_) <;> ((try rw [ho] at hb); (try dsimp only [Ar.real, IX.vo] at hb); (try simp only [QP1, QB7] at hb); (try simp only [QBo, beq_iff_eq, beq_eq_false_iff_ne, ne_eq] at hb))) | (refine StopN.mk ?_; cbv) | (refine NeedT.mk (by rw [ho]; rfl) ?_) | (refine hK _ _ ?_) | (refine NeedT.mk ?_ ?_) | (refine LoopN.lay (o := o) (D := dt57) 3 ho hm hT (by kernel_rfl) ?_; cbv))
  all_goals exact .pure fun _ => rfl
theorem d_tasks (b : List X) (hb' : b = bA ∨ b = bB) : XC Tryz.prog 58 [.agg b] [] (.b .t) [] := by
  rcases hb' with rfl | rfl
  all_goals
    (refine XC.of_body (dt58) Tryz.func58 rfl Tryz.ntmps58 mixed (T := tl58) tk58 (by kernel_rfl) (by simp) rfl rfl rfl rfl rfl ?_; rintro o ho P hP c K hK; have hm : P.follows .mixedOrders = true := hP ▸ mixed; have hT : TOk P tl58 := hP ▸ tk58; (try rw [← ho]); cbv; (repeat (refine StopN.mk ?_; cbv)))
    repeat' (first | (refine Br.mk (fun hb => ?_) (fun hb => ?_) <;> ((try rw [ho] at hb); (try dsimp only [Ar.real, IX.vo] at hb); (try simp only [QP1, QB7] at hb); (try simp only [QBo, beq_iff_eq, beq_eq_false_iff_ne, ne_eq] at hb))) | (refine StopN.mk ?_; cbv) | (refine NeedT.mk (by rw [ho]; rfl) ?_) | ((first | refine CallI.pure hP (x_number _) fn82 (by first | rfl | (rw [ho]; try rfl)) (by rfl) (by first | rfl | (rw [ho]; try rfl)) ?_ | refine CallN.pure hP (x_number _) fn82 (by first | rfl | (rw [ho]; try rfl)) (by rfl) (by first | rfl | (rw [ho]; try rfl)) ?_); (try rw [← ho]); generalize hr : numB _ = r; (try rw [ho] at hr); (try dsimp only [Ar.real, IX.vo] at hr); (try simp only [QP1, QB7] at hr); cbv) | ((first | refine CallI.pure hP (x_Or3 _ _ _) fn85 (by first | rfl | (rw [ho]; try rfl)) (by rfl) (by first | rfl | (rw [ho]; try rfl)) ?_ | refine CallN.pure hP (x_Or3 _ _ _) fn85 (by first | rfl | (rw [ho]; try rfl)) (by rfl) (by first | rfl | (rw [ho]; try rfl)) ?_); (try rw [← ho]); generalize hr : or3 _ _ _ = r; (try rw [ho] at hr); (try dsimp only [Ar.real, IX.vo] at hr); (try simp only [QP1, QB7] at hr); cbv) | ((first | refine CallI.pure hP (x_CmpL _ _) fn86 (by first | rfl | (rw [ho]; try rfl)) (by rfl) (by first | rfl | (rw [ho]; try rfl)) ?_ | refine CallN.pure hP (x_CmpL _ _) fn86 (by first | rfl | (rw [ho]; try rfl)) (by rfl) (by first | rfl | (rw [ho]; try rfl)) ?_); (try rw [← ho]); generalize hr : cmpI _ _ = r; (try rw [ho] at hr); (try dsimp only [Ar.real, IX.vo] at hr); (try simp only [QP1, QB7] at hr); cbv) | (refine hK _ _ ?_) | (refine NeedT.mk ?_ ?_) | (refine LoopN.lay (o := o) (D := dt58) 3 ho hm hT (by kernel_rfl) ?_; cbv))
    all_goals exact .pure fun _ => rfl
theorem d_filters (b : List X) (hb' : b = bA ∨ b = bB) : XC Tryz.prog 59 [.agg b] [] (.b .t) [] := by
  rcases hb' with rfl | rfl
  all_goals
    (refine XC.of_body (dt59) Tryz.func59 rfl Tryz.ntmps59 mixed (T := tl59) tk59 (by kernel_rfl) (by simp) rfl rfl rfl rfl rfl ?_; rintro o ho P hP c K hK; have hm : P.follows .mixedOrders = true := hP ▸ mixed; have hT : TOk P tl59 := hP ▸ tk59; (try rw [← ho]); cbv; (repeat (refine StopN.mk ?_; cbv)))
    repeat' (first | (refine Br.mk (fun hb => ?_) (fun hb => ?_) <;> ((try rw [ho] at hb); (try dsimp only [Ar.real, IX.vo] at hb); (try simp only [QP1, QB7] at hb); (try simp only [QBo, beq_iff_eq, beq_eq_false_iff_ne, ne_eq] at hb))) | (refine StopN.mk ?_; cbv) | (refine NeedT.mk (by rw [ho]; rfl) ?_) | ((first | refine CallI.pure hP (x_Agent _ ‹_› _) fn30 (by first | rfl | (rw [ho]; try rfl)) (by rfl) (by first | rfl | (rw [ho]; try rfl)) ?_ | refine CallN.pure hP (x_Agent _ ‹_› _) fn30 (by first | rfl | (rw [ho]; try rfl)) (by rfl) (by first | rfl | (rw [ho]; try rfl)) ?_); (try rw [← ho]); generalize hr : atAgent _ _ = r; (try rw [ho] at hr); (try dsimp only [Ar.real, IX.vo] at hr); (try simp only [QP1, QB7] at hr); cbv) | ((first | refine CallI.pure hP (x_Frame _ ‹_› _) fn38 (by first | rfl | (rw [ho]; try rfl)) (by rfl) (by first | rfl | (rw [ho]; try rfl)) ?_ | refine CallN.pure hP (x_Frame _ ‹_› _) fn38 (by first | rfl | (rw [ho]; try rfl)) (by rfl) (by first | rfl | (rw [ho]; try rfl)) ?_); (try rw [← ho]); generalize hr : atFrame _ _ = r; (try rw [ho] at hr); (try dsimp only [Ar.real, IX.vo] at hr); (try simp only [QP1, QB7] at hr); cbv) | ((first | refine CallI.pure hP (x_vec_Right _ ‹_›) fn69 (by first | rfl | (rw [ho]; try rfl)) (by rfl) (by first | rfl | (rw [ho]; try rfl)) ?_ | refine CallN.pure hP (x_vec_Right _ ‹_›) fn69 (by first | rfl | (rw [ho]; try rfl)) (by rfl) (by first | rfl | (rw [ho]; try rfl)) ?_); (try rw [← ho]); generalize hr : vecRight _ = r; (try rw [ho] at hr); (try dsimp only [Ar.real, IX.vo] at hr); (try simp only [QP1, QB7] at hr); cbv) | (refine hK _ _ ?_) | (refine NeedT.mk ?_ ?_) | (refine LoopN.lay (o := o) (D := dt59) 3 ho hm hT (by kernel_rfl) ?_; cbv))
    all_goals exact .pure fun _ => rfl
@[reducible] def mB : MX := .put .nil [.lit 1] l0
@[reducible] def mA : MX := .put mB [.lit 1] l3
@[reducible] def ldO (v : Nat) (m : MX) : List OX := [.var [.mp (.out 2)] 128, .var [.b .t] 4, .map v false 1 m]
theorem d_led0 : XC Tryz.prog 88 [il 1, l0, .ptr (.out 0) 0, .ptr (.out 1) 0] (ldO 0 .nil) (.tup []) (ldO 1 mB) := by
  (refine XC.of_body ([]) Tryz.func88 rfl Tryz.ntmps88 mixed (T := tl88) tk88 (by kernel_rfl) (by simp) rfl rfl rfl rfl rfl ?_; rintro o ho P hP c K hK; have hm : P.follows .mixedOrders = true := hP ▸ mixed; have hT : TOk P tl88 := hP ▸ tk88; (try rw [← ho]); cbv; (repeat (refine StopN.mk ?_; cbv)))
  repeat' (first | (refine Br.mk (fun hb => ?_) (fun hb => ?_) <;> ((try rw [ho] at hb); (try dsimp only [Ar.real, IX.vo] at hb); (try simp only [QP1, QB7] at hb); (try simp only [QBo, beq_iff_eq, beq_eq_false_iff_ne, ne_eq] at hb))) | (refine StopN.mk ?_; cbv) | (first | refine NeedT.mk (by rw [ho]; rfl) ?_ | refine CallI.pure hP d_add0 fn89 rfl rfl rfl ?_; cbv) | (refine hK _ _ ?_) | (refine NeedT.mk ?_ ?_))
  exact ⟨fun _ => rfl, upLr _⟩
theorem d_led3 : XC Tryz.prog 88 [il 1, l3, .ptr (.out 0) 0, .ptr (.out 1) 0] (ldO 1 mB) (.tup []) (ldO 2 mA) := by
  (refine XC.of_body ([]) Tryz.func88 rfl Tryz.ntmps88 mixed (T := tl88) tk88 (by kernel_rfl) (by simp) rfl rfl rfl rfl rfl ?_; rintro o ho P hP c K hK; have hm : P.follows .mixedOrders = true := hP ▸ mixed; have hT : TOk P tl88 := hP ▸ tk88; (try rw [← ho]); cbv; (repeat (refine StopN.mk ?_; cbv)))
  repeat' (first | (refine Br.mk (fun hb => ?_) (fun hb => ?_) <;> ((try rw [ho] at hb); (try dsimp only [Ar.real, IX.vo] at hb); (try simp only [QP1, QB7] at hb); (try simp only [QBo, beq_iff_eq, beq_eq_false_iff_ne, ne_eq] at hb))) | (refine StopN.mk ?_; cbv) | (first | refine NeedT.mk (by rw [ho]; rfl) ?_ | refine CallI.pure hP d_add3 fn89 rfl rfl rfl ?_; cbv) | (refine hK _ _ ?_) | (refine NeedT.mk ?_ ?_))
  exact ⟨fun _ => rfl, upLr _⟩
@[reducible] def lgO (v : Nat) (m : MX) : List OX := [.var [.mp (.out 1)] 128, .map v false 1 m]
theorem d_lsA : XC Tryz.prog 91 [.agg [il 1, l3, l0], .ptr (.out 0) 0] (lgO 2 mA) (.b .f) (lgO 2 mA) := by
  (refine XC.of_body ([]) Tryz.func91 rfl Tryz.ntmps91 mixed (T := tl91) tk91 (by kernel_rfl) (by simp) rfl rfl rfl rfl rfl ?_; rintro o ho P hP c K hK; have hm : P.follows .mixedOrders = true := hP ▸ mixed; have hT : TOk P tl91 := hP ▸ tk91; (try rw [← ho]); cbv; (repeat (refine StopN.mk ?_; cbv)))
  repeat' (first | (refine Br.mk (fun hb => ?_) (fun hb => ?_) <;> ((try rw [ho] at hb); (try dsimp only [Ar.real, IX.vo] at hb); (try simp only [QP1, QB7] at hb); (try simp only [QBo, beq_iff_eq, beq_eq_false_iff_ne, ne_eq] at hb))) | (refine StopN.mk ?_; cbv) | (first | refine NeedT.mk (by rw [ho]; rfl) ?_ | refine CallI.pure hP d_same fn92 rfl rfl rfl ?_; cbv) | (refine hK _ _ ?_) | (refine NeedT.mk ?_ ?_))
  exact ⟨fun _ => rfl, upLr _⟩
theorem d_lsB : XC Tryz.prog 91 [.agg [il 1, l3, l0], .ptr (.out 0) 0] (lgO 1 mB) (.b .t) (lgO 1 mB) := by
  (refine XC.of_body ([]) Tryz.func91 rfl Tryz.ntmps91 mixed (T := tl91) tk91 (by kernel_rfl) (by simp) rfl rfl rfl rfl rfl ?_; rintro o ho P hP c K hK; have hm : P.follows .mixedOrders = true := hP ▸ mixed; have hT : TOk P tl91 := hP ▸ tk91; (try rw [← ho]); cbv; (repeat (refine StopN.mk ?_; cbv)))
  repeat' (first | (refine Br.mk (fun hb => ?_) (fun hb => ?_) <;> ((try rw [ho] at hb); (try dsimp only [Ar.real, IX.vo] at hb); (try simp only [QP1, QB7] at hb); (try simp only [QBo, beq_iff_eq, beq_eq_false_iff_ne, ne_eq] at hb))) | (refine StopN.mk ?_; cbv) | (first | refine NeedT.mk (by rw [ho]; rfl) ?_ | refine CallI.pure hP d_same0 fn92 rfl rfl rfl ?_; cbv) | (refine hK _ _ ?_) | (refine NeedT.mk ?_ ?_))
  exact ⟨fun _ => rfl, upLr _⟩
theorem d_ixA : XC Tryz.prog 66 [agL, .fn (.func 91) [] [.ptr (.out 0) 0]] (lgO 2 mA) (il (-1)) (lgO 2 mA) := by
  (refine XC.of_body ([]) Tryz.func66 rfl Tryz.ntmps66 mixed (T := tl66) tk66 (by kernel_rfl) (by simp) rfl rfl rfl rfl rfl ?_; rintro o ho P hP c K hK; have hm : P.follows .mixedOrders = true := hP ▸ mixed; have hT : TOk P tl66 := hP ▸ tk66; (try rw [← ho]); cbv; (repeat (refine StopN.mk ?_; cbv)))
  repeat' (first | (refine Br.mk (fun hb => ?_) (fun hb => ?_) <;> ((try rw [ho] at hb); (try dsimp only [Ar.real, IX.vo] at hb); (try simp only [QP1, QB7] at hb); (try simp only [QBo, beq_iff_eq, beq_eq_false_iff_ne, ne_eq] at hb))) | (refine StopN.mk ?_; cbv) | (first | refine NeedT.mk (by rw [ho]; rfl) ?_ | refine CallI.objs [.out 0, .out 1] hP d_lsA fn91 rfl rfl rfl rfl (by rfl) rfl rfl rfl rfl (by rfl) ⟨⟨_, rfl, rfl⟩, ⟨_, rfl, rfl⟩, trivial⟩ ?_; cbv) | (refine hK _ _ ?_) | (refine NeedT.mk ?_ ?_) | (refine LoopN.lay (o := o) (D := []) 3 ho hm hT (by kernel_rfl) ?_; cbv))
  exact ⟨fun _ => rfl, upLr _⟩
theorem d_ixB : XC Tryz.prog 66 [agL, .fn (.func 91) [] [.ptr (.out 0) 0]] (lgO 1 mB) (il 0) (lgO 1 mB) := by
  (refine XC.of_body ([]) Tryz.func66 rfl Tryz.ntmps66 mixed (T := tl66) tk66 (by kernel_rfl) (by simp) rfl rfl rfl rfl rfl ?_; rintro o ho P hP c K hK; have hm : P.follows .mixedOrders = true := hP ▸ mixed; have hT : TOk P tl66 := hP ▸ tk66; (try rw [← ho]); cbv; (repeat (refine StopN.mk ?_; cbv)))
  repeat' (first | (refine Br.mk (fun hb => ?_) (fun hb => ?_) <;> ((try rw [ho] at hb); (try dsimp only [Ar.real, IX.vo] at hb); (try simp only [QP1, QB7] at hb); (try simp only [QBo, beq_iff_eq, beq_eq_false_iff_ne, ne_eq] at hb))) | (refine StopN.mk ?_; cbv) | (first | refine NeedT.mk (by rw [ho]; rfl) ?_ | refine CallI.objs [.out 0, .out 1] hP d_lsB fn91 rfl rfl rfl rfl (by rfl) rfl rfl rfl rfl (by rfl) ⟨⟨_, rfl, rfl⟩, ⟨_, rfl, rfl⟩, trivial⟩ ?_; cbv) | (refine hK _ _ ?_) | (refine NeedT.mk ?_ ?_) | (refine LoopN.lay (o := o) (D := []) 3 ho hm hT (by kernel_rfl) ?_; cbv))
  exact ⟨fun _ => rfl, upLr _⟩
theorem d_ctA : XC Tryz.prog 90 [agL, .fn (.func 91) [] [.ptr (.out 0) 0]] (lgO 2 mA) (.b .f) (lgO 2 mA) := by
  (refine XC.of_body ([]) Tryz.func90 rfl Tryz.ntmps90 mixed (T := tl90) tk90 (by kernel_rfl) (by simp) rfl rfl rfl rfl rfl ?_; rintro o ho P hP c K hK; have hm : P.follows .mixedOrders = true := hP ▸ mixed; have hT : TOk P tl90 := hP ▸ tk90; (try rw [← ho]); cbv; (repeat (refine StopN.mk ?_; cbv)))
  repeat' (first | (refine Br.mk (fun hb => ?_) (fun hb => ?_) <;> ((try rw [ho] at hb); (try dsimp only [Ar.real, IX.vo] at hb); (try simp only [QP1, QB7] at hb); (try simp only [QBo, beq_iff_eq, beq_eq_false_iff_ne, ne_eq] at hb))) | (refine StopN.mk ?_; cbv) | (refine CallI.objs [.out 0, .out 1] hP d_ixA fn66 rfl rfl rfl rfl (by rfl) rfl rfl rfl rfl (by rfl) ⟨⟨_, rfl, rfl⟩, ⟨_, rfl, rfl⟩, trivial⟩ ?_; cbv) | (refine hK _ _ ?_) | (refine NeedT.mk ?_ ?_))
  exact ⟨fun _ => rfl, upLr _⟩
theorem d_ctB : XC Tryz.prog 90 [agL, .fn (.func 91) [] [.ptr (.out 0) 0]] (lgO 1 mB) (.b .t) (lgO 1 mB) := by
  (refine XC.of_body ([]) Tryz.func90 rfl Tryz.ntmps90 mixed (T := tl90) tk90 (by kernel_rfl) (by simp) rfl rfl rfl rfl rfl ?_; rintro o ho P hP c K hK; have hm : P.follows .mixedOrders = true := hP ▸ mixed; have hT : TOk P tl90 := hP ▸ tk90; (try rw [← ho]); cbv; (repeat (refine StopN.mk ?_; cbv)))
  repeat' (first | (refine Br.mk (fun hb => ?_) (fun hb => ?_) <;> ((try rw [ho] at hb); (try dsimp only [Ar.real, IX.vo] at hb); (try simp only [QP1, QB7] at hb); (try simp only [QBo, beq_iff_eq, beq_eq_false_iff_ne, ne_eq] at hb))) | (refine StopN.mk ?_; cbv) | (refine CallI.objs [.out 0, .out 1] hP d_ixB fn66 rfl rfl rfl rfl (by rfl) rfl rfl rfl rfl (by rfl) ⟨⟨_, rfl, rfl⟩, ⟨_, rfl, rfl⟩, trivial⟩ ?_; cbv) | (refine hK _ _ ?_) | (refine NeedT.mk ?_ ?_))
  exact ⟨fun _ => rfl, upLr _⟩
theorem d_ledgerA : XC Tryz.prog 60 [.agg bA] [] (.b .t) [] := by
  (refine XC.of_body ([]) Tryz.func60 rfl Tryz.ntmps60 mixed (T := tl60) tk60 (by kernel_rfl) (by simp) rfl rfl rfl rfl rfl ?_; rintro o ho P hP c K hK; have hm : P.follows .mixedOrders = true := hP ▸ mixed; have hT : TOk P tl60 := hP ▸ tk60; (try rw [← ho]); cbv; (repeat (refine StopN.mk ?_; cbv)))
  repeat' (first | (refine Br.mk (fun hb => ?_) (fun hb => ?_) <;> ((try rw [ho] at hb); (try dsimp only [Ar.real, IX.vo] at hb); (try simp only [QP1, QB7] at hb); (try simp only [QBo, beq_iff_eq, beq_eq_false_iff_ne, ne_eq] at hb))) | (refine StopN.mk ?_; cbv) | (first | refine NeedT.mk (by rw [ho]; rfl) ?_ | (first | refine CallI.objs [.loc 2, .loc 3, .loc 1] hP d_led0 fn88 rfl rfl rfl rfl (by rfl) rfl rfl rfl rfl (by rfl) ⟨⟨_, rfl, rfl⟩, ⟨_, rfl, rfl⟩, ⟨_, rfl, rfl⟩, trivial⟩ ?_ | refine CallI.objs [.loc 2, .loc 3, .loc 1] hP d_led3 fn88 rfl rfl rfl rfl (by rfl) rfl rfl rfl rfl (by rfl) ⟨⟨_, rfl, rfl⟩, ⟨_, rfl, rfl⟩, ⟨_, rfl, rfl⟩, trivial⟩ ?_ | refine CallI.objs [.loc 2, .loc 1] hP d_ctA fn90 rfl rfl rfl rfl (by rfl) rfl rfl rfl rfl (by rfl) ⟨⟨_, rfl, rfl⟩, ⟨_, rfl, rfl⟩, trivial⟩ ?_); cbv) | (refine hK _ _ ?_) | (refine NeedT.mk ?_ ?_) | (refine LoopN.lay (o := o) (D := []) 3 ho hm hT (by kernel_rfl) ?_; cbv))
  all_goals exact .pure fun _ => rfl
theorem d_ledgerB : XC Tryz.prog 60 [.agg bB] [] (.b .f) [] := by
  (refine XC.of_body ([]) Tryz.func60 rfl Tryz.ntmps60 mixed (T := tl60) tk60 (by kernel_rfl) (by simp) rfl rfl rfl rfl rfl ?_; rintro o ho P hP c K hK; have hm : P.follows .mixedOrders = true := hP ▸ mixed; have hT : TOk P tl60 := hP ▸ tk60; (try rw [← ho]); cbv; (repeat (refine StopN.mk ?_; cbv)))
  repeat' (first | (refine Br.mk (fun hb => ?_) (fun hb => ?_) <;> ((try rw [ho] at hb); (try dsimp only [Ar.real, IX.vo] at hb); (try simp only [QP1, QB7] at hb); (try simp only [QBo, beq_iff_eq, beq_eq_false_iff_ne, ne_eq] at hb))) | (refine StopN.mk ?_; cbv) | (first | refine NeedT.mk (by rw [ho]; rfl) ?_ | (first | refine CallI.objs [.loc 2, .loc 3, .loc 1] hP d_led0 fn88 rfl rfl rfl rfl (by rfl) rfl rfl rfl rfl (by rfl) ⟨⟨_, rfl, rfl⟩, ⟨_, rfl, rfl⟩, ⟨_, rfl, rfl⟩, trivial⟩ ?_ | refine CallI.objs [.loc 2, .loc 1] hP d_ctB fn90 rfl rfl rfl rfl (by rfl) rfl rfl rfl rfl (by rfl) ⟨⟨_, rfl, rfl⟩, ⟨_, rfl, rfl⟩, trivial⟩ ?_); cbv) | (refine hK _ _ ?_) | (refine NeedT.mk ?_ ?_) | (refine LoopN.lay (o := o) (D := []) 3 ho hm hT (by kernel_rfl) ?_; cbv))
  all_goals exact .pure fun _ => rfl
theorem d_rightA : XC Tryz.prog 27 [.agg bA] [] (.tup [il 0, .b .t]) [] := by
  have a3 := d_agents bA (.inl rfl)
  have a4 := d_most bA (.inl rfl)
  have a6 := d_tasks bA (.inl rfl)
  have a7 := d_filters bA (.inl rfl)
  (refine XC.of_body ([]) Tryz.func27 rfl Tryz.ntmps27 mixed (T := tl27) tk27 (by kernel_rfl) (by simp) rfl rfl rfl rfl rfl ?_; rintro o ho P hP c K hK; have hm : P.follows .mixedOrders = true := hP ▸ mixed; have hT : TOk P tl27 := hP ▸ tk27; (try rw [← ho]); cbv; (repeat (refine StopN.mk ?_; cbv)))
  repeat' (first | (refine Br.mk (fun hb => ?_) (fun hb => ?_) <;> ((try rw [ho] at hb); (try dsimp only [Ar.real, IX.vo] at hb); (try simp only [QP1, QB7] at hb); (try simp only [QBo, beq_iff_eq, beq_eq_false_iff_ne, ne_eq] at hb))) | (refine StopN.mk ?_; cbv) | (first | refine NeedT.mk (by rw [ho]; rfl) ?_ | (first | refine CallI.pure hP d_setA fn53 rfl rfl rfl ?_ | refine CallI.pure hP d_framesA fn54 rfl rfl rfl ?_ | refine CallI.pure hP a3 fn55 rfl rfl rfl ?_ | refine CallI.pure hP a4 fn56 rfl rfl rfl ?_ | refine CallI.pure hP d_offersA fn57 rfl rfl rfl ?_ | refine CallI.pure hP a6 fn58 rfl rfl rfl ?_ | refine CallI.pure hP a7 fn59 rfl rfl rfl ?_ | refine CallI.pure hP d_ledgerA fn60 rfl rfl rfl ?_); cbv) | (refine hK _ _ ?_) | (refine NeedT.mk ?_ ?_) | (refine LoopN.lay (o := o) (D := []) 9 ho hm hT (by kernel_rfl) ?_; cbv))
  exact .pure fun _ => rfl
theorem d_rightB : XC Tryz.prog 27 [.agg bB] [] (.tup [il 8, .b .f]) [] := by
  have a3 := d_agents bB (.inr rfl)
  have a4 := d_most bB (.inr rfl)
  have a6 := d_tasks bB (.inr rfl)
  have a7 := d_filters bB (.inr rfl)
  (refine XC.of_body ([]) Tryz.func27 rfl Tryz.ntmps27 mixed (T := tl27) tk27 (by kernel_rfl) (by simp) rfl rfl rfl rfl rfl ?_; rintro o ho P hP c K hK; have hm : P.follows .mixedOrders = true := hP ▸ mixed; have hT : TOk P tl27 := hP ▸ tk27; (try rw [← ho]); cbv; (repeat (refine StopN.mk ?_; cbv)))
  repeat' (first | (refine Br.mk (fun hb => ?_) (fun hb => ?_) <;> ((try rw [ho] at hb); (try dsimp only [Ar.real, IX.vo] at hb); (try simp only [QP1, QB7] at hb); (try simp only [QBo, beq_iff_eq, beq_eq_false_iff_ne, ne_eq] at hb))) | (refine StopN.mk ?_; cbv) | (first | refine NeedT.mk (by rw [ho]; rfl) ?_ | (first | refine CallI.pure hP d_setB fn53 rfl rfl rfl ?_ | refine CallI.pure hP d_framesB fn54 rfl rfl rfl ?_ | refine CallI.pure hP a3 fn55 rfl rfl rfl ?_ | refine CallI.pure hP a4 fn56 rfl rfl rfl ?_ | refine CallI.pure hP d_offersB fn57 rfl rfl rfl ?_ | refine CallI.pure hP a6 fn58 rfl rfl rfl ?_ | refine CallI.pure hP a7 fn59 rfl rfl rfl ?_ | refine CallI.pure hP d_ledgerB fn60 rfl rfl rfl ?_); cbv) | (refine hK _ _ ?_) | (refine NeedT.mk ?_ ?_) | (refine LoopN.lay (o := o) (D := []) 9 ho hm hT (by kernel_rfl) ?_; cbv))
  exact .pure fun _ => rfl
end Go.Proofs.YtlblpbahoblihaaGreat.Sy
namespace Go.Proofs.YtlblpbahoblihaaGreat.Sy
open Go Go.Sy Go.Proofs.YtlblpbahoblihaaGreat
theorem x_RoleShare1 (role : Int) (a : Frm) : XC Tryz.prog 43 ([.agg (Frm.X Ar.real a)] ++ [.ptr (.out 0) 0]) [.var [xi role] 3] (xb (decide (a.role = role))) [.var [xi role] 3] := by
  (refine XC.of_body ([]) Tryz.func43 rfl Tryz.ntmps43 mixed (T := tl43) tk43 (by kernel_rfl) (by simp) rfl rfl rfl rfl rfl ?_; rintro o ho P hP c K hK; have hm : P.follows .mixedOrders = true := hP ▸ mixed; have hT : TOk P tl43 := hP ▸ tk43; (try rw [← ho]); cbv; (repeat (refine StopN.mk ?_; cbv)))
  repeat' (first | (refine Br.mk (fun hb => ?_) (fun hb => ?_) <;> ((try rw [ho] at hb); (try dsimp only [Ar.real, IX.vo] at hb); (try simp only [QP1, QB7] at hb); (try simp only [QBo, beq_iff_eq, beq_eq_false_iff_ne, ne_eq] at hb))) | (refine StopN.mk ?_; cbv) | (refine hK _ _ ?_) | (refine NeedT.mk ?_ ?_))
  refine FinX_bOr ?_ rfl
  rw [ho]
  rfl
@[reducible] def rsO : List OX := [.var bA 31, .var [il 2] 3]
theorem d_rsum1 : XC Tryz.prog 37 [il 4, .ptr (.out 0) 0, .ptr (.out 1) 0] rsO (.b .t) rsO := by
  (refine XC.of_body (dt37) Tryz.func37 rfl Tryz.ntmps37 mixed (T := tl37) tk37 (by kernel_rfl) (by simp) rfl rfl rfl rfl rfl ?_; rintro o ho P hP c K hK; have hm : P.follows .mixedOrders = true := hP ▸ mixed; have hT : TOk P tl37 := hP ▸ tk37; (try rw [← ho]); cbv; (repeat (refine StopN.mk ?_; cbv)))
  repeat' (first | (refine Br.mk (fun hb => ?_) (fun hb => ?_) <;> ((try rw [ho] at hb); (try dsimp only [Ar.real, IX.vo] at hb); (try simp only [QP1, QB7] at hb); (try simp only [QBo, beq_iff_eq, beq_eq_false_iff_ne, ne_eq] at hb))) | (refine StopN.mk ?_; cbv) | (first | refine NeedT.mk (by rw [ho]; rfl) ?_ | (first | refine CallI.pure hP d_frame4 fn38 rfl rfl rfl ?_ | refine CallN.pure hP d_frame4 fn38 rfl rfl rfl ?_); cbv) | (refine hK _ _ ?_) | (refine NeedT.mk ?_ ?_))
  exact ⟨fun _ => rfl, upLr _⟩
@[reducible] def s3 : X := .agg [il 3, il 0, il 0, il 0]
theorem d_sum : XC Tryz.prog 34 [.agg bA, .fn (.func 37) [] [.ptr (.out 0) 0, .ptr (.out 1) 0]] rsO s3 rsO := by
  (refine XC.of_body (dt34) Tryz.func34 rfl Tryz.ntmps34 mixed (T := tl34) tk34 (by kernel_rfl) (by simp) rfl rfl rfl rfl rfl ?_; rintro o ho P hP c K hK; have hm : P.follows .mixedOrders = true := hP ▸ mixed; have hT : TOk P tl34 := hP ▸ tk34; (try rw [← ho]); cbv; (repeat (refine StopN.mk ?_; cbv)))
  repeat' (first | (refine Br.mk (fun hb => ?_) (fun hb => ?_) <;> ((try rw [ho] at hb); (try dsimp only [Ar.real, IX.vo] at hb); (try simp only [QP1, QB7] at hb); (try simp only [QBo, beq_iff_eq, beq_eq_false_iff_ne, ne_eq] at hb))) | (refine StopN.mk ?_; cbv) | (first | refine NeedT.mk (by rw [ho]; rfl) ?_ | (first | refine CallI.objs [.out 0, .out 1] hP d_rsum1 fn37 rfl rfl rfl rfl (by rfl) rfl rfl rfl rfl (by rfl) ⟨⟨_, rfl, rfl⟩, ⟨_, rfl, rfl⟩, trivial⟩ ?_ | refine CallN.pure hP d_of fn32 rfl rfl rfl ?_ | refine CallN.pure hP d_add fn31 rfl rfl rfl ?_); cbv) | (refine hK _ _ ?_) | (refine NeedT.mk ?_ ?_) | (refine LoopN.lay (o := o) (D := dt34) 3 ho hm hT (by kernel_rfl) ?_; cbv))
  all_goals exact ⟨fun _ => rfl, upLr _⟩
theorem d_rolesum : XC Tryz.prog 11 [.agg bA, il 2] [] s3 [] := by
  (refine XC.of_body ([]) Tryz.func11 rfl Tryz.ntmps11 mixed (T := tl11) tk11 (by kernel_rfl) (by simp) rfl rfl rfl rfl rfl ?_; rintro o ho P hP c K hK; have hm : P.follows .mixedOrders = true := hP ▸ mixed; have hT : TOk P tl11 := hP ▸ tk11; (try rw [← ho]); cbv; (repeat (refine StopN.mk ?_; cbv)))
  repeat' (first | (refine Br.mk (fun hb => ?_) (fun hb => ?_) <;> ((try rw [ho] at hb); (try dsimp only [Ar.real, IX.vo] at hb); (try simp only [QP1, QB7] at hb); (try simp only [QBo, beq_iff_eq, beq_eq_false_iff_ne, ne_eq] at hb))) | (refine StopN.mk ?_; cbv) | (refine CallI.objs [.loc 0, .loc 1] hP d_sum fn34 rfl rfl rfl rfl (by rfl) rfl rfl rfl rfl (by rfl) ⟨⟨_, rfl, rfl⟩, ⟨_, rfl, rfl⟩, trivial⟩ ?_; cbv) | (refine hK _ _ ?_) | (refine NeedT.mk ?_ ?_))
  exact .pure fun _ => rfl
theorem d_total : XC Tryz.prog 7 [.agg bA] [] s3 [] := by
  (refine XC.of_body (dt7) Tryz.func7 rfl Tryz.ntmps7 mixed (T := tl7) tk7 (by kernel_rfl) (by simp) rfl rfl rfl rfl rfl ?_; rintro o ho P hP c K hK; have hm : P.follows .mixedOrders = true := hP ▸ mixed; have hT : TOk P tl7 := hP ▸ tk7; (try rw [← ho]); cbv; (repeat (refine StopN.mk ?_; cbv)))
  repeat' (first | (refine Br.mk (fun hb => ?_) (fun hb => ?_) <;> ((try rw [ho] at hb); (try dsimp only [Ar.real, IX.vo] at hb); (try simp only [QP1, QB7] at hb); (try simp only [QBo, beq_iff_eq, beq_eq_false_iff_ne, ne_eq] at hb))) | (refine StopN.mk ?_; cbv) | (first | refine NeedT.mk (by rw [ho]; rfl) ?_ | (first | refine CallN.pure hP d_of fn32 rfl rfl rfl ?_ | refine CallN.pure hP d_add fn31 rfl rfl rfl ?_); cbv) | (refine hK _ _ ?_) | (refine NeedT.mk ?_ ?_) | (refine LoopN.lay (o := o) (D := dt7) 3 ho hm hT (by kernel_rfl) ?_; cbv))
  all_goals exact .pure fun _ => rfl
theorem d_ixR : XC Tryz.prog 42 [.ro (.lits [[il 4, il 2, il 3, .b .t, .b .f, il 0, il 0]]), .fn (.func 43) [] [.ptr (.out 0) 0]] [.var [il 2] 3] (il 0) [.var [il 2] 3] := by
  have h := x_IxFrm (fun a : Frm => decide (a.role = 2)) 43 2 3 fn43 (x_RoleShare1 2) kA.fr (by decide)
  intro c h1 h2
  have := h c h1 h2
  rw [show ixR (fun a : Frm => decide (a.role = 2)) kA.fr = 0 from by decide] at this
  exact this
theorem d_roleshare : XC Tryz.prog 16 [.agg bA, il 2] [] (.tup [.agg [il 3, il 3, il 3], .b .t]) [] := by
  (refine XC.of_body (dt16) Tryz.func16 rfl Tryz.ntmps16 mixed (T := tl16) tk16 (by kernel_rfl) (by simp) rfl rfl rfl rfl rfl ?_; rintro o ho P hP c K hK; have hm : P.follows .mixedOrders = true := hP ▸ mixed; have hT : TOk P tl16 := hP ▸ tk16; (try rw [← ho]); cbv; (repeat (refine StopN.mk ?_; cbv)))
  repeat' (first | (refine Br.mk (fun hb => ?_) (fun hb => ?_) <;> ((try rw [ho] at hb); (try dsimp only [Ar.real, IX.vo] at hb); (try simp only [QP1, QB7] at hb); (try simp only [QBo, beq_iff_eq, beq_eq_false_iff_ne, ne_eq] at hb))) | (refine StopN.mk ?_; cbv) | (first | refine NeedT.mk (by rw [ho]; rfl) ?_ | (first | refine CallI.objs [.loc 1] hP d_ixR fn42 rfl rfl rfl rfl (by rfl) rfl rfl rfl rfl (by rfl) ⟨⟨_, rfl, rfl⟩, trivial⟩ ?_ | refine CallN.pure hP d_rolesum fn11 rfl rfl rfl ?_ | refine CallN.pure hP d_total fn7 rfl rfl rfl ?_ | refine CallN.pure hP d_shrOf fn41 rfl rfl rfl ?_); cbv) | (refine hK _ _ ?_) | (refine NeedT.mk ?_ ?_))
  exact .pure fun _ => rfl
theorem x_works16 : XC Tryz.prog 6 [] [] (xb true) [] := by
  (refine XC.of_body ([]) Tryz.func6 rfl Tryz.ntmps6 mixed (T := tl6) tk6 (by kernel_rfl) (by simp) rfl rfl rfl rfl rfl ?_; rintro o ho P hP c K hK; have hm : P.follows .mixedOrders = true := hP ▸ mixed; have hT : TOk P tl6 := hP ▸ tk6; (try rw [← ho]); cbv; (repeat (refine StopN.mk ?_; cbv)))
  repeat' (first | (refine Br.mk (fun hb => ?_) (fun hb => ?_) <;> ((try rw [ho] at hb); (try dsimp only [Ar.real, IX.vo] at hb); (try simp only [QP1, QB7] at hb); (try simp only [QBo, beq_iff_eq, beq_eq_false_iff_ne, ne_eq] at hb))) | (refine StopN.mk ?_; cbv) | (first | refine NeedT.mk (by rw [ho]; rfl) ?_ | (first | refine CallI.pure hP d_rightA fn27 rfl rfl rfl ?_ | refine CallI.pure hP d_rightB fn27 rfl rfl rfl ?_ | refine CallI.pure hP d_roleshare fn16 rfl rfl rfl ?_ | refine CallI.pure hP d_text fn28 rfl rfl rfl ?_ | refine CallI.pure hP d_offer1 fn29 rfl rfl rfl ?_ | refine CallI.pure hP d_agent2 fn30 rfl rfl rfl ?_ | refine CallN.pure hP d_text fn28 rfl rfl rfl ?_ | refine CallN.pure hP d_offer1 fn29 rfl rfl rfl ?_ | refine CallN.pure hP d_agent2 fn30 rfl rfl rfl ?_); cbv) | (refine hK _ _ ?_) | (refine NeedT.mk ?_ ?_))
  · exact .b rfl
  · exact absurd trivial hb
end Go.Proofs.YtlblpbahoblihaaGreat.Sy

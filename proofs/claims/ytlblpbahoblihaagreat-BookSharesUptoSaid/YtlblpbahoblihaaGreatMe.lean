/-
  Books: rules 1 and 2, by the program. Plain theorems.
-/
import Derived.Test.YtlblpbahoblihaaGreatMd
set_option linter.unusedSectionVars false
set_option maxRecDepth 100000
set_option maxHeartbeats 8000000
set_option linter.unusedVariables false
set_option linter.unusedSimpArgs false
namespace Go.Proofs.YtlblpbahoblihaaGreat.Sy
open Go Go.Sy Go.Proofs.YtlblpbahoblihaaGreat
def topB (x : Int) : Bool := wthB x 0 9007199254740992
def minB (s : S4) : Bool := topB s.a && (topB s.b && (topB s.c && topB s.d))
def cfgB (c : Cfg) : Bool := minB c.min && (topB c.hor && (wthB c.most 1 9007199254740992 && (topB c.ids && (topB c.life && wthB c.cap 1 4096))))
def setB (b : Bk) : Bool := cfgB b.cfg && (decide (0 ≤ b.now) && (decide (b.now ≤ b.cfg.hor) && (decide (0 ≤ b.last) && decide (b.last ≤ b.cfg.ids))))
@[reducible] def LkX (o : Ar) (b : Bk) : X := .agg (Bk.X o b)
end Go.Proofs.YtlblpbahoblihaaGreat.Sy
namespace Go.Proofs.YtlblpbahoblihaaGreat.Sy
open Go Go.Sy Go.Proofs.YtlblpbahoblihaaGreat
noncomputable def pB (p : Prop) : Bool := @decide p (Classical.propDecidable p)
theorem pB_t {p : Prop} (h : p) : pB p = true := @decide_eq_true p (Classical.propDecidable p) h
theorem pB_f {p : Prop} (h : ¬ p) : pB p = false := @decide_eq_false p (Classical.propDecidable p) h
theorem pB_iff {p : Prop} : pB p = true ↔ p := ⟨@of_decide_eq_true p (Classical.propDecidable p), pB_t⟩
theorem pB_and {p q : Prop} [Decidable q] (h : p) : pB (p ∧ q) = decide q := by
  by_cases hq : q
  · rw [pB_t ⟨h, hq⟩, decide_eq_true hq]
  · rw [pB_f fun h => hq h.2, decide_eq_false hq]
def clashB (l : List Frm) (i : Nat) : Bool := (nextAt (fun k => decide ((l.getD k default).role = (l.getD i default).role) && !decide ((l.getD k default).weight = (l.getD i default).weight)) 0 i).isSome
theorem clashB_false {l : List Frm} {i : Nat} : clashB l i = false ↔ ∀ k, k < i → (l.getD k default).role = (l.getD i default).role → (l.getD k default).weight = (l.getD i default).weight := by
  unfold clashB
  rw [Option.isSome_eq_false_iff, nextAt_isNone]
  constructor
  · intro h k hk hr
    have := h k hk
    rw [decide_eq_true hr, Bool.true_and, Bool.not_eq_false'] at this
    exact of_decide_eq_true this
  · intro h k hk
    by_cases hr : (l.getD k default).role = (l.getD i default).role
    · rw [decide_eq_true hr, Bool.true_and, decide_eq_true (h k hk hr)]
      rfl
    · rw [decide_eq_false hr]
      rfl
structure FrmOk (l : List Frm) (i : Nat) : Prop where
  id : numB (l.getD i default).id = true
  up : 0 < i → (l.getD (i - 1) default).id < (l.getD i default).id
  tm : (l.getD i default).time = 0 ∨ numB (l.getD i default).time = true
  r0 : 1 ≤ (l.getD i default).role
  r1 : (l.getD i default).role ≤ 32
  cl : clashB l i = false
  w0 : 1 ≤ (l.getD i default).weight
  w1 : (l.getD i default).weight ≤ 1000
  u0 : 0 ≤ (l.getD i default).til
  u1 : (l.getD i default).til ≤ 18014398509481984
  u2 : (l.getD i default).up = true → (l.getD i default).til ≤ 0
noncomputable def framesB (b : Bk) : Bool := pB ((∀ i, i < b.fr.length → FrmOk b.fr i) ∧ (b.fr.length : Int) ≤ b.cfg.cap)
end Go.Proofs.YtlblpbahoblihaaGreat.Sy
namespace Go.Proofs.YtlblpbahoblihaaGreat.Sy
open Go Go.Sy Go.Proofs.YtlblpbahoblihaaGreat
theorem prev_eq {i : Nat} (h : (0 : Int) < i) (hb : i ≤ 1048576) : (IntKind.i64.wrap ((i : Int) - 1)).toNat = i - 1 := by
  rw [wrap_i64 (x := (i : Int) - 1) (by omega) (by omega)]
  omega
structure AgtOk (l : List Agt) (i : Nat) : Prop where
  id : numB (l.getD i default).id = true
  up : 0 < i → (l.getD (i - 1) default).id < (l.getD i default).id
  pos : 0 < (l.getD i default).total.length
  tot : vecRight (l.getD i default).total = true
  fre : vecRight (l.getD i default).free = true
noncomputable def agentsB (b : Bk) : Bool := pB ((∀ i, i < b.ag.length → AgtOk b.ag i) ∧ (b.ag.length : Int) ≤ b.cfg.cap)
end Go.Proofs.YtlblpbahoblihaaGreat.Sy
namespace Go.Proofs.YtlblpbahoblihaaGreat.Sy
open Go Go.Sy Go.Proofs.YtlblpbahoblihaaGreat
def agS (l : List Agt) (k : Int) : Nat → Int
  | 0 => 0
  | i + 1 => agS l k i + sk (l.getD i default).total k
def agT (l : List Agt) (i : Nat) : S4 := S4.of fun k => agS l k i
def leM (s : S4) (m : Int) : Prop := s.a ≤ m ∧ s.b ≤ m ∧ s.c ≤ m ∧ s.d ≤ m
theorem AgtOk.sk {l : List Agt} {i : Nat} (h : AgtOk l i) (k : Int) : 0 ≤ sk (l.getD i default).total k ∧ sk (l.getD i default).total k ≤ 33 * 9007199254740992 := by
  have hv := (vecRight_iff _).1 h.tot
  exact ⟨sk_nn hv.ok k, sk_bd33 hv k⟩
theorem agS_nn {l : List Agt} (h : ∀ i, i < l.length → AgtOk l i) (k : Int) : ∀ i, i ≤ l.length → 0 ≤ agS l k i
  | 0, _ => Int.le_refl 0
  | i + 1, hi => by
    have h1 := agS_nn h k i (by omega)
    have h2 := (h i (by omega)).sk k
    simp only [agS]
    omega
def mostP (b : Bk) : Prop := ∀ i, i ≤ b.ag.length → leM (agT b.ag i) b.cfg.most
noncomputable def mostB (b : Bk) : Bool := pB (mostP b)
end Go.Proofs.YtlblpbahoblihaaGreat.Sy
namespace Go.Proofs.YtlblpbahoblihaaGreat.Sy
open Go Go.Sy Go.Proofs.YtlblpbahoblihaaGreat
theorem ixR_spec {α : Type} [Inhabited α] (q : α → Bool) (l : List α) : (ixR q l = -1 ∧ ∀ j, j < l.length → q (l.getD j default) = false) ∨ ∃ i, i < l.length ∧ ixR q l = (i : Int) ∧ q (l.getD i default) = true := by
  unfold ixR
  cases h : nextAt (fun i => q (l.getD i default)) 0 l.length with
  | none => exact .inl ⟨rfl, fun j hj => nextAt_eq_none.1 h j (Nat.zero_le _) hj⟩
  | some i =>
    obtain ⟨h1, h2, h3⟩ := nextAt_eq_some.1 h
    exact .inr ⟨i, h2.2, rfl, h1⟩
def heldB (b : Bk) (f a : Int) (v : List Part) : Bool :=
  decide (0 ≤ atFrame b.fr f) && (decide (0 ≤ atAgent b.ag a) && (decide (0 < v.length) && (vecRight v && decide ((onlyR v [0, (b.fr.getD (atFrame b.fr f).toNat default).role]).length = v.length))))
noncomputable def heldF (b : Bk) (f a : Int) (v : List Part) : Frm :=
  @ite _ (0 ≤ atFrame b.fr f ∧ 0 ≤ atAgent b.ag a ∧ 0 < v.length ∧ vecRight v = true) (Classical.propDecidable _) (b.fr.getD (atFrame b.fr f).toNat default) default
structure OfrOk (b : Bk) (i : Nat) : Prop where
  held : heldB b (b.of.getD i default).frame (b.of.getD i default).agent (b.of.getD i default).vec = true
  up : (heldF b (b.of.getD i default).frame (b.of.getD i default).agent (b.of.getD i default).vec).up = true
  id0 : 1 ≤ (b.of.getD i default).id
  id1 : (b.of.getD i default).id ≤ b.last
  asc : 0 < i → (b.of.getD (i - 1) default).id < (b.of.getD i default).id
  u0 : b.cfg.life = 0 → (b.of.getD i default).til = 0
  u1 : 0 < b.cfg.life → b.now < (b.of.getD i default).til ∧ (b.of.getD i default).til ≤ b.now + b.cfg.life
noncomputable def offersB (b : Bk) : Bool := pB (∀ i, i < b.of.length → OfrOk b i)
end Go.Proofs.YtlblpbahoblihaaGreat.Sy
namespace Go.Proofs.YtlblpbahoblihaaGreat.Sy
open Go Go.Sy Go.Proofs.YtlblpbahoblihaaGreat
def or4 (x y z w : Int) : Int := if x ≠ 0 then x else if y ≠ 0 then y else if z ≠ 0 then z else w
structure TskOk (b : Bk) (i : Nat) : Prop where
  held : heldB b (b.tk.getD i default).frame (b.tk.getD i default).agent (b.tk.getD i default).vec = true
  id : numB (b.tk.getD i default).id = true
  asc : 0 < i → (b.tk.getD (i - 1) default).frame < (b.tk.getD i default).frame ∨ ((b.tk.getD (i - 1) default).frame = (b.tk.getD i default).frame ∧ (b.tk.getD (i - 1) default).id < (b.tk.getD i default).id)
noncomputable def tasksB (b : Bk) : Bool := pB ((∀ i, i < b.tk.length → TskOk b i) ∧ (b.tk.length : Int) ≤ b.cfg.cap)
end Go.Proofs.YtlblpbahoblihaaGreat.Sy
namespace Go.Proofs.YtlblpbahoblihaaGreat.Sy
open Go Go.Sy Go.Proofs.YtlblpbahoblihaaGreat
def ahdR (x y : Flt) : Int := or4 (cmpI x.frame y.frame) (cmpI x.agent y.agent) (cmpI x.til y.til) (ordV x.vec y.vec)
theorem or4_lt {a b c d e f w : Int} : or4 (cmpI a b) (cmpI c d) (cmpI e f) w < 0 ↔ a < b ∨ (a = b ∧ (c < d ∨ (c = d ∧ (e < f ∨ (e = f ∧ w < 0))))) := by
  unfold or4 cmpI
  repeat' split
  all_goals omega
structure FltOk (b : Bk) (i : Nat) : Prop where
  fr : 0 ≤ atFrame b.fr (b.fl.getD i default).frame
  ag : 0 ≤ atAgent b.ag (b.fl.getD i default).agent
  pos : 0 < (b.fl.getD i default).vec.length
  vec : vecRight (b.fl.getD i default).vec = true
  u0 : b.now < (b.fl.getD i default).til
  u1 : (b.fl.getD i default).til ≤ 18014398509481984
  asc : 0 < i → ahdR (b.fl.getD (i - 1) default) (b.fl.getD i default) < 0
noncomputable def filtersB (b : Bk) : Bool := pB ((∀ i, i < b.fl.length → FltOk b i) ∧ (b.fl.length : Int) ≤ b.cfg.cap)
end Go.Proofs.YtlblpbahoblihaaGreat.Sy
namespace Go.Proofs.YtlblpbahoblihaaGreat.Sy
open Go Go.Sy Go.Proofs.YtlblpbahoblihaaGreat
def qAdd (a b : Int) : Int × Bool := if (0 ≤ a ∧ a ≤ 9007199254740992) ∧ 0 ≤ b ∧ b ≤ 9007199254740992 - a then (a + b, true) else (0, false)
def mrg : List Part → List Part → Option (List Part)
  | [], vs => some vs
  | x :: us, [] => some (x :: us)
  | x :: us, y :: vs =>
    if slotCmp x.kind x.role y.kind y.role < 0 then (mrg us (y :: vs)).map (x :: ·)
    else if 0 < slotCmp x.kind x.role y.kind y.role then (mrg (x :: us) vs).map (y :: ·)
    else if (qAdd x.amount y.amount).2 = true then (mrg us vs).map (⟨x.kind, x.role, (qAdd x.amount y.amount).1⟩ :: ·)
    else none
termination_by us vs => us.length + vs.length
theorem mrg_nil (us : List Part) : mrg us [] = some us := by
  cases us with
  | nil => rw [mrg]
  | cons x us => rw [mrg]
theorem mrg_nil' (us : List Part) : mrg [] us = some us := by rw [mrg]
def addV (a b : List Part) : List Part × Bool := if vecRight a = true ∧ vecRight b = true then (match mrg a b with | some l => (l, true) | none => ([], false)) else ([], false)
def InA (T : Option (List Part)) (out us vs : List Part) : Prop := (mrg us vs).map (out ++ ·) = T
theorem map_app {m : Option (List Part)} {out : List Part} {x : Part} : (m.map (x :: ·)).map (out ++ ·) = m.map (out ++ [x] ++ ·) := by
  cases m with
  | none => rfl
  | some l => simp
section
variable {T : Option (List Part)} {out us vs : List Part}
theorem InA.a1 (h : InA T out us vs) (hb : vs.length = 0) (ha : 0 < us.length) : InA T (out ++ [us.getD 0 default]) us.tail vs := by
  have : vs = [] := List.length_eq_zero_iff.1 hb
  subst this
  unfold InA at h ⊢
  rw [mrg_nil] at h ⊢
  match us, ha with
  | x :: us, _ => rw [← h]; simp
theorem InA.a2 (h : InA T out us vs) (ha : 0 < us.length) (hb : 0 < vs.length) (hc : slotCmp (us.getD 0 default).kind (us.getD 0 default).role (vs.getD 0 default).kind (vs.getD 0 default).role < 0) : InA T (out ++ [us.getD 0 default]) us.tail vs := by
  unfold InA at h ⊢
  match us, ha, vs, hb with
  | x :: us, _, y :: vs, _ =>
    have hc' : slotCmp x.kind x.role y.kind y.role < 0 := hc
    rw [mrg, if_pos hc', map_app] at h
    exact h
theorem InA.b1 (h : InA T out us vs) (ha : us.length = 0) (hb : 0 < vs.length) : InA T (out ++ [vs.getD 0 default]) us vs.tail := by
  have : us = [] := List.length_eq_zero_iff.1 ha
  subst this
  unfold InA at h ⊢
  rw [mrg_nil'] at h ⊢
  match vs, hb with
  | x :: vs, _ => rw [← h]; simp
theorem InA.b2 (h : InA T out us vs) (ha : 0 < us.length) (hb : 0 < vs.length) (hc : 0 < slotCmp (us.getD 0 default).kind (us.getD 0 default).role (vs.getD 0 default).kind (vs.getD 0 default).role) : InA T (out ++ [vs.getD 0 default]) us vs.tail := by
  unfold InA at h ⊢
  match us, ha, vs, hb with
  | x :: us, _, y :: vs, _ =>
    have hc' : 0 < slotCmp x.kind x.role y.kind y.role := hc
    rw [mrg, if_neg (by omega), if_pos hc', map_app] at h
    exact h
theorem InA.c1 (h : InA T out us vs) (ha : 0 < us.length) (hb : 0 < vs.length) (hc : 0 ≤ slotCmp (us.getD 0 default).kind (us.getD 0 default).role (vs.getD 0 default).kind (vs.getD 0 default).role) (hc2 : slotCmp (us.getD 0 default).kind (us.getD 0 default).role (vs.getD 0 default).kind (vs.getD 0 default).role ≤ 0)
    (hq : (qAdd (us.getD 0 default).amount (vs.getD 0 default).amount).2 = true) : InA T (out ++ [⟨(us.getD 0 default).kind, (us.getD 0 default).role, (qAdd (us.getD 0 default).amount (vs.getD 0 default).amount).1⟩]) us.tail vs.tail := by
  unfold InA at h ⊢
  match us, ha, vs, hb with
  | x :: us, _, y :: vs, _ =>
    have hc' : 0 ≤ slotCmp x.kind x.role y.kind y.role := hc
    have hc3 : slotCmp x.kind x.role y.kind y.role ≤ 0 := hc2
    have hq' : (qAdd x.amount y.amount).2 = true := hq
    rw [mrg, if_neg (by omega), if_neg (by omega), if_pos hq', map_app] at h
    exact h
theorem InA.c2 (h : InA T out us vs) (ha : 0 < us.length) (hb : 0 < vs.length) (hc : 0 ≤ slotCmp (us.getD 0 default).kind (us.getD 0 default).role (vs.getD 0 default).kind (vs.getD 0 default).role) (hc2 : slotCmp (us.getD 0 default).kind (us.getD 0 default).role (vs.getD 0 default).kind (vs.getD 0 default).role ≤ 0)
    (hq : (qAdd (us.getD 0 default).amount (vs.getD 0 default).amount).2 = false) : T = none := by
  unfold InA at h
  match us, ha, vs, hb with
  | x :: us, _, y :: vs, _ =>
    have hc' : 0 ≤ slotCmp x.kind x.role y.kind y.role := hc
    have hc3 : slotCmp x.kind x.role y.kind y.role ≤ 0 := hc2
    have hq' : (qAdd x.amount y.amount).2 = false := hq
    rw [mrg, if_neg (by omega), if_neg (by omega), if_neg (by rw [hq']; decide)] at h
    exact h.symm
theorem InA.fin (h : InA T out us vs) (ha : us.length = 0) (hb : vs.length = 0) : T = some out := by
  have : us = [] := List.length_eq_zero_iff.1 ha
  subst this
  have : vs = [] := List.length_eq_zero_iff.1 hb
  subst this
  unfold InA at h
  rw [mrg_nil] at h
  rw [← h]
  simp
end
end Go.Proofs.YtlblpbahoblihaaGreat.Sy
namespace Go.Proofs.YtlblpbahoblihaaGreat.Sy
open Go Go.Sy Go.Proofs.YtlblpbahoblihaaGreat
def encPV (o : Ar) (v : List Part) : X := .ro (SL o Part.X v)
theorem cleanPV : Go.Sy.Clean encPV := fun _ => rfl
def getL (ms : List (List Int × List Part)) (g : Int) : List Part := (lkp ms [g]).getD []
structure LgS where
  ver : Nat
  good : Bool
  ms : List (List Int × List Part)
  hn : (ms.map (·.1)).Nodup
@[reducible] def LgS.O (o : Ar) (ho : o = Ar.real) (s : LgS) : List OX := [.var [.mp (.out 2)] 128, .var [xb s.good] 4, .map s.ver false 1 (MT o ho encPV cleanPV s.ms s.hn)]
@[reducible] def LgS.O2 (o : Ar) (ho : o = Ar.real) (s : LgS) : List OX := [.var [.mp (.out 1)] 128, .map s.ver false 1 (MT o ho encPV cleanPV s.ms s.hn)]
end Go.Proofs.YtlblpbahoblihaaGreat.Sy
namespace Go.Proofs.YtlblpbahoblihaaGreat.Sy
open Go Go.Sy Go.Proofs.YtlblpbahoblihaaGreat
theorem slotCmp_lt {x y : Part} : slotCmp x.kind x.role y.kind y.role < 0 ↔ sl x y := by
  unfold slotCmp sl
  repeat' split
  all_goals omega
theorem slotCmp_gt {x y : Part} : 0 < slotCmp x.kind x.role y.kind y.role ↔ sl y x := by
  unfold slotCmp sl
  repeat' split
  all_goals omega
theorem slotCmp_eq {x y : Part} (h : ¬ slotCmp x.kind x.role y.kind y.role < 0) (h' : ¬ 0 < slotCmp x.kind x.role y.kind y.role) : x.kind = y.kind ∧ x.role = y.role := by
  unfold slotCmp at h h'
  repeat' split at h
  all_goals (repeat' split at h')
  all_goals omega
theorem qAdd_iff {a b : Int} (h : (qAdd a b).2 = true) : (0 ≤ a ∧ 0 ≤ b ∧ a + b ≤ 9007199254740992) ∧ (qAdd a b).1 = a + b := by
  unfold qAdd at h ⊢
  split at h
  · rename_i h1
    rw [if_pos h1]
    exact ⟨⟨h1.1.1, h1.2.1, by omega⟩, rfl⟩
  · cases h
def sls (p q : Part) : Prop := p.kind = q.kind ∧ p.role = q.role
theorem sl_of {p q r : Part} (h : sl p q) (e : sls r q) : sl p r := by
  unfold sl sls at *
  omega
theorem mrg_ok : ∀ (us vs l : List Part), VOk us → VOk vs → mrg us vs = some l → VOk l ∧ ∀ p ∈ l, ∃ q, (q ∈ us ∨ q ∈ vs) ∧ sls p q
  | [], vs, l, hu, hv, h => by
    rw [mrg] at h
    cases h
    exact ⟨hv, fun p hp => ⟨p, .inr hp, rfl, rfl⟩⟩
  | x :: us, [], l, hu, hv, h => by
    rw [mrg] at h
    cases h
    exact ⟨hu, fun p hp => ⟨p, .inl hp, rfl, rfl⟩⟩
  | x :: us, y :: vs, l, hu, hv, h => by
    have hxu := (List.pairwise_cons.1 hu.up).1
    have hyv := (List.pairwise_cons.1 hv.up).1
    rw [mrg] at h
    split at h
    · rename_i h1
      rw [slotCmp_lt] at h1
      cases hm : mrg us (y :: vs) with
      | none => rw [hm] at h; cases h
      | some m =>
        rw [hm] at h
        cases h
        obtain ⟨i1, i2⟩ := mrg_ok us (y :: vs) m hu.tail hv hm
        refine ⟨⟨fun p hp => ?_, List.pairwise_cons.2 ⟨fun p hp => ?_, i1.up⟩⟩, fun p hp => ?_⟩
        · rcases List.mem_cons.1 hp with rfl | hp
          · exact hu.ok _ List.mem_cons_self
          · exact i1.ok p hp
        · obtain ⟨q, hq, hs⟩ := i2 p hp
          refine sl_of ?_ hs
          rcases hq with hq | hq
          · exact hxu q hq
          · rcases List.mem_cons.1 hq with rfl | hq
            · exact h1
            · exact sl_trans h1 (hyv q hq)
        · rcases List.mem_cons.1 hp with rfl | hp
          · exact ⟨p, .inl List.mem_cons_self, rfl, rfl⟩
          · obtain ⟨q, hq, hs⟩ := i2 p hp
            exact ⟨q, hq.imp (List.mem_cons_of_mem _) id, hs⟩
    · rename_i h1
      split at h
      · rename_i h2
        rw [slotCmp_gt] at h2
        cases hm : mrg (x :: us) vs with
        | none => rw [hm] at h; cases h
        | some m =>
          rw [hm] at h
          cases h
          obtain ⟨i1, i2⟩ := mrg_ok (x :: us) vs m hu hv.tail hm
          refine ⟨⟨fun p hp => ?_, List.pairwise_cons.2 ⟨fun p hp => ?_, i1.up⟩⟩, fun p hp => ?_⟩
          · rcases List.mem_cons.1 hp with rfl | hp
            · exact hv.ok _ List.mem_cons_self
            · exact i1.ok p hp
          · obtain ⟨q, hq, hs⟩ := i2 p hp
            refine sl_of ?_ hs
            rcases hq with hq | hq
            · rcases List.mem_cons.1 hq with rfl | hq
              · exact h2
              · exact sl_trans h2 (hxu q hq)
            · exact hyv q hq
          · rcases List.mem_cons.1 hp with rfl | hp
            · exact ⟨p, .inr List.mem_cons_self, rfl, rfl⟩
            · obtain ⟨q, hq, hs⟩ := i2 p hp
              exact ⟨q, hq.imp id (List.mem_cons_of_mem _), hs⟩
      · rename_i h2
        obtain ⟨e1, e2⟩ := slotCmp_eq h1 h2
        split at h
        · rename_i h3
          obtain ⟨⟨a1, a2, a3⟩, a4⟩ := qAdd_iff h3
          cases hm : mrg us vs with
          | none => rw [hm] at h; cases h
          | some m =>
            rw [hm, a4] at h
            cases h
            obtain ⟨i1, i2⟩ := mrg_ok us vs m hu.tail hv.tail hm
            have hx := hu.ok x List.mem_cons_self
            have hy := hv.ok y List.mem_cons_self
            refine ⟨⟨fun p hp => ?_, List.pairwise_cons.2 ⟨fun p hp => ?_, i1.up⟩⟩, fun p hp => ?_⟩
            · rcases List.mem_cons.1 hp with rfl | hp
              · exact ⟨hx.k0, hx.k1, hx.r0, hx.r1, by have := hx.a0; have := hy.a0; show 1 ≤ x.amount + y.amount; omega, a3⟩
              · exact i1.ok p hp
            · obtain ⟨q, hq, hs⟩ := i2 p hp
              refine sl_of ?_ hs
              rcases hq with hq | hq
              · exact hxu q hq
              · have h4 := hyv q hq
                unfold sl at h4 ⊢
                dsimp only
                omega
            · rcases List.mem_cons.1 hp with rfl | hp
              · exact ⟨x, .inl List.mem_cons_self, rfl, rfl⟩
              · obtain ⟨q, hq, hs⟩ := i2 p hp
                exact ⟨q, hq.imp (List.mem_cons_of_mem _) (List.mem_cons_of_mem _), hs⟩
        · cases h
termination_by us vs => us.length + vs.length
theorem VOk.nil : VOk [] := ⟨fun p hp => by simp at hp, List.Pairwise.nil⟩
theorem addV_ok (a b : List Part) : VOk (addV a b).1 := by
  unfold addV
  split
  · rename_i h
    cases hm : mrg a b with
    | none => exact VOk.nil
    | some l => exact (mrg_ok a b l ((vecRight_iff a).1 h.1) ((vecRight_iff b).1 h.2) hm).1
  · exact VOk.nil
theorem VOk.len_from {v : List Part} (h : VOk v) : ∀ (n : Int), (∀ p ∈ v, n ≤ p.kind * 33 + p.role) → n ≤ 132 → (v.length : Int) ≤ 132 - n := by
  induction v with
  | nil => intro n _ hn; simp; omega
  | cons x v ih =>
    intro n hlo hn
    have hx := h.ok x List.mem_cons_self
    have h1 := hlo x List.mem_cons_self
    have k1 := hx.k1
    have k0 := hx.k0
    have r0 := hx.r0
    have r1 := hx.r1
    have := ih h.tail (x.kind * 33 + x.role + 1) (fun p hp => by
      have h2 := (List.pairwise_cons.1 h.up).1 p hp
      have hp0 := h.ok p (List.mem_cons_of_mem _ hp)
      have := hp0.r0
      unfold sl at h2
      omega) (by omega)
    simp only [List.length_cons]
    omega
theorem VOk.len {v : List Part} (h : VOk v) : v.length ≤ 132 := by
  have := h.len_from 0 (fun p hp => by have := (h.ok p hp).k0; have := (h.ok p hp).r0; omega) (by decide)
  omega
end Go.Proofs.YtlblpbahoblihaaGreat.Sy
namespace Go.Proofs.YtlblpbahoblihaaGreat.Sy
open Go Go.Sy Go.Proofs.YtlblpbahoblihaaGreat
abbrev LM := Bool × List (List Int × List Part)
def lmAdd (s : LM) (g : Int) (v : List Part) : LM := (s.1 && (addV (getL s.2 g) v).2, putp s.2 [g] (addV (getL s.2 g) v).1)
def lmA (l : List Agt) : Nat → LM
  | 0 => (true, [])
  | i + 1 => lmAdd (lmA l i) (l.getD i default).id (l.getD i default).free
def lmO (s : LM) (l : List Ofr) : Nat → LM
  | 0 => s
  | i + 1 => lmAdd (lmO s l i) (l.getD i default).agent (l.getD i default).vec
def lmT (s : LM) (l : List Tsk) : Nat → LM
  | 0 => s
  | i + 1 => lmAdd (lmT s l i) (l.getD i default).agent (l.getD i default).vec
def lmAll (b : Bk) : LM := lmT (lmO (lmA b.ag b.ag.length) b.of b.of.length) b.tk b.tk.length
def ledBad (s : LM) (l : List Agt) : Int := ixR (fun a : Agt => !vEq (getL s.2 a.id) a.total) l
def ledgerB (b : Bk) : Bool := (lmAll b).1 && !decide (0 ≤ ledBad (lmAll b) b.ag)
def LMok (s : LM) : Prop := ∀ g, VOk (getL s.2 g)
theorem LMok.add {s : LM} (h : LMok s) (g : Int) (v : List Part) : LMok (lmAdd s g v) := fun g' => by
  unfold lmAdd getL
  dsimp only
  rw [lkp_put]
  split
  · exact addV_ok _ _
  · exact h g'
theorem LMok.len {s : LM} (h : LMok s) (g : Int) : (getL s.2 g).length ≤ 1048576 := by
  have := (h g).len
  omega
end Go.Proofs.YtlblpbahoblihaaGreat.Sy
namespace Go.Proofs.YtlblpbahoblihaaGreat.Sy
open Go Go.Sy Go.Proofs.YtlblpbahoblihaaGreat
theorem setB_true {b : Bk} (h : setB b = true) : cfgB b.cfg = true ∧ 0 ≤ b.now ∧ b.now ≤ b.cfg.hor ∧ 0 ≤ b.last ∧ b.last ≤ b.cfg.ids := by
  unfold setB at h
  simp only [Bool.and_eq_true, decide_eq_true_eq] at h
  exact ⟨h.1, h.2.1, h.2.2.1, h.2.2.2.1, h.2.2.2.2⟩
theorem wthB_iff {x y z : Int} : wthB x y z = true ↔ y ≤ x ∧ x ≤ z := by
  unfold wthB
  rw [Bool.and_eq_true, decide_eq_true_eq, decide_eq_true_eq]
structure CfgOk (c : Cfg) : Prop where
  m0 : 0 ≤ c.min.a ∧ c.min.a ≤ 9007199254740992
  m1 : 0 ≤ c.min.b ∧ c.min.b ≤ 9007199254740992
  m2 : 0 ≤ c.min.c ∧ c.min.c ≤ 9007199254740992
  m3 : 0 ≤ c.min.d ∧ c.min.d ≤ 9007199254740992
  hor : 0 ≤ c.hor ∧ c.hor ≤ 9007199254740992
  most : 1 ≤ c.most ∧ c.most ≤ 9007199254740992
  ids : 0 ≤ c.ids ∧ c.ids ≤ 9007199254740992
  life : 0 ≤ c.life ∧ c.life ≤ 9007199254740992
  cap : 1 ≤ c.cap ∧ c.cap ≤ 4096
theorem cfgB_iff {c : Cfg} : cfgB c = true ↔ CfgOk c := by
  unfold cfgB minB topB
  simp only [Bool.and_eq_true, wthB_iff]
  exact ⟨fun ⟨⟨a, b, c, d⟩, e, f, g, h, i⟩ => ⟨a, b, c, d, e, f, g, h, i⟩, fun ⟨a, b, c, d, e, f, g, h, i⟩ => ⟨⟨a, b, c, d⟩, e, f, g, h, i⟩⟩
noncomputable def ruleP (b : Bk) : Int :=
  if setB b = false then 1 else if framesB b = false then 2 else if agentsB b = false then 3 else if mostB b = false then 4 else if offersB b = false then 5 else if tasksB b = false then 6 else if filtersB b = false then 7 else if ledgerB b = false then 8 else 0
end Go.Proofs.YtlblpbahoblihaaGreat.Sy

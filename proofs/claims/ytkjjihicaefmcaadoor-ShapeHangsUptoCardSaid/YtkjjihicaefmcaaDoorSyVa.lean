/-
  The program's data, reified. Plain theorems.
-/
import Derived.Test.YtkjjihicaefmcaaDoorSyZa
set_option linter.unusedVariables false
set_option linter.unusedSimpArgs false
set_option linter.unusedSectionVars false
namespace Go.Sy
open Go Go.RowKit
theorem ncCast (n : Nat) : (NatCast.natCast n : Int) = castI n := rfl
@[reducible] def SL {α : Type} [Inhabited α] (o : Ar) (enc : Ar → α → List X) (l : List α) : RR := .fn (o.len l) fun i => enc o (o.nth l i)
@[reducible] def xi (x : Int) : X := .i .i64 (.s x)
@[reducible] def xn (x : Nat) : X := .i .i64 (.nat x)
@[reducible] def xb (b : Bool) : X := .b (.s b)
theorem TOk.nil {P : Program} : TOk P [] := fun _ h => by simp at h
theorem TOk.cons {P : Program} {t : TypeId} {i : TI} {T : List (TypeId × TI)} (h : i.Ok P t) (hT : TOk P T) : TOk P ((t, i) :: T) := by
  intro x hx
  rcases List.mem_cons.1 hx with rfl | hx
  · exact h
  · exact hT x hx
structure Part where
  kind : Int
  role : Int
  amount : Int
  deriving DecidableEq
instance : Inhabited Part := ⟨⟨0, 0, 0⟩⟩
def foldAPart_kind (e : Part) := (by
  have h : PLift (e.kind = e.kind) := ⟨rfl⟩
  conv at h => arg 1; lhs; delta Part.kind
  exact h)
theorem foldPart_kind (e : Part) : type_of% (foldAPart_kind e).down := (foldAPart_kind e).down
def foldAPart_role (e : Part) := (by
  have h : PLift (e.role = e.role) := ⟨rfl⟩
  conv at h => arg 1; lhs; delta Part.role
  exact h)
theorem foldPart_role (e : Part) : type_of% (foldAPart_role e).down := (foldAPart_role e).down
def foldAPart_amount (e : Part) := (by
  have h : PLift (e.amount = e.amount) := ⟨rfl⟩
  conv at h => arg 1; lhs; delta Part.amount
  exact h)
theorem foldPart_amount (e : Part) : type_of% (foldAPart_amount e).down := (foldAPart_amount e).down
theorem foldPart : (⟨0, 0, 0⟩ : Part) = default := rfl
def Part.X (_ : Ar) (p : Part) : List X := [xi p.kind, xi p.role, xi p.amount]
structure Ev where
  kind : Int
  frame : Int
  id : Int
  agent : Int
  vec : List Part
  deriving DecidableEq
instance : Inhabited Ev := ⟨⟨0, 0, 0, 0, []⟩⟩
def foldAEv_kind (e : Ev) := (by
  have h : PLift (e.kind = e.kind) := ⟨rfl⟩
  conv at h => arg 1; lhs; delta Ev.kind
  exact h)
theorem foldEv_kind (e : Ev) : type_of% (foldAEv_kind e).down := (foldAEv_kind e).down
def foldAEv_frame (e : Ev) := (by
  have h : PLift (e.frame = e.frame) := ⟨rfl⟩
  conv at h => arg 1; lhs; delta Ev.frame
  exact h)
theorem foldEv_frame (e : Ev) : type_of% (foldAEv_frame e).down := (foldAEv_frame e).down
def foldAEv_id (e : Ev) := (by
  have h : PLift (e.id = e.id) := ⟨rfl⟩
  conv at h => arg 1; lhs; delta Ev.id
  exact h)
theorem foldEv_id (e : Ev) : type_of% (foldAEv_id e).down := (foldAEv_id e).down
def foldAEv_agent (e : Ev) := (by
  have h : PLift (e.agent = e.agent) := ⟨rfl⟩
  conv at h => arg 1; lhs; delta Ev.agent
  exact h)
theorem foldEv_agent (e : Ev) : type_of% (foldAEv_agent e).down := (foldAEv_agent e).down
def foldAEv_vec (e : Ev) := (by
  have h : PLift (e.vec = e.vec) := ⟨rfl⟩
  conv at h => arg 1; lhs; delta Ev.vec
  exact h)
theorem foldEv_vec (e : Ev) : type_of% (foldAEv_vec e).down := (foldAEv_vec e).down
theorem foldEv : (⟨0, 0, 0, 0, []⟩ : Ev) = default := rfl
theorem QSyVa : type_of% (And.intro @foldPart (And.intro @foldEv (And.intro @foldPart_kind (And.intro @foldPart_role (And.intro @foldPart_amount (And.intro @foldEv_kind (And.intro @foldEv_frame (And.intro @foldEv_id (And.intro @foldEv_agent (And.intro @foldEv_vec (And.intro @castI_eq (And.intro @ltB_eq (And.intro @leB_eq (And.intro @eqIB_eq (And.intro @inBB_eq (And.intro @eqNB_eq (@leNB_eq))))))))))))))))) := And.intro @foldPart (And.intro @foldEv (And.intro @foldPart_kind (And.intro @foldPart_role (And.intro @foldPart_amount (And.intro @foldEv_kind (And.intro @foldEv_frame (And.intro @foldEv_id (And.intro @foldEv_agent (And.intro @foldEv_vec (And.intro @castI_eq (And.intro @ltB_eq (And.intro @leB_eq (And.intro @eqIB_eq (And.intro @inBB_eq (And.intro @eqNB_eq (@leNB_eq))))))))))))))))
theorem QBo : type_of% (And.intro @decide_eq_true_eq (And.intro @Int.ofNat_lt (And.intro @Int.ofNat_le (And.intro @decide_eq_false_iff_not (And.intro @Nat.not_lt (And.intro @Nat.not_le (And.intro @Int.not_lt (And.intro @Int.not_le (And.intro @Bool.not_eq_true (And.intro @Bool.not_eq_false (And.intro @Bool.not_eq_true' (@Bool.not_eq_false')))))))))))) := And.intro @decide_eq_true_eq (And.intro @Int.ofNat_lt (And.intro @Int.ofNat_le (And.intro @decide_eq_false_iff_not (And.intro @Nat.not_lt (And.intro @Nat.not_le (And.intro @Int.not_lt (And.intro @Int.not_le (And.intro @Bool.not_eq_true (And.intro @Bool.not_eq_false (And.intro @Bool.not_eq_true' (@Bool.not_eq_false')))))))))))
def Ev.X (o : Ar) (e : Ev) : List X := [xi e.kind, xi e.frame, xi e.id, xi e.agent, .ro (SL o Part.X e.vec)]
def nextAt (p : Nat → Bool) (a n : Nat) : Option Nat := (List.range' a (n - a)).find? p
theorem nextAt_some {p : Nat → Bool} {a n k : Nat} (h1 : a ≤ k) (h2 : k < n) (hp : p k = true) (hno : ∀ j, a ≤ j → j < k → p j = false) : nextAt p a n = some k := by
  unfold nextAt
  rw [List.find?_range'_eq_some]
  exact ⟨hp, by simp; omega, fun j hj hj' => by simpa using hno j hj hj'⟩
theorem nextAt_none {p : Nat → Bool} {a n : Nat} (hno : ∀ j, a ≤ j → j < n → p j = false) : nextAt p a n = none := by
  unfold nextAt
  rw [List.find?_range'_eq_none]
  intro j h1 h2
  simp [hno j h1 (by omega)]
theorem FinX.pure {res x : X} (h : ∀ c, x.toD c = res.toD c) : FinX res [] x [] := ⟨h, trivial⟩
theorem FinX.b {r : Bool} {x : BX} (h : x.val = r) : FinX (xb r) [] (.b x) [] := .pure fun _ => by simp only [X.toD, h]; rfl
theorem FinX.i {k : IntKind} {r : Int} {x : IX} (h : x.val = r) : FinX (.i k (.s r)) [] (.i k x) [] := .pure fun _ => by simp only [X.toD, h]; rfl
theorem FinX.ro {r x : RR} (h : x.rows = r.rows) : FinX (.ro r) [] (.ro x) [] := .pure fun _ => by simp only [X.toD, h]
theorem EqX.rfl' {c : Cx} {x : X} : EqX c x x := ⟨rfl⟩
theorem EqX.i {c : Cx} {k : IntKind} {x y : IX} (h : x.val = y.val) : EqX c (.i k x) (.i k y) := ⟨by simp only [X.toD, h]⟩
theorem EqX.b {c : Cx} {x y : BX} (h : x.val = y.val) : EqX c (.b x) (.b y) := ⟨by simp only [X.toD, h]⟩
theorem EqX.ro {c : Cx} {x y : RR} (h : x.rows = y.rows) : EqX c (.ro x) (.ro y) := ⟨by simp only [X.toD, h]⟩
theorem EqO.rfl' {c : Cx} {x : OX} : EqO c x x := ⟨rfl⟩
theorem EqO.row {c : Cx} {v v' E sz : Nat} {x y : RR} (hv : v = v') (h : x.rows = y.rows) : EqO c (.row v E sz x) (.row v' E sz y) := ⟨by simp only [OX.toOb, h, hv]⟩
theorem rows_SL {α : Type} [Inhabited α] (o : Ar) (ho : o = Ar.real) (enc : Ar → α → List X) (l : List α) : (SL o enc l).rows = l.map fun x => X.toCL (enc Ar.real x) := by
  subst ho
  simp only [RR.rows, real_len, real_nth]
  apply List.ext_getElem (by simp)
  intro i h1 h2
  simp at h1
  simp [List.getD_eq_getElem?_getD, h1]
theorem rows_SL_snoc {α : Type} [Inhabited α] (o : Ar) (ho : o = Ar.real) (enc : Ar → α → List X) (l : List α) (a : α) (cs : List X) (h : X.toCL cs = X.toCL (enc Ar.real a)) : (RR.snoc (SL o enc l) cs).rows = (SL o enc (l ++ [a])).rows := by
  show (SL o enc l).rows ++ [X.toCL cs] = _
  rw [rows_SL o ho, rows_SL o ho, h]; simp
theorem rows_set_SL {α : Type} [Inhabited α] {o : Ar} (ho : o = Ar.real) (enc : Ar → α → List X) (r : RR) (l : List α) (hr : r.rows = (SL o enc l).rows) (i : IX) (n : Nat) (hi : i.val = n) (cs : List X) (a : α) (h : X.toCL cs = X.toCL (enc Ar.real a)) : (RR.set r i cs).rows = (SL o enc (l.set n a)).rows := by
  rw [rows_SL o ho]
  simp only [RR.rows, hi, if_pos (Int.natCast_nonneg n), Int.toNat_natCast]
  rw [hr, rows_SL o ho, h, List.map_set]
theorem EqO.set {c : Cx} {v v' E sz : Nat} {α : Type} [Inhabited α] {o : Ar} (ho : o = Ar.real) (enc : Ar → α → List X) (l l' : List α) (i : IX) (n : Nat) (a : α) (cs : List X) (hv : v = v') (hl : l' = l.set n a) (hi : i.val = n) (h : X.toCL cs = X.toCL (enc Ar.real a)) : EqO c (.row v E sz (.set (SL o enc l) i cs)) (.row v' E sz (SL o enc l')) := by
  subst hl
  exact EqO.row hv (rows_set_SL ho enc _ _ rfl i n hi cs a h)
theorem EqO.snoc {c : Cx} {v v' E sz : Nat} {α : Type} [Inhabited α] {o : Ar} (ho : o = Ar.real) (enc : Ar → α → List X) (l l' : List α) (a : α) (cs : List X) (hv : v = v') (hl : l' = l ++ [a]) (h : X.toCL cs = X.toCL (enc Ar.real a)) : EqO c (.row v E sz (.snoc (SL o enc l) cs)) (.row v' E sz (SL o enc l')) := by
  subst hl
  exact EqO.row hv (rows_SL_snoc o ho enc l a cs h)
theorem rows_nil_SL {α : Type} [Inhabited α] (o : Ar) (ho : o = Ar.real) (enc : Ar → α → List X) : (RR.lits []).rows = (SL o enc ([] : List α)).rows := by
  rw [rows_SL o ho]; rfl
def cx0 : Cx := ⟨0, fun _ => none, [], fun _ => True⟩
theorem EqO.map {c : Cx} {v v' m : Nat} {ag : Bool} {x y : MX} (hv : v = v') (h : x.es c = y.es c) : EqO c (.map v ag m x) (.map v' ag m y) := ⟨by simp only [OX.toOb, h, hv]⟩
def encI (_ : Ar) (p : Int) : List X := [xi p]
end Go.Sy

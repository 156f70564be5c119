/-
  Reified states: values, objects and frames that Lean can reckon with. Plain theorems.
-/
import Derived.Test.YtkjjihicaefmcaaDoorSyKa
import Derived.Test.YtkjjihicaefmcaaDoorSyO
set_option linter.unusedVariables false
set_option linter.unusedSimpArgs false
set_option linter.unusedSectionVars false
namespace Go.Sy
open Go Go.RowKit
def lkp {α : Type} : List (List Int × α) → List Int → Option α
  | [], _ => none
  | (k', d) :: es, k => if k' = k then some d else lkp es k
structure Ar where
  wrap : IntKind → Int → Int
  add : Int → Int → Int
  sub : Int → Int → Int
  mul : Int → Int → Int
  quo : Int → Int → Int
  rem : Int → Int → Int
  shl : IntKind → Int → Int → Int
  shr : IntKind → Int → Int → Int
  band : IntKind → Int → Int → Int
  bor : IntKind → Int → Int → Int
  bxor : IntKind → Int → Int → Int
  mx : Int → Int → Int
  mn : Int → Int → Int
  lt : Int → Int → Bool
  le : Int → Int → Bool
  eq : Int → Int → Bool
  ofNat : Nat → Int
  toNat : Int → Nat
  inB : Int → Nat → Bool
  eqN : Nat → Nat → Bool
  leN : Nat → Nat → Bool
  addN : Nat → Nat → Nat
  subN : Nat → Nat → Nat
  and : Bool → Bool → Bool
  not : Bool → Bool
  eqB : Bool → Bool → Bool
  eqS : ByteArray → ByteArray → Bool
  size : ByteArray → Nat
  sel : Int → List Int → Int
  ite : Int → Nat → Int → Int → Int
  nth : {α : Type} → [Inhabited α] → List α → Nat → α
  len : {α : Type} → List α → Nat
  mhas : List (List Int × D) → List Int → Bool
  mapE : {α : Type} → (α → D) → List (List Int × α) → List (List Int × D)
  mgetT : {α : Type} → [Inhabited α] → List (List Int × α) → List Int → α
  place : List (List Int × D) → List Int → Nat
def castI (n : Nat) : Int := n
def ltB (x y : Int) : Bool := decide (x < y)
def leB (x y : Int) : Bool := decide (x ≤ y)
def eqIB (x y : Int) : Bool := x == y
def inBB (x : Int) (n : Nat) : Bool := decide (0 ≤ x ∧ x < n)
def eqNB (x y : Nat) : Bool := decide (x = y)
def leNB (x y : Nat) : Bool := decide (x ≤ y)
theorem ltB_eq (x y : Int) : ltB x y = decide (x < y) := rfl
theorem leB_eq (x y : Int) : leB x y = decide (x ≤ y) := rfl
theorem eqIB_eq (x y : Int) : eqIB x y = decide (x = y) := by rw [Bool.eq_iff_iff]; simp [eqIB]
theorem inBB_eq (x : Int) (n : Nat) : inBB x n = decide (0 ≤ x ∧ x < n) := rfl
theorem eqNB_eq (x y : Nat) : eqNB x y = decide (x = y) := rfl
theorem leNB_eq (x y : Nat) : leNB x y = decide (x ≤ y) := rfl
theorem castI_eq (n : Nat) : castI n = (n : Int) := rfl
def Ar.real : Ar where
  wrap := fun k x => k.wrap x
  add := fun x y => x + y
  sub := fun x y => x - y
  mul := fun x y => x * y
  quo := fun x y => x.tdiv y
  rem := fun x y => x.tmod y
  shl := fun k m n => m * 2 ^ (min n.toNat k.bits)
  shr := fun k m n => m.fdiv (2 ^ (min n.toNat k.bits))
  band := fun k x y => (BitVec.ofInt k.bits x &&& BitVec.ofInt k.bits y).toNat
  bor := fun k x y => (BitVec.ofInt k.bits x ||| BitVec.ofInt k.bits y).toNat
  bxor := fun k x y => (BitVec.ofInt k.bits x ^^^ BitVec.ofInt k.bits y).toNat
  mx := fun x y => max x y
  mn := fun x y => min x y
  lt := ltB
  le := leB
  eq := eqIB
  ofNat := castI
  toNat := fun x => x.toNat
  inB := inBB
  eqN := eqNB
  leN := leNB
  addN := fun x y => x + y
  subN := fun x y => x - y
  and := fun x y => x && y
  not := fun x => !x
  eqB := fun x y => x == y
  eqS := fun x y => x.toList == y.toList
  size := fun s => s.size
  sel := fun i l => l.getD i.toNat 0
  ite := fun i k x y => if i = castI k then x else y
  nth := fun l i => l.getD i default
  len := fun l => l.length
  mhas := fun es k => (mget es k).isSome
  mapE := fun f l => l.map fun x => (x.1, f x.2)
  mgetT := fun l k => (lkp l k).getD default
  place := fun es k => mplace es k
theorem real_wrap (k : IntKind) (x : Int) : Ar.real.wrap k x = (k.wrap x) := rfl
theorem real_add (x y : Int) : Ar.real.add x y = (x + y) := rfl
theorem real_sub (x y : Int) : Ar.real.sub x y = (x - y) := rfl
theorem real_mul (x y : Int) : Ar.real.mul x y = (x * y) := rfl
theorem real_quo (x y : Int) : Ar.real.quo x y = (x.tdiv y) := rfl
theorem real_rem (x y : Int) : Ar.real.rem x y = (x.tmod y) := rfl
theorem real_shl (k : IntKind) (m n : Int) : Ar.real.shl k m n = (m * 2 ^ (min n.toNat k.bits)) := rfl
theorem real_shr (k : IntKind) (m n : Int) : Ar.real.shr k m n = (m.fdiv (2 ^ (min n.toNat k.bits))) := rfl
theorem real_lt (x y : Int) : Ar.real.lt x y = (decide (x < y)) := rfl
theorem real_le (x y : Int) : Ar.real.le x y = (decide (x ≤ y)) := rfl
theorem real_eq (x y : Int) : Ar.real.eq x y = (x == y) := rfl
theorem real_ofNat (n : Nat) : Ar.real.ofNat n = ((n : Int)) := rfl
theorem real_inB (x : Int) (n : Nat) : Ar.real.inB x n = (decide (0 ≤ x ∧ x < n)) := rfl
theorem real_eqN (x y : Nat) : Ar.real.eqN x y = (decide (x = y)) := rfl
theorem real_addN (x y : Nat) : Ar.real.addN x y = (x + y) := rfl
theorem real_subN (x y : Nat) : Ar.real.subN x y = (x - y) := rfl
theorem real_and (x y : Bool) : Ar.real.and x y = (x && y) := rfl
theorem real_not (x : Bool) : Ar.real.not x = (!x) := rfl
theorem real_eqB (x y : Bool) : Ar.real.eqB x y = (x == y) := rfl
theorem real_eqS (x y : ByteArray) : Ar.real.eqS x y = (x.toList == y.toList) := rfl
theorem real_sel (i : Int) (l : List Int) : Ar.real.sel i l = (l.getD i.toNat 0) := rfl
theorem real_ite (i : Int) (k : Nat) (x y : Int) : Ar.real.ite i k x y = (if i = k then x else y) := rfl
theorem real_nth {α : Type} [Inhabited α] (l : List α) (i : Nat) : Ar.real.nth l i = (l.getD i default) := rfl
theorem real_len {α : Type} (l : List α) : Ar.real.len l = (l.length) := rfl
theorem real_mhas (es : List (List Int × D)) (k : List Int) : Ar.real.mhas es k = ((mget es k).isSome) := rfl
theorem real_place (es : List (List Int × D)) (k : List Int) : Ar.real.place es k = (mplace es k) := rfl
inductive Nm where
  | loc (i : Nat)
  | out (i : Nat)
inductive IX where
  | lit (n : Int)
  | nat (n : Nat)
  | s (x : Int)
inductive BX where
  | t | f
  | s (b : Bool)
def IX.val : IX → Int
  | .lit n => n
  | .nat n => n
  | .s x => x
theorem val_lit (n : Int) : (IX.lit n).val = n := rfl
theorem val_s (x : Int) : (IX.s x).val = x := rfl
def BX.val : BX → Bool
  | .t => true
  | .f => false
  | .s b => b
def IX.vo (o : Ar) : IX → Int
  | .lit n => n
  | .nat n => o.ofNat n
  | .s x => x
def BX.of : Bool → BX
  | true => .t
  | false => .f
def IX.toN (o : Ar) : IX → Nat
  | .lit n => n.toNat
  | .nat n => n
  | .s x => o.toNat x
@[reducible] def roL (l : List (List C)) : C := .ro l.length fun i => l.getD i []
mutual
inductive X where
  | junk
  | i (k : IntKind) (e : IX)
  | b (e : BX)
  | v (x : Value)
  | ro (r : RR)
  | ptr (n : Nm) (off : Nat)
  | pix (n : Nm) (off m : Nat) (i : IX)
  | rp (cs : List X) (off : Nat)
  | rpix (cs : List X) (off m : Nat) (i : IX)
  | rptr (n : Nm) (ver sz : Nat) (i : IX) (off : Nat)
  | own (n : Nm) (ver : Nat)
  | lit (r : RR)
  | mp (n : Nm)
  | st (n : Nm) (ver i : Nat)
  | fn (f : Fn) (first caps : List X)
  | agg (l : List X)
  | tup (l : List X)
  | d (x : D)
inductive RR where
  | lits (l : List (List X))
  | fn (n : Nat) (f : Nat → List X)
  | snoc (r : RR) (cs : List X)
  | app (r q : RR)
  | set (r : RR) (i : IX) (cs : List X)
  | sub (r : RR) (lo n : Nat)
end
instance : Inhabited X := ⟨.junk⟩
mutual
def X.toC : X → C
  | .i k e => .v (.int k e.val)
  | .b e => .v (.bool e.val)
  | .v x => .v x
  | .ro r => roL (RR.rows r)
  | _ => .v undef
def X.toCL : List X → List C
  | [] => []
  | x :: l => X.toC x :: X.toCL l
def X.toCLL : List (List X) → List (List C)
  | [] => []
  | x :: l => X.toCL x :: X.toCLL l
def RR.rows : RR → List (List C)
  | .lits l => X.toCLL l
  | .fn n f => (List.range n).map fun i => X.toCL (f i)
  | .snoc r cs => r.rows ++ [X.toCL cs]
  | .app r q => r.rows ++ q.rows
  | .set r i cs => if 0 ≤ i.val then r.rows.set i.val.toNat (X.toCL cs) else r.rows
  | .sub r lo n => (List.range n).map fun j => r.rows.getD (lo + j) []
end
theorem toCL_eq (l : List X) : X.toCL l = l.map X.toC := by
  induction l with
  | nil => rfl
  | cons x l ih => simp [X.toCL, ih]
theorem toCLL_eq (l : List (List X)) : X.toCLL l = l.map X.toCL := by
  induction l with
  | nil => rfl
  | cons x l ih => simp [X.toCLL, ih]
def IX.addL (o : Ar) : IX → IX → IX
  | .lit a, .lit b => .lit (a + b)
  | .nat a, .nat b => .nat (o.addN a b)
  | .nat a, .lit b => .nat (o.addN a b.toNat)
  | .lit a, .nat b => .nat (o.addN a.toNat b)
  | a, b => .s (o.add (a.vo o) (b.vo o))
def IX.subL (o : Ar) : IX → IX → IX
  | .lit a, .lit b => .lit (a - b)
  | .nat a, .nat b => .nat (o.subN a b)
  | .nat a, .lit b => .nat (o.subN a b.toNat)
  | a, .lit 0 => a
  | a, b => .s (o.sub (a.vo o) (b.vo o))
def RR.lenI (o : Ar) : RR → IX
  | .lits l => .lit l.length
  | .fn n _ => .nat n
  | .snoc r _ => (r.lenI o).addL o (.lit 1)
  | .app r q => (r.lenI o).addL o (q.lenI o)
  | .set r _ _ => r.lenI o
  | .sub _ _ n => .nat n
structure Cx where
  n0 : Nat
  B0 : Heap
  ons : List Nat
  lv : Nat → Prop
def Nm.at (c : Cx) : Nm → Nat
  | .loc i => c.n0 + i
  | .out i => c.ons.getD i 0
mutual
def X.toD (c : Cx) : X → D
  | .junk => .junk
  | .i k e => .c (.v (.int k e.val))
  | .b e => .c (.v (.bool e.val))
  | .v x => .c (.v x)
  | .ro r => .c (roL r.rows)
  | .ptr n off => .ptr (n.at c) off
  | .pix n off _ j => .ptr (n.at c) (off + j.val.toNat)
  | .rp cs off => .rp (X.toCL cs) off
  | .rpix cs off _ j => .rp (X.toCL cs) (off + j.val.toNat)
  | .rptr n ver sz j off => .rptr (n.at c) ver sz j.val.toNat off
  | .own n ver => .own (n.at c) ver
  | .lit r => .lit r.rows.length fun i => r.rows.getD i []
  | .mp n => .mp (n.at c)
  | .st n ver j => .st (n.at c) ver j
  | .fn f l l' => .fn f (X.toDL c l) (X.toDL c l')
  | .agg l => .agg (X.toDL c l)
  | .tup l => .tup (X.toDL c l)
  | .d x => x
def X.toDL (c : Cx) : List X → List D
  | [] => []
  | x :: l => X.toD c x :: X.toDL c l
end
theorem toDL_eq (c : Cx) (l : List X) : X.toDL c l = l.map (X.toD c) := by
  induction l with
  | nil => rfl
  | cons x l ih => simp [X.toDL, ih]
inductive MX where
  | nil
  | base (es : List (List Int × D)) (vf : List Int → X) (h : ∀ c k d, mget es k = some d → d = (vf k).toD c) (hn : (es.map (·.1)).Nodup) (hm : ∀ x ∈ es, ∀ b, D.nms b x.2)
  | put (m : MX) (k : List IX) (x : X)
  | del (m : MX) (k : List IX)
def MX.es (c : Cx) : MX → List (List Int × D)
  | .nil => []
  | .base es _ _ _ _ => es
  | .put m k x => mput (m.es c) (k.map IX.val) (x.toD c)
  | .del m k => mdel (m.es c) (k.map IX.val)
inductive OX where
  | var (cs : List X) (T : TypeId)
  | row (ver E sz : Nat) (r : RR)
  | map (ver : Nat) (ag : Bool) (m : Nat) (es : MX)
  | iter (mp : Nm) (ver : Nat) (seen : List Nat) (cur : Option (Nat × List Int))
def curL : Option (Nat × List Int) → List Nat
  | none => []
  | some (i, _) => [i]
def addCur (seen : List Nat) : Option (Nat × List Int) → List Nat
  | none => seen
  | some (i, _) => seen ++ [i]
theorem addCur_eq (seen : List Nat) (cur : Option (Nat × List Int)) : addCur seen cur = seen ++ curL cur := by
  cases cur with
  | none => simp [addCur, curL]
  | some x => rfl
def OX.toOb (c : Cx) : OX → Ob
  | .var cs T => .var (X.toDL c cs) T
  | .row ver E sz r => .row ver E sz (r.rows.map fun l => l.map D.c)
  | .map ver ag m es => .map ver ag m (es.es c)
  | .iter mp ver seen cur => .iter (mp.at c) ver (seen ++ curL cur)
structure Sx where
  E : List (Nat × X)
  L : List (Option OX)
  O : List OX
def getE : List (Nat × X) → Nat → X
  | [], _ => .junk
  | (k, x) :: l, t => if t = k then x else getE l t
def putE (E : List (Nat × X)) (t : Nat) (y : X) : List (Nat × X) := (t, y) :: E
theorem getE_putE (E : List (Nat × X)) (t : Nat) (y : X) (u : Nat) : getE (putE E t y) u = if u = t then y else getE E u := rfl
def ovr (c : Cx) : List Nat → List OX → Heap
  | n :: ns, ob :: l, m => if m = n then some (ob.toOb c) else ovr c ns l m
  | _, _, m => c.B0 m
def Sx.env (c : Cx) (σ : Sx) : Nat → D := fun t => (getE σ.E t).toD c
def Sx.toSt (c : Cx) (σ : Sx) : St := ⟨σ.env c, ovr c c.ons σ.O, c.n0, σ.L.map (Option.map (OX.toOb c)), c.lv⟩
structure Cx.Ok (c : Cx) (σ : Sx) : Prop where
  len : σ.O.length = c.ons.length
  nod : c.ons.Nodup
  lt : ∀ n ∈ c.ons, n < c.n0
def Sx.get (σ : Sx) : Nm → Option OX
  | .loc i => σ.L.getD i none
  | .out i => σ.O[i]?
def Sx.put (σ : Sx) (dst : Option Tmp) (x : X) : Sx := match dst with | some t => { σ with E := putE σ.E t x } | none => σ
def Sx.set (σ : Sx) : Nm → OX → Sx
  | .loc i, ob => { σ with L := σ.L.set i (some ob) }
  | .out i, ob => { σ with O := σ.O.set i ob }
def Sx.new (σ : Sx) (ob : OX) : Sx := { σ with L := σ.L ++ [some ob] }
theorem env_put (c : Cx) (σ : Sx) (dst : Option Tmp) (x : X) : (σ.put dst x).env c = updO (σ.env c) dst (x.toD c) := by
  cases dst with
  | none => rfl
  | some t =>
    funext u
    simp only [Sx.put, Sx.env, updO, upd, getE_putE]
    split <;> rfl
theorem ovr_get (c : Cx) : ∀ (ns : List Nat) (l : List OX) (i : Nat) (ob : OX), l.length = ns.length → ns.Nodup → l[i]? = some ob → ovr c ns l (ns.getD i 0) = some (ob.toOb c)
  | [], l, i, ob, h, _, hi => by
    have : l = [] := by simpa using h
    subst this; simp at hi
  | n :: ns, [], i, ob, h, _, hi => by simp at hi
  | n :: ns, x :: l, 0, ob, h, _, hi => by simp at hi; subst hi; simp [ovr]
  | n :: ns, x :: l, i + 1, ob, h, hn, hi => by
    simp only [List.getElem?_cons_succ] at hi
    have hlt : i < ns.length := by
      have h1 : i < l.length := by
        rcases Nat.lt_or_ge i l.length with h1 | h1
        · exact h1
        · rw [List.getElem?_eq_none h1] at hi; cases hi
      simp at h; omega
    have hne : ns.getD i 0 ≠ n := by
      rw [List.getD_eq_getElem?_getD, List.getElem?_eq_getElem hlt]
      intro e
      simp only [Option.getD_some] at e
      exact (List.nodup_cons.1 hn).1 (e ▸ List.getElem_mem hlt)
    simp only [List.getD_cons_succ, ovr, hne, if_false]
    exact ovr_get c ns l i ob (by simpa using h) (List.nodup_cons.1 hn).2 hi
theorem toSt_get {c : Cx} {σ : Sx} (hc : c.Ok σ) {n : Nm} {ob : OX} (h : σ.get n = some ob) : (σ.toSt c).get (n.at c) = some (ob.toOb c) := by
  cases n with
  | loc i =>
    have h' : σ.L.getD i none = some ob := h
    have hl : ¬ c.n0 + i < c.n0 := by omega
    simp only [Sx.toSt, St.get, Nm.at, if_neg hl, Nat.add_sub_cancel_left]
    rw [List.getD_eq_getElem?_getD] at h' ⊢
    rw [List.getElem?_map]
    cases hi : σ.L[i]? with
    | none => rw [hi] at h'; cases h'
    | some x => rw [hi] at h'; simp only [Option.getD_some] at h'; subst h'; rfl
  | out i =>
    have h' : σ.O[i]? = some ob := h
    have hlt : i < c.ons.length := by
      rw [← hc.len]
      rcases Nat.lt_or_ge i σ.O.length with h1 | h1
      · exact h1
      · rw [List.getElem?_eq_none h1] at h'; cases h'
    have hn : c.ons.getD i 0 < c.n0 := by
      rw [List.getD_eq_getElem?_getD, List.getElem?_eq_getElem hlt]
      exact hc.lt _ (List.getElem_mem hlt)
    have h1 : (σ.toSt c).get (c.ons.getD i 0) = ovr c c.ons σ.O (c.ons.getD i 0) := if_pos hn
    exact h1.trans (ovr_get c c.ons σ.O i ob hc.len hc.nod h')
theorem ovr_set (c : Cx) : ∀ (ns : List Nat) (l : List OX) (i : Nat) (ob : OX), l.length = ns.length → ns.Nodup → i < ns.length → ovr c ns (l.set i ob) = upd (ovr c ns l) (ns.getD i 0) (some (ob.toOb c))
  | [], l, i, ob, h, _, hi => by simp at hi
  | n :: ns, [], i, ob, h, _, hi => by simp at h
  | n :: ns, x :: l, 0, ob, h, _, hi => by
    funext m
    simp only [List.set_cons_zero, ovr, upd, List.getD_cons_zero]
    by_cases e : m = n <;> simp [e]
  | n :: ns, x :: l, i + 1, ob, h, hn, hi => by
    have hlt : i < ns.length := by simpa using hi
    have hne : ns.getD i 0 ≠ n := by
      rw [List.getD_eq_getElem?_getD, List.getElem?_eq_getElem hlt]
      intro e
      simp only [Option.getD_some] at e
      exact (List.nodup_cons.1 hn).1 (e ▸ List.getElem_mem hlt)
    have ih := ovr_set c ns l i ob (by simpa using h) (List.nodup_cons.1 hn).2 hlt
    funext m
    simp only [List.set_cons_succ, ovr, upd, List.getD_cons_succ, ih]
    by_cases e : m = n
    · subst e
      rw [if_pos rfl, if_neg (Ne.symm hne), if_pos rfl]
    · rw [if_neg e, if_neg e]
theorem toSt_set {c : Cx} {σ : Sx} (hc : c.Ok σ) {n : Nm} {ob ob' : OX} (h : σ.get n = some ob) (d : D) : (σ.toSt c).after none d [(n.at c, ob'.toOb c)] [] = (σ.set n ob').toSt c := by
  cases n with
  | loc i =>
    have hl : ¬ c.n0 + i < c.n0 := by omega
    simp only [St.after, St.sets, St.news, St.put, updO, Nm.at, St.set1, Sx.toSt, if_neg hl, Nat.add_sub_cancel_left, Sx.set, List.map_set, Option.map_some]
    rfl
  | out i =>
    have h' : σ.O[i]? = some ob := h
    have hlt : i < c.ons.length := by
      rw [← hc.len]
      rcases Nat.lt_or_ge i σ.O.length with h1 | h1
      · exact h1
      · rw [List.getElem?_eq_none h1] at h'; cases h'
    have hn : c.ons.getD i 0 < c.n0 := by
      rw [List.getD_eq_getElem?_getD, List.getElem?_eq_getElem hlt]
      exact hc.lt _ (List.getElem_mem hlt)
    have h1 : (σ.toSt c).set1 (c.ons.getD i 0) (ob'.toOb c) = { σ.toSt c with B := upd (ovr c c.ons σ.O) (c.ons.getD i 0) (some (ob'.toOb c)) } := if_pos hn
    show ((σ.toSt c).set1 (c.ons.getD i 0) (ob'.toOb c)).put none d = _
    rw [h1]
    simp only [St.put, updO, Sx.set, Sx.toSt]
    rw [ovr_set c c.ons σ.O i ob' hc.len hc.nod hlt]
    rfl
theorem toSt_new {c : Cx} {σ : Sx} {ob : OX} (d : D) : (σ.toSt c).after none d [] [ob.toOb c] = (σ.new ob).toSt c := by
  simp only [St.after, St.sets, St.news, St.put, updO, Sx.toSt, Sx.new, List.map_append, List.map_cons, List.map_nil, Option.map_some]
  rfl
theorem toSt_nx (c : Cx) (σ : Sx) : (σ.toSt c).nx = (Nm.loc σ.L.length).at c := by simp [Sx.toSt, St.nx, Nm.at]
theorem toSt_put (c : Cx) (σ : Sx) (dst : Option Tmp) (x : X) : (σ.put dst x).toSt c = (σ.toSt c).put dst (x.toD c) := by
  have h := env_put c σ dst x
  cases dst with
  | none => rfl
  | some t =>
    simp only [Sx.toSt, St.put, Sx.put] at *
    rw [h]
end Go.Sy

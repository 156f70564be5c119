/-
  Abstract states over the kit's walk: clean data, named objects, the relation to a frame and a world. Plain theorems.
-/
import Derived.WalkKit
import Derived.Below
import Derived.Orders
import Derived.Deep.Draws
import Derived.Deep.Quiet
set_option linter.unusedVariables false
set_option linter.unusedSimpArgs false
set_option linter.unusedSectionVars false
namespace Go.Sy
open Go Go.RowKit
inductive C where
  | v (x : Value)
  | ro (n : Nat) (f : Nat → List C)
instance : Inhabited C := ⟨.v undef⟩
inductive D where
  | junk
  | c (x : C)
  | ptr (n off : Nat)
  | rp (cs : List C) (off : Nat)
  | rptr (n ver sz i off : Nat)
  | own (n ver : Nat)
  | lit (n : Nat) (f : Nat → List C)
  | mp (n : Nat)
  | st (n ver i : Nat)
  | fn (f : Fn) (first caps : List D)
  | agg (l : List D)
  | tup (l : List D)
instance : Inhabited D := ⟨.junk⟩
@[reducible] def D.v (x : Value) : D := .c (.v x)
@[reducible] def D.int (n : Int) : D := .c (.v (.int .i64 n))
@[reducible] def D.bool (b : Bool) : D := .c (.v (.bool b))
@[reducible] def D.ro (n : Nat) (f : Nat → List C) : D := .c (.ro n f)
inductive CRel (w : World) (Z : Nat → Prop) : C → Value → Prop
  | v (x : Value) : CRel w Z (.v x) x
  | ro {n : Nat} {f : Nat → List C} (A : Option Addr) (c sz : Nat) (us : Nat → Nat → Value) (hn : n ≤ maxLen) (hnc : n ≤ c)
      (hsz : ∀ i, i < n → (f i).length = sz)
      (hA : 0 < n → ∃ ad : Addr, A = some ad ∧ Z ad.block ∧ ad.spot = none)
      (hc : ∀ ad, A = some ad → ∀ i, i < n → ∀ j, j < sz → w.cell? ⟨ad.block, ad.off + (i * sz + j), none⟩ = some (us i j))
      (hr : ∀ i, i < n → ∀ j, j < sz → CRel w Z ((f i).getD j default) (us i j)) : CRel w Z (.ro n f) (.slice A n c)
structure Env where
  live : Nat → Prop
  blk : Nat → Nat
  val : Nat → Value
  ver : Nat → Nat
def inRow : Value → Nat → Value
  | .slice (some a) _ _, k => .pointer (some ⟨a.block, k, none⟩)
  | _, _ => undef
def stampV (ms : Array MapEntry) (clock : Nat) : Value := .tuple ((.int .i64 clock) :: ms.toList.map fun e => .int .i64 e.born).toArray
def natOf : Value → Nat
  | .int _ x => x.toNat
  | _ => 0
def cellsT : Value → Array Value
  | .tuple a => a
  | _ => #[]
def bornOf (v : Value) (i : Nat) : Nat := natOf ((cellsT v).getD (i + 1) undef)
def clockOf (v : Value) : Nat := natOf ((cellsT v).getD 0 undef)
theorem clockOf_stampV (ms : Array MapEntry) (clock : Nat) : clockOf (stampV ms clock) = clock := by simp [clockOf, stampV, cellsT, natOf, Array.getD_eq_getD_getElem?]
theorem bornOf_stampV (ms : Array MapEntry) (clock i : Nat) (h : i < ms.size) : bornOf (stampV ms clock) i = ms[i].born := by simp [bornOf, stampV, cellsT, natOf, Array.getD_eq_getD_getElem?, h]
inductive Rel (ρ : Env) (w : World) (Z : Nat → Prop) : D → Value → Prop
  | junk (v : Value) : Rel ρ w Z .junk v
  | c {x : C} {v : Value} (h : CRel w Z x v) : Rel ρ w Z (.c x) v
  | ptr {n off : Nat} (h : ρ.live n) : Rel ρ w Z (.ptr n off) (.pointer (some ⟨ρ.blk n, off, none⟩))
  | rp {cs : List C} {off : Nat} (b o : Nat) (us : Nat → Value) (hZ : Z b) (hc : ∀ j, j < cs.length → w.cell? ⟨b, o + j, none⟩ = some (us j))
      (hr : ∀ j, j < cs.length → CRel w Z (cs.getD j default) (us j)) : Rel ρ w Z (.rp cs off) (.pointer (some ⟨b, o + off, none⟩))
  | rptr {n ver sz i off : Nat} (p : Option Addr) (h : ρ.live n) (hle : ver ≤ ρ.ver n) (hv : ver = ρ.ver n → .pointer p = inRow (ρ.val n) (i * sz + off)) : Rel ρ w Z (.rptr n ver sz i off) (.pointer p)
  | own {n ver : Nat} (A : Option Addr) (l c : Nat) (h : ρ.live n) (hle : ver ≤ ρ.ver n) (hv : ver = ρ.ver n → .slice A l c = ρ.val n) : Rel ρ w Z (.own n ver) (.slice A l c)
  | lit {n : Nat} {f : Nat → List C} (A : Option Addr) (h : CRel w Z (.ro n f) (.slice A n n)) : Rel ρ w Z (.lit n f) (.slice A n n)
  | mp {n : Nat} (h : ρ.live n) : Rel ρ w Z (.mp n) (.map (some (ρ.blk n)))
  | st {n ver i : Nat} (x : Int) (h : ρ.live n) (hle : ver ≤ ρ.ver n) (hv : ver = ρ.ver n → x = bornOf (ρ.val n) i) : Rel ρ w Z (.st n ver i) (.int .i64 x)
  | fn {f : Fn} {first caps : List D} {fs vs : Array Value} (h1 : first.length = fs.size) (h2 : caps.length = vs.size)
      (h3 : ∀ i, i < fs.size → Rel ρ w Z (first.getD i default) (fs.getD i undef)) (h4 : ∀ i, i < vs.size → Rel ρ w Z (caps.getD i default) (vs.getD i undef)) :
      Rel ρ w Z (.fn f first caps) (.func f fs vs)
  | agg {l : List D} {vs : Array Value} (h1 : l.length = vs.size) (h3 : ∀ i, i < vs.size → Rel ρ w Z (l.getD i default) (vs.getD i undef)) : Rel ρ w Z (.agg l) (.agg vs)
  | tup {l : List D} {vs : Array Value} (h1 : l.length = vs.size) (h3 : ∀ i, i < vs.size → Rel ρ w Z (l.getD i default) (vs.getD i undef)) : Rel ρ w Z (.tup l) (.tuple vs)
structure RelL (ρ : Env) (w : World) (Z : Nat → Prop) (l : List D) (vs : List Value) : Prop where
  len : l.length = vs.length
  at_ : ∀ i, i < vs.length → Rel ρ w Z (l.getD i default) (vs.getD i undef)
theorem RelL.nil {ρ : Env} {w : World} {Z : Nat → Prop} : RelL ρ w Z [] [] := ⟨rfl, fun i h => by simp at h⟩
theorem RelL.cons {ρ : Env} {w : World} {Z : Nat → Prop} {d : D} {v : Value} {l : List D} {vs : List Value} (h : Rel ρ w Z d v) (t : RelL ρ w Z l vs) : RelL ρ w Z (d :: l) (v :: vs) := by
  refine ⟨by simp [t.len], fun i hi => ?_⟩
  cases i with
  | zero => simpa using h
  | succ i => simpa using t.at_ i (by simpa using hi)
theorem RelL.head {ρ : Env} {w : World} {Z : Nat → Prop} {d : D} {v : Value} {l : List D} {vs : List Value} (t : RelL ρ w Z (d :: l) (v :: vs)) : Rel ρ w Z d v := by
  simpa using t.at_ 0 (by simp)
theorem RelL.tail {ρ : Env} {w : World} {Z : Nat → Prop} {d : D} {v : Value} {l : List D} {vs : List Value} (t : RelL ρ w Z (d :: l) (v :: vs)) : RelL ρ w Z l vs :=
  ⟨by simpa using t.len, fun i hi => by simpa using t.at_ (i + 1) (by simpa using hi)⟩
theorem RelL.inv_nil {ρ : Env} {w : World} {Z : Nat → Prop} {vs : List Value} (t : RelL ρ w Z [] vs) : vs = [] := by
  have := t.len
  cases vs with
  | nil => rfl
  | cons a b => simp at this
theorem RelL.inv_cons {ρ : Env} {w : World} {Z : Nat → Prop} {d : D} {l : List D} {vs : List Value} (t : RelL ρ w Z (d :: l) vs) : ∃ v vs', vs = v :: vs' ∧ Rel ρ w Z d v ∧ RelL ρ w Z l vs' := by
  cases vs with
  | nil => have := t.len; simp at this
  | cons a b => exact ⟨a, b, rfl, t.head, t.tail⟩
theorem RelL.append {ρ : Env} {w : World} {Z : Nat → Prop} {l l' : List D} {vs vs' : List Value} (h : RelL ρ w Z l vs) (h' : RelL ρ w Z l' vs') : RelL ρ w Z (l ++ l') (vs ++ vs') := by
  induction l generalizing vs with
  | nil => rw [h.inv_nil]; simpa using h'
  | cons d l ih =>
    obtain ⟨v, vs, rfl, h1, h2⟩ := h.inv_cons
    exact RelL.cons h1 (ih h2)
inductive Ob where
  | var (cs : List D) (T : TypeId)
  | row (ver E sz : Nat) (l : List (List D))
  | map (ver : Nat) (ag : Bool) (m : Nat) (es : List (List Int × D))
  | iter (mp ver : Nat) (seen : List Nat)
def kvs (ag : Bool) (l : List Int) : Value := if ag then .agg (l.map (.int .i64)).toArray else .int .i64 (l.headD 0)
def Ob.at_ (ρ : Env) (w : World) (Z : Nat → Prop) (n : Nat) : Ob → Prop
  | .var cs T => ∃ vs : Array Value, w.heap[ρ.blk n]? = some (.cells vs T (0, 0)) ∧ RelL ρ w Z cs vs.toList
  | .row ver E sz l => ρ.ver n = ver ∧ (∀ x ∈ l, x.length = sz) ∧ ∃ xs, w.ownsRow 0 E sz (ρ.val n) l.length xs ∧ RelL ρ w Z l.flatten xs
  | .map ver ag m es => ρ.ver n = ver ∧ ∃ ms clock, w.heap[ρ.blk n]? = some (.map ms clock) ∧ ρ.val n = stampV ms clock ∧ ms.toList.map (·.key) = es.map (fun x => kvs ag x.1) ∧ (∀ x ∈ es, x.1.length = m) ∧
      RelL ρ w Z (es.map (·.2)) (ms.toList.map (·.val)) ∧ (∀ e ∈ ms.toList, e.born < clock) ∧ (ms.toList.map (·.born)).Pairwise (· < ·)
  | .iter mp ver seen => ρ.live mp ∧ ver ≤ ρ.ver mp ∧ ∃ since sn stepped, w.heap[ρ.blk n]? = some (.mapIter (some (ρ.blk mp)) since sn stepped) ∧
      (ver = ρ.ver mp → since = clockOf (ρ.val mp) ∧ stepped = clockOf (ρ.val mp) ∧ sn = (seen.map (bornOf (ρ.val mp))).toArray)
def Ob.blk (ρ : Env) (n : Nat) : Ob → Option Nat
  | .row .. => (ρ.val n).ownBlock
  | _ => some (ρ.blk n)
def tabOf : Nat → Option (List Value) := fun | 0 => some [.string ⟨#[]⟩, .string ⟨#[114, 101, 103, 105, 115, 116, 101, 114]⟩, .string ⟨#[108, 111, 115, 101]⟩, .string ⟨#[115, 117, 98, 115, 99, 114, 105, 98, 101]⟩, .string ⟨#[100, 105, 115, 99, 111, 110, 110, 101, 99, 116]⟩, .string ⟨#[116, 101, 97, 114, 100, 111, 119, 110]⟩, .string ⟨#[97, 99, 99, 101, 112, 116]⟩, .string ⟨#[100, 101, 99, 108, 105, 110, 101]⟩, .string ⟨#[114, 101, 115, 99, 105, 110, 100]⟩, .string ⟨#[114, 101, 118, 105, 118, 101]⟩, .string ⟨#[115, 117, 112, 112, 114, 101, 115, 115]⟩, .string ⟨#[107, 105, 108, 108]⟩, .string ⟨#[102, 105, 110, 105, 115, 104]⟩, .string ⟨#[116, 105, 99, 107]⟩, .string ⟨#[97, 108, 108, 111, 99, 97, 116, 101]⟩, .string ⟨#[97, 108, 108]⟩] | 1 => some [.string ⟨#[]⟩, .string ⟨#[108, 97, 117, 110, 99, 104]⟩, .string ⟨#[114, 101, 115, 101, 114, 118, 101]⟩, .string ⟨#[117, 110, 114, 101, 115, 101, 114, 118, 101]⟩] | _ => none
structure Ctx where
  we : World
  Ze : Nat → Prop
  gl : ∀ g l, tabOf g = some l → Ze g ∧ ∀ j, j < l.length → we.cell? ⟨g, j, none⟩ = some (l.getD j undef)
abbrev Heap := Nat → Option Ob
structure Env.le (ρ ρ' : Env) : Prop where
  live : ∀ n, ρ.live n → ρ'.live n
  blk : ∀ n, ρ.live n → ρ'.blk n = ρ.blk n
  ver : ∀ n, ρ.live n → ρ.ver n ≤ ρ'.ver n
  val : ∀ n, ρ.live n → ρ'.ver n = ρ.ver n → ρ'.val n = ρ.val n
theorem Env.le.refl (ρ : Env) : ρ.le ρ := ⟨fun _ h => h, fun _ _ => rfl, fun _ _ => Nat.le_refl _, fun _ _ _ => rfl⟩
theorem Env.le.trans {a b c : Env} (h : a.le b) (k : b.le c) : a.le c :=
  ⟨fun n x => k.live n (h.live n x), fun n x => (k.blk n (h.live n x)).trans (h.blk n x), fun n x => Nat.le_trans (h.ver n x) (k.ver n (h.live n x)),
   fun n x e => by
    have h1 := h.ver n x
    have h2 := k.ver n (h.live n x)
    have e2 : c.ver n = b.ver n := by omega
    have e1 : b.ver n = a.ver n := by omega
    exact (k.val n (h.live n x) e2).trans (h.val n x e1)⟩
structure HSat (K : Ctx) (ρ : Env) (Z : Nat → Prop) (H : Heap) (w : World) : Prop where
  os : w.os = K.we.os
  tape : w.tape = K.we.tape
  output : w.output = K.we.output
  size : K.we.heap.size ≤ w.heap.size
  Zmono : ∀ b, K.Ze b → Z b
  Zlt : ∀ b, Z b → b < w.heap.size
  same : ∀ b, K.Ze b → w.heap[b]? = K.we.heap[b]?
  obj : ∀ n o, H n = some o → ρ.live n ∧ o.at_ ρ w Z n
  own : ∀ n o b, H n = some o → o.blk ρ n = some b → ¬ Z b ∧ b < w.heap.size
  inj : ∀ n m o o' b, H n = some o → H m = some o' → o.blk ρ n = some b → o'.blk ρ m = some b → n = m
  bd : ∃ nx, ∀ n, ρ.live n → n < nx
structure G where
  env : Nat → D
  H : Heap
  live : Nat → Prop
structure Sat (K : Ctx) (N : Nat) (ρ : Env) (Z : Nat → Prop) (S : G) (a : Act) (w : World) : Prop where
  tmps : a.tmps.size = N
  defers : a.defers = []
  env : ∀ t, Rel ρ w Z (S.env t) (a.tmps.getD t undef)
  mem : HSat K ρ Z S.H w
  live : ∀ n, ρ.live n → S.live n
structure Ext (ρ : Env) (Z : Nat → Prop) (w : World) (ρ' : Env) (Z' : Nat → Prop) (w' : World) : Prop where
  le : ρ.le ρ'
  mono : ∀ b, Z b → Z' b
  same : ∀ b, Z b → w'.heap[b]? = w.heap[b]?
theorem Ext.refl (ρ : Env) (Z : Nat → Prop) (w : World) : Ext ρ Z w ρ Z w := ⟨.refl _, fun _ h => h, fun _ _ => rfl⟩
theorem Ext.trans {a b c : Env} {x y z : Nat → Prop} {u v w : World} (h : Ext a x u b y v) (k : Ext b y v c z w) : Ext a x u c z w :=
  ⟨h.le.trans k.le, fun b hb => k.mono b (h.mono b hb), fun b hb => (k.same b (h.mono b hb)).trans (h.same b hb)⟩
theorem CRel.mono {w w' : World} {Z Z' : Nat → Prop} {c : C} {v : Value} (h : CRel w Z c v) (hw : ∀ b, Z b → w'.heap[b]? = w.heap[b]?) (hZ : ∀ b, Z b → Z' b) : CRel w' Z' c v := by
  induction h with
  | v x => exact .v x
  | ro A c sz us hn hnc hsz hA hc hr ih =>
    refine .ro A c sz us hn hnc hsz (fun h0 => ?_) (fun ad e i hi j hj => ?_) (fun i hi j hj => ih i hi j hj)
    · obtain ⟨ad, e, hz, hs⟩ := hA h0
      exact ⟨ad, e, hZ _ hz, hs⟩
    · obtain ⟨ad', e', hz, hs⟩ := hA (by omega)
      rw [e] at e'
      cases e'
      have := hc ad e i hi j hj
      rw [← this]
      exact World.cell?_of_block (w := w) (hw _ hz)
theorem Rel.mono {ρ ρ' : Env} {w w' : World} {Z Z' : Nat → Prop} {d : D} {v : Value} (h : Rel ρ w Z d v) (hw : ∀ b, Z b → w'.heap[b]? = w.heap[b]?) (hZ : ∀ b, Z b → Z' b) (hρ : ρ.le ρ') : Rel ρ' w' Z' d v := by
  induction h with
  | junk v => exact .junk v
  | c h => exact .c (h.mono hw hZ)
  | @ptr n off h => rw [← hρ.blk n h]; exact .ptr (hρ.live n h)
  | rp b o us hz hc hr => exact .rp b o us (hZ _ hz) (fun j hj => by rw [← hc j hj]; exact World.cell?_of_block (w := w) (hw _ hz)) (fun j hj => (hr j hj).mono hw hZ)
  | @rptr n ver sz i off p h hle hv =>
    have hl := hρ.ver n h
    refine .rptr p (hρ.live n h) (Nat.le_trans hle hl) (fun e => ?_)
    rw [hρ.val n h (by omega)]
    exact hv (by omega)
  | @own n ver A l c h hle hv =>
    have hl := hρ.ver n h
    refine .own A l c (hρ.live n h) (Nat.le_trans hle hl) (fun e => ?_)
    rw [hρ.val n h (by omega)]
    exact hv (by omega)
  | lit A h => exact .lit A (h.mono hw hZ)
  | @mp n h => rw [← hρ.blk n h]; exact .mp (hρ.live n h)
  | @st n ver i x h hle hv =>
    have hl := hρ.ver n h
    refine .st x (hρ.live n h) (Nat.le_trans hle hl) (fun e => ?_)
    rw [hρ.val n h (by omega)]
    exact hv (by omega)
  | fn h1 h2 h3 h4 i3 i4 => exact .fn h1 h2 i3 i4
  | agg h1 h3 i3 => exact .agg h1 i3
  | tup h1 h3 i3 => exact .tup h1 i3
theorem RelL.mono {ρ ρ' : Env} {w w' : World} {Z Z' : Nat → Prop} {l : List D} {vs : List Value} (h : RelL ρ w Z l vs) (hw : ∀ b, Z b → w'.heap[b]? = w.heap[b]?) (hZ : ∀ b, Z b → Z' b) (hρ : ρ.le ρ') : RelL ρ' w' Z' l vs :=
  ⟨h.len, fun i hi => (h.at_ i hi).mono hw hZ hρ⟩
theorem Ob.at_mono {ρ ρ' : Env} {w w' : World} {Z Z' : Nat → Prop} {n : Nat} {o : Ob} (h : o.at_ ρ w Z n) (hb : ∀ b, o.blk ρ n = some b → w'.heap[b]? = w.heap[b]?)
    (hw : ∀ b, Z b → w'.heap[b]? = w.heap[b]?) (hZ : ∀ b, Z b → Z' b) (hρ : ρ.le ρ') (hbk : ρ'.blk n = ρ.blk n) (hvl : ρ'.val n = ρ.val n) (hvr : ρ'.ver n = ρ.ver n) : o.at_ ρ' w' Z' n := by
  cases o with
  | var cs T =>
    obtain ⟨vs, h1, h2⟩ := h
    exact ⟨vs, by rw [hbk, hb _ rfl]; exact h1, h2.mono hw hZ hρ⟩
  | row ver E sz l =>
    obtain ⟨hv, h0, xs, h1, h2⟩ := h
    refine ⟨hvr.trans hv, h0, xs, ?_, h2.mono hw hZ hρ⟩
    rw [hvl]
    refine ⟨h1.1, ?_⟩
    rcases h1.2 with h | ⟨g, cap, cur, e, hg, hh, r⟩
    · exact .inl h
    · exact .inr ⟨g, cap, cur, e, hg, by rw [hb g (by simp [Ob.blk, e, Value.ownBlock])]; exact hh, r⟩
  | map ver ag m es =>
    obtain ⟨hv, ms, ck, h1, h0, h2, h3, h4, h5⟩ := h
    exact ⟨hvr.trans hv, ms, ck, by rw [hbk, hb _ rfl]; exact h1, hvl.trans h0, h2, h3, h4.mono hw hZ hρ, h5⟩
  | iter mp ver seen =>
    obtain ⟨hl, hle, since, sn, stepped, h1, h2⟩ := h
    have hlv := hρ.ver mp hl
    refine ⟨hρ.live mp hl, Nat.le_trans hle hlv, since, sn, stepped, by rw [hbk, hb _ rfl, hρ.blk mp hl]; exact h1, fun e => ?_⟩
    rw [hρ.val mp hl (by omega)]
    exact h2 (by omega)
end Go.Sy

/-
  Regions and code over reified states. Plain theorems.
-/
import Derived.Test.YtkjjihicaefmcaaDoorSyW
set_option linter.unusedVariables false
set_option linter.unusedSectionVars false
set_option linter.unusedSimpArgs false
namespace Go.Sy
open Go Go.RowKit
def dstB (dst : Option Tmp) (N : Nat) : Bool := match dst with | some t => decide (t < N) | none => true
theorem dstB_ok {dst : Option Tmp} {N : Nat} (h : dstB dst N = true) : dstOk dst N := by
  cases dst with
  | none => trivial
  | some t => exact (of_decide_eq_true h : t < N)
def Sx.lit (σ : Sx) (t : Nat) (b : BX) : Sx := { σ with E := putE σ.E t (.b b) }
def exG (σ : Sx) (g : Option (Option Tmp × Bool)) (run skip : Sx → Prop) : Prop :=
  match g with
  | none => run σ
  | some (none, _) => False
  | some (some t, want) =>
    match getE σ.E t with
    | .b .t => match want with | true => run σ | false => skip σ
    | .b .f => match want with | true => skip σ | false => run σ
    | .b (.s b) => match want with | true => Br b (run (σ.lit t .t)) (skip (σ.lit t .f)) | false => Br b (skip (σ.lit t .t)) (run (σ.lit t .f))
    | .v (.tuple _) => skip σ
    | _ => False
inductive FrzN (g : Sx → Prop) : Sx → Prop where
  | done {σ : Sx} (h : g σ) : FrzN g σ
  | frz {σ : Sx} (i : Nat) (ts : List Nat) {ver E sz : Nat} {r : RR} (h1 : σ.L.getD i none = some (.row ver E sz r)) (h2 : ∀ t ∈ ts, getE σ.E t = .own (.loc i) ver) (h : FrzN g (σ.fz i r ts)) : FrzN g σ
  | frzv {σ : Sx} (i t : Nat) {T : TypeId} {cs : List X} (h1 : σ.L.getD i none = some (.var cs T)) (hcl : cs.all X.clean = true) (h2 : getE σ.E t = .ptr (.loc i) 0) (h : FrzN g (σ.fzv i t cs)) : FrzN g σ
inductive CallI (P : Program) (c : Cx) (f : FuncId) (args : List X) (σ : Sx) (k : X → Sx → Prop) : Prop where
  | mk (h : c.Ok σ → CallSem P f (X.toDL c args) (σ.toSt c) fun d S' => ∃ x σ', k x σ' ∧ d = x.toD c ∧ S' = σ'.toSt c ∧ c.Ok σ')
theorem CallI.of {P : Program} {c : Cx} {f : FuncId} {args : List X} {σ : Sx} {k : X → Sx → Prop} (h : CallN P c f args σ fun y _ σ' => k y σ') : CallI P c f args σ k := by
  obtain ⟨h⟩ := h
  refine ⟨fun hc => (CallSem.of_rule (h hc)).mono ?_⟩
  rintro d S' ⟨rd, sets, news, ⟨x, inf, σ', hk, hd, haft, hc', _⟩, rfl⟩
  exact ⟨x, σ', hk, hd, haft d, hc'⟩
def callX (P : Program) (c : Cx) (cl : Call) (σ : Sx) (k : X → Sx → Prop) : Prop :=
  match cl.callee with
  | .value f =>
    match evX σ.E f with
    | .fn (.func n) first caps => CallI P c n (first ++ X.coeL (cl.args.toList.map (evX σ.E)) ++ caps) σ k
    | _ => False
  | _ => False
def LocOk (P : Program) (o : Oper) (S : St) (k : D → List Nat → List (Nat × Ob) → List Ob → Prop) : Prop :=
  ∃ (pre : List (Operand × D)) (rd : List (Nat × Ob)) (d : D) (sets : List (Nat × Ob)) (news : List Ob), ORule P o pre rd d { new := nameNew S.nx news, set := sets } ∧
    (∀ x ∈ pre, evE S.env x.1 = x.2) ∧ (∀ x ∈ rd, S.get x.1 = some x.2) ∧ (∀ x ∈ sets, (∃ y, (x.1, y) ∈ rd) ∧ (x.1 < S.n0 → x.2.nms S.n0)) ∧ k d (rd.map (·.1)) sets news ∧
    (∀ x ∈ pre, x.1 ∈ o.op.operands.toList) ∧ (touch o.op = 0 → rd = [] ∧ sets = [] ∧ news = []) ∧ (touch o.op = 1 → sets = [] ∧ news = []) ∧
    (isLen o.op = true → ∀ H : Nat → Option Ob, (∀ x ∈ rd, (H x.1).map shp = some (shp x.2)) → ∃ rd', ORule P o pre rd' d { new := nameNew S.nx news, set := sets } ∧ ∀ x ∈ rd', H x.1 = some x.2) ∧
    (isStore o.op = true → news = [] ∧ ∀ x ∈ sets, (S.get x.1).map shp = some (shp x.2))
inductive OpN (P : Program) (c : Cx) (op : Op) (σ : Sx) (k : Kx) : Prop where
  | mk (h : c.Ok σ → ∀ o : Oper, o.op = op → LocOk P o (σ.toSt c) (KD c σ k))
def extB (op : Op) (σ : Sx) : Bool :=
  match op with
  | .convert _ _ x => match evX σ.E x with | .i _ _ => false | _ => true
  | .binOp b _ x _ _ => match evX σ.E x with | .v (.string _) => (match b with | .eql => false | .neq => false | _ => true) | _ => false
  | .load _ (.global g) => (tabOf g).isNone
  | .store _ (.global _) _ => true
  | .fieldAddr _ (.global g) _ => (tabOf g).isNone
  | .indexAddr _ (.global g) _ => (tabOf g).isNone
  | .slice _ x _ _ mx => match mx with | some _ => true | none => (match evX σ.E x with | .v (.string _) => true | .ptr _ _ => true | .rp _ _ => true | .own _ _ => true | _ => false)
  | .index _ x _ => match evX σ.E x with | .v (.string _) => true | _ => false
  | .range _ x => match evX σ.E x with | .v (.string _) => true | _ => false
  | .makeInterface _ _ => true
  | .typeAssert _ _ _ _ => true
  | .sliceToArrayPointer _ _ => true
  | .call cl => (match cl.callee, cl.args.toList with | .builtin .append, [s, _] => (match evX σ.E s with | .lit (.lits []) => true | _ => false) | _, _ => false)
  | _ => false
def exOpE (o : Ar) (P : Program) (c : Cx) (T : List (TypeId × TI)) (op : Op) (σ : Sx) (k : Kx) : Prop :=
  match extB op σ with
  | true => OpN P c op σ k
  | false => exOp o P c T op σ k
theorem exOpE_loc {P : Program} {T : List (TypeId × TI)} {c : Cx} (hT : TOk P T) {σ : Sx} {k : Kx} (hc : c.Ok σ) {o : Oper} (h : exOpE Ar.real P c T o.op σ k) : LocOk P o (σ.toSt c) (KD c σ k) := by
  unfold exOpE at h
  split at h
  · obtain ⟨h⟩ := h
    exact h hc o rfl
  · exact step_loc (o := o) (exOp_sound hT hc h)
def X.isOwn : X → Bool
  | .own (.loc _) _ => true
  | _ => false
def frzB (op : Op) (σ : Sx) : Bool :=
  match op with
  | .convert _ _ x => (evX σ.E x).isOwn
  | .slice _ x _ _ _ => (match evX σ.E x with | .own (.loc _) _ => true | .ptr (.loc _) _ => true | _ => false)
  | _ => false
def exAny (o : Ar) (P : Program) (c : Cx) (T : List (TypeId × TI)) (op : Op) (σ : Sx) (k : X → Sx → Prop) : Prop :=
  match op with
  | .next x false => exNext o x σ k
  | .call cl =>
    match cl.callee with
    | .value _ => if (cl.args.toList.any fun x => (evX σ.E x).isOwn) = true then FrzN (fun σ' => callX P c cl σ' k) σ else callX P c cl σ k
    | _ => exOpE o P c T (.call cl) σ fun y _ σ' => k y σ'
  | op => match frzB op σ with | true => FrzN (fun σ' => exOpE o P c T op σ' fun y _ σ'' => k y σ'') σ | false => exOpE o P c T op σ fun y _ σ' => k y σ'
def exW (o : Ar) (P : Program) (c : Cx) (T : List (TypeId × TI)) (N : Nat) : List WO → Sx → (Sx → Prop) → Prop
  | [], σ, K => K σ
  | x :: r, σ, K => if dstB x.1 N = true then exG σ x.2.2 (fun σ => exAny o P c T x.2.1 σ fun y σ' => exW o P c T N r (σ'.put x.1 y) K) (fun σ => exW o P c T N r (σ.put x.1 (.v undef)) K) else False
def exV (o : Ar) (P : Program) (c : Cx) (T : List (TypeId × TI)) (N : Nat) : List WO → Sx → List (List Nm × List Nm) → (Sx → List (List Nm × List Nm) → Prop) → Prop
  | [], σ, is, K => K σ is
  | x :: r, σ, is, K => if dstB x.1 N = true then exG σ x.2.2 (fun σ => exOpE o P c T x.2.1 σ fun y inf σ' => exV o P c T N r (σ'.put x.1 y) (is ++ [inf]) K) (fun σ => exV o P c T N r (σ.put x.1 (.v undef)) (is ++ [([], [])]) K) else False
def Nm.beq : Nm → Nm → Bool
  | .loc a, .loc b => decide (a = b)
  | .out a, .out b => decide (a = b)
  | _, _ => false
def disX (x y : List Nm × List Nm) : Bool := (x.2.all fun n => !(y.1.any (Nm.beq n)) && !(y.2.any (Nm.beq n))) && (y.2.all fun n => !(x.1.any (Nm.beq n)))
def chkX (is : List (List Nm × List Nm)) : List (Nat × Nat) → Bool
  | [] => true
  | (i, j) :: ps => disX (is.getD i ([], [])) (is.getD j ([], [])) && chkX is ps
def Nm.inB (σ : Sx) : Nm → Bool
  | .loc _ => true
  | .out i => decide (i < σ.O.length)
inductive LoopN (P : Program) (N : Nat) (c : Cx) (code : Code) (Q : Exit → Sx → Prop) (σ : Sx) : Prop where
  | mk (h : c.Ok σ → Awp P N (.loop code) (fun e S' => ∃ σ', S' = σ'.toSt c ∧ c.Ok σ' ∧ Q e σ') (σ.toSt c))
def thenX (R : Sx → Prop) (Q : Exit → Sx → Prop) (e : Exit) (σ : Sx) : Prop := Exit.rec (motive := fun _ => Sx → Prop) R (fun i => Q (.exit i)) (fun i => Q (.goto i)) (Q .ret) (fun c => Q (.panic c)) (Q .outgrown) e σ
def thenC (F : (Exit → Sx → Prop) → Sx → Prop) (Q : Exit → Sx → Prop) (e : Exit) (σ : Sx) : Prop := Exit.rec (motive := fun _ => Sx → Prop) (F Q) (fun i => Q (.exit i)) (fun i => Q (.goto i)) (Q .ret) (fun c => Q (.panic c)) (Q .outgrown) e σ
noncomputable def exitN (i id : Nat) : Exit := Bool.rec (.exit i) .normal (Nat.beq i id)
def blockX (id : Nat) (Q : Exit → Sx → Prop) (e : Exit) (σ : Sx) : Prop := Exit.rec (motive := fun _ => Sx → Prop) (Q .normal) (fun i => Q (exitN i id)) (fun i => Q (.goto i)) (Q .ret) (fun c => Q (.panic c)) (Q .outgrown) e σ
def Sx.lits (σ : Sx) : Operand → BX → Sx
  | .tmp t, b => σ.lit t b
  | _, _ => σ
abbrev DT := List (Nat × List (Nat × Nat))
def dtL : DT → Nat → Option (List (Nat × Nat))
  | [], _ => none
  | (k, x) :: l, t => if t = k then some x else dtL l t
def uniq : List Nat → List Nat
  | [] => []
  | a :: l => if (uniq l).contains a then uniq l else a :: uniq l
theorem mem_uniq {i : Nat} : ∀ {l : List Nat}, i ∈ uniq l ↔ i ∈ l
  | [] => Iff.rfl
  | a :: l => by
    have ih := mem_uniq (i := i) (l := l)
    simp only [uniq]
    split
    · rename_i h
      have h' : a ∈ uniq l := by simpa using h
      constructor
      · intro hi; exact List.mem_cons_of_mem _ (ih.1 hi)
      · intro hi
        rcases List.mem_cons.1 hi with rfl | hi
        · exact h'
        · exact ih.2 hi
    · simp [ih]
def ancsU (ops : Array Oper) : List (List Nat) :=
  ops.toList.foldl (fun acc o => acc ++ [uniq ((o.after.toList.filter (Region.binds .any)).flatMap fun e => e.on :: acc.getD e.on [])]) []
theorem ancsU_mem (ops : Array Oper) (j i : Nat) : i ∈ (ancsU ops).getD j [] ↔ i ∈ (ancs ops).getD j [] := by
  have key : ∀ (l : List Oper) (a b : List (List Nat)), a.length = b.length → (∀ j i, i ∈ a.getD j [] ↔ i ∈ b.getD j []) →
      ∀ j i, i ∈ (l.foldl (fun acc o => acc ++ [uniq ((o.after.toList.filter (Region.binds .any)).flatMap fun e => e.on :: acc.getD e.on [])]) a).getD j [] ↔ i ∈ (l.foldl (fun acc o => acc ++ [(o.after.toList.filter (Region.binds .any)).flatMap fun e => e.on :: acc.getD e.on []]) b).getD j [] := by
    intro l
    induction l with
    | nil => intro a b _ h; exact h
    | cons o l ih =>
      intro a b hl h
      simp only [List.foldl_cons]
      refine ih _ _ (by simp [hl]) (fun j i => ?_)
      rcases Nat.lt_trichotomy j a.length with hj | hj | hj
      · have hj' : j < b.length := by omega
        simp only [List.getD_eq_getElem?_getD, List.getElem?_append_left hj, List.getElem?_append_left hj']
        have := h j i
        simpa only [List.getD_eq_getElem?_getD] using this
      · subst hj
        have e1 : (a ++ [uniq ((o.after.toList.filter (Region.binds .any)).flatMap fun e => e.on :: a.getD e.on [])]).getD a.length [] = uniq ((o.after.toList.filter (Region.binds .any)).flatMap fun e => e.on :: a.getD e.on []) := by simp [List.getD_eq_getElem?_getD]
        have e2 : (b ++ [((o.after.toList.filter (Region.binds .any)).flatMap fun e => e.on :: b.getD e.on [])]).getD a.length [] = ((o.after.toList.filter (Region.binds .any)).flatMap fun e => e.on :: b.getD e.on []) := by rw [hl]; simp [List.getD_eq_getElem?_getD]
        rw [e1, e2, mem_uniq]
        simp only [List.mem_flatMap, List.mem_cons]
        constructor
        · rintro ⟨e, he, h1⟩
          exact ⟨e, he, h1.imp id (h e.on i).1⟩
        · rintro ⟨e, he, h1⟩
          exact ⟨e, he, h1.imp id (h e.on i).2⟩
      · have e1 : (a ++ [uniq ((o.after.toList.filter (Region.binds .any)).flatMap fun e => e.on :: a.getD e.on [])]).getD j [] = [] := by
          rw [List.getD_eq_getElem?_getD, List.getElem?_eq_none (by simp; omega)]; rfl
        have e2 : (b ++ [((o.after.toList.filter (Region.binds .any)).flatMap fun e => e.on :: b.getD e.on [])]).getD j [] = [] := by
          rw [List.getD_eq_getElem?_getD, List.getElem?_eq_none (by simp; omega)]; rfl
        rw [e1, e2]
  exact key ops.toList [] [] rfl (fun _ _ => Iff.rfl) j i
def looseU (ops : Array Oper) : List (Nat × Nat) :=
  let a := ancsU ops
  (List.range ops.size).flatMap fun j => ((List.range j).filter fun i => !(a.getD j []).contains i).map fun i => (i, j)
theorem looseU_eq (ops : Array Oper) : looseU ops = loose ops := by
  unfold looseU loose
  have h : ∀ j i, ((ancsU ops).getD j []).contains i = ((ancs ops).getD j []).contains i := fun j i => by
    rw [Bool.eq_iff_iff]
    simpa using ancsU_mem ops j i
  simp only [h]
def slotsOkU (ops : Array Oper) : Bool :=
  (looseU ops).all (fun (i, j) =>
    match ops[i]?, ops[j]? with
    | some x, some y =>
      (match x.dst with | some t => !(reads ops y).contains t && y.dst != some t | none => true) && (match y.dst with | some t => !(reads ops x).contains t | none => true)
    | _, _ => true) &&
  (List.range ops.size).all fun j => match ops[j]? with | some o => o.after.all fun e => !Region.binds .any e || decide (e.on < j) | none => true
def heapPairsU (ops : Array Oper) : List (Nat × Nat) :=
  (looseU ops).filter fun (i, j) =>
    match ops[i]?, ops[j]? with
    | some x, some y => touch x.op ≠ 0 && touch y.op ≠ 0 && (touch x.op == 2 || touch y.op == 2) && !exempt ops x.op y.op
    | _, _ => false
theorem slotsOkU_eq (ops : Array Oper) : slotsOkU ops = slotsOk ops := by unfold slotsOkU slotsOk; rw [looseU_eq]; rfl
theorem heapPairsU_eq (ops : Array Oper) : heapPairsU ops = heapPairs ops := by unfold heapPairsU heapPairs; rw [looseU_eq]; rfl
def drawsB (D : DT) : Code → Bool
  | .region id ops true => slotsOkU ops && decide (dtL D id = some (heapPairsU ops))
  | .seq a b => drawsB D a && drawsB D b
  | .cond _ a b => drawsB D a && drawsB D b
  | .block _ a => drawsB D a
  | _ => true
inductive StopN (σ : Sx) (k : Sx → Prop) : Prop where
  | mk (h : k σ)
def isBuild (op : Op) : Bool := match op with | .build .. | .buildSlice .. => true | _ => false
def stopK (b : Bool) (σ : Sx) (k : Sx → Prop) : Prop := match b with | true => StopN σ k | false => k σ
theorem stopK_elim {b : Bool} {σ : Sx} {k : Sx → Prop} (h : stopK b σ k) : k σ := by
  cases b with
  | false => exact h
  | true => exact h.1
def ex (o : Ar) (P : Program) (c : Cx) (T : List (TypeId × TI)) (D : DT) (N : Nat) : Code → (Exit → Sx → Prop) → Sx → Prop
  | .skip, Q, σ => Q .normal σ
  | .label _, Q, σ => Q .normal σ
  | .exit id, Q, σ => Q (.exit id) σ
  | .ret, Q, σ => Q .ret σ
  | .seq a b, Q, σ => ex o P c T D N a (thenC (ex o P c T D N b) Q) σ
  | .cond q a b, Q, σ =>
    match evX σ.E q with
    | .b .t => ex o P c T D N a Q σ
    | .b .f => ex o P c T D N b Q σ
    | .b (.s v) => Br v (ex o P c T D N a Q (σ.lits q .t)) (ex o P c T D N b Q (σ.lits q .f))
    | _ => False
  | .block id a, Q, σ => ex o P c T D N a (blockX id Q) σ
  | .region _ ops false, Q, σ => exW o P c T N (ops.toList.map (strip ops)) σ fun σ' => stopK (ops.toList.any fun x => isBuild x.op) σ' (Q .normal)
  | .region id ops true, Q, σ =>
    match dtL D id with
    | some ps => match ops.toList.any (fun x => frzB x.op σ) with
      | true => FrzN (fun σ0 => exV o P c T N (ops.toList.map (strip ops)) σ0 [] fun σ' is => if (chkX is ps && is.all fun x => x.1.all (Nm.inB σ') && x.2.all (Nm.inB σ')) = true then stopK (ops.toList.any fun x => isBuild x.op) σ' (Q .normal) else False) σ
      | false => exV o P c T N (ops.toList.map (strip ops)) σ [] fun σ' is => if (chkX is ps && is.all fun x => x.1.all (Nm.inB σ') && x.2.all (Nm.inB σ')) = true then stopK (ops.toList.any fun x => isBuild x.op) σ' (Q .normal) else False
    | none => False
  | .loop a, Q, σ => LoopN P N c a Q σ
  | _, _, _ => False
theorem lit_toSt {c : Cx} {σ : Sx} {t : Nat} {b : Bool} (h : getE σ.E t = .b (.s b)) : (σ.lit t (BX.of b)).toSt c = σ.toSt c := by
  have e : (σ.lit t (BX.of b)).env c = σ.env c := by
    funext u
    simp only [Sx.lit, Sx.env, getE_putE]
    split
    · rename_i e; subst e; rw [h]; cases b <;> rfl
    · rfl
  simp only [Sx.toSt, e]
  rfl
theorem Cx.Ok.put {c : Cx} {σ : Sx} (h : c.Ok σ) (dst : Option Tmp) (x : X) : c.Ok (σ.put dst x) := by
  cases dst with
  | none => exact h
  | some t => exact ⟨h.len, h.nod, h.lt⟩
theorem Cx.Ok.lit {c : Cx} {σ : Sx} (h : c.Ok σ) (t : Nat) (b : BX) : c.Ok (σ.lit t b) := ⟨h.len, h.nod, h.lt⟩
theorem after_X {c : Cx} {σ σ' : Sx} {dst : Option Tmp} {x : X} {sets : List (Nat × Ob)} {news : List Ob} (h : ∀ d', (σ.toSt c).after none d' sets news = σ'.toSt c) : (σ.toSt c).after dst (x.toD c) sets news = (σ'.put dst x).toSt c := by
  have h1 := h .junk
  rw [toSt_put, ← h1]
  rfl
theorem gd_X {c : Cx} {σ : Sx} {t : Nat} : gd ((σ.toSt c).env t) = gd ((getE σ.E t).toD c) := rfl
def exGE (c : Cx) (σ : Sx) (g : Option (Option Tmp × Bool)) (run skip : Sx → Prop) : Prop :=
  match g with
  | none => run σ
  | some (none, _) => False
  | some (some t, want) => (∃ b, gd ((σ.toSt c).env t) = some (some b) ∧ ∃ σ', σ'.toSt c = σ.toSt c ∧ c.Ok σ' ∧ (b = want → run σ') ∧ (b = (!want) → skip σ')) ∨ (gd ((σ.toSt c).env t) = some none ∧ skip σ)
theorem exG_elim {c : Cx} {σ : Sx} {g : Option (Option Tmp × Bool)} {run skip : Sx → Prop} (hc : c.Ok σ) (h : exG σ g run skip) : exGE c σ g run skip := by
  rcases g with _ | ⟨_ | t, want⟩
  · exact h
  · exact h
  · simp only [exG] at h
    simp only [exGE, gd_X]
    split at h
    · rename_i hg
      rw [hg]
      refine .inl ⟨true, rfl, σ, rfl, hc, ?_, ?_⟩ <;> cases want <;> simp_all
    · rename_i hg
      rw [hg]
      refine .inl ⟨false, rfl, σ, rfl, hc, ?_, ?_⟩ <;> cases want <;> simp_all
    · rename_i b hg
      have hl := lit_toSt (c := c) hg
      rw [hg]
      refine .inl ⟨b, rfl, _, hl, hc.lit _ _, ?_, ?_⟩ <;> cases want <;> cases b <;> simp only [BX.of, Bool.not_true, Bool.not_false, reduceCtorEq, false_implies, true_implies] <;> (obtain ⟨h1, h2⟩ := h; first | exact h1 rfl | exact h2 rfl)
    · rename_i vs hg
      rw [hg]
      exact .inr ⟨rfl, h⟩
    · exact h.elim
section
variable {P : Program} {T : List (TypeId × TI)} {c : Cx} (hT : TOk P T)
include hT
theorem exW_sound {N : Nat} {ops : Array Oper} {K : Ctx} {Q : Exit → St → Prop} {KX : Sx → Prop} (hKX : ∀ σ', c.Ok σ' → KX σ' → Q .normal (σ'.toSt c)) : ∀ (l : List Oper) (i : Nat) (σ : Sx), (∀ j, l[j]? = ops[i + j]?) → c.Ok σ → exW Ar.real P c T N (l.map (strip ops)) σ KX →
    ∀ (ρ : Env) (Z : Nat → Prop) (a : Act) (w : World), SatS K N ρ Z (σ.toSt c) a w → wpOps P ops (Post K N (σ.toSt c) ρ Z w Q) (List.range' i l.length) a w
  | [], i, σ, hl, hc, h, ρ, Z, a, w, hS => ⟨_, ρ, Z, hKX σ hc h, rfl, rfl, hS, .refl⟩
  | o :: l, i, σ, hl, hc, h, ρ, Z, a, w, hS => by
    have h0 : ops[i]? = some o := by simpa using (hl 0).symm
    have hl' : ∀ j, l[j]? = ops[i + 1 + j]? := fun j => by have := hl (j + 1); simpa [Nat.add_assoc, Nat.add_comm 1 j] using this
    simp only [List.map_cons, exW] at h
    split at h
    case isFalse => exact h.elim
    rename_i hd
    have hd := dstB_ok hd
    have go : ∀ (S' : St) (σ' : Sx), S' = σ'.toSt c → S'.n0 = (σ.toSt c).n0 → S'.lv = (σ.toSt c).lv → c.Ok σ' → exW Ar.real P c T N (l.map (strip ops)) σ' KX →
        ∀ ρ' Z' a' w', SatS K N ρ' Z' S' a' w' → ExtO (σ.toSt c).n0 ρ Z w ρ' Z' w' → wpOps P ops (Post K N (σ.toSt c) ρ Z w Q) (List.range' (i + 1) l.length) a' w' := by
      rintro _ σ' rfl hn0 hlv hc' hk ρ' Z' a' w' hS' hx
      refine wpOps_mono ?_ _ _ _ (exW_sound hKX l (i + 1) σ' hl' hc' hk ρ' Z' a' w' hS')
      rintro e a2 w2 ⟨S2, ρ2, Z2, q, e0, e1, hs, hx2⟩
      rw [hn0] at e0 hx2
      rw [hlv] at e1
      exact ⟨S2, ρ2, Z2, q, e0, e1, hs, hx.trans hx2⟩
    have step : ∀ σ1 : Sx, σ1.toSt c = σ.toSt c → c.Ok σ1 → (exAny Ar.real P c T o.op σ1 fun y σ' => exW Ar.real P c T N (l.map (strip ops)) (σ'.put o.dst y) KX) → o.wp P a w (wpOps P ops (Post K N (σ.toSt c) ρ Z w Q) (List.range' (i + 1) l.length)) (Post K N (σ.toSt c) ρ Z w Q) := by
      intro σ1 he hc1 hk
      have plain : ∀ (σ2 : Sx) (Z2 : Nat → Prop), SatS K N ρ Z2 (σ2.toSt c) a w → ExtO (σ.toSt c).n0 ρ Z w ρ Z2 w → c.Ok σ2 → (exOpE Ar.real P c T o.op σ2 fun y _ σ' => exW Ar.real P c T N (l.map (strip ops)) (σ'.put o.dst y) KX) → o.wp P a w (wpOps P ops (Post K N (σ.toSt c) ρ Z w Q) (List.range' (i + 1) l.length)) (Post K N (σ.toSt c) ρ Z w Q) := by
        intro σ2 Z2 hS2 hx2 hc2 hk
        obtain ⟨pre, rd, d, sets, news, r1, r2, r3, r4, r5, _⟩ := exOpE_loc (o := o) hT hc2 hk
        obtain ⟨y, inf, σ', hk', rfl, haft, hc', _⟩ := r5
        refine step_wp r1 r2 r3 r4 hS2 (dstOk_iff hd) (fun ρ' Z' a' w' hS' hx => ?_)
        refine go _ _ (after_X haft) ?_ ?_ (hc'.put _ _) hk' ρ' Z' a' w' hS' (hx2.trans hx)
        · rw [after_n0]; rfl
        · rw [after_lv]; rfl
      unfold exAny at hk
      split at hk
      · rename_i x hop
        unfold exNext at hk
        split at hk
        case h_2 => exact hk.elim
        rename_i q hx
        split at hk
        case h_2 => exact hk.elim
        rename_i n ver seen cur hq
        split at hk
        case h_2 => exact hk.elim
        rename_i ver' ag m es vf b1 b2 b3 hg
        rw [addCur_eq] at hk
        obtain ⟨e1, hk⟩ := hk
        simp only [real_eqN, decide_eq_true_eq] at e1
        subst e1
        obtain ⟨k1, k2, k3⟩ := hk
        have g1 := toSt_get hc1 hq
        have g2 := toSt_get hc1 hg
        rw [he] at g1 g2
        simp only [OX.toOb, MX.es] at g1 g2
        refine next_wp (seen := seen ++ curL cur) hop hS.sat (by rw [← he]; exact ev_at hx) g1 g2 k1 (dstOk_iff hd) (fun hall ρ' Z' a' w' hS' hx' => ?_) (fun i y hy hi ρ' Z' a' w' hS' hx' => ?_)
        · have hk' := k2 hall
          have h9 : (σ1.toSt c).after o.dst (X.toD c (.tup [.b .f])) [] [] = (σ1.put o.dst (.tup [.b .f])).toSt c := after_X fun _ => rfl
          refine go _ _ h9 (by rw [after_n0, he]) (by rw [after_lv, he]) (hc1.put _ _) hk' ρ' Z' a' w' ?_ (.of hx')
          rw [he]
          exact fin_sat hS hS' nil_all nil_all
        · have hk' := k3 i y.1 y.2 hy hi
          have hset := fun d' => toSt_set hc1 hq (ob' := .iter n ver (seen ++ curL cur) (some (i, y.1))) d'
          have e2 := b1 c y.1 y.2 (mget_at b2 hy)
          have e3 : rowOut ag y = X.toD c (.tup [.b .t, keyXO ag y.1, vf y.1]) := by
            simp only [X.toD, X.toDL, keyXO_toD, ← e2]
            rfl
          have h9 : (σ1.toSt c).after o.dst (X.toD c (.tup [.b .t, keyXO ag y.1, vf y.1])) _ [] = ((σ1.set (.loc q) (.iter n ver (seen ++ curL cur) (some (i, y.1)))).put o.dst (.tup [.b .t, keyXO ag y.1, vf y.1])).toSt c := after_X hset
          refine go _ _ h9 (by rw [after_n0, he]) (by rw [after_lv, he]) ((hc1.set _ _).put _ _) hk' ρ' Z' a' w' ?_ (.of hx')
          rw [he, ← e3]
          exact fin_sat (dst := o.dst) (d := rowOut ag y) (sets := [((Nm.loc q).at c, .iter (n.at c) ver (seen ++ curL cur ++ [i]))]) (news := []) hS hS' (fun z hz => by simp only [List.mem_singleton] at hz; subst hz; rw [g1]; rfl) (fun z hz hlt => by simp only [List.mem_singleton] at hz; subst hz; exact absurd hlt (by rw [show (σ.toSt c).n0 = c.n0 from rfl]; show ¬ c.n0 + q < c.n0; omega))
      · rename_i cl hop
        have callp : ∀ σ2 : Sx, callX P c cl σ2 (fun y σ' => exW Ar.real P c T N (l.map (strip ops)) (σ'.put o.dst y) KX) → ∀ Z2, SatS K N ρ Z2 (σ2.toSt c) a w → ExtO (σ.toSt c).n0 ρ Z w ρ Z2 w → c.Ok σ2 → o.wp P a w (wpOps P ops (Post K N (σ.toSt c) ρ Z w Q) (List.range' (i + 1) l.length)) (Post K N (σ.toSt c) ρ Z w Q) := by
          intro σ2 hk Z2 hS2 hx2 hc2
          unfold callX at hk
          split at hk
          case h_2 => exact hk.elim
          rename_i f hcal
          split at hk
          case h_2 => exact hk.elim
          rename_i n first caps hx
          obtain ⟨hk⟩ := hk
          have hk := hk hc2
          have e1 : X.toDL c (first ++ X.coeL (cl.args.toList.map (evX σ2.E)) ++ caps) = X.toDL c first ++ D.coeL (cl.args.toList.map (evE (σ2.toSt c).env)) ++ X.toDL c caps := by
            have e2 : cl.args.toList.map (evE (σ2.toSt c).env) = X.toDL c (cl.args.toList.map (evX σ2.E)) := by
              rw [toDL_eq, List.map_map]
              exact List.map_congr_left fun x _ => ev_toSt _ _ _
            rw [e2, ← toDL_coe]
            simp only [toDL_eq, List.map_append]
          rw [e1] at hk
          refine call_wp hop hcal (by rw [ev_at hx]; simp only [X.toD]) hk hS2 (dstOk_iff hd) ?_
          rintro d S' ρ' Z' a' w' ⟨x, σ', hk', rfl, rfl, hc'⟩ _ _ hS' hx'
          rw [← toSt_put] at hS'
          exact go ((σ'.put o.dst x).toSt c) (σ'.put o.dst x) rfl rfl rfl (hc'.put _ _) hk' ρ' Z' a' w' hS' (hx2.trans hx')
        split at hk
        · split at hk
          · have key : ∀ σ2 : Sx, FrzN (fun σ' => callX P c cl σ' fun y σ'' => exW Ar.real P c T N (l.map (strip ops)) (σ''.put o.dst y) KX) σ2 → ∀ Z2, SatS K N ρ Z2 (σ2.toSt c) a w → ExtO (σ.toSt c).n0 ρ Z w ρ Z2 w → c.Ok σ2 → o.wp P a w (wpOps P ops (Post K N (σ.toSt c) ρ Z w Q) (List.range' (i + 1) l.length)) (Post K N (σ.toSt c) ρ Z w Q) := by
              intro σ2 hf
              induction hf with
              | done h => intro Z2 h1 h2 h3; exact callp _ h Z2 h1 h2 h3
              | frz i ts g1 g2 _ ih =>
                intro Z2 h1 h2 h3
                obtain ⟨Z3, h4, h5⟩ := h1.fz h3 i ts g1 g2
                exact ih Z3 h4 (h2.trans h5) ⟨h3.len, h3.nod, h3.lt⟩
              | frzv i t g1 g2 g3 _ ih =>
                intro Z2 h1 h2 h3
                obtain ⟨Z3, h4, h5⟩ := h1.fzv h3 i t g1 g2 g3
                exact ih Z3 h4 (h2.trans h5) ⟨h3.len, h3.nod, h3.lt⟩
            exact key σ1 hk Z (by rw [he]; exact hS) .refl hc1
          · exact callp σ1 hk Z (by rw [he]; exact hS) .refl hc1
        · rw [← hop] at hk
          exact plain σ1 Z (by rw [he]; exact hS) .refl hc1 hk
      · split at hk
        · have key : ∀ σ2 : Sx, FrzN (fun σ' => exOpE Ar.real P c T o.op σ' fun y _ σ'' => exW Ar.real P c T N (l.map (strip ops)) (σ''.put o.dst y) KX) σ2 → ∀ Z2, SatS K N ρ Z2 (σ2.toSt c) a w → ExtO (σ.toSt c).n0 ρ Z w ρ Z2 w → c.Ok σ2 → o.wp P a w (wpOps P ops (Post K N (σ.toSt c) ρ Z w Q) (List.range' (i + 1) l.length)) (Post K N (σ.toSt c) ρ Z w Q) := by
            intro σ2 hf
            induction hf with
            | done h => intro Z2 h1 h2 h3; exact plain _ Z2 h1 h2 h3 h
            | frz i ts g1 g2 _ ih =>
              intro Z2 h1 h2 h3
              obtain ⟨Z3, h4, h5⟩ := h1.fz h3 i ts g1 g2
              exact ih Z3 h4 (h2.trans h5) ⟨h3.len, h3.nod, h3.lt⟩
            | frzv i t g1 g2 g3 _ ih =>
              intro Z2 h1 h2 h3
              obtain ⟨Z3, h4, h5⟩ := h1.fzv h3 i t g1 g2 g3
              exact ih Z3 h4 (h2.trans h5) ⟨h3.len, h3.nod, h3.lt⟩
          exact key σ1 hk Z (by rw [he]; exact hS) .refl hc1
        · exact plain σ1 Z (by rw [he]; exact hS) .refl hc1 hk
    have skip : ∀ σ1 : Sx, σ1.toSt c = σ.toSt c → c.Ok σ1 → exW Ar.real P c T N (l.map (strip ops)) (σ1.put o.dst (.v undef)) KX → wpOps P ops (Post K N (σ.toSt c) ρ Z w Q) (List.range' (i + 1) l.length) (a.put o.dst undef) w := by
      intro σ1 he hc1 hk
      have h9 : (σ1.toSt c).after o.dst (X.toD c (.v undef)) [] [] = (σ1.put o.dst (.v undef)).toSt c := after_X fun _ => rfl
      refine go _ _ h9 ?_ ?_ (hc1.put _ _) hk ρ Z _ w ?_ .refl
      · rw [after_n0, he]
      · rw [after_lv, he]
      · rw [he]; exact skip_sat hS hd
    simp only [List.length_cons, List.range'_succ, wpOps, h0]
    have h' := exG_elim hc h
    simp only [strip] at h'
    cases hg : o.guard with
    | none =>
      rw [hg] at h'
      simp only [Option.map_none, exGE] at h'
      simp only [Region.wanted, hg, if_true]
      exact .inl (step σ rfl hc h')
    | some g =>
      obtain ⟨j, want⟩ := g
      rw [hg] at h'
      simp only [Option.map_some] at h'
      unfold exGE at h'
      cases ht : (ops[j]?).bind (·.dst) with
      | none => rw [ht] at h'; exact h'.elim
      | some t =>
        rw [ht] at h'
        rcases h' with ⟨b, hb, σ1, he, hc1, h1, h2⟩ | ⟨hb, h1⟩
        · have hy := yielded_of hS.sat ht hb
          simp only [Region.wanted, hg, hy]
          by_cases e : b = want
          · subst e
            simp only [beq_self_eq_true, if_true]
            exact .inl (step σ1 he hc1 (h1 rfl))
          · have e' : b = !want := by cases b <;> cases want <;> simp_all
            have hne : ((some b == some want) = false) := by simp [e]
            simp only [hne, Bool.false_eq_true, if_false]
            exact skip σ1 he hc1 (h2 e')
        · have hy := yielded_of hS.sat ht hb
          simp only [Region.wanted, hg, hy]
          exact skip σ rfl hc h1
theorem beq_at {σ : Sx} (hc : c.Ok σ) {n m : Nm} (hn : Nm.inB σ n = true) (hm : Nm.inB σ m = true) (h : Nm.beq n m = false) : n.at c ≠ m.at c := by
  have hout : ∀ i, i < σ.O.length → c.ons.getD i 0 < c.n0 ∧ i < c.ons.length := fun i hi => by
    have h1 : i < c.ons.length := by rw [← hc.len]; exact hi
    exact ⟨by rw [List.getD_eq_getElem?_getD, List.getElem?_eq_getElem h1]; exact hc.lt _ (List.getElem_mem h1), h1⟩
  cases n with
  | loc a =>
    cases m with
    | loc b =>
      simp only [Nm.beq, decide_eq_false_iff_not] at h
      simp only [Nm.at]
      omega
    | out b =>
      have := (hout b (of_decide_eq_true hm)).1
      simp only [Nm.at]
      omega
  | out a =>
    cases m with
    | loc b =>
      have := (hout a (of_decide_eq_true hn)).1
      simp only [Nm.at]
      omega
    | out b =>
      simp only [Nm.beq, decide_eq_false_iff_not] at h
      have h1 := (hout a (of_decide_eq_true hn)).2
      have h2 := (hout b (of_decide_eq_true hm)).2
      simp only [Nm.at, List.getD_eq_getElem?_getD, List.getElem?_eq_getElem h1, List.getElem?_eq_getElem h2, Option.getD_some]
      intro e
      exact h ((List.getElem_inj hc.nod).1 e)
def inA (c : Cx) (x : List Nm × List Nm) : List Nat × List Nat := (x.1.map (Nm.at c), x.2.map (Nm.at c))
theorem exV_sound {N : Nat} {ops : Array Oper} {K : Sx → List (List Nm × List Nm) → Prop} : ∀ (l : List Oper) (σ : Sx) (is : List (List Nm × List Nm)), c.Ok σ → exV Ar.real P c T N (l.map (strip ops)) σ is K →
    ∃ es σ' is', Tr P N ops l (σ.toSt c) es (σ'.toSt c) ∧ c.Ok σ' ∧ K σ' (is ++ is') ∧ es.map Ent.info = is'.map (inA c)
  | [], σ, is, hc, h => ⟨[], σ, [], .nil _, hc, by simpa [exV] using h, rfl⟩
  | o :: l, σ, is, hc, h => by
    simp only [List.map_cons, exV] at h
    split at h
    case isFalse => exact h.elim
    rename_i hd
    have hd := dstB_ok hd
    have step : ∀ σ1 : Sx, σ1.toSt c = σ.toSt c → c.Ok σ1 → Guard ops o (σ.toSt c).env true → (exOpE Ar.real P c T o.op σ1 fun y inf σ' => exV Ar.real P c T N (l.map (strip ops)) (σ'.put o.dst y) (is ++ [inf]) K) →
        ∃ es σ' is', Tr P N ops (o :: l) (σ.toSt c) es (σ'.toSt c) ∧ c.Ok σ' ∧ K σ' (is ++ is') ∧ es.map Ent.info = is'.map (inA c) := by
      intro σ1 he hc1 hg hk
      obtain ⟨pre, rd, d, sets, news, r1, r2, r3, r4, r5, r6, r7, r8, r9, r10⟩ := exOpE_loc (o := o) hT hc1 hk
      obtain ⟨y, inf, σ', hk', rfl, haft, hc', h8, h9⟩ := r5
      obtain ⟨es, σ2, is', t, hc2, hK, hi⟩ := exV_sound l _ _ (hc'.put _ _) hk'
      refine ⟨⟨rd, y.toD c, { new := nameNew (σ.toSt c).nx news, set := sets }⟩ :: es, σ2, inf :: is', .cons ⟨hd, .inl ⟨hg, pre, ?_, ?_, r6⟩, ?_, ?_, ⟨news, rfl⟩, fun h => ?_, fun h => ?_, fun h _ => ⟨pre, by rw [← he]; exact r2, r6, by rw [← he]; exact r9 h⟩, fun h => ?_⟩ ?_, hc2, by simpa using hK, ?_⟩
      · rw [← he]; exact r1
      · rw [← he]; exact r2
      · rw [← he]; exact r3
      · rw [← he]; exact r4
      · obtain ⟨a, b, cc⟩ := r7 h
        subst a b cc
        exact ⟨rfl, rfl⟩
      · obtain ⟨b, cc⟩ := r8 h
        subst b cc
        rfl
      · obtain ⟨a, b⟩ := r10 h
        subst a
        exact ⟨rfl, by rw [← he]; exact b⟩
      · unfold Ent.after
        rw [map_nameNew, ← he, after_X haft]
        exact t
      · simp only [List.map_cons, hi, List.cons.injEq, and_true]
        rw [he] at h9
        simp only [Ent.info, Eff.names, List.map_append, inA, h8, h9]
    have skip : ∀ σ1 : Sx, σ1.toSt c = σ.toSt c → c.Ok σ1 → Guard ops o (σ.toSt c).env false → exV Ar.real P c T N (l.map (strip ops)) (σ1.put o.dst (.v undef)) (is ++ [([], [])]) K →
        ∃ es σ' is', Tr P N ops (o :: l) (σ.toSt c) es (σ'.toSt c) ∧ c.Ok σ' ∧ K σ' (is ++ is') ∧ es.map Ent.info = is'.map (inA c) := by
      intro σ1 he hc1 hg hk
      obtain ⟨es, σ2, is', t, hc2, hK, hi⟩ := exV_sound l _ _ (hc1.put _ _) hk
      have h9 : (σ1.toSt c).after o.dst (X.toD c (.v undef)) [] [] = (σ1.put o.dst (.v undef)).toSt c := after_X fun _ => rfl
      refine ⟨⟨[], .v undef, {}⟩ :: es, σ2, ([], []) :: is', .cons ⟨hd, .inr ⟨hg, rfl⟩, nil_all, nil_all, ⟨[], rfl⟩, fun _ => ⟨rfl, rfl⟩, fun _ => rfl, fun _ hg' => (Guard.no hg hg').elim, fun _ => ⟨rfl, nil_all⟩⟩ ?_, hc2, by simpa using hK, ?_⟩
      · rw [← he]
        show Tr P N ops l ((σ1.toSt c).after o.dst (X.toD c (.v undef)) [] []) es _
        rw [h9]
        exact t
      · simp only [List.map_cons, hi]
        rfl
    have h' := exG_elim hc h
    simp only [strip] at h'
    cases hg : o.guard with
    | none =>
      rw [hg] at h'
      simp only [Option.map_none, exGE] at h'
      exact step σ rfl hc (by simp [Guard, hg]) h'
    | some g =>
      obtain ⟨j, want⟩ := g
      rw [hg] at h'
      simp only [Option.map_some] at h'
      unfold exGE at h'
      cases ht : (ops[j]?).bind (·.dst) with
      | none => rw [ht] at h'; exact h'.elim
      | some t =>
        rw [ht] at h'
        rcases h' with ⟨b, hb, σ1, he, hc1, h1, h2⟩ | ⟨hb, h1⟩
        · by_cases e : b = want
          · exact step σ1 he hc1 (by simp only [Guard, hg]; exact ⟨t, _, ht, hb, by simp [e]⟩) (h1 e)
          · have e' : b = !want := by cases b <;> cases want <;> simp_all
            exact skip σ1 he hc1 (by simp only [Guard, hg]; exact ⟨t, _, ht, hb, by simp [e]⟩) (h2 e')
        · exact skip σ rfl hc (by simp only [Guard, hg]; exact ⟨t, _, ht, hb, rfl⟩) h1
theorem inA_mem {x : List Nm × List Nm} {m : Nat} : (m ∈ (inA c x).1 ↔ ∃ n ∈ x.1, n.at c = m) ∧ (m ∈ (inA c x).2 ↔ ∃ n ∈ x.2, n.at c = m) := by
  clear hT
  simp [inA]
theorem disX_dis {σ : Sx} (hc : c.Ok σ) {x y : List Nm × List Nm} (hx : (x.1.all (Nm.inB σ) && x.2.all (Nm.inB σ)) = true) (hy : (y.1.all (Nm.inB σ) && y.2.all (Nm.inB σ)) = true) (h : disX x y = true) : dis (inA c x) (inA c y) := by
  simp only [disX, Bool.and_eq_true, List.all_eq_true, Bool.not_eq_true', List.any_eq_false] at h hx hy
  refine ⟨fun m hm => ?_, fun m hm => ?_⟩
  · obtain ⟨n, hn, rfl⟩ := (inA_mem hT).2.1 hm
    obtain ⟨h1, h2⟩ := h.1 n hn
    refine ⟨fun hm' => ?_, fun hm' => ?_⟩
    · obtain ⟨n', hn', e⟩ := (inA_mem hT).1.1 hm'
      exact beq_at hT hc (hx.2 n hn) (hy.1 n' hn') (by simpa using h1 n' hn') e.symm
    · obtain ⟨n', hn', e⟩ := (inA_mem hT).2.1 hm'
      exact beq_at hT hc (hx.2 n hn) (hy.2 n' hn') (by simpa using h2 n' hn') e.symm
  · obtain ⟨n, hn, rfl⟩ := (inA_mem hT).2.1 hm
    intro hm'
    obtain ⟨n', hn', e⟩ := (inA_mem hT).1.1 hm'
    exact beq_at hT hc (hy.2 n hn) (hx.1 n' hn') (by simpa using h.2 n hn n' hn') e.symm
theorem chkX_chk {σ : Sx} (hc : c.Ok σ) {is : List (List Nm × List Nm)} (hv : ∀ x ∈ is, (x.1.all (Nm.inB σ) && x.2.all (Nm.inB σ)) = true) : ∀ {ps : List (Nat × Nat)}, chkX is ps = true → chkPairs (is.map (inA c)) ps
  | [], _ => trivial
  | (i, j) :: ps, h => by
    simp only [chkX, Bool.and_eq_true] at h
    have hget : ∀ i, (is.map (inA c)).getD i ([], []) = inA c (is.getD i ([], [])) := fun i => by
      simp only [List.getD_eq_getElem?_getD, List.getElem?_map]
      cases is[i]? <;> rfl
    have hval : ∀ i, ((is.getD i ([], [])).1.all (Nm.inB σ) && (is.getD i ([], [])).2.all (Nm.inB σ)) = true := fun i => by
      rcases Nat.lt_or_ge i is.length with hi | hi
      · have e : is.getD i ([], []) = is[i] := by simp [List.getD_eq_getElem?_getD, hi]
        rw [e]
        exact hv _ (List.getElem_mem hi)
      · rw [List.getD_eq_getElem?_getD, List.getElem?_eq_none hi]; rfl
    refine ⟨?_, chkX_chk hc hv h.2⟩
    rw [hget, hget]
    exact disX_dis hT hc (hval i) (hval j) h.1
theorem ex_sound (hm : P.follows .mixedOrders = true) {D : DT} {N : Nat} : ∀ (code : Code), drawsB D code = true → ∀ (Q : Exit → Sx → Prop) (σ : Sx), c.Ok σ → ex Ar.real P c T D N code Q σ →
    Awp P N code (fun e S' => ∃ σ', S' = σ'.toSt c ∧ c.Ok σ' ∧ Q e σ') (σ.toSt c)
  | .skip, hd, Q, σ, hc, h => .skip ⟨σ, rfl, hc, h⟩
  | .label _, hd, Q, σ, hc, h => .label ⟨σ, rfl, hc, h⟩
  | .exit id, hd, Q, σ, hc, h => .exit ⟨σ, rfl, hc, h⟩
  | .ret, hd, Q, σ, hc, h => .ret ⟨σ, rfl, hc, h⟩
  | .seq a b, hd, Q, σ, hc, h => by
    simp only [ex] at h
    simp only [drawsB, Bool.and_eq_true] at hd
    refine .seq ((ex_sound hm a hd.1 _ σ hc h).mono fun e S' ⟨σ', e1, hc', hq⟩ => ?_)
    subst e1
    cases e with
    | normal => exact ex_sound hm b hd.2 Q σ' hc' hq
    | _ => exact ⟨σ', rfl, hc', hq⟩
  | .cond q a b, hd, Q, σ, hc, h => by
    simp only [ex] at h
    simp only [drawsB, Bool.and_eq_true] at hd
    split at h
    · rename_i hq
      refine .cond (b := true) (by rw [ev_at hq]; rfl) (fun _ => ex_sound hm a hd.1 Q σ hc h) (fun e => by cases e)
    · rename_i hq
      refine .cond (b := false) (by rw [ev_at hq]; rfl) (fun e => by cases e) (fun _ => ex_sound hm b hd.2 Q σ hc h)
    · rename_i v hq
      obtain ⟨h1, h2⟩ := h
      have hl : ∀ b, v = b → (σ.lits q (BX.of b)).toSt c = σ.toSt c ∧ c.Ok (σ.lits q (BX.of b)) := fun b e => by
        cases q with
        | tmp t =>
          have hq' : getE σ.E t = .b (.s b) := by rw [← e]; exact hq
          exact ⟨lit_toSt hq', hc.lit _ _⟩
        | _ => exact ⟨rfl, hc⟩
      refine .cond (b := v) (by rw [ev_at hq]; rfl) (fun e => ?_) (fun e => ?_)
      · obtain ⟨l1, l2⟩ := hl true e
        have := ex_sound hm a hd.1 Q _ l2 (h1 e)
        rw [l1] at this
        exact this
      · obtain ⟨l1, l2⟩ := hl false e
        have := ex_sound hm b hd.2 Q _ l2 (h2 e)
        rw [l1] at this
        exact this
    · exact h.elim
  | .block id a, hd, Q, σ, hc, h => by
    simp only [ex] at h
    refine .block ((ex_sound hm a hd _ σ hc h).mono fun e S' ⟨σ', e1, hc', hq⟩ => ?_)
    subst e1
    cases e with
    | exit i =>
      simp only [blockX, exitN] at hq
      simp only [blockQ]
      by_cases e : i = id
      · rw [if_pos e]
        rw [show Nat.beq i id = true from by rw [e]; exact Nat.beq_refl id] at hq
        exact ⟨σ', rfl, hc', hq⟩
      · rw [if_neg e]
        rw [show Nat.beq i id = false from by rw [← Bool.not_eq_true]; exact fun h => e (Nat.eq_of_beq_eq_true h)] at hq
        exact ⟨σ', rfl, hc', hq⟩
    | _ => exact ⟨σ', rfl, hc', hq⟩
  | .region id ops false, hd, Q, σ, hc, h => by
    simp only [ex] at h
    intro K ρ Z a w hS
    refine wp_region ?_
    have := exW_sound hT (Q := fun e S' => ∃ σ', S' = σ'.toSt c ∧ c.Ok σ' ∧ Q e σ') (fun σ' h1 h2 => ⟨σ', rfl, h1, stopK_elim h2⟩) ops.toList 0 σ (by simp) hc h ρ Z a w hS
    rw [List.range_eq_range']
    simpa using this
  | .region id ops true, hd, Q, σ, hc, h => by
    simp only [ex] at h
    split at h
    case h_2 => exact h.elim
    rename_i ps hps
    simp only [drawsB, Bool.and_eq_true, decide_eq_true_eq] at hd
    obtain ⟨hs, hd⟩ := hd
    rw [slotsOkU_eq] at hs
    rw [heapPairsU_eq] at hd
    rw [hd] at hps
    cases hps
    have base : ∀ σ : Sx, (exV Ar.real P c T N (ops.toList.map (strip ops)) σ [] fun σ' is => if (chkX is (heapPairsU ops) && is.all fun x => x.1.all (Nm.inB σ') && x.2.all (Nm.inB σ')) = true then stopK (ops.toList.any fun x => isBuild x.op) σ' (Q .normal) else False) → c.Ok σ →
        Awp P N (.region id ops true) (fun e S' => ∃ σ', S' = σ'.toSt c ∧ c.Ok σ' ∧ Q e σ') (σ.toSt c) := by
      intro σ h hc
      obtain ⟨es, σ', is', tr, hc', hK, hi⟩ := exV_sound hT ops.toList σ [] hc h
      split at hK
      case isFalse => exact hK.elim
      rename_i hchk
      simp only [List.nil_append, Bool.and_eq_true] at hchk
      intro K ρ Z a w hS
      refine wp_drawT hm hs _ rfl hS ⟨es, _, tr, ?_, σ', rfl, hc', stopK_elim hK⟩
      rw [hi]
      rw [heapPairsU_eq] at hchk
      refine chkX_chk hT hc' (fun x hx => ?_) hchk.1
      have := List.all_eq_true.1 hchk.2 x hx
      exact this
    rw [← heapPairsU_eq] at h
    split at h
    · have key : ∀ σ : Sx, FrzN (fun σ0 => exV Ar.real P c T N (ops.toList.map (strip ops)) σ0 [] fun σ' is => if (chkX is (heapPairsU ops) && is.all fun x => x.1.all (Nm.inB σ') && x.2.all (Nm.inB σ')) = true then stopK (ops.toList.any fun x => isBuild x.op) σ' (Q .normal) else False) σ → c.Ok σ →
          Awp P N (.region id ops true) (fun e S' => ∃ σ', S' = σ'.toSt c ∧ c.Ok σ' ∧ Q e σ') (σ.toSt c) := by
        intro σ hf
        induction hf with
        | done h => exact fun hc => base _ h hc
        | frz i ts g1 g2 _ ih =>
          intro hc K ρ Z a w hS
          obtain ⟨Z', h4, h5⟩ := hS.fz hc i ts g1 g2
          refine wp_mono (ih ⟨hc.len, hc.nod, hc.lt⟩ K ρ Z' a w h4) fun e a' w' hp => ?_
          obtain ⟨S', ρ', Z2, q, e0, e1, hs, hx⟩ := hp
          exact ⟨S', ρ', Z2, q, e0, e1, hs, h5.trans hx⟩
        | frzv i t g1 g2 g3 _ ih =>
          intro hc K ρ Z a w hS
          obtain ⟨Z', h4, h5⟩ := hS.fzv hc i t g1 g2 g3
          refine wp_mono (ih ⟨hc.len, hc.nod, hc.lt⟩ K ρ Z' a w h4) fun e a' w' hp => ?_
          obtain ⟨S', ρ', Z2, q, e0, e1, hs, hx⟩ := hp
          exact ⟨S', ρ', Z2, q, e0, e1, hs, h5.trans hx⟩
      exact key σ h hc
    · exact base σ h hc
  | .loop a, hd, Q, σ, hc, h => by
    simp only [ex] at h
    obtain ⟨h⟩ := h
    exact h hc
  | .rangeFunc .., hd, Q, σ, hc, h => by simp only [ex] at h
  | .scope _, hd, Q, σ, hc, h => by simp only [ex] at h
  | .goto _, hd, Q, σ, hc, h => by simp only [ex] at h
  | .refuse _, hd, Q, σ, hc, h => by simp only [ex] at h
end
end Go.Sy

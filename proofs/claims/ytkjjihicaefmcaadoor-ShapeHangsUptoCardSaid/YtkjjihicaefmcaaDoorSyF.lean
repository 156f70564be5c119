/-
  One step of a spelt-out state; regions; code. Plain theorems.
-/
import Derived.Test.YtkjjihicaefmcaaDoorSyE
set_option linter.unusedVariables false
set_option linter.unusedSimpArgs false
set_option linter.unusedSectionVars false
namespace Go.Sy
open Go Go.RowKit
def CRule (P : Program) (f : FuncId) (args : List D) (rd : List (Nat × Ob)) (d : D) (e : Eff) : Prop :=
  ∀ (K : Ctx) (ρ : Env) (Z : Nat → Prop) (H : Heap) (w : World) (vs : List Value), HSat K ρ Z H w → (∀ x ∈ rd, H x.1 = some x.2) → e.fresh ρ.live → RelL ρ w Z args vs →
    Calls P f vs.toArray w fun en w' => ∃ v ρ' Z', en = .returned v ∧ Rel ρ' w' Z' d v ∧ HSat K ρ' Z' (e.app H) w' ∧ Ext ρ Z w ρ' Z' w' ∧ (∀ n, ρ'.live n → e.live ρ.live n)
def touch : Op → Nat
  | .load .. | .lookup .. | .indexAddr .. | .fieldAddr .. => 1
  | .store .. | .alloc .. | .box .. | .buildSlice .. | .makeSlice .. | .makeMap .. | .mapUpdate .. | .mapEntry .. | .entryStore .. | .insert .. | .range .. | .next .. | .entry .. => 2
  | .call c => match c.callee with | .builtin .len => 1 | .builtin .max | .builtin .min => 0 | _ => 2
  | .move _ | .assign _ | .pick .. | .binOp .. | .unOp .. | .convert .. | .makeFunc .. | .field .. | .extract .. | .nilCheck _ | .build .. | .index .. => 0
  | _ => 2
def Found (P : Program) (o : Oper) (S : St) (k : D → List Nat → List (Nat × Ob) → List Ob → Prop) : Prop :=
  ∃ (pre : List (Operand × D)) (rd : List (Nat × Ob)) (d : D) (sets : List (Nat × Ob)) (news : List Ob), ORule P o pre rd d { new := nameNew S.nx news, set := sets } ∧
    (∀ x ∈ pre, evE S.env x.1 = x.2) ∧ (∀ x ∈ rd, S.get x.1 = some x.2) ∧ (∀ x ∈ sets, (∃ y, (x.1, y) ∈ rd) ∧ (x.1 < S.n0 → x.2.nms S.n0)) ∧ k d (rd.map (·.1)) sets news ∧
    (∀ x ∈ pre, x.1 ∈ o.op.operands.toList) ∧ (touch o.op = 0 → rd = [] ∧ sets = [] ∧ news = []) ∧ (touch o.op = 1 → sets = [] ∧ news = [])
theorem Found.stay {P : Program} {o : Oper} {S : St} {k : D → List Nat → List (Nat × Ob) → List Ob → Prop} (pre : List (Operand × D)) (rd : List (Nat × Ob)) (d : D)
    (h : ORule P o pre rd d .none) (h1 : ∀ x ∈ pre, evE S.env x.1 = x.2) (h2 : ∀ x ∈ rd, S.get x.1 = some x.2) (hk : k d (rd.map (·.1)) [] []) (hop : ∀ x ∈ pre, x.1 ∈ o.op.operands.toList) (ht : touch o.op = 0 → rd = []) : Found P o S k :=
  ⟨pre, rd, d, [], [], h, h1, h2, fun x hx => by simp at hx, hk, hop, fun h => ⟨ht h, rfl, rfl⟩, fun _ => ⟨rfl, rfl⟩⟩
def stepBuiltin (P : Program) (b : Builtin) (xs : List Operand) (ts : List TypeId) (S : St) (k : D → List Nat → List (Nat × Ob) → List Ob → Prop) : Prop :=
  match b, xs, ts with
  | .len, [x], [t] =>
    match tyK P t, (evE S.env x).coe with
    | .slice _, .c (.ro n _) => k (.int n) [] [] []
    | .slice _, .own n ver =>
      match S.get n with
      | some (.row ver' _ _ l) => ver = ver' ∧ k (.int l.length) [n] [] []
      | _ => False
    | .str, .c (.v (.string s)) => k (.int s.size) [] [] []
    | .map _ _, .mp n =>
      match S.get n with
      | some (.map _ _ _ es) => k (.int es.length) [n] [] []
      | _ => False
    | _, _ => False
  | .delete, [x, y], [t, _] =>
    match tyK P t, evE S.env x with
    | .map kt _, .mp n =>
      match S.get n with
      | some (.map ver ag m es) =>
        match keyD ag (evE S.env y) with
        | some ky => (keyN P kt = some (ag, m) ∧ ky.length = m ∧ (n < S.n0 → ∀ x ∈ mdel es ky, D.nms S.n0 x.2)) ∧ k (.tup []) [n] [(n, .map (ver + 1) ag m (mdel es ky))] []
        | none => False
      | _ => False
    | _, _ => False
  | .max, [x, y], [_, _] =>
    match evE S.env x, evE S.env y with
    | .c (.v (.int j a)), .c (.v (.int j' b)) => j' = j ∧ k (.v (.int j (max a b))) [] [] []
    | _, _ => False
  | .min, [x, y], [_, _] =>
    match evE S.env x, evE S.env y with
    | .c (.v (.int j a)), .c (.v (.int j' b)) => j' = j ∧ k (.v (.int j (min a b))) [] [] []
    | _, _ => False
  | .append, [s, x], [t, t'] =>
    t = t' ∧
    match tyK P t with
    | .slice e =>
      match tySz P e, tyBytes P e, tyZero P e, (evE S.env x).coe with
      | some sz, some by_, some z, .c (.ro m g) =>
        (z.length = sz ∧ 0 < sz ∧ 0 < by_ ∧ (∀ i, i < m → (g i).length = sz) ∧ (∀ i, i < m → ((g i).map D.c).all D.one = true)) ∧
        match evE S.env s with
        | .own n ver =>
          match S.get n with
          | some (.row ver' e' sz' l) => (ver = ver' ∧ e' = e ∧ sz' = sz ∧ (l.length + m) * by_ ≤ 140737488355328 ∧ (n < S.n0 → ∀ y ∈ l, D.nmsL S.n0 y)) ∧ k (.own n (ver + 1)) [n] [(n, .row (ver + 1) e sz (l ++ rowsOf m g))] []
          | _ => False
        | .c (.v (.slice none 0 0)) => m * by_ ≤ 140737488355328 ∧ k (.own S.nx 1) [] [] [.row 1 e sz (rowsOf m g)]
        | .lit q f => ((q + m) * by_ ≤ 140737488355328 ∧ 0 < m ∧ (∀ i, i < q → (f i).length = sz) ∧ (∀ i, i < q → ((f i).map D.c).all D.one = true)) ∧ k (.own S.nx 1) [] [] [.row 1 e sz (rowsOf q f ++ rowsOf m g)]
        | _ => False
      | _, _, _, _ => False
    | _ => False
  | .copy, [x, y], [t, _] =>
    match tyK P t with
    | .slice e =>
      match tySz P e, evE S.env x, (evE S.env y).coe with
      | some sz, .own n ver, .c (.ro m g) =>
        match S.get n with
        | some (.row ver' e' sz' l) => (ver = ver' ∧ e' = e ∧ sz' = sz ∧ 0 < sz ∧ l.length = m ∧ (∀ i, i < m → (g i).length = sz) ∧ (∀ i, i < m → ((g i).map D.c).all D.one = true)) ∧ k (.int m) [n] [(n, .row ver e sz (rowsOf m g))] []
        | _ => False
      | _, _, _ => False
    | _ => False
  | _, _, _ => False
def CallOk (P : Program) (f : FuncId) (args : List D) (S : St) (k : D → List Nat → List (Nat × Ob) → List Ob → Prop) : Prop :=
  ∃ (rd : List (Nat × Ob)) (d : D) (sets : List (Nat × Ob)) (news : List Ob), CRule P f args rd d { new := nameNew S.nx news, set := sets } ∧ (∃ fn, P.funcs[f]? = some fn ∧ fn.body.isSome = true ∧ (fn.name == "runtime.NumGoroutine") = false) ∧
    (∀ x ∈ rd, S.get x.1 = some x.2) ∧ (∀ x ∈ sets, (∃ y, (x.1, y) ∈ rd) ∧ (x.1 < S.n0 → x.2.nms S.n0)) ∧ k d (rd.map (·.1)) sets news
def stepCall (P : Program) (f : D) (args : List D) (S : St) (k : D → List Nat → List (Nat × Ob) → List Ob → Prop) : Prop :=
  match f with
  | .fn (.func n) first caps => CallOk P n (first ++ args ++ caps) S k
  | _ => False
def cleanL : List D → Option (List C)
  | [] => some []
  | .c x :: l => match cleanL l with | some r => some (x :: r) | none => none
  | _ => none
def litRows : List D → Option (List (List C))
  | [] => some []
  | d :: l => match (d.coe.cells).bind cleanL, litRows l with | some r, some rs => some (r :: rs) | _, _ => none
def litOf (l : List D) : Option (Nat → List C) := (litRows l).map fun rs i => rs.getD i []
def ixOf (env : Nat → D) (dflt : Int) : Option Operand → Option Int
  | none => some dflt
  | some q => match evE env q with | .c (.v (.int .i64 n)) => some n | _ => none
def stepMore (P : Program) (o : Oper) (S : St) (k : D → List Nat → List (Nat × Ob) → List Ob → Prop) : Prop :=
  match o.op with
  | .makeMap t none =>
    match tyK P t with
    | .map kt _ =>
      match keyN P kt with
      | some (ag, m) => k (.mp S.nx) [] [] [.map 0 ag m []]
      | none => False
    | _ => False
  | .lookup t x y ok =>
    match tyK P t, evE S.env x with
    | .map kt et, .mp n =>
      match S.get n with
      | some (.map _ ag m es) =>
        match keyD ag (evE S.env y), zeroD P et with
        | some ky, some z => (keyN P kt = some (ag, m) ∧ ky.length = m) ∧ k (lookD ok (mget es ky) z) [n] [] []
        | _, _ => False
      | _ => False
    | _, _ => False
  | .mapUpdate t x y z =>
    match tyK P t, evE S.env x with
    | .map kt _, .mp n =>
      match S.get n with
      | some (.map ver ag m es) =>
        match keyD ag (evE S.env y) with
        | some ky => (keyN P kt = some (ag, m) ∧ ky.length = m ∧ (n < S.n0 → ∀ x ∈ mput es ky (evE S.env z), D.nms S.n0 x.2)) ∧ k .junk [n] [(n, .map (ver + 1) ag m (mput es ky (evE S.env z)))] []
        | _ => False
      | _ => False
    | _, _ => False
  | .mapEntry t x y =>
    match tyK P t, evE S.env x with
    | .map kt et, .mp n =>
      match S.get n with
      | some (.map ver ag m es) =>
        match keyD ag (evE S.env y), zeroD P et with
        | some ky, some z => (keyN P kt = some (ag, m) ∧ ky.length = m ∧ (n < S.n0 → ∀ x ∈ mput es ky ((mget es ky).getD z), D.nms S.n0 x.2)) ∧
            k (.tup [(mget es ky).getD z, .st n (ver + 1) (mplace es ky)]) [n] [(n, .map (ver + 1) ag m (mput es ky ((mget es ky).getD z)))] []
        | _, _ => False
      | _ => False
    | _, _ => False
  | .entryStore _ x y z =>
    match evE S.env x, evE S.env y with
    | .mp n, .st n' ver' i =>
      match S.get n with
      | some (.map ver ag m es) =>
        match es[i]? with
        | some (ky, _) => (n' = n ∧ ver' = ver ∧ (n < S.n0 → ∀ x ∈ es.set i (ky, evE S.env z), D.nms S.n0 x.2)) ∧ k .junk [n] [(n, .map (ver + 1) ag m (es.set i (ky, evE S.env z)))] []
        | none => False
      | _ => False
    | _, _ => False
  | .range t x =>
    match tyK P t, evE S.env x with
    | .map _ _, .mp n =>
      match S.get n with
      | some (.map ver _ _ _) => k (.ptr S.nx 0) [n] [] [.iter n ver []]
      | _ => False
    | _, _ => False
  | .entry x =>
    match evE S.env x with
    | .ptr q 0 =>
      match S.get q with
      | some (.iter n ver seen) =>
        match S.get n, seen.getLast? with
        | some (.map ver' ag _ es), some i =>
          match es[i]? with
          | some y => ver = ver' ∧ k (.tup [keyOut ag y.1, y.2]) [q, n] [] []
          | none => False
        | _, _ => False
      | _ => False
    | _ => False
  | .index t x y =>
    match tyK P t, evE S.env x, evE S.env y with
    | .arr m e, .agg l, .c (.v (.int _ i)) =>
      match tySz P e with
      | some sz =>
        match loadD (tyK P e) sz l (i.toNat * sz) with
        | some d => (0 ≤ i ∧ i < m) ∧ k d [] [] []
        | none => False
      | none => False
    | _, _, _ => False
  | .field t x f =>
    match tyK P t, evE S.env x with
    | .struct fs, .agg l =>
      match fs[f]? with
      | some (fo, ft) =>
        match tySz P ft with
        | some sz =>
          match loadD (tyK P ft) sz l fo with
          | some d => k d [] [] []
          | none => False
        | none => False
      | none => False
    | _, _ => False
  | .makeSlice t x y =>
    match tyK P t, evE S.env x, evE S.env y with
    | .slice e, .c (.v (.int .i64 a)), .c (.v (.int .i64 b)) =>
      match tySz P e, tyBytes P e, tyZero P e with
      | some sz, some by_, some z => (a = b ∧ 0 ≤ a ∧ z.length = sz ∧ 0 < sz ∧ 0 < by_ ∧ a.toNat * by_ ≤ 140737488355328) ∧ k (.own S.nx 0) [] [] [.row 0 e sz (List.replicate a.toNat z)]
      | _, _, _ => False
    | _, _, _ => False
  | _ => False
def stepOp (P : Program) (o : Oper) (S : St) (k : D → List Nat → List (Nat × Ob) → List Ob → Prop) : Prop :=
  match o.op with
  | .move x => k (evE S.env x) [] [] []
  | .assign x => k (evE S.env x) [] [] []
  | .pick c x y =>
    match evE S.env c with
    | .c (.v (.bool t)) => (t = true → k (evE S.env x) [] [] []) ∧ (t = false → k (evE S.env y) [] [] [])
    | _ => False
  | .alloc t =>
    match tyZero P t with
    | some z => k (.ptr S.nx 0) [] [] [.var z t]
    | none => False
  | .box t x =>
    match (evE S.env x).cells with
    | some l => k (.ptr S.nx 0) [] [] [.var l t]
    | none => False
  | .load t x =>
    match tySz P t with
    | none => False
    | some sz =>
      match evE S.env x with
      | .ptr n off =>
        match S.get n with
        | some (.var cs _) =>
          match loadD (tyK P t) sz cs off with
          | some d => k d [n] [] []
          | none => False
        | _ => False
      | .rp cs off =>
        match loadD (tyK P t) sz (cs.map D.c) off with
        | some d => k d [] [] []
        | none => False
      | .rptr n ver z i off =>
        match S.get n with
        | some (.row ver' _ z' l) =>
          match loadD (tyK P t) sz (l.getD i []) off with
          | some d => (ver = ver' ∧ z = z' ∧ i < l.length) ∧ k d [n] [] []
          | none => False
        | _ => False
      | _ => False
  | .store t x y =>
    match tySz P t with
    | none => False
    | some sz =>
      match evE S.env x with
      | .ptr n off =>
        match S.get n with
        | some (.var cs T) =>
          match (evE S.env y).cells with
          | some l => (l.length = sz ∧ l.all D.one = true ∧ off + sz ≤ cs.length ∧ (n < S.n0 → D.nmsL S.n0 (putD cs off l))) ∧ k .junk [n] [(n, .var (putD cs off l) T)] []
          | none => False
        | _ => False
      | .rptr n ver z i off =>
        match S.get n with
        | some (.row ver' e z' l) =>
          match (evE S.env y).cells with
          | some cs => (ver = ver' ∧ z = z' ∧ i < l.length ∧ cs.length = sz ∧ cs.all D.one = true ∧ off + sz ≤ z ∧ 0 < z ∧ (n < S.n0 → ∀ x ∈ l.set i (putD (l.getD i []) off cs), D.nmsL S.n0 x)) ∧ k .junk [n] [(n, .row ver e z (l.set i (putD (l.getD i []) off cs)))] []
          | none => False
        | _ => False
      | _ => False
  | .nilCheck x =>
    match evE S.env x with
    | .ptr n off => k (.ptr n off) [] [] []
    | .rp cs off => k (.rp cs off) [] [] []
    | _ => False
  | .binOp op t x y _ =>
    match evE S.env x, evE S.env y with
    | .c (.v a), .c (.v b) =>
      match op, a, b with
      | .quo, .int j m, .int j' n => j' = j ∧ n ≠ 0 ∧ k (.v (.int j (j.wrap (m.tdiv n)))) [] [] []
      | .rem, .int j m, .int j' n => j' = j ∧ n ≠ 0 ∧ k (.v (.int j (m.tmod n))) [] [] []
      | .shl, .int j m, .int _ n => 0 ≤ n ∧ k (.v (.int j (j.wrap (m * 2 ^ (min n.toNat j.bits))))) [] [] []
      | .shr, .int j m, .int _ n => 0 ≤ n ∧ k (.v (.int j (m.fdiv (2 ^ (min n.toNat j.bits))))) [] [] []
      | _, .bool _, .bool _ => tyK P t = .bool ∧ (match binV op a b with | some r => k (.v r) [] [] [] | none => False)
      | _, _, _ => match binV op a b with | some r => k (.v r) [] [] [] | none => False
    | .agg a, .agg b =>
      match op, eqA P t a b with
      | .eql, some r => k (.bool r) [] [] []
      | .neq, some r => k (.bool !r) [] [] []
      | _, _ => False
    | .c (.ro n _), .c (.v (.slice none 0 0)) =>
      match tyK P t with
      | .slice _ => (op = .eql ∨ op = .neq) ∧ 0 < n ∧ k (.bool (decide (op = .neq))) [] [] []
      | _ => False
    | _, _ => False
  | .unOp op _ x =>
    match op, evE S.env x with
    | .not, .c (.v (.bool b)) => k (.bool !b) [] [] []
    | .neg, .c (.v (.int j n)) => k (.v (.int j (j.wrap (0 - n)))) [] [] []
    | _, _ => False
  | .convert s t x =>
    match tyK P s, tyK P t, evE S.env x with
    | .int _, .int j, .c (.v (.int _ n)) => k (.v (.int j (j.wrap n))) [] [] []
    | _, _, _ => False
  | .makeFunc f first caps => k (.fn f (first.toList.map (evE S.env)) (caps.toList.map (evE S.env))) [] [] []
  | .fieldAddr t x f =>
    match tyK P t with
    | .struct fs =>
      match fs[f]? with
      | some (fo, ft) =>
        (∃ sz, tySz P ft = some sz ∧ sz ≠ 0) ∧
        match evE S.env x with
        | .ptr n off => k (.ptr n (off + fo)) [] [] []
        | .rp cs off => k (.rp cs (off + fo)) [] [] []
        | .rptr n ver z i off =>
          match S.get n with
          | some (.row ver' _ z' l) => (ver = ver' ∧ z = z' ∧ i < l.length) ∧ k (.rptr n ver z i (off + fo)) [n] [] []
          | _ => False
        | _ => False
      | none => False
    | _ => False
  | .indexAddr t x y =>
    match evE S.env y with
    | .c (.v (.int _ i)) =>
      match tyK P t with
      | .arr m e =>
        match tySz P e with
        | some sz =>
          (0 ≤ i ∧ i < m) ∧
          match evE S.env x with
          | .ptr n off => k (.ptr n (off + i.toNat * sz)) [] [] []
          | .rp cs off => k (.rp cs (off + i.toNat * sz)) [] [] []
          | _ => False
        | none => False
      | .slice e =>
        match (evE S.env x).coe with
        | .c (.ro n f) => (0 ≤ i ∧ i < n) ∧ tySz P e = some (f i.toNat).length ∧ k (.rp (f i.toNat) 0) [] [] []
        | .own n ver =>
          match S.get n with
          | some (.row ver' _ z l) => (ver = ver' ∧ 0 ≤ i ∧ i < l.length) ∧ tySz P e = some z ∧ k (.rptr n ver z i.toNat 0) [n] [] []
          | _ => False
        | _ => False
      | _ => False
    | _ => False
  | .build t parts =>
    match tyK P t with
    | .struct fs =>
      match plc P fs, tyZero P t with
      | some pl, some z =>
        match fillD pl z (parts.toList.map fun p => (p.1, evE S.env p.2)) with
        | some cs => k (.agg cs) [] [] []
        | none => False
      | _, _ => False
    | .arr _ e =>
      match tySz P e, tyZero P t with
      | some sz, some z =>
        match fillA sz z (parts.toList.map fun p => (p.1, evE S.env p.2)) with
        | some cs => k (.agg cs) [] [] []
        | none => False
      | _, _ => False
    | _ => False
  | .buildSlice t 0 parts =>
    match tyK P t with
    | .slice e => (∃ sz, tySz P e = some sz) ∧ parts.toList = [] ∧ k (.lit 0 fun _ => []) [] [] []
    | _ => False
  | .buildSlice t len parts =>
    match tyK P t with
    | .slice e =>
      match tySz P e, tyZero P e, litOf (parts.toList.map fun p => evE S.env p.2) with
      | some sz, some _, some f => (0 < sz ∧ 0 < len ∧ len * sz ≤ 16777216 ∧ parts.toList.map (·.1) = List.range len ∧ (∀ i, i < len → (f i).length = sz)) ∧ k (.lit len f) [] [] []
      | _, _, _ => False
    | _ => False
  | .slice t x lo hi none =>
    match tyK P t, (evE S.env x).coe with
    | .slice e, .c (.ro n f) =>
      match tySz P e, ixOf S.env 0 lo, ixOf S.env n hi with
      | some sz, some l, some h => (0 ≤ l ∧ l ≤ h ∧ h ≤ n ∧ (∀ i, i < n → (f i).length = sz)) ∧ k (.ro (h.toNat - l.toNat) fun i => if i < h.toNat - l.toNat then f (l.toNat + i) else []) [] [] []
      | _, _, _ => False
    | _, _ => False
  | .extract x i =>
    match evE S.env x with
    | .tup l => i < l.length ∧ k (l.getD i .junk) [] [] []
    | _ => False
  | .call c =>
    match c.callee with
    | .builtin b => stepBuiltin P b c.args.toList c.argTypes.toList S k
    | .value f => stepCall P (evE S.env f) (D.coeL (c.args.toList.map (evE S.env))) S k
    | _ => False
  | _ => stepMore P o S k
theorem pre1 {S : St} {x : Operand} {d : D} (h : evE S.env x = d) : ∀ y ∈ [(x, d)], evE S.env y.1 = y.2 := by simpa using h
theorem pre2 {S : St} {x y : Operand} {d e : D} (h : evE S.env x = d) (h' : evE S.env y = e) : ∀ z ∈ [(x, d), (y, e)], evE S.env z.1 = z.2 := by simpa using ⟨h, h'⟩
theorem pre3 {S : St} {x y z : Operand} {d e f : D} (h : evE S.env x = d) (h' : evE S.env y = e) (h'' : evE S.env z = f) : ∀ u ∈ [(x, d), (y, e), (z, f)], evE S.env u.1 = u.2 := by simpa using ⟨h, h', h''⟩
theorem nil_all {α : Type} {p : α → Prop} : ∀ x ∈ ([] : List α), p x := fun _ h => by simp at h
theorem rd1 {S : St} {n : Nat} {o : Ob} (h : S.get n = some o) : ∀ y ∈ [(n, o)], S.get y.1 = some y.2 := by simpa using h
theorem coe_own_inv {d : D} {n v : Nat} (h : d.coe = .own n v) : d = .own n v := by
  unfold D.coe at h
  split at h <;> first | exact h | cases h
theorem coe_mp_inv {d : D} {n : Nat} (h : d.coe = .mp n) : d = .mp n := by
  unfold D.coe at h
  split at h <;> first | exact h | cases h
theorem set1ok {S : St} {n : Nat} {x y : Ob} (h : n < S.n0 → y.nms S.n0) : ∀ z ∈ [(n, y)], (∃ y', (z.1, y') ∈ [(n, x)]) ∧ (z.1 < S.n0 → z.2.nms S.n0) := by
  intro z hz
  simp only [List.mem_singleton] at hz
  subst hz
  exact ⟨⟨x, by simp⟩, h⟩
theorem coe_str_inv {d : D} {s : ByteArray} (h : d.coe = .v (.string s)) : d = .v (.string s) := by
  unfold D.coe at h
  split at h <;> first | exact h | cases h
theorem cleanL_map : ∀ {l : List D} {r : List C}, cleanL l = some r → l = r.map D.c
  | [], r, h => by simp [cleanL] at h; subst h; rfl
  | d :: l, r, h => by
    cases d <;> simp only [cleanL] at h <;> try (cases h; done)
    split at h
    · rename_i r' hr'
      cases h
      rw [cleanL_map hr']
      rfl
    · cases h
theorem litRows_get : ∀ {l : List D} {rs : List (List C)}, litRows l = some rs → ∀ i d, l[i]? = some d → d.coe.cells = some ((rs.getD i []).map D.c)
  | [], rs, _, i, d, hd => by simp at hd
  | x :: l, rs, h, i, d, hd => by
    simp only [litRows] at h
    split at h
    · rename_i r rs' h1 h2
      cases h
      cases i with
      | zero =>
        simp at hd
        subst hd
        obtain ⟨cs, hc, hcl⟩ := Option.bind_eq_some_iff.1 h1
        rw [hc, cleanL_map hcl]
        simp
      | succ i =>
        have := litRows_get h2 i d (by simpa using hd)
        simpa using this
    · cases h
theorem stepBuiltin_sound {P : Program} {o : Oper} {S : St} {c : Call} {b : Builtin} {k : D → List Nat → List (Nat × Ob) → List Ob → Prop} (ho : o.op = .call c) (hc : c.callee = .builtin b) (h : stepBuiltin P b c.args.toList c.argTypes.toList S k) : Found P o S k := by
  obtain ⟨callee, args, ts⟩ := c
  simp only at hc h
  subst hc
  unfold stepBuiltin at h
  split at h
  · rename_i x t hxs hts
    obtain rfl : args = #[x] := by cases args; simp_all
    obtain rfl : ts = #[t] := by cases ts; simp_all
    split at h
    · rename_i ht hx; exact .stay _ _ _ (rule_len_ro hx ho ht) (pre1 rfl) nil_all h (by simp [ho, Op.operands, Call.operands]) (by simp [ho, touch])
    · rename_i n ver ht hx
      split at h
      · rename_i hg
        obtain ⟨rfl, h⟩ := h
        exact .stay _ _ _ (rule_len_own ho ht) (pre1 (coe_own_inv hx)) (rd1 hg) h (by simp [ho, Op.operands, Call.operands]) (by simp [ho, touch])
      · exact h.elim
    · rename_i ht hx; exact .stay _ _ _ (rule_len_str ho ht) (pre1 (coe_str_inv hx)) nil_all h (by simp [ho, Op.operands, Call.operands]) (by simp [ho, touch])
    · rename_i n ht hx
      split at h
      · rename_i hg
        exact .stay _ _ _ (rule_len_map ho ht) (pre1 (coe_mp_inv hx)) (rd1 hg) h (by simp [ho, Op.operands, Call.operands]) (by simp [ho, touch])
      · exact h.elim
    · exact h.elim
  · rename_i x y t t' hxs hts
    obtain rfl : args = #[x, y] := by cases args; simp_all
    obtain rfl : ts = #[t, t'] := by cases ts; simp_all
    split at h
    · rename_i n ht hx
      split at h
      · rename_i hg
        split at h
        · rename_i ky hky
          obtain ⟨⟨a1, a2, a3⟩, h⟩ := h
          exact ⟨_, _, _, _, [], rule_delete ho ht (keyN_KL a1) hky a2, pre2 hx rfl, rd1 hg, set1ok (by simpa [Ob.nms] using a3), h, by simp [ho, Op.operands, Call.operands], by simp [ho, touch], by simp [ho, touch]⟩
        · exact h.elim
      · exact h.elim
    · exact h.elim
  · rename_i x y t t' hxs hts
    obtain rfl : args = #[x, y] := by cases args; simp_all
    obtain rfl : ts = #[t, t'] := by cases ts; simp_all
    split at h
    · rename_i hx hy
      obtain ⟨rfl, h⟩ := h
      exact .stay _ _ _ (rule_max ho) (pre2 hx hy) nil_all h (by simp [ho, Op.operands, Call.operands]) (by simp [ho, touch])
    · exact h.elim
  · rename_i x y t t' hxs hts
    obtain rfl : args = #[x, y] := by cases args; simp_all
    obtain rfl : ts = #[t, t'] := by cases ts; simp_all
    split at h
    · rename_i hx hy
      obtain ⟨rfl, h⟩ := h
      exact .stay _ _ _ (rule_min ho) (pre2 hx hy) nil_all h (by simp [ho, Op.operands, Call.operands]) (by simp [ho, touch])
    · exact h.elim
  · rename_i s x t t' hxs hts
    obtain rfl : args = #[s, x] := by cases args; simp_all
    obtain rfl : ts = #[t, t'] := by cases ts; simp_all
    obtain ⟨rfl, h⟩ := h
    split at h
    · rename_i e ht
      split at h
      · rename_i sz by_ z m g hs hb hz hx
        obtain ⟨⟨a1, a2, a3, a4, a5⟩, h⟩ := h
        split at h
        · rename_i n ver hsv
          split at h
          · rename_i hg
            obtain ⟨⟨rfl, rfl, rfl, b1, b2⟩, h⟩ := h
            refine ⟨_, _, _, _, [], rule_append_own ho ht hs hb hz a1 a2 hx a4 a5 b1 a3, pre2 hsv rfl, rd1 hg, ?_, h, by simp [ho, Op.operands, Call.operands], by simp [ho, touch], by simp [ho, touch]⟩
            intro y hy
            simp only [List.mem_singleton] at hy
            subst hy
            refine ⟨⟨_, by simp; rfl⟩, fun hlt y hy => ?_⟩
            rcases List.mem_append.1 hy with hy | hy
            · exact b2 hlt y hy
            · obtain ⟨i, _, rfl⟩ := List.mem_map.1 hy
              rw [nmsL_iff]
              intro d hd
              obtain ⟨c, _, rfl⟩ := List.mem_map.1 hd
              simp [D.nms]
          · exact h.elim
        · rename_i hsv
          exact ⟨_, [], _, [], _, rule_append_nil ho ht hs hb hz a1 a2 hx a4 a5 h.1 a3, pre2 hsv rfl, nil_all, nil_all, h.2, by simp [ho, Op.operands, Call.operands], by simp [ho, touch], by simp [ho, touch]⟩
        · rename_i q f hsv
          obtain ⟨⟨b1, b2, b3, b4⟩, h⟩ := h
          exact ⟨_, [], _, [], _, rule_append_lit ho ht hs hb hz a1 a2 hx a4 a5 b3 b4 b1 a3 b2, pre2 hsv rfl, nil_all, nil_all, h, by simp [ho, Op.operands, Call.operands], by simp [ho, touch], by simp [ho, touch]⟩
        · exact h.elim
      · exact h.elim
    · exact h.elim
  · rename_i x y t t' hxs hts
    obtain rfl : args = #[x, y] := by cases args; simp_all
    obtain rfl : ts = #[t, t'] := by cases ts; simp_all
    split at h
    · rename_i e ht
      split at h
      · rename_i sz n ver m g hs hx hy
        split at h
        · rename_i hg
          obtain ⟨⟨rfl, rfl, rfl, a1, a2, a3, a4⟩, h⟩ := h
          refine ⟨_, _, _, _, [], rule_copy ho ht hs a1 hy a3 a4 a2, pre2 hx rfl, rd1 hg, set1ok (fun _ => ?_), h, by simp [ho, Op.operands, Call.operands], by simp [ho, touch], by simp [ho, touch]⟩
          intro z hz
          obtain ⟨i, _, rfl⟩ := List.mem_map.1 hz
          rw [nmsL_iff]
          intro d hd
          obtain ⟨u, _, rfl⟩ := List.mem_map.1 hd
          trivial
        · exact h.elim
      · exact h.elim
    · exact h.elim
  · exact h.elim
theorem relL_map {ρ : Env} {w : World} {Z : Nat → Prop} (env : Nat → D) (ev : Operand → Value) : ∀ (l : List Operand), (∀ x ∈ l, Rel ρ w Z (evE env x) (ev x)) → RelL ρ w Z (l.map (evE env)) (l.map ev)
  | [], _ => .nil
  | x :: l, h => .cons (h x (by simp)) (relL_map env ev l (fun y hy => h y (List.mem_cons_of_mem _ hy)))
theorem rule_call {P : Program} {o : Oper} {c : Call} {f : Operand} {n : FuncId} {first caps : List D} {rd : List (Nat × Ob)} {d : D} {e : Eff} (env : Nat → D) (ho : o.op = .call c) (hc : c.callee = .value f)
    (hr : CRule P n (first ++ D.coeL (c.args.toList.map (evE env)) ++ caps) rd d e) (hfn : ∃ fn, P.funcs[n]? = some fn ∧ fn.body.isSome = true ∧ (fn.name == "runtime.NumGoroutine") = false) :
    ORule P o ((f, .fn (.func n) first caps) :: c.args.toList.map fun x => (x, evE env x)) rd d e := by
  intro K N ρ Z S a w Q K' hS hpre hrd hfr hd hK
  have hF : Rel ρ w Z (.fn (.func n) first caps) (a.eval f) := by
    have h1 := hpre (f, .fn (.func n) first caps) (by simp)
    have h2 := hS.ev f
    rw [h1] at h2
    exact h2
  have hA : RelL ρ w Z (c.args.toList.map (evE env)) (c.args.toList.map a.eval) := by
    refine relL_map env a.eval _ (fun x hx => ?_)
    have := hpre (x, evE env x) (List.mem_cons_of_mem _ (List.mem_map.2 ⟨x, hx, rfl⟩))
    simp only at this
    rw [← this]
    exact hS.ev x
  generalize hv : a.eval f = vf at hF
  cases hF with
  | @fn _ _ _ fs vs h1 h2 h3 h4 =>
    have hfs : RelL ρ w Z first fs.toList := ⟨by simpa using h1, fun i hi => by simpa [List.getD_eq_getElem?_getD, Array.getD_eq_getD_getElem?] using h3 i (by simpa using hi)⟩
    have hvs : RelL ρ w Z caps vs.toList := ⟨by simpa using h2, fun i hi => by simpa [List.getD_eq_getElem?_getD, Array.getD_eq_getD_getElem?] using h4 i (by simpa using hi)⟩
    have hcall := hr K ρ Z S.H w _ hS.mem hrd (fun m ob hm hl => hfr m ob hm (hS.live m hl)) ((hfs.append hA.coe).append hvs)
    obtain ⟨fn, hf1, hf2, hf3⟩ := hfn
    have hrun : (execOp a.eval o).run P w = .ok (.enter n (fs.toList ++ c.args.toList.map a.eval ++ vs.toList).toArray) w := by
      have hb : fn.body.isNone = false := by cases hbb : fn.body <;> simp_all
      have harr : (fs ++ c.args.map a.eval ++ vs) = (fs.toList ++ c.args.toList.map a.eval ++ vs.toList).toArray := by
        apply Array.ext'
        simp
      simp only [execOp, ho, resolve, hc, hv, Deferred.ofValue, Sem.run_bind, Sem.run_pure, Result.andThen_ok, invoke, callFunc, program, Sem.run, hf1, hf3, hb, Bool.false_eq_true, if_false, harr]
    unfold Oper.wp
    rw [hrun, Oper.upon_enter]
    refine hcall.mono fun en w' hen => ?_
    obtain ⟨v, ρ', Z', rfl, hrel, hm, hx, hlive⟩ := hen
    refine hK ρ' Z' _ _ (hS.put hd hx hrel hm (fun m hm' => ?_)) hx
    rcases hlive m hm' with h | h
    · exact .inl (hS.live m h)
    · exact .inr h
theorem stepCall_sound {P : Program} {o : Oper} {S : St} {c : Call} {f : Operand} {k : D → List Nat → List (Nat × Ob) → List Ob → Prop} (ho : o.op = .call c) (hc : c.callee = .value f) (h : stepCall P (evE S.env f) (D.coeL (c.args.toList.map (evE S.env))) S k) : Found P o S k := by
  unfold stepCall at h
  split at h
  · rename_i n first caps hf
    obtain ⟨rd, d, sets, news, h1, h2, h3, h4, h5⟩ := h
    refine ⟨_, rd, d, sets, news, rule_call S.env ho hc h1 h2, fun x hx => ?_, h3, h4, h5, fun x hx => ?_, by simp [ho, touch, hc], by simp [ho, touch, hc]⟩
    rcases List.mem_cons.1 hx with rfl | hx
    · exact hf
    · obtain ⟨y, _, rfl⟩ := List.mem_map.1 hx; rfl
    · rw [ho]
      rcases List.mem_cons.1 hx with rfl | hx
      · simp [Op.operands, Call.operands, hc]
      · obtain ⟨y, hy, rfl⟩ := List.mem_map.1 hx; simp [Op.operands, Call.operands]; right; simpa using hy
  · exact h.elim
theorem stepMore_sound {P : Program} {o : Oper} {S : St} {k : D → List Nat → List (Nat × Ob) → List Ob → Prop} (h : stepMore P o S k) : Found P o S k := by
  unfold stepMore at h
  split at h
  case h_1 t ho =>
    split at h
    · split at h
      · exact ⟨[], [], _, [], _, rule_makeMap none rfl ho, nil_all, nil_all, nil_all, h, nil_all, by simp [ho, touch], by simp [ho, touch]⟩
      · exact h.elim
    · exact h.elim
  case h_2 t x y ok ho =>
    split at h
    · rename_i kt et n ht hx
      split at h
      · rename_i hg
        split at h
        · rename_i ky z hky hz
          obtain ⟨⟨a1, a2⟩, h⟩ := h
          exact .stay _ _ _ (rule_lookup ho ht (keyN_KL a1) hky a2 hz) (pre2 hx rfl) (rd1 hg) h (by simp [ho, Op.operands]) (by simp [ho, touch])
        · exact h.elim
      · exact h.elim
    · exact h.elim
  case h_3 t x y z ho =>
    split at h
    · rename_i kt et n ht hx
      split at h
      · rename_i hg
        split at h
        · rename_i ky hky
          obtain ⟨⟨a1, a2, a3⟩, h⟩ := h
          exact ⟨_, _, _, _, [], rule_mapUpdate (dv := evE S.env z) ho ht (keyN_KL a1) hky a2, pre3 hx rfl rfl, rd1 hg, set1ok (by simpa [Ob.nms] using a3), h, by simp [ho, Op.operands], by simp [ho, touch], by simp [ho, touch]⟩
        · exact h.elim
      · exact h.elim
    · exact h.elim
  case h_4 t x y ho =>
    split at h
    · rename_i kt et n ht hx
      split at h
      · rename_i hg
        split at h
        · rename_i ky z hky hz
          obtain ⟨⟨a1, a2, a3⟩, h⟩ := h
          exact ⟨_, _, _, _, [], rule_mapEntry ho ht (keyN_KL a1) hky a2 hz, pre2 hx rfl, rd1 hg, set1ok (by simpa [Ob.nms] using a3), h, by simp [ho, Op.operands], by simp [ho, touch], by simp [ho, touch]⟩
        · exact h.elim
      · exact h.elim
    · exact h.elim
  case h_5 t x y z ho =>
    split at h
    · rename_i n n' ver' i hx hy
      split at h
      · rename_i hg
        split at h
        · rename_i ky d0 hi
          obtain ⟨⟨rfl, rfl, a3⟩, h⟩ := h
          exact ⟨_, _, _, _, [], rule_entryStore (dv := evE S.env z) ho hi, pre3 hx hy rfl, rd1 hg, set1ok (by simpa [Ob.nms] using a3), h, by simp [ho, Op.operands], by simp [ho, touch], by simp [ho, touch]⟩
        · exact h.elim
      · exact h.elim
    · exact h.elim
  case h_6 t x ho =>
    split at h
    · rename_i n ht hx
      split at h
      · rename_i hg
        exact ⟨_, _, _, [], _, rule_range ho ht, pre1 hx, rd1 hg, nil_all, h, by simp [ho, Op.operands], by simp [ho, touch], by simp [ho, touch]⟩
      · exact h.elim
    · exact h.elim
  case h_7 x ho =>
    split at h
    · rename_i q hx
      split at h
      · rename_i n ver seen hq
        split at h
        · rename_i ver' ag m es i hn hl
          split at h
          · rename_i y hy
            obtain ⟨rfl, h⟩ := h
            have hs : seen = seen.dropLast ++ [i] := by
              obtain ⟨h0, h1⟩ := List.getLast?_eq_some_iff.1 hl
              rw [h1]; simp
            rw [hs] at hq
            exact .stay _ _ _ (rule_entry ho hy) (pre1 hx) (by intro z hz; simp only [List.mem_cons, List.not_mem_nil, or_false] at hz; rcases hz with rfl | rfl; exact hq; exact hn) h (by simp [ho, Op.operands]) (by simp [ho, touch])
          · exact h.elim
        · exact h.elim
      · exact h.elim
    · exact h.elim
  case h_8 t x y ho =>
    split at h
    · rename_i m e l kd i ht hx hy
      split at h
      · rename_i sz hs
        split at h
        · rename_i d hd
          obtain ⟨⟨a1, a2⟩, h⟩ := h
          exact .stay _ _ _ (rule_index ho ht hs a1 a2 hd) (pre2 hx hy) nil_all h (by simp [ho, Op.operands]) (by simp [ho, touch])
        · exact h.elim
      · exact h.elim
    · exact h.elim
  case h_9 t x f ho =>
    split at h
    · rename_i fs l ht hx
      split at h
      · rename_i fo ft hf
        split at h
        · rename_i sz hs
          split at h
          · rename_i d hd
            exact .stay _ _ _ (rule_field ho ht hf hs hd) (pre1 hx) nil_all h (by simp [ho, Op.operands]) (by simp [ho, touch])
          · exact h.elim
        · exact h.elim
      · exact h.elim
    · exact h.elim
  case h_10 t x y ho =>
    split at h
    · rename_i e a b ht hx hy
      split at h
      · rename_i sz by_ z hs hb hz
        obtain ⟨⟨rfl, a2, a3, a4, a5, a6⟩, h⟩ := h
        have hr := rule_makeSlice (nm := S.nx) (n := a.toNat) ho ht hs hb hz a3 a4 a6 a5
        rw [Int.toNat_of_nonneg a2] at hr
        exact ⟨_, [], _, [], [_], hr, pre2 hx hy, nil_all, nil_all, h, by simp [ho, Op.operands], by simp [ho, touch], by simp [ho, touch]⟩
      · exact h.elim
    · exact h.elim
  case h_11 => exact h.elim
theorem stepOp_sound {P : Program} {o : Oper} {S : St} {k : D → List Nat → List (Nat × Ob) → List Ob → Prop} (h : stepOp P o S k) : Found P o S k := by
  unfold stepOp at h
  split at h
  case h_1 x ho => exact .stay _ _ _ (rule_move (.inl ho)) (pre1 rfl) nil_all h (by simp [ho, Op.operands]) (by simp [ho, touch])
  case h_2 x ho => exact .stay _ _ _ (rule_move (.inr ho)) (pre1 rfl) nil_all h (by simp [ho, Op.operands]) (by simp [ho, touch])
  case h_3 c x y ho =>
    split at h
    · rename_i t hc
      refine .stay [(c, .bool t), (x, evE S.env x), (y, evE S.env y)] [] _ (rule_pick (t := t) ho) (by simpa using hc) nil_all ?_ (by simp [ho, Op.operands]) (by simp [ho, touch])
      cases t
      · exact h.2 rfl
      · exact h.1 rfl
    · exact h.elim
  case h_4 t ho =>
    split at h
    · rename_i z hz
      exact ⟨[], [], _, [], [.var z t], rule_alloc ho hz, nil_all, nil_all, nil_all, h, nil_all, by simp [ho, touch], by simp [ho, touch]⟩
    · exact h.elim
  case h_5 t x ho =>
    split at h
    · rename_i l hl
      exact ⟨_, [], _, [], [.var l t], rule_box ho hl, pre1 rfl, nil_all, nil_all, h, by simp [ho, Op.operands], by simp [ho, touch], by simp [ho, touch]⟩
    · exact h.elim
  case h_6 t x ho =>
    split at h
    · exact h.elim
    · rename_i sz hs
      split at h
      · rename_i n off hx
        split at h
        · rename_i cs T hg
          split at h
          · rename_i d hd
            exact .stay _ _ _ (rule_load_ptr (T := T) ho hs hd) (pre1 hx) (rd1 hg) h (by simp [ho, Op.operands]) (by simp [ho, touch])
          · exact h.elim
        · exact h.elim
      · rename_i cs off hx
        split at h
        · rename_i d hd
          exact .stay _ _ _ (rule_load_rp ho hs hd) (pre1 hx) nil_all h (by simp [ho, Op.operands]) (by simp [ho, touch])
        · exact h.elim
      · rename_i n ver z i off hx
        split at h
        · rename_i hg
          split at h
          · rename_i d hd
            obtain ⟨⟨rfl, rfl, hi⟩, h⟩ := h
            exact .stay _ _ _ (rule_load_rptr ho hs hi hd) (pre1 hx) (rd1 hg) h (by simp [ho, Op.operands]) (by simp [ho, touch])
          · exact h.elim
        · exact h.elim
      · exact h.elim
  case h_7 t x y ho =>
    split at h
    · exact h.elim
    · rename_i sz hs
      split at h
      · rename_i n off hx
        split at h
        · rename_i cs T hg
          split at h
          · rename_i l hl
            obtain ⟨⟨h1, h2, h3, h4⟩, h5⟩ := h
            exact ⟨_, _, _, _, [], rule_store_ptr (T := T) ho hs hl h1 h2 h3, pre2 hx rfl, rd1 hg, by simpa [Ob.nms] using h4, h5, by simp [ho, Op.operands], by simp [ho, touch], by simp [ho, touch]⟩
          · exact h.elim
        · exact h.elim
      · rename_i n ver z i off hx
        split at h
        · rename_i hg
          split at h
          · rename_i cs hl
            obtain ⟨⟨rfl, rfl, a1, a2, a3, a4, a5, a6⟩, h⟩ := h
            exact ⟨_, _, _, _, [], rule_store_rptr ho hs a1 hl a2 a3 a4 a5, pre2 hx rfl, rd1 hg, set1ok (by simpa [Ob.nms] using a6), h, by simp [ho, Op.operands], by simp [ho, touch], by simp [ho, touch]⟩
          · exact h.elim
        · exact h.elim
      · exact h.elim
  case h_8 x ho =>
    split at h
    · rename_i hx; exact .stay _ _ _ (rule_nilCheck ho trivial) (pre1 hx) nil_all h (by simp [ho, Op.operands]) (by simp [ho, touch])
    · rename_i hx; exact .stay _ _ _ (rule_nilCheck ho trivial) (pre1 hx) nil_all h (by simp [ho, Op.operands]) (by simp [ho, touch])
    · exact h.elim
  case h_9 op t x y t' ho =>
    split at h
    · rename_i a b hx hy
      split at h
      · obtain ⟨rfl, h2, h3⟩ := h
        exact .stay _ _ _ (rule_div ho (.inl rfl) h2) (pre2 hx hy) nil_all (by simpa using h3) (by simp [ho, Op.operands]) (by simp [ho, touch])
      · obtain ⟨rfl, h2, h3⟩ := h
        exact .stay _ _ _ (rule_div ho (.inr rfl) h2) (pre2 hx hy) nil_all (by simpa using h3) (by simp [ho, Op.operands]) (by simp [ho, touch])
      · exact .stay _ _ _ (rule_shift ho (.inl rfl) h.1) (pre2 hx hy) nil_all (by simpa using h.2) (by simp [ho, Op.operands]) (by simp [ho, touch])
      · exact .stay _ _ _ (rule_shift ho (.inr rfl) h.1) (pre2 hx hy) nil_all (by simpa using h.2) (by simp [ho, Op.operands]) (by simp [ho, touch])
      · obtain ⟨ht, h⟩ := h
        split at h
        · rename_i r hr
          exact .stay _ _ _ (rule_bin ho (fun _ => ht) hr) (pre2 hx hy) nil_all h (by simp [ho, Op.operands]) (by simp [ho, touch])
        · exact h.elim
      · split at h
        · rename_i r hr
          refine .stay _ _ _ (rule_bin ho (fun _ => ?_) hr) (pre2 hx hy) nil_all h (by simp [ho, Op.operands]) (by simp [ho, touch])
          split
          · exact (‹∀ (b b_1 : Bool), Value.bool _ = Value.bool b → Value.bool _ = Value.bool b_1 → False› _ _ rfl rfl).elim
          · trivial
        · exact h.elim
    · rename_i a b hx hy
      split at h
      · rename_i r hr
        exact .stay _ _ _ (rule_eq_agg ho (.inl rfl) hr) (pre2 hx hy) nil_all (by simpa using h) (by simp [ho, Op.operands]) (by simp [ho, touch])
      · rename_i r hr
        exact .stay _ _ _ (rule_eq_agg ho (.inr rfl) hr) (pre2 hx hy) nil_all (by simpa using h) (by simp [ho, Op.operands]) (by simp [ho, touch])
      · exact h.elim
    · rename_i n f hx hy
      split at h
      · rename_i e he
        obtain ⟨hop, hn, h⟩ := h
        exact .stay _ _ _ (rule_nil_ro ho hop he hn) (pre2 hx hy) nil_all h (by simp [ho, Op.operands]) (by simp [ho, touch])
      · exact h.elim
    · exact h.elim
  case h_10 op t x ho =>
    split at h
    · rename_i hx; exact .stay _ _ _ (rule_not ho) (pre1 hx) nil_all h (by simp [ho, Op.operands]) (by simp [ho, touch])
    · rename_i hx; exact .stay _ _ _ (rule_neg ho) (pre1 hx) nil_all h (by simp [ho, Op.operands]) (by simp [ho, touch])
    · exact h.elim
  case h_11 s t x ho =>
    split at h
    · rename_i hs ht hx; exact .stay _ _ _ (rule_convert_int ho hs ht) (pre1 hx) nil_all h (by simp [ho, Op.operands]) (by simp [ho, touch])
    · exact h.elim
  case h_12 f first caps ho => exact .stay _ _ _ (rule_makeFunc S.env ho) (fun x hx => by obtain ⟨y, _, rfl⟩ := List.mem_map.1 hx; rfl) nil_all h (fun x hx => by obtain ⟨y, hy, rfl⟩ := List.mem_map.1 hx; simpa [ho, Op.operands] using hy) (by simp [ho, touch])
  case h_13 t x f ho =>
    split at h
    · rename_i fs ht
      split at h
      · rename_i fo ft hf
        obtain ⟨⟨sz, hs, h0⟩, h⟩ := h
        split at h
        · rename_i hx; exact .stay _ _ _ (rule_fieldAddr ho ht hf hs h0) (pre1 hx) nil_all h (by simp [ho, Op.operands]) (by simp [ho, touch])
        · rename_i hx; exact .stay _ _ _ (rule_fieldAddr_rp ho ht hf hs h0) (pre1 hx) nil_all h (by simp [ho, Op.operands]) (by simp [ho, touch])
        · rename_i n ver z i off hx
          split at h
          · rename_i hg
            obtain ⟨⟨rfl, rfl, hi⟩, h⟩ := h
            exact .stay _ _ _ (rule_fieldAddr_rptr ho ht hf hs h0 hi) (pre1 hx) (rd1 hg) h (by simp [ho, Op.operands]) (by simp [ho, touch])
          · exact h.elim
        · exact h.elim
      · exact h.elim
    · exact h.elim
  case h_14 t x y ho =>
    split at h
    · rename_i kd i hy
      split at h
      · rename_i m e ht
        split at h
        · rename_i sz hs
          obtain ⟨⟨h0, h1⟩, h⟩ := h
          split at h
          · rename_i hx; exact .stay _ _ _ (rule_indexAddr_arr ho ht hs h0 h1) (pre2 hx hy) nil_all h (by simp [ho, Op.operands]) (by simp [ho, touch])
          · rename_i hx; exact .stay _ _ _ (rule_indexAddr_arr_rp ho ht hs h0 h1) (pre2 hx hy) nil_all h (by simp [ho, Op.operands]) (by simp [ho, touch])
          · exact h.elim
        · exact h.elim
      · rename_i e ht
        split at h
        · rename_i n f hx
          obtain ⟨⟨h0, h1⟩, hs, h⟩ := h
          exact .stay _ _ _ (rule_indexAddr_ro ho ht hs h0 h1 rfl hx) (pre2 rfl hy) nil_all h (by simp [ho, Op.operands]) (by simp [ho, touch])
        · rename_i n ver hx
          split at h
          · rename_i hg
            obtain ⟨⟨rfl, h0, h1⟩, hs, h⟩ := h
            exact .stay _ _ _ (rule_indexAddr_own ho ht hs h0 h1) (pre2 (coe_own_inv hx) hy) (rd1 hg) h (by simp [ho, Op.operands]) (by simp [ho, touch])
          · exact h.elim
        · exact h.elim
      · exact h.elim
    · exact h.elim
  case h_15 t parts ho =>
    split at h
    · rename_i fs ht
      split at h
      · rename_i pl z hpl hz
        split at h
        · rename_i cs hcs
          exact .stay _ _ _ (rule_build S.env ho ht hpl hz hcs) (fun x hx => by obtain ⟨y, _, rfl⟩ := List.mem_map.1 hx; rfl) nil_all h (fun x hx => by obtain ⟨y, hy, rfl⟩ := List.mem_map.1 hx; simpa [ho, Op.operands] using ⟨y.1, by simpa using hy⟩) (by simp [ho, touch])
        · exact h.elim
      · exact h.elim
    · rename_i m e ht
      split at h
      · rename_i sz z hs hz
        split at h
        · rename_i cs hcs
          exact .stay _ _ _ (rule_build_arr S.env ho ht hs hz hcs) (fun x hx => by obtain ⟨y, _, rfl⟩ := List.mem_map.1 hx; rfl) nil_all h (fun x hx => by obtain ⟨y, hy, rfl⟩ := List.mem_map.1 hx; simpa [ho, Op.operands] using ⟨y.1, by simpa using hy⟩) (by simp [ho, touch])
        · exact h.elim
      · exact h.elim
    · exact h.elim
  case h_16 t parts ho =>
    split at h
    · rename_i e ht
      obtain ⟨⟨sz, hs⟩, hp, h⟩ := h
      exact ⟨[], [], _, [], [], rule_buildSlice0 ho hp ht hs, nil_all, nil_all, nil_all, h, nil_all, fun _ => ⟨rfl, rfl, rfl⟩, fun _ => ⟨rfl, rfl⟩⟩
    · exact h.elim
  case h_17 t len parts _ ho =>
    split at h
    · rename_i e ht
      split at h
      · rename_i sz z f hs hz hf
        obtain ⟨⟨a1, a2, a3, a4, a5⟩, h⟩ := h
        obtain ⟨rs, hrs, rfl⟩ := Option.map_eq_some_iff.1 hf
        refine ⟨_, [], _, [], [], rule_buildSlice S.env ho ht hs hz a1 a2 a3 a4 (fun i x hix => ?_) a5, fun x hx => (by obtain ⟨y, _, rfl⟩ := List.mem_map.1 hx; rfl), nil_all, nil_all, h, fun x hx => (by obtain ⟨y, hy, rfl⟩ := List.mem_map.1 hx; simpa [ho, Op.operands] using ⟨y.1, by simpa using hy⟩), fun _ => ⟨rfl, rfl, rfl⟩, fun _ => ⟨rfl, rfl⟩⟩
        exact litRows_get hrs i _ (by rw [List.getElem?_map, hix]; rfl)
      · exact h.elim
    · exact h.elim
  case h_18 t x lo hi ho =>
    split at h
    · rename_i e n f ht hx
      split at h
      · rename_i sz l hh hs hl hhi
        obtain ⟨⟨a1, a2, a3, a4⟩, h⟩ := h
        have hlo : ∀ q, lo = some q → evE S.env q = D.int l.toNat := fun q hq => by
          subst hq
          simp only [ixOf] at hl
          split at hl
          · rename_i m hm
            cases hl
            rw [hm, Int.toNat_of_nonneg a1]
          · cases hl
        have hhq : ∀ q, hi = some q → evE S.env q = D.int hh.toNat := fun q hq => by
          subst hq
          simp only [ixOf] at hhi
          split at hhi
          · rename_i m hm
            cases hhi
            rw [hm, Int.toNat_of_nonneg (by omega)]
          · cases hhi
        refine ⟨_, [], _, [], [], (rule_slice_ro (l := l.toNat) (h := hh.toNat) ho ht hs hx _ rfl (fun e => ?_) (fun e => ?_) (by omega) (by omega) a4).ext (fun ρ w Z v hr => rel_ro_ext hr fun i hi => (if_pos hi).symm), fun y hy => ?_, nil_all, nil_all, h, fun y hy => ?_, fun _ => ⟨rfl, rfl, rfl⟩, fun _ => ⟨rfl, rfl⟩⟩
        · subst e; simp only [ixOf, Option.some.injEq] at hl; omega
        · subst e; simp only [ixOf, Option.some.injEq] at hhi; omega
        · rcases List.mem_cons.1 hy with rfl | hy
          · rfl
          · rcases List.mem_append.1 hy with hy | hy
            · obtain ⟨q, hq, rfl⟩ := List.mem_map.1 hy
              exact hlo q (by simpa using hq)
            · obtain ⟨q, hq, rfl⟩ := List.mem_map.1 hy
              exact hhq q (by simpa using hq)
        · rw [ho]
          rcases List.mem_cons.1 hy with rfl | hy
          · simp [Op.operands]
          · rcases List.mem_append.1 hy with hy | hy
            · obtain ⟨q, hq, rfl⟩ := List.mem_map.1 hy
              simp at hq
              simp [Op.operands, hq]
            · obtain ⟨q, hq, rfl⟩ := List.mem_map.1 hy
              simp at hq
              simp [Op.operands, hq]
      · exact h.elim
    · exact h.elim
  case h_19 x i ho =>
    split at h
    · rename_i l hx
      exact .stay _ _ _ (rule_extract ho h.1) (pre1 hx) nil_all h.2 (by simp [ho, Op.operands]) (by simp [ho, touch])
    · exact h.elim
  case h_20 c ho =>
    split at h
    · rename_i b hc
      exact stepBuiltin_sound ho hc h
    · rename_i f hc
      exact stepCall_sound ho hc h
    · exact h.elim
  case h_21 => exact stepMore_sound h
end Go.Sy

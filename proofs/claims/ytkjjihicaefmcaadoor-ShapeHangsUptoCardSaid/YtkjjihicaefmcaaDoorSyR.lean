/-
  One operation of a reified state: what it does, and that it does it. Plain theorems.
-/
import Derived.Test.YtkjjihicaefmcaaDoorSyQ
set_option linter.unusedVariables false
set_option linter.unusedSimpArgs false
set_option linter.unusedSectionVars false
namespace Go.Sy
open Go Go.RowKit
inductive NeedP (p x : Prop) : Prop where
  | mk (h : p) (k : x)
abbrev Kx := X → List Nm × List Nm → Sx → Prop
def RR.fits (r : RR) (sz : Nat) : Prop := ∀ row ∈ r.rows, row.length = sz ∧ (row.map D.c).all D.one = true
def fitL (sz : Nat) : List (List X) → Bool
  | [] => true
  | l :: r => decide (l.length = sz) && (l.all fun x => x.clean && x.one) && fitL sz r
def needFits (r : RR) (sz : Nat) (x : Prop) : Prop :=
  match r with
  | .lits l => if fitL sz l = true then x else False
  | r => NeedP (r.fits sz) x
def RR.appR (r : RR) : RR → RR
  | .lits [] => r
  | .lits [a] => .snoc r a
  | .lits [a, b] => .snoc (.snoc r a) b
  | q => .app r q
def subR (o : Ar) : RR → IX → IX → RR
  | .fn _ f, .lit 0, hi => .fn (hi.toN o) f
  | .fn _ f, lo, hi => .fn (o.subN (hi.toN o) (lo.toN o)) fun i => f (o.addN (lo.toN o) i)
  | .lits l, .lit a, .lit b => .lits ((l.take b.toNat).drop a.toNat)
  | r, lo, hi => .sub r (lo.toN o) (o.subN (hi.toN o) (lo.toN o))
def litRowsX : List X → Option (List (List X))
  | [] => some []
  | x :: l => match x.coe.cells, litRowsX l with | some r, some rs => if r.all X.clean then some (r :: rs) else none | _, _ => none
def keyX (ag : Bool) (x : X) : Option (List IX) :=
  match ag, x with
  | false, .i .i64 e => some [e]
  | true, .agg l => l.foldr (fun x r => match x, r with | .i .i64 e, some r => some (e :: r) | _, _ => none) (some [])
  | _, _ => none
def eqKeys (o : Ar) : List IX → List IX → BX
  | [], [] => .t
  | a :: l, b :: r => (a.eqX o b).andX o (eqKeys o l r)
  | _, _ => .f
def getM (o : Ar) : MX → List IX → (Option X → Prop) → Prop
  | .nil, _, K => K none
  | .base es vf _ _ _, k, K => Br (o.mhas es (k.map (IX.vo o))) (K (some (vf (k.map (IX.vo o))))) (K none)
  | .put m k' x, k, K => brX (eqKeys o k' k) (K (some x)) (getM o m k K)
  | .del m k', k, K => brX (eqKeys o k' k) (K none) (getM o m k K)
def X.noNm : X → Bool
  | .i _ _ | .b _ | .v _ | .ro _ | .lit _ | .rp _ _ => true
  | .agg l | .tup l => l.all fun x => match x with | .i _ _ | .b _ | .v _ | .ro _ | .lit _ => true | _ => false
  | _ => false
def MX.ok : MX → Bool
  | .nil | .base _ _ _ _ _ => true
  | .put m _ x => x.noNm && m.ok
  | .del m _ => m.ok
theorem noNm_nms (c : Cx) {x : X} (h : x.noNm = true) (b : Nat) : (x.toD c).nms b := by
  have key : ∀ l : List X, (l.all fun x => match x with | .i _ _ | .b _ | .v _ | .ro _ | .lit _ => true | _ => false) = true → D.nmsL b (X.toDL c l) := by
    intro l
    induction l with
    | nil => intro _; trivial
    | cons a l ih =>
      intro h
      simp only [List.all_cons, Bool.and_eq_true] at h
      refine ⟨?_, ih h.2⟩
      have h1 := h.1
      cases a <;> first | trivial | cases h1
  cases x <;> first | trivial | (cases h; done) | exact key _ h
theorem mem_mput {es : List (List Int × D)} {k : List Int} {d : D} : ∀ {x : List Int × D}, x ∈ mput es k d → x ∈ es ∨ x.2 = d := by
  induction es with
  | nil => intro x hx; simp only [mput, List.mem_singleton] at hx; subst hx; exact .inr rfl
  | cons a es ih =>
    intro x hx
    simp only [mput] at hx
    split at hx
    · rcases List.mem_cons.1 hx with rfl | hx
      · exact .inr rfl
      · exact .inl (List.mem_cons_of_mem _ hx)
    · rcases List.mem_cons.1 hx with rfl | hx
      · exact .inl (List.mem_cons_self)
      · rcases ih hx with h | h
        · exact .inl (List.mem_cons_of_mem _ h)
        · exact .inr h
theorem mem_mdel {es : List (List Int × D)} {k : List Int} : ∀ {x : List Int × D}, x ∈ mdel es k → x ∈ es := by
  induction es with
  | nil => intro x hx; simp [mdel] at hx
  | cons a es ih =>
    intro x hx
    simp only [mdel] at hx
    split at hx
    · exact List.mem_cons_of_mem _ hx
    · rcases List.mem_cons.1 hx with rfl | hx
      · exact List.mem_cons_self
      · exact List.mem_cons_of_mem _ (ih hx)
theorem ok_nms (c : Cx) : ∀ {m : MX}, m.ok = true → ∀ x ∈ m.es c, ∀ b, D.nms b x.2
  | .nil, _, x, hx, b => by simp [MX.es] at hx
  | .base _ _ _ _ hm, _, x, hx, b => hm x hx b
  | .put m k y, h, x, hx, b => by
    simp only [MX.ok, Bool.and_eq_true] at h
    rcases mem_mput hx with h1 | h1
    · exact ok_nms c h.2 x h1 b
    · rw [h1]; exact noNm_nms c h.1 b
  | .del m k, h, x, hx, b => ok_nms c (m := m) h x (mem_mdel hx) b
theorem mput_keys (es : List (List Int × D)) (k : List Int) (d : D) : (mput es k d).map (·.1) = if k ∈ es.map (·.1) then es.map (·.1) else es.map (·.1) ++ [k] := by
  induction es with
  | nil => rfl
  | cons a es ih =>
    simp only [mput]
    by_cases h : a.1 = k
    · simp [h]
    · simp only [h, if_false, List.map_cons, ih, List.mem_cons]
      have h' : ¬ k = a.1 := fun e => h e.symm
      simp only [h', false_or]
      split <;> simp
theorem mdel_sub (es : List (List Int × D)) (k : List Int) : ((mdel es k).map (·.1)).Sublist (es.map (·.1)) := by
  induction es with
  | nil => exact List.Sublist.refl _
  | cons a es ih =>
    simp only [mdel]
    split
    · exact List.Sublist.cons _ (List.Sublist.refl _)
    · exact List.Sublist.cons_cons _ ih
theorem es_nodup (c : Cx) : ∀ m : MX, ((m.es c).map (·.1)).Nodup
  | .nil => by simp [MX.es]
  | .base _ _ _ hn _ => hn
  | .put m k x => by
    simp only [MX.es, mput_keys]
    have ih := es_nodup c m
    split
    · exact ih
    · rename_i h
      rw [List.nodup_append]
      exact ⟨ih, by simp, by intro a ha b hb; simp at hb; subst hb; exact fun e => h (e ▸ ha)⟩
  | .del m k => (mdel_sub _ _).nodup (es_nodup c m)
theorem mget_put (es : List (List Int × D)) (k k' : List Int) (d : D) : mget (mput es k d) k' = if k = k' then some d else mget es k' := by
  induction es with
  | nil => rfl
  | cons a es ih =>
    simp only [mput]
    by_cases h : a.1 = k
    · simp only [h, if_true, mget]
      by_cases h2 : k = k' <;> simp [h2]
    · simp only [h, if_false, mget, ih]
      by_cases h2 : a.1 = k'
      · have : ¬ k = k' := fun e => h (h2.trans e.symm)
        simp [h2, this]
      · simp [h2]
theorem mget_none {es : List (List Int × D)} {k : List Int} (h : k ∉ es.map (·.1)) : mget es k = none := by
  induction es with
  | nil => rfl
  | cons a es ih =>
    simp only [List.map_cons, List.mem_cons, not_or] at h
    simp only [mget]
    rw [if_neg (fun e => h.1 e.symm), ih h.2]
theorem mget_del (es : List (List Int × D)) (k k' : List Int) (hn : (es.map (·.1)).Nodup) : mget (mdel es k) k' = if k = k' then none else mget es k' := by
  induction es with
  | nil => simp [mdel, mget]
  | cons a es ih =>
    simp only [List.map_cons, List.nodup_cons] at hn
    simp only [mdel]
    by_cases h : a.1 = k
    · simp only [h, if_true, mget]
      by_cases h2 : k = k'
      · subst h2
        simp only [if_true]
        exact mget_none (h ▸ hn.1)
      · simp [h2]
    · simp only [h, if_false, mget, ih hn.2]
      by_cases h2 : a.1 = k'
      · have : ¬ k = k' := fun e => h (h2.trans e.symm)
        simp [h2, this]
      · simp [h2]
theorem eqKeys_real : ∀ a b : List IX, (eqKeys Ar.real a b).val = decide (a.map IX.val = b.map IX.val)
  | [], [] => rfl
  | [], b :: r => by simp [eqKeys, BX.val]
  | a :: l, [] => by simp [eqKeys, BX.val]
  | a :: l, b :: r => by
    simp only [eqKeys, andX_real, eqX_real, eqKeys_real l r, List.map_cons, List.cons.injEq]
    rw [Bool.eq_iff_iff]
    simp
theorem map_vo (l : List IX) : l.map (IX.vo Ar.real) = l.map IX.val := List.map_congr_left fun x _ => vo_real x
theorem getM_real (c : Cx) {K : Option X → Prop} : ∀ (m : MX) (k : List IX), getM Ar.real m k K → ∃ r, K r ∧ mget (m.es c) (k.map IX.val) = r.map (X.toD c)
  | .nil, k, h => ⟨none, h, rfl⟩
  | .base es vf hv hn hm, k, h => by
    obtain ⟨h1, h2⟩ := h
    rw [map_vo, real_mhas] at h1 h2
    simp only [MX.es]
    cases hg : mget es (k.map IX.val) with
    | none => exact ⟨none, h2 (by rw [hg]; rfl), rfl⟩
    | some d => exact ⟨some _, h1 (by rw [hg]; rfl), by rw [Option.map_some, ← hv c _ _ hg]⟩
  | .put m k' x, k, h => by
    obtain ⟨h1, h2⟩ := brX_elim h
    rw [eqKeys_real] at h1 h2
    simp only [MX.es, mget_put]
    by_cases e : k'.map IX.val = k.map IX.val
    · rw [if_pos e]
      exact ⟨some x, h1 (by simpa using e), rfl⟩
    · rw [if_neg e]
      exact getM_real c m k (h2 (by simpa using e))
  | .del m k', k, h => by
    obtain ⟨h1, h2⟩ := brX_elim h
    rw [eqKeys_real] at h1 h2
    simp only [MX.es, mget_del _ _ _ (es_nodup c m)]
    by_cases e : k'.map IX.val = k.map IX.val
    · rw [if_pos e]
      exact ⟨none, h1 (by simpa using e), rfl⟩
    · rw [if_neg e]
      exact getM_real c m k (h2 (by simpa using e))
inductive CallN (P : Program) (c : Cx) (f : FuncId) (args : List X) (σ : Sx) (k : Kx) : Prop where
  | mk (h : c.Ok σ → CallOk P f (X.toDL c args) (σ.toSt c) fun d rd sets news => ∃ x inf σ', k x inf σ' ∧ d = x.toD c ∧ (∀ d', (σ.toSt c).after none d' sets news = σ'.toSt c) ∧ c.Ok σ' ∧ rd = inf.1.map (Nm.at c) ∧ sets.map (·.1) ++ (nameNew (σ.toSt c).nx news).map (·.1) = inf.2.map (Nm.at c))
def plcX (T : List (TypeId × TI)) : List (Nat × TypeId) → Option (List (Nat × Nat))
  | [] => some []
  | (o, t) :: l => match tiL T t, plcX T l with | some i, some r => some ((o, i.sz) :: r) | _, _ => none
def fillX (pl : List (Nat × Nat)) : List X → List (Nat × X) → Option (List X)
  | cs, [] => some cs
  | cs, (i, x) :: rest =>
    match pl[i]?, x.cells with
    | some (off, sz), some l => if l.length = sz ∧ off + sz ≤ cs.length then fillX pl (putX cs off l) rest else none
    | _, _ => none
def fillAX (sz : Nat) : List X → List (Nat × X) → Option (List X)
  | cs, [] => some cs
  | cs, (i, x) :: rest =>
    match x.cells with
    | some l => if l.length = sz ∧ i * sz + sz ≤ cs.length then fillAX sz (putX cs (i * sz) l) rest else none
    | _ => none
def leafX (o : Ar) : LK → X → X → Option BX
  | .int, .i k a, .i k' b => if k = k' then some (a.eqX o b) else none
  | .bool, .b a, .b b => some (match a, b with | .t, x => x | .f, x => x.notX o | x, .t => x | x, .f => x.notX o | .s a, .s b => .s (o.eqB a b))
  | .str, .v (.string a), .v (.string b) => some (.s (o.eqS a b))
  | _, _, _ => none
def eqCX (o : Ar) : List LK → List X → List X → Option BX
  | [], [], [] => some .t
  | k :: ks, x :: xs, y :: ys => match leafX o k x y, eqCX o ks xs ys with | some r, some s => some (r.andX o s) | _, _ => none
  | _, _, _ => none
def intsX : List X → Option (List IX)
  | [] => some []
  | .i .i64 e :: l => match intsX l with | some r => some (e :: r) | none => none
  | _ => none
def selX (o : Ar) (cs : List X) (off m : Nat) (i : IX) : Option X :=
  if off + m ≤ cs.length then (intsX ((cs.drop off).take m)).map fun l => .i .i64 (.s (o.sel (i.vo o) (l.map (IX.vo o)))) else none
def updXL (o : Ar) (i : IX) (y : IX) : Nat → List X → Option (List X)
  | _, [] => some []
  | n, a :: l => match a, updXL o i y (n + 1) l with | .i .i64 e, some r => some (.i .i64 (.s (o.ite (i.vo o) n (y.vo o) (e.vo o))) :: r) | _, _ => none
def ixX (E : List (Nat × X)) (dflt : IX) : Option Operand → Option IX
  | none => some dflt
  | some q => match evX E q with | .i .i64 e => some e | _ => none
def exBuiltin (o : Ar) (T : List (TypeId × TI)) (b : Builtin) (xs : List Operand) (ts : List TypeId) (σ : Sx) (k : Kx) : Prop :=
  match b, xs, ts with
  | .len, [x], [t] =>
    match tiL T t with
    | some ti =>
      match ti.k, (evX σ.E x).coe with
      | .slice _, .ro r => k (.i .i64 (r.lenI o)) ([], []) σ
      | .slice _, .own n ver =>
        match σ.get n with
        | some (.row ver' _ _ r) => NeedT (o.eqN ver ver') (k (.i .i64 (r.lenI o)) ([n], []) σ)
        | _ => False
      | .str, .v (.string s) => k (.i .i64 (.nat (o.size s))) ([], []) σ
      | .map _ _, .mp n =>
        match σ.get n with
        | some (.map _ _ _ (.base es _ _ _ _)) => k (.i .i64 (.nat (o.len es))) ([n], []) σ
        | some (.map _ _ _ .nil) => k (.i .i64 (.lit 0)) ([n], []) σ
        | _ => False
      | _, _ => False
    | none => False
  | .delete, [x, y], [t, _] =>
    match tiL T t with
    | some ti =>
      match ti.k, evX σ.E x with
      | .map kt _, .mp n =>
        match tiL T kt, σ.get n with
        | some ki, some (.map ver ag m es) =>
          match keyX ag (evX σ.E y) with
          | some ky => if ki.key = some (ag, m) ∧ ky.length = m ∧ es.ok = true then k (.tup []) ([n], [n]) (σ.set n (.map (ver + 1) ag m (.del es ky))) else False
          | none => False
        | _, _ => False
      | _, _ => False
    | none => False
  | .max, [x, y], [_, _] =>
    match evX σ.E x, evX σ.E y with
    | .i j a, .i j' b => if j' = j then k (.i j (match a, b with | .lit a, .lit b => .lit (max a b) | a, b => .s (o.mx (a.vo o) (b.vo o)))) ([], []) σ else False
    | _, _ => False
  | .min, [x, y], [_, _] =>
    match evX σ.E x, evX σ.E y with
    | .i j a, .i j' b => if j' = j then k (.i j (match a, b with | .lit a, .lit b => .lit (min a b) | a, b => .s (o.mn (a.vo o) (b.vo o)))) ([], []) σ else False
    | _, _ => False
  | .append, [s, x], [t, t'] =>
    match tiL T t with
    | some ti =>
      match ti.k, (evX σ.E x).coe with
      | .slice e, .ro q =>
        match tiL T e with
        | some ei =>
          if t = t' ∧ ei.zero.map List.length = some ei.sz ∧ 0 < ei.sz ∧ 0 < ei.by_ then
            needFits q ei.sz <|
            match evX σ.E s with
            | .own n ver =>
              match σ.get n with
              | some (.row ver' e' sz' r) =>
                if e' = e ∧ sz' = ei.sz then
                  NeedT (o.eqN ver ver') (NeedT (o.le (o.mul (o.add ((r.lenI o).vo o) ((q.lenI o).vo o)) ei.by_) 140737488355328)
                    (k (.own n (ver + 1)) ([n], [n]) (σ.set n (.row (ver + 1) e ei.sz (r.appR q)))))
                else False
              | _ => False
            | .v (.slice none 0 0) => NeedT (o.le (o.mul ((q.lenI o).vo o) ei.by_) 140737488355328) (k (.own (.loc σ.L.length) 1) ([], [.loc σ.L.length]) (σ.new (.row 1 e ei.sz q)))
            | .lit r => needFits r ei.sz (NeedT (o.lt 0 ((q.lenI o).vo o)) (NeedT (o.le (o.mul (o.add ((r.lenI o).vo o) ((q.lenI o).vo o)) ei.by_) 140737488355328)
                (k (.own (.loc σ.L.length) 1) ([], [.loc σ.L.length]) (σ.new (.row 1 e ei.sz (r.appR q))))))
            | _ => False
          else False
        | none => False
      | _, _ => False
    | none => False
  | .copy, [x, y], [t, _] =>
    match tiL T t with
    | some ti =>
      match ti.k with
      | .slice e =>
        match tiL T e, evX σ.E x, (evX σ.E y).coe with
        | some ei, .own n ver, .ro q =>
          match σ.get n with
          | some (.row ver' e' sz' r) =>
            if e' = e ∧ sz' = ei.sz ∧ 0 < ei.sz then
              needFits q ei.sz (NeedT (o.eqN ver ver') (NeedT (o.eqN ((r.lenI o).toN o) ((q.lenI o).toN o)) (k (.i .i64 (q.lenI o)) ([n], [n]) (σ.set n (.row ver e ei.sz q)))))
            else False
          | _ => False
        | _, _, _ => False
      | _ => False
    | none => False
  | _, _, _ => False
def keyXO (ag : Bool) (ky : List Int) : X := if ag then .agg (ky.map fun a => .i .i64 (.s a)) else .i .i64 (.s (ky.headD 0))
inductive NextN (es : List (List Int × D)) (seen : List Nat) (fin : Prop) (step : Nat → List Int → Prop) : Prop where
  | mk (h1 : ∀ i ∈ seen, i < es.length) (h2 : (∀ i, i < es.length → i ∈ seen) → fin) (h3 : ∀ i ky d, es[i]? = some (ky, d) → i ∉ seen → step i ky)
def exMore (o : Ar) (T : List (TypeId × TI)) (op : Op) (σ : Sx) (k : Kx) : Prop :=
  match op with
  | .makeMap t none =>
    match tiL T t with
    | some ti =>
      match ti.k with
      | .map kt _ =>
        match tiL T kt with
        | some ki =>
          match ki.key with
          | some (ag, m) => k (.mp (.loc σ.L.length)) ([], [.loc σ.L.length]) (σ.new (.map 0 ag m .nil))
          | none => False
        | none => False
      | _ => False
    | none => False
  | .lookup t x y ok =>
    match tiL T t with
    | some ti =>
      match ti.k, evX σ.E x with
      | .map kt et, .mp n =>
        match tiL T kt, tiL T et, σ.get n with
        | some ki, some ei, some (.map _ ag m es) =>
          match keyX ag (evX σ.E y), ei.zd with
          | some ky, some z =>
            if ki.key = some (ag, m) ∧ ky.length = m then
              getM o es ky fun r => k (match ok, r with | true, some x => .tup [x, .b .t] | true, none => .tup [z, .b .f] | false, some x => x | false, none => z) ([n], []) σ
            else False
          | _, _ => False
        | _, _, _ => False
      | _, _ => False
    | none => False
  | .mapUpdate t x y z =>
    match tiL T t with
    | some ti =>
      match ti.k, evX σ.E x with
      | .map kt _, .mp n =>
        match tiL T kt, σ.get n with
        | some ki, some (.map ver ag m es) =>
          match keyX ag (evX σ.E y) with
          | some ky => if ki.key = some (ag, m) ∧ ky.length = m ∧ (evX σ.E z).noNm = true ∧ es.ok = true then k .junk ([n], [n]) (σ.set n (.map (ver + 1) ag m (.put es ky (evX σ.E z)))) else False
          | none => False
        | _, _ => False
      | _, _ => False
    | none => False
  | .mapEntry t x y =>
    match tiL T t with
    | some ti =>
      match ti.k, evX σ.E x with
      | .map kt et, .mp n =>
        match tiL T kt, tiL T et, σ.get n with
        | some ki, some ei, some (.map ver ag m es) =>
          match keyX ag (evX σ.E y), ei.zd, es with
          | some ky, some z, .base es' vf h1 h2 h3 =>
            if ki.key = some (ag, m) ∧ ky.length = m ∧ z.noNm = true then
              getM o es ky fun r => k (.tup [r.getD z, .st n (ver + 1) (o.place es' (ky.map (IX.vo o)))]) ([n], [n]) (σ.set n (.map (ver + 1) ag m (.put (.base es' vf h1 h2 h3) ky (r.getD z))))
            else False
          | _, _, _ => False
        | _, _, _ => False
      | _, _ => False
    | none => False
  | .entryStore _ x y z =>
    match evX σ.E x, evX σ.E y with
    | .mp n, .st (.loc n') ver' i =>
      match n with
      | .loc nn =>
        match σ.get n with
        | some (.map ver ag m (.put (.base es' vf h1 h2 h3) ky _)) =>
          if n' = nn ∧ (evX σ.E z).noNm = true then
            NeedT (o.eqN ver' ver) (NeedT (o.eqN i (o.place es' (ky.map (IX.vo o)))) (k .junk ([n], [n]) (σ.set n (.map (ver + 1) ag m (.put (.base es' vf h1 h2 h3) ky (evX σ.E z))))))
          else False
        | _ => False
      | .out _ => False
    | .mp n, .st (.out n') ver' i =>
      match n with
      | .out nn =>
        match σ.get n with
        | some (.map ver ag m (.put (.base es' vf h1 h2 h3) ky _)) =>
          if n' = nn ∧ (evX σ.E z).noNm = true then
            NeedT (o.eqN ver' ver) (NeedT (o.eqN i (o.place es' (ky.map (IX.vo o)))) (k .junk ([n], [n]) (σ.set n (.map (ver + 1) ag m (.put (.base es' vf h1 h2 h3) ky (evX σ.E z))))))
          else False
        | _ => False
      | .loc _ => False
    | _, _ => False
  | .range t x =>
    match tiL T t with
    | some ti =>
      match ti.k, evX σ.E x with
      | .map _ _, .mp n =>
        match σ.get n with
        | some (.map ver _ _ _) => k (.ptr (.loc σ.L.length) 0) ([n], [.loc σ.L.length]) (σ.new (.iter n ver [] none))
        | _ => False
      | _, _ => False
    | none => False
  | .entry x =>
    match evX σ.E x with
    | .ptr q 0 =>
      match σ.get q with
      | some (.iter n ver _ (some (i, ky))) =>
        match σ.get n with
        | some (.map ver' ag _ (.base es vf _ _ _)) => NeedT (o.eqN ver ver') (NeedP (∃ d, es[i]? = some (ky, d)) (k (.tup [keyXO ag ky, vf ky]) ([q, n], []) σ))
        | _ => False
      | _ => False
    | _ => False
  | .index t x y =>
    match tiL T t, evX σ.E x, evX σ.E y with
    | some ti, .agg cs, .i _ i =>
      match ti.k with
      | .arr m e =>
        match tiL T e with
        | some ei =>
          match i with
          | .lit n => if 0 ≤ n ∧ n < m then (match loadX ei.k ei.sz cs (n.toNat * ei.sz) with | some x => k x ([], []) σ | none => False) else False
          | i =>
            match ei.k, ei.sz with
            | .int .i64, 1 =>
              match selX o cs 0 m i with
              | some x => NeedT (o.inB (i.vo o) m) (k x ([], []) σ)
              | none => False
            | _, _ => False
        | none => False
      | _ => False
    | _, _, _ => False
  | .field t x f =>
    match tiL T t, evX σ.E x with
    | some ti, .agg cs =>
      match ti.k with
      | .struct fs =>
        match fs[f]? with
        | some (fo, ft) =>
          match tiL T ft with
          | some fi =>
            match loadX fi.k fi.sz cs fo with
            | some x => k x ([], []) σ
            | none => False
          | none => False
        | none => False
      | _ => False
    | _, _ => False
  | .makeSlice t x y =>
    match tiL T t, evX σ.E x, evX σ.E y with
    | some ti, .i .i64 a, .i .i64 b =>
      match ti.k with
      | .slice e =>
        match tiL T e with
        | some ei =>
          match ei.zero with
          | some z =>
            if z.length = ei.sz ∧ 0 < ei.sz ∧ 0 < ei.by_ ∧ z.all X.clean = true then
              NeedT (o.eq (a.vo o) (b.vo o)) (NeedT (o.le 0 (a.vo o)) (NeedT (o.le (o.mul (a.vo o) ei.by_) 140737488355328) (k (.own (.loc σ.L.length) 0) ([], [.loc σ.L.length]) (σ.new (.row 0 e ei.sz (.fn (a.toN o) fun _ => z))))))
            else False
          | none => False
        | none => False
      | _ => False
    | _, _, _ => False
  | _ => False
def X.outy (m : Nat) (x : X) : Bool := x.noNm || match x with | .mp (.out q) => decide (q < m) | .ptr (.out q) _ => decide (q < m) | .own (.out q) _ => decide (q < m) | _ => false
def outOk (n : Nm) (b : Bool) : Bool := match n with | .loc _ => true | .out _ => b
def litI : IX → Option Nat
  | .lit n => if 0 ≤ n then some n.toNat else none
  | _ => none
def exOp (o : Ar) (P : Program) (c : Cx) (T : List (TypeId × TI)) (op : Op) (σ : Sx) (k : Kx) : Prop :=
  match op with
  | .move x => k (evX σ.E x) ([], []) σ
  | .assign x => k (evX σ.E x) ([], []) σ
  | .pick q x y =>
    match evX σ.E q with
    | .b e => brX e (k (evX σ.E x) ([], []) σ) (k (evX σ.E y) ([], []) σ)
    | _ => False
  | .alloc t =>
    match tiL T t with
    | some ti =>
      match ti.zero with
      | some z => k (.ptr (.loc σ.L.length) 0) ([], [.loc σ.L.length]) (σ.new (.var z t))
      | none => False
    | none => False
  | .box t x =>
    match (evX σ.E x).cells with
    | some l => k (.ptr (.loc σ.L.length) 0) ([], [.loc σ.L.length]) (σ.new (.var l t))
    | none => False
  | .load t x =>
    match tiL T t with
    | none => False
    | some ti =>
      match evX σ.E x with
      | .ptr n off =>
        match σ.get n with
        | some (.var cs _) =>
          match loadX ti.k ti.sz cs off with
          | some x => k x ([n], []) σ
          | none => False
        | _ => False
      | .pix n off m i =>
        match σ.get n, ti.k, ti.sz with
        | some (.var cs _), .int .i64, 1 =>
          match selX o cs off m i with
          | some x => NeedT (o.inB (i.vo o) m) (k x ([n], []) σ)
          | none => False
        | _, _, _ => False
      | .rpix cs off m i =>
        match ti.k, ti.sz with
        | .int .i64, 1 =>
          match selX o cs off m i with
          | some x => NeedT (o.inB (i.vo o) m) (k x ([], []) σ)
          | none => False
        | _, _ => False
      | .rp cs off =>
        match loadX ti.k ti.sz cs off with
        | some x => if ((cs.drop off).take ti.sz).all X.clean ∧ 0 < ti.sz then k x ([], []) σ else False
        | none => False
      | .rptr n ver z i off =>
        match σ.get n with
        | some (.row ver' _ z' r) =>
          if z = z' ∧ 0 < ti.sz then
            NeedT (o.eqN ver ver') (NeedT (o.inB (i.vo o) ((r.lenI o).toN o)) (getK o r i fun cs =>
              match loadX ti.k ti.sz cs off with
              | some x => if ((cs.drop off).take ti.sz).all X.clean then k x ([n], []) σ else False
              | none => False))
          else False
        | _ => False
      | _ => False
  | .store t x y =>
    match tiL T t with
    | none => False
    | some ti =>
      match evX σ.E x, (evX σ.E y).cells with
      | .ptr n off, some l =>
        match σ.get n with
        | some (.var cs T') => if l.length = ti.sz ∧ l.all X.one = true ∧ off + ti.sz ≤ cs.length ∧ outOk n ((l.all (X.outy σ.O.length)) && (cs.all (X.outy σ.O.length))) = true then k .junk ([n], [n]) (σ.set n (.var (putX cs off l) T')) else False
        | _ => False
      | .pix n off m i, some [.i .i64 y] =>
        match σ.get n with
        | some (.var cs T') =>
          match updXL o i y 0 ((cs.drop off).take m) with
          | some l => if ti.sz = 1 ∧ off + m ≤ cs.length ∧ outOk n (cs.all (X.outy σ.O.length)) = true then NeedT (o.inB (i.vo o) m) (k .junk ([n], [n]) (σ.set n (.var (putX cs off l) T'))) else False
          | none => False
        | _ => False
      | .rptr n ver z i off, some l =>
        match σ.get n with
        | some (.row ver' e z' r) =>
          if z = z' ∧ l.length = ti.sz ∧ (l.all fun x => x.clean && x.one) = true ∧ off + ti.sz ≤ z ∧ 0 < z then
            NeedT (o.eqN ver ver') (NeedT (o.inB (i.vo o) ((r.lenI o).toN o)) (
              getK o r i fun cs => if cs.length = z then k .junk ([n], [n]) (σ.set n (.row ver e z (.set r i (putX cs off l)))) else False))
          else False
        | _ => False
      | _, _ => False
  | .nilCheck x =>
    match evX σ.E x with
    | .ptr n off => k (.ptr n off) ([], []) σ
    | .rp cs off => k (.rp cs off) ([], []) σ
    | _ => False
  | .binOp op t x y _ =>
    match evX σ.E x, evX σ.E y with
    | .i j a, .i j' b =>
      if j' = j then
        match op with
        | .quo => match b with
          | .lit n => if n = 0 then False else k (.i j (match a with | .lit m => .lit (j.wrap (m.tdiv n)) | a => .s (o.wrap j (o.quo (a.vo o) n)))) ([], []) σ
          | b => NeedT (o.not (o.eq (b.vo o) 0)) (k (.i j (.s (o.wrap j (o.quo (a.vo o) (b.vo o))))) ([], []) σ)
        | .rem => match b with
          | .lit n => if n = 0 then False else k (.i j (match a with | .lit m => .lit (m.tmod n) | a => .s (o.rem (a.vo o) n))) ([], []) σ
          | b => NeedT (o.not (o.eq (b.vo o) 0)) (k (.i j (.s (o.rem (a.vo o) (b.vo o)))) ([], []) σ)
        | _ => match binX o op j a b with
          | some r => k r ([], []) σ
          | none => match op with
            | .shl => NeedT (o.le 0 (b.vo o)) (k (.i j (.s (o.wrap j (o.shl j (a.vo o) (b.vo o))))) ([], []) σ)
            | .shr => NeedT (o.le 0 (b.vo o)) (k (.i j (.s (o.shr j (a.vo o) (b.vo o)))) ([], []) σ)
            | _ => False
      else
        match op with
        | .shl => NeedT (o.le 0 (b.vo o)) (k (.i j (.s (o.wrap j (o.shl j (a.vo o) (b.vo o))))) ([], []) σ)
        | .shr => NeedT (o.le 0 (b.vo o)) (k (.i j (.s (o.shr j (a.vo o) (b.vo o)))) ([], []) σ)
        | _ => False
    | .b a, .b b =>
      match tiL T t with
      | some ti =>
        match ti.k, op, leafX o .bool (.b a) (.b b) with
        | .bool, .eql, some r => k (.b r) ([], []) σ
        | .bool, .neq, some r => k (.b (r.notX o)) ([], []) σ
        | _, _, _ => False
      | none => False
    | .v (.string a), .v (.string b) =>
      match op with
      | .eql => k (.b (.s (o.eqS a b))) ([], []) σ
      | .neq => k (.b (.s (o.not (o.eqS a b)))) ([], []) σ
      | _ => False
    | .agg a, .agg b =>
      match tiL T t with
      | some ti =>
        match ti.flat with
        | some ks =>
          match op, eqCX o ks a b with
          | .eql, some r => k (.b r) ([], []) σ
          | .neq, some r => k (.b (r.notX o)) ([], []) σ
          | _, _ => False
        | none => False
      | none => False
    | .ro r, .v (.slice none 0 0) =>
      match tiL T t with
      | some ti =>
        match ti.k, op with
        | .slice _, .eql => NeedT (o.lt 0 ((r.lenI o).vo o)) (k (.b .f) ([], []) σ)
        | .slice _, .neq => NeedT (o.lt 0 ((r.lenI o).vo o)) (k (.b .t) ([], []) σ)
        | _, _ => False
      | none => False
    | _, _ => False
  | .unOp op _ x =>
    match op, evX σ.E x with
    | .not, .b e => k (.b (e.notX o)) ([], []) σ
    | .neg, .i j e => k (.i j (match e with | .lit n => .lit (j.wrap (0 - n)) | e => .s (o.wrap j (o.sub 0 (e.vo o))))) ([], []) σ
    | _, _ => False
  | .convert s t x =>
    match tiL T s, tiL T t, evX σ.E x with
    | some si, some ti, .i _ e =>
      match si.k, ti.k with
      | .int _, .int j => k (.i j (match e with | .lit n => .lit (j.wrap n) | e => .s (o.wrap j (e.vo o)))) ([], []) σ
      | _, _ => False
    | _, _, _ => False
  | .makeFunc f first caps => k (.fn f (first.toList.map (evX σ.E)) (caps.toList.map (evX σ.E))) ([], []) σ
  | .fieldAddr t x f =>
    match tiL T t with
    | some ti =>
      match ti.k with
      | .struct fs =>
        match fs[f]? with
        | some (fo, ft) =>
          match tiL T ft with
          | some fi =>
            if fi.sz ≠ 0 then
              match evX σ.E x with
              | .ptr n off => k (.ptr n (off + fo)) ([], []) σ
              | .rp cs off => k (.rp cs (off + fo)) ([], []) σ
              | .rptr n ver z i off =>
                match σ.get n with
                | some (.row ver' _ z' r) => if z = z' then NeedT (o.eqN ver ver') (NeedT (o.inB (i.vo o) ((r.lenI o).toN o)) (k (.rptr n ver z i (off + fo)) ([n], []) σ)) else False
                | _ => False
              | _ => False
            else False
          | none => False
        | none => False
      | _ => False
    | none => False
  | .indexAddr t x y =>
    match tiL T t, evX σ.E y with
    | some ti, .i _ i =>
      match ti.k with
      | .arr m e =>
        match tiL T e, litI i with
        | some ei, some j =>
          if j < m then
            match evX σ.E x with
            | .ptr n off => k (.ptr n (off + j * ei.sz)) ([], []) σ
            | .rp cs off => k (.rp cs (off + j * ei.sz)) ([], []) σ
            | _ => False
          else False
        | some ei, none =>
          if ei.sz = 1 then
            match evX σ.E x with
            | .ptr n off => NeedT (o.inB (i.vo o) m) (k (.pix n off m i) ([], []) σ)
            | .rp cs off => NeedT (o.inB (i.vo o) m) (k (.rpix cs off m i) ([], []) σ)
            | _ => False
          else False
        | _, _ => False
      | .slice e =>
        match tiL T e, (evX σ.E x).coe with
        | some ei, .ro r => NeedT (o.inB (i.vo o) ((r.lenI o).toN o)) (getK o r i fun cs => if cs.length = ei.sz then k (.rp cs 0) ([], []) σ else False)
        | some ei, .own n ver =>
          match σ.get n with
          | some (.row ver' _ z r) => if z = ei.sz then NeedT (o.eqN ver ver') (NeedT (o.inB (i.vo o) ((r.lenI o).toN o)) (k (.rptr n ver z i 0) ([n], []) σ)) else False
          | _ => False
        | _, _ => False
      | _ => False
    | _, _ => False
  | .build t parts =>
    match tiL T t with
    | some ti =>
      match ti.k, ti.zero with
      | .struct fs, some z =>
        match plcX T fs with
        | some pl =>
          match fillX pl z (parts.toList.map fun p => (p.1, evX σ.E p.2)) with
          | some cs => k (.agg cs) ([], []) σ
          | none => False
        | none => False
      | .arr _ e, some z =>
        match tiL T e with
        | some ei =>
          match fillAX ei.sz z (parts.toList.map fun p => (p.1, evX σ.E p.2)) with
          | some cs => k (.agg cs) ([], []) σ
          | none => False
        | none => False
      | _, _ => False
    | none => False
  | .buildSlice t len parts =>
    match tiL T t with
    | some ti =>
      match ti.k with
      | .slice e =>
        match tiL T e, litRowsX (parts.toList.map fun p => evX σ.E p.2) with
        | some ei, some l =>
          if ei.zero.isSome = true ∧ 0 < ei.sz ∧ len * ei.sz ≤ 16777216 ∧ parts.toList.map (·.1) = List.range len ∧ fitL ei.sz l = true then k (.lit (.lits l)) ([], []) σ else False
        | _, _ => False
      | _ => False
    | none => False
  | .slice t x lo hi none =>
    match tiL T t, (evX σ.E x).coe with
    | some ti, .ro r =>
      match ti.k with
      | .slice e =>
        match tiL T e, ixX σ.E (.lit 0) lo, ixX σ.E (r.lenI o) hi with
        | some ei, some l, some h => needFits r ei.sz (NeedT (o.and (o.le 0 (l.vo o)) (o.and (o.le (l.vo o) (h.vo o)) (o.le (h.vo o) ((r.lenI o).vo o)))) (k (.ro (subR o r l h)) ([], []) σ))
        | _, _, _ => False
      | _ => False
    | _, _ => False
  | .extract x i =>
    match evX σ.E x with
    | .tup l => if i < l.length then k (l.getD i .junk) ([], []) σ else False
    | _ => False
  | .call cl =>
    match cl.callee with
    | .builtin b => exBuiltin o T b cl.args.toList cl.argTypes.toList σ k
    | .value f =>
      match evX σ.E f with
      | .fn (.func n) first caps => CallN P c n (first ++ X.coeL (cl.args.toList.map (evX σ.E)) ++ caps) σ k
      | _ => False
    | _ => False
  | op => exMore o T op σ k
def KD (c : Cx) (σ : Sx) (k : Kx) : D → List Nat → List (Nat × Ob) → List Ob → Prop := fun d rd sets news =>
  ∃ x inf σ', k x inf σ' ∧ d = x.toD c ∧ (∀ d', (σ.toSt c).after none d' sets news = σ'.toSt c) ∧ c.Ok σ' ∧ rd = inf.1.map (Nm.at c) ∧ sets.map (·.1) ++ (nameNew (σ.toSt c).nx news).map (·.1) = inf.2.map (Nm.at c)
theorem KD.pure {c : Cx} {σ : Sx} {k : Kx} {d : D} (hc : c.Ok σ) (x : X) (h : k x ([], []) σ) (hd : d = x.toD c) : KD c σ k d [] [] [] :=
  ⟨x, _, σ, h, hd, fun _ => rfl, hc, rfl, rfl⟩
theorem KD.rd {c : Cx} {σ : Sx} {k : Kx} {d : D} (hc : c.Ok σ) (x : X) (n : Nm) (h : k x ([n], []) σ) (hd : d = x.toD c) : KD c σ k d [n.at c] [] [] :=
  ⟨x, _, σ, h, hd, fun _ => rfl, hc, rfl, rfl⟩
theorem Cx.Ok.set {c : Cx} {σ : Sx} (hc : c.Ok σ) (n : Nm) (ob : OX) : c.Ok (σ.set n ob) := by
  cases n with
  | loc i => exact ⟨hc.len, hc.nod, hc.lt⟩
  | out i => exact ⟨by simp [Sx.set, hc.len], hc.nod, hc.lt⟩
theorem KD.set {c : Cx} {σ : Sx} {k : Kx} {d : D} (hc : c.Ok σ) (x : X) (n : Nm) {ob : OX} (hg : σ.get n = some ob) (ob' : OX) (h : k x ([n], [n]) (σ.set n ob')) (hd : d = x.toD c) : KD c σ k d [n.at c] [(n.at c, ob'.toOb c)] [] :=
  ⟨x, _, _, h, hd, fun d' => toSt_set hc hg d', hc.set n ob', rfl, rfl⟩
theorem KD.new {c : Cx} {σ : Sx} {k : Kx} {d : D} (hc : c.Ok σ) (x : X) (ob : OX) (h : k x ([], [.loc σ.L.length]) (σ.new ob)) (hd : d = x.toD c) : KD c σ k d [] [] [ob.toOb c] :=
  ⟨x, _, _, h, hd, fun d' => toSt_new d', ⟨hc.len, hc.nod, hc.lt⟩, rfl, by simp [nameNew, toSt_nx]⟩
theorem ev_toSt (c : Cx) (σ : Sx) (x : Operand) : evE (σ.toSt c).env x = (evX σ.E x).toD c := (toD_evX c σ x).symm
theorem needFits_elim {r : RR} {sz : Nat} {x : Prop} (h : needFits r sz x) : x ∧ r.fits sz := by
  have key : ∀ l : List (List X), fitL sz l = true → ∀ row ∈ X.toCLL l, row.length = sz ∧ (row.map D.c).all D.one = true := by
    intro l
    induction l with
    | nil => intro _ row hr; simp [X.toCLL] at hr
    | cons a l ih =>
      intro h row hr
      simp only [fitL, Bool.and_eq_true, decide_eq_true_eq] at h
      simp only [X.toCLL, List.mem_cons] at hr
      rcases hr with rfl | hr
      · refine ⟨by rw [toCL_len]; exact h.1.1, ?_⟩
        have h2 := h.1.2
        simp only [List.all_eq_true, Bool.and_eq_true] at h2
        simp only [List.all_eq_true]
        intro d hd
        rw [toCL_eq, List.map_map] at hd
        obtain ⟨x, hx, rfl⟩ := List.mem_map.1 hd
        obtain ⟨h3, h4⟩ := h2 x hx
        have h5 := one_toD ⟨0, fun _ => none, [], fun _ => True⟩ h4
        rw [clean_toD _ h3] at h5
        exact h5
      · exact ih h.2 row hr
  unfold needFits at h
  split at h
  · split at h
    · rename_i l h1
      exact ⟨h, key l h1⟩
    · exact h.elim
  · exact ⟨h.2, h.1⟩
theorem appR_rows (r q : RR) : (r.appR q).rows = r.rows ++ q.rows := by
  unfold RR.appR
  split <;> simp [RR.rows, X.toCLL]
theorem roL_coe {x : X} {r : RR} (c : Cx) (h : x.coe = .ro r) : (x.toD c).coe = .c (roL r.rows) := by rw [← toD_coe, h]; rfl
theorem rowsOf_roL (l : List (List C)) : rowsOf l.length (fun i => l.getD i []) = l.map fun x => x.map D.c := by
  unfold rowsOf
  apply List.ext_getElem (by simp)
  intro i h1 h2
  simp at h1
  simp [List.getD_eq_getElem?_getD, h1]
theorem toDL_ints (c : Cx) (ky : List Int) : X.toDL c (ky.map fun a => .i .i64 (.s a)) = ky.map fun a => D.v (.int .i64 a) := by
  rw [toDL_eq, List.map_map]
  rfl
theorem keyXO_toD (c : Cx) (ag : Bool) (ky : List Int) : (keyXO ag ky).toD c = keyOut ag ky := by
  unfold keyXO keyOut
  cases ag
  · rfl
  · simp only [if_true, X.toD, toDL_ints]
theorem mget_at {es : List (List Int × D)} (hn : (es.map (·.1)).Nodup) {i : Nat} {ky : List Int} {d : D} (h : es[i]? = some (ky, d)) : mget es ky = some d := by
  induction es generalizing i with
  | nil => simp at h
  | cons a es ih =>
    simp only [List.map_cons, List.nodup_cons] at hn
    cases i with
    | zero => simp at h; subst h; simp [mget]
    | succ i =>
      simp only [List.getElem?_cons_succ] at h
      have hm : ky ∈ es.map (·.1) := List.mem_map.2 ⟨(ky, d), List.mem_of_getElem? h, rfl⟩
      simp only [mget]
      rw [if_neg (fun e => hn.1 (by rw [e]; exact hm))]
      exact ih hn.2 h
def exNext (o : Ar) (x : Operand) (σ : Sx) (k : X → Sx → Prop) : Prop :=
  match evX σ.E x with
  | .ptr (.loc q) 0 =>
    match σ.get (.loc q) with
    | some (.iter n ver seen cur) =>
      match σ.get n with
      | some (.map ver' ag _ (.base es vf _ _ _)) => NeedT (o.eqN ver ver') (NextN es (addCur seen cur) (k (.tup [.b .f]) σ) (fun i ky => k (.tup [.b .t, keyXO ag ky, vf ky]) (σ.set (.loc q) (.iter n ver (addCur seen cur) (some (i, ky))))))
      | _ => False
    | _ => False
  | _ => False
end Go.Sy

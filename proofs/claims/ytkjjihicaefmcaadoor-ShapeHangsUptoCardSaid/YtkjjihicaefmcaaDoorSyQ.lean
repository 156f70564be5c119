/-
  One operation of a reified state. Plain theorems.
-/
import Derived.Test.YtkjjihicaefmcaaDoorSyP
set_option linter.unusedVariables false
set_option linter.unusedSimpArgs false
set_option linter.unusedSectionVars false
namespace Go.Sy
open Go Go.RowKit
inductive Br (b : Bool) (x y : Prop) : Prop where
  | mk (h1 : b = true → x) (h2 : b = false → y)
inductive NeedT (b : Bool) (x : Prop) : Prop where
  | mk (h : b = true) (k : x)
structure TI where
  k : TK
  sz : Nat
  by_ : Nat
  zero : Option (List X)
  key : Option (Bool × Nat) := none
  zd : Option X := none
  flat : Option (List LK) := none
def tiL : List (TypeId × TI) → TypeId → Option TI
  | [], _ => none
  | (k, i) :: l, t => if t = k then some i else tiL l t
structure TI.Ok (P : Program) (t : TypeId) (i : TI) : Prop where
  k : tyK P t = i.k
  sz : tySz P t = some i.sz
  by_ : tyBytes P t = some i.by_
  zero : ∀ z, i.zero = some z → ∀ c, tyZero P t = some (X.toDL c z)
  key : ∀ z, i.key = some z → keyN P t = some z
  zd : ∀ z, i.zd = some z → ∀ c, zeroD P t = some (X.toD c z)
  flat : ∀ z, i.flat = some z → tyF P t = some z
def TOk (P : Program) (T : List (TypeId × TI)) : Prop := ∀ x ∈ T, x.2.Ok P x.1
theorem TOk.get {P : Program} : ∀ {T : List (TypeId × TI)}, TOk P T → ∀ {t : TypeId} {i : TI}, tiL T t = some i → i.Ok P t
  | [], _, t, i, h => by simp [tiL] at h
  | (k, j) :: l, hT, t, i, h => by
    simp only [tiL] at h
    split at h
    · rename_i e
      subst e
      cases h
      exact hT (t, j) (by simp)
    · exact TOk.get (fun x hx => hT x (List.mem_cons_of_mem _ hx)) h
def X.ofV1 : Value → X
  | .int k n => .i k (.lit n)
  | .bool y => .b (BX.of y)
  | x => .v x
def X.ofV : Value → X
  | .agg cs => .agg (cs.toList.map X.ofV1)
  | x => X.ofV1 x
def evX (E : List (Nat × X)) : Operand → X
  | .tmp t => getE E t
  | .const v => X.ofV v
  | .global g => match tabOf g with | some l => .rp (l.map X.ofV1) 0 | none => .junk
  | .func f => .fn (.func f) [] []
def X.clean : X → Bool
  | .i _ _ | .b _ | .v _ | .ro _ => true
  | _ => false
theorem clean_toD (c : Cx) {x : X} (h : x.clean = true) : x.toD c = .c x.toC := by
  cases x <;> first | rfl | cases h
theorem clean_toDL (c : Cx) : ∀ {l : List X}, l.all X.clean = true → X.toDL c l = (X.toCL l).map D.c
  | [], _ => rfl
  | x :: l, h => by
    simp only [List.all_cons, Bool.and_eq_true] at h
    simp only [X.toDL, X.toCL, List.map_cons, clean_toD c h.1, clean_toDL c h.2]
theorem toD_ofV1 (c : Cx) (v : Value) : (X.ofV1 v).toD c = D.v v := by
  cases v <;> try rfl
  rename_i b; cases b <;> rfl
theorem toD_ofV (c : Cx) (v : Value) : (X.ofV v).toD c = D.ofV v := by
  unfold X.ofV D.ofV
  split
  · rename_i cs
    simp only [X.toD, toDL_eq, List.map_map]
    congr 1
    exact List.map_congr_left fun x _ => toD_ofV1 c x
  · rename_i h
    rw [toD_ofV1]
    split
    · rename_i cs; exact (h cs rfl).elim
    · rfl
theorem toD_evX (c : Cx) (σ : Sx) (x : Operand) : (evX σ.E x).toD c = evE (σ.env c) x := by
  cases x with
  | tmp t => rfl
  | const v => exact toD_ofV c v
  | global g =>
    show X.toD c (match tabOf g with | some l => X.rp (l.map X.ofV1) 0 | none => .junk) = (match tabOf g with | some l => D.rp (l.map C.v) 0 | none => .junk)
    cases tabOf g with
    | none => rfl
    | some l =>
      have h1 : ∀ v : Value, X.toC (X.ofV1 v) = C.v v := fun v => by
        cases v <;> try rfl
        rename_i b; cases b <;> rfl
      have h : ∀ l : List Value, X.toCL (l.map X.ofV1) = l.map C.v := fun l => by
        rw [toCL_eq, List.map_map]
        exact List.map_congr_left fun v _ => h1 v
      show D.rp (X.toCL (l.map X.ofV1)) 0 = _
      rw [h]
  | func f => rfl
mutual
def X.coe : X → X
  | .v (.slice none 0 0) => .ro (.lits [])
  | .lit r => .ro r
  | .agg l => .agg (X.coeL l)
  | .tup l => .tup (X.coeL l)
  | .d x => .d x.coe
  | x => x
def X.coeL : List X → List X
  | [] => []
  | x :: l => X.coe x :: X.coeL l
end
mutual
theorem toD_coe (c : Cx) : ∀ x : X, x.coe.toD c = (x.toD c).coe
  | .junk => rfl
  | .i k e => by cases e <;> rfl
  | .b e => by cases e <;> rfl
  | .v x => by
    cases x <;> try rfl
    rename_i a n cp
    cases a <;> cases n <;> cases cp <;> rfl
  | .ro r => rfl
  | .ptr n off => rfl
  | .pix _ _ _ _ => rfl
  | .rp cs off => rfl
  | .rpix _ _ _ _ => rfl
  | .rptr n ver sz i off => rfl
  | .own n ver => rfl
  | .lit r => rfl
  | .mp n => rfl
  | .st n ver i => rfl
  | .fn f l l' => rfl
  | .agg l => by simp only [X.coe, X.toD, D.coe, toDL_coe c l]
  | .tup l => by simp only [X.coe, X.toD, D.coe, toDL_coe c l]
  | .d x => rfl
theorem toDL_coe (c : Cx) : ∀ l : List X, X.toDL c (X.coeL l) = D.coeL (X.toDL c l)
  | [] => rfl
  | x :: l => by simp only [X.coeL, X.toDL, D.coeL, toD_coe c x, toDL_coe c l]
end
def X.cells : X → Option (List X)
  | .agg l => some l
  | .i k e => some [.i k e]
  | .b e => some [.b e]
  | .v x => if x.oneCell' then some [.v x] else none
  | .tup _ | .junk | .d _ => none
  | x => some [x]
theorem cells_toD (c : Cx) {x : X} {l : List X} (h : x.cells = some l) : (x.toD c).cells = some (X.toDL c l) := by
  cases x <;> simp only [X.cells, Option.some.injEq, reduceCtorEq] at h <;> try (subst h; rfl)
  · rename_i x
    split at h
    · rename_i hx
      cases h
      simp only [X.toD, D.cells, hx, if_true, X.toDL]
    · cases h
def X.one : X → Bool
  | .junk | .agg _ | .tup _ | .d _ => false
  | .v x => x.oneCell'
  | _ => true
theorem one_toD (c : Cx) {x : X} (h : x.one = true) : (x.toD c).one = true := by
  cases x <;> simp_all [X.one, X.toD, D.one, Value.oneCell']
theorem all_one (c : Cx) : ∀ {l : List X}, l.all X.one = true → (X.toDL c l).all D.one = true
  | [], _ => rfl
  | x :: l, h => by
    simp only [List.all_cons, Bool.and_eq_true] at h
    simp only [X.toDL, List.all_cons, one_toD c h.1, all_one c h.2, Bool.and_self]
def loadX (k : TK) (sz : Nat) (cs : List X) (off : Nat) : Option X :=
  match k.isAgg with
  | some true => if off + sz ≤ cs.length then some (.agg ((cs.drop off).take sz)) else none
  | some false => if off < cs.length then some (cs.getD off default) else none
  | none => none
theorem toDL_len (c : Cx) (l : List X) : (X.toDL c l).length = l.length := by rw [toDL_eq, List.length_map]
theorem loadX_toD (c : Cx) {k : TK} {sz off : Nat} {cs : List X} {x : X} (h : loadX k sz cs off = some x) : loadD k sz (X.toDL c cs) off = some (x.toD c) := by
  unfold loadX at h
  unfold loadD
  split at h
  · rename_i e
    simp only [e, toDL_len]
    split at h
    · rename_i hle
      cases h
      simp only [hle, if_true, X.toD, toDL_eq, List.map_take, List.map_drop]
    · cases h
  · rename_i e
    simp only [e, toDL_len]
    split at h
    · rename_i hle
      cases h
      rw [if_pos hle]
      simp only [toDL_eq, List.getD_eq_getElem?_getD, List.getElem?_map, List.getElem?_eq_getElem hle, Option.map_some, Option.getD_some]
    · cases h
  · cases h
def putX (cs : List X) (off : Nat) (l : List X) : List X := cs.take off ++ l ++ cs.drop (off + l.length)
theorem putX_toD (c : Cx) (cs : List X) (off : Nat) (l : List X) : X.toDL c (putX cs off l) = putD (X.toDL c cs) off (X.toDL c l) := by
  simp only [putX, putD, toDL_eq, List.map_append, List.map_take, List.map_drop, List.length_map]
def IX.eqX (o : Ar) : IX → IX → BX
  | .lit a, .lit b => BX.of (decide (a = b))
  | .nat a, .nat b => .s (o.eqN a b)
  | a, b => .s (o.eq (a.vo o) (b.vo o))
def IX.ltX (o : Ar) : IX → IX → BX
  | .lit a, .lit b => BX.of (decide (a < b))
  | a, b => .s (o.lt (a.vo o) (b.vo o))
def IX.leX (o : Ar) : IX → IX → BX
  | .lit a, .lit b => BX.of (decide (a ≤ b))
  | a, b => .s (o.le (a.vo o) (b.vo o))
def BX.notX (o : Ar) : BX → BX
  | .t => .f
  | .f => .t
  | .s b => .s (o.not b)
def BX.andX (o : Ar) : BX → BX → BX
  | .t, x => x
  | .f, _ => .f
  | .s b, .t => .s b
  | .s _, .f => .f
  | .s a, .s b => .s (o.and a b)
def BX.vo : BX → Bool
  | .t => true
  | .f => false
  | .s b => b
def brX : BX → Prop → Prop → Prop
  | .t, x, _ => x
  | .f, _, y => y
  | .s b, x, y => Br b x y
theorem vo_real (x : IX) : x.vo Ar.real = x.val := by cases x <;> rfl
theorem toN_real (x : IX) : x.toN Ar.real = x.val.toNat := by cases x <;> simp [IX.toN, IX.val, Ar.real]
theorem of_val (b : Bool) : (BX.of b).val = b := by cases b <;> rfl
theorem eqX_real (a b : IX) : (a.eqX Ar.real b).val = (a.val == b.val) := by
  cases a <;> cases b <;> simp only [IX.eqX, of_val] <;> simp only [BX.val, IX.val, IX.vo, real_eq, real_eqN, real_ofNat] <;> first | rfl | (rw [Bool.eq_iff_iff]; simp; omega)
theorem ltX_real (a b : IX) : (a.ltX Ar.real b).val = decide (a.val < b.val) := by
  cases a <;> cases b <;> simp only [IX.ltX, of_val] <;> rfl
theorem leX_real (a b : IX) : (a.leX Ar.real b).val = decide (a.val ≤ b.val) := by
  cases a <;> cases b <;> simp only [IX.leX, of_val] <;> rfl
theorem notX_real (a : BX) : (a.notX Ar.real).val = !a.val := by cases a <;> rfl
theorem andX_real (a b : BX) : (a.andX Ar.real b).val = (a.val && b.val) := by cases a <;> cases b <;> simp [BX.andX, BX.val, Ar.real]
theorem brX_elim {b : BX} {x y : Prop} (h : brX b x y) : (b.val = true → x) ∧ (b.val = false → y) := by
  cases b with
  | t => exact ⟨fun _ => h, fun e => (Bool.noConfusion e)⟩
  | f => exact ⟨fun e => (Bool.noConfusion e), fun _ => h⟩
  | s b => cases h with | mk h1 h2 => exact ⟨h1, h2⟩
def arI (o : Ar) (k : IntKind) (f g : Int → Int → Int) : IX → IX → IX
  | .lit a, .lit b => .lit (k.wrap (g a b))
  | a, b => .s (o.wrap k (f (a.vo o) (b.vo o)))
def binX (o : Ar) (op : BinOp) (k : IntKind) (a b : IX) : Option X :=
  match op with
  | .add => some (.i k (arI o k o.add (fun x y => x + y) a b))
  | .sub => some (.i k (arI o k o.sub (fun x y => x - y) a b))
  | .mul => some (.i k (arI o k o.mul (fun x y => x * y) a b))
  | .and => some (.i k (.s (o.wrap k (o.band k (a.vo o) (b.vo o)))))
  | .or => some (.i k (.s (o.wrap k (o.bor k (a.vo o) (b.vo o)))))
  | .xor => some (.i k (.s (o.wrap k (o.bxor k (a.vo o) (b.vo o)))))
  | .eql => some (.b (a.eqX o b))
  | .neq => some (.b ((a.eqX o b).notX o))
  | .lss => some (.b (a.ltX o b))
  | .leq => some (.b (a.leX o b))
  | .gtr => some (.b (b.ltX o a))
  | .geq => some (.b (b.leX o a))
  | _ => none
theorem arI_real (k : IntKind) (f g : Int → Int → Int) (hfg : ∀ x y, f x y = g x y) (a b : IX) : (arI Ar.real k f g a b).val = k.wrap (g a.val b.val) := by
  unfold arI
  split
  · rfl
  · simp only [IX.val, vo_real, hfg]; rfl
theorem binX_toD (c : Cx) {op : BinOp} {k : IntKind} {a b : IX} {x : X} (h : binX Ar.real op k a b = some x) : ∃ r, binV op (.int k a.val) (.int k b.val) = some r ∧ x.toD c = .v r := by
  unfold binX at h
  split at h <;> simp only [Option.some.injEq, reduceCtorEq] at h
  all_goals
    subst h
    simp only [binV, if_true, Option.some.injEq, exists_eq_left', X.toD, D.c.injEq, C.v.injEq, Value.int.injEq, Value.bool.injEq, true_and]
  · exact arI_real k _ _ (fun _ _ => rfl) a b
  · exact arI_real k _ _ (fun _ _ => rfl) a b
  · exact arI_real k _ _ (fun _ _ => rfl) a b
  · simp only [IX.val, vo_real]; rfl
  · simp only [IX.val, vo_real]; rfl
  · simp only [IX.val, vo_real]; rfl
  · exact eqX_real a b
  · rw [notX_real, eqX_real]; rfl
  · exact ltX_real a b
  · exact leX_real a b
  · exact ltX_real b a
  · exact leX_real b a
def IX.eqL (o : Ar) (a b : IX) (x y : Prop) : Prop := brX (a.eqX o b) x y
def litsK (o : Ar) : List (List X) → IX → Nat → (List X → Prop) → Prop
  | [], _, _, _ => True
  | [x], _, _, K => K x
  | x :: l, i, n, K => brX (i.eqX o (.lit n)) (K x) (litsK o l i (n + 1) K)
def getK (o : Ar) : RR → IX → (List X → Prop) → Prop
  | .lits l, i, K => litsK o l i 0 K
  | .fn _ f, i, K => K (f (i.toN o))
  | .snoc r cs, i, K => brX (i.eqX o (r.lenI o)) (K cs) (getK o r i K)
  | .app r q, i, K => brX (i.ltX o (r.lenI o)) (getK o r i K) (getK o q (i.subL o (r.lenI o)) K)
  | .set r j cs, i, K => brX (i.eqX o j) (K cs) (getK o r i K)
  | .sub r lo _, i, K => NeedT (o.inB (o.ofNat (o.addN lo (i.toN o))) ((r.lenI o).toN o)) (getK o r (.nat (o.addN lo (i.toN o))) K)
theorem addL_real (a b : IX) (hb : 0 ≤ b.val) (ha : 0 ≤ a.val) : (a.addL Ar.real b).val = a.val + b.val := by
  cases a <;> cases b <;> simp only [IX.addL, IX.val, IX.vo] at * <;> simp only [Ar.real, castI_eq] <;> omega
theorem subL_real (a b : IX) (ha : 0 ≤ b.val) (hb : b.val ≤ a.val) : (a.subL Ar.real b).val = a.val - b.val := by
  unfold IX.subL
  split
  · rfl
  · simp only [IX.val] at *; simp only [Ar.real]; omega
  · simp only [IX.val] at *; simp only [Ar.real]; omega
  · simp [IX.val]
  · simp only [IX.val, vo_real]; simp only [Ar.real]
theorem toCLL_len (l : List (List X)) : (X.toCLL l).length = l.length := by rw [toCLL_eq, List.length_map]
theorem toCL_len (l : List X) : (X.toCL l).length = l.length := by rw [toCL_eq, List.length_map]
theorem lenI_real : ∀ r : RR, (r.lenI Ar.real).val = r.rows.length
  | .lits l => by simp [RR.lenI, IX.val, RR.rows, toCLL_len]
  | .fn n f => by simp [RR.lenI, IX.val, RR.rows]
  | .snoc r cs => by
    have := lenI_real r
    rw [RR.lenI, addL_real _ _ (by simp [IX.val]) (by omega), this]
    simp [IX.val, RR.rows]
  | .app r q => by
    have h1 := lenI_real r
    have h2 := lenI_real q
    rw [RR.lenI, addL_real _ _ (by omega) (by omega), h1, h2]
    simp [RR.rows]
  | .set r i cs => by
    have := lenI_real r
    simp only [RR.lenI, RR.rows, this]
    split <;> simp
  | .sub r lo n => by simp [RR.lenI, IX.val, RR.rows]
theorem litsK_real {K : List X → Prop} : ∀ (l : List (List X)) (i : IX) (n : Nat), litsK Ar.real l i n K → (n : Int) ≤ i.val → i.val < n + l.length → ∃ cs, K cs ∧ X.toCL cs = (X.toCLL l).getD (i.val - n).toNat []
  | [], i, n, _, h1, h2 => by simp at h2; omega
  | [x], i, n, h, h1, h2 => by
    have : (i.val - n).toNat = 0 := by simp at h2; omega
    rw [this]
    exact ⟨x, h, by simp [X.toCLL]⟩
  | x :: y :: l, i, n, h, h1, h2 => by
    obtain ⟨ha, hb⟩ := brX_elim h
    rw [eqX_real] at ha hb
    have e0 : (IX.lit (n : Int)).val = n := rfl
    rw [e0] at ha hb
    by_cases e : i.val = n
    · have : (i.val - n).toNat = 0 := by omega
      rw [this]
      exact ⟨x, ha (by simpa using e), by simp [X.toCLL]⟩
    · obtain ⟨cs, h3, h4⟩ := litsK_real (y :: l) i (n + 1) (hb (by simpa using e)) (by omega) (by simp only [List.length_cons] at h2 ⊢; omega)
      have : (i.val - n).toNat = (i.val - (n + 1 : Nat)).toNat + 1 := by omega
      rw [this]
      exact ⟨cs, h3, by rw [h4]; simp [X.toCLL]⟩
theorem getK_real {K : List X → Prop} : ∀ (r : RR) (i : IX), getK Ar.real r i K → 0 ≤ i.val → i.val < r.rows.length → ∃ cs, K cs ∧ X.toCL cs = r.rows.getD i.val.toNat []
  | .lits l, i, h, h0, h1 => by
    obtain ⟨cs, h3, h4⟩ := litsK_real l i 0 h (by omega) (by simp only [RR.rows, toCLL_len] at h1; omega)
    exact ⟨cs, h3, by simpa [RR.rows] using h4⟩
  | .fn n f, i, h, h0, h1 => by
    refine ⟨_, h, ?_⟩
    simp only [RR.rows, List.length_map, List.length_range] at h1
    have : i.val.toNat < n := by omega
    rw [toN_real]
    simp [RR.rows, List.getD_eq_getElem?_getD, this]
  | .snoc r cs, i, h, h0, h1 => by
    obtain ⟨ha, hb⟩ := brX_elim h
    rw [eqX_real, lenI_real] at ha hb
    simp only [RR.rows, List.length_append, List.length_cons, List.length_nil] at h1
    by_cases e : i.val = r.rows.length
    · refine ⟨cs, ha (by simpa using e), ?_⟩
      have : i.val.toNat = r.rows.length := by omega
      simp [RR.rows, this]
    · obtain ⟨cs', h3, h4⟩ := getK_real r i (hb (by simpa using e)) h0 (by omega)
      refine ⟨cs', h3, h4.trans ?_⟩
      have : i.val.toNat < r.rows.length := by omega
      simp [RR.rows, List.getD_eq_getElem?_getD, List.getElem?_append_left this]
  | .app r q, i, h, h0, h1 => by
    obtain ⟨ha, hb⟩ := brX_elim h
    rw [ltX_real, lenI_real] at ha hb
    simp only [RR.rows, List.length_append] at h1
    by_cases e : i.val < r.rows.length
    · obtain ⟨cs', h3, h4⟩ := getK_real r i (ha (by simpa using e)) h0 e
      refine ⟨cs', h3, h4.trans ?_⟩
      have : i.val.toNat < r.rows.length := by omega
      simp [RR.rows, List.getD_eq_getElem?_getD, List.getElem?_append_left this]
    · have hsub := subL_real i (r.lenI Ar.real) (by rw [lenI_real]; omega) (by rw [lenI_real]; omega)
      rw [lenI_real] at hsub
      obtain ⟨cs', h3, h4⟩ := getK_real q _ (hb (by simpa using e)) (by omega) (by omega)
      refine ⟨cs', h3, h4.trans ?_⟩
      have h5 : r.rows.length ≤ i.val.toNat := by omega
      have h6 : (i.subL Ar.real (r.lenI Ar.real)).val.toNat = i.val.toNat - r.rows.length := by omega
      simp only [RR.rows, List.getD_eq_getElem?_getD, List.getElem?_append_right h5, h6]
  | .set r j cs, i, h, h0, h1 => by
    obtain ⟨ha, hb⟩ := brX_elim h
    rw [eqX_real] at ha hb
    have hl : (RR.rows (.set r j cs)).length = r.rows.length := by simp only [RR.rows]; split <;> simp
    rw [hl] at h1
    by_cases e : i.val = j.val
    · refine ⟨cs, ha (by simpa using e), ?_⟩
      have : i.val.toNat < r.rows.length := by omega
      simp [RR.rows, ← e, List.getD_eq_getElem?_getD, this, h0]
    · obtain ⟨cs', h3, h4⟩ := getK_real r i (hb (by simpa using e)) h0 h1
      refine ⟨cs', h3, h4.trans ?_⟩
      simp only [RR.rows]
      split
      · have h5 : ¬ j.val.toNat = i.val.toNat := by omega
        simp [List.getD_eq_getElem?_getD, h5]
      · rfl
  | .sub r lo n, i, h, h0, h1 => by
    simp only [RR.rows, List.length_map, List.length_range] at h1
    obtain ⟨hb, h⟩ := h
    simp only [toN_real, lenI_real] at hb h
    simp only [real_inB, real_addN, real_ofNat, decide_eq_true_eq] at hb h
    have h7 : (IX.nat (lo + i.val.toNat)).val = (lo + i.val.toNat : Nat) := rfl
    obtain ⟨cs', h3, h4⟩ := getK_real r _ h (by rw [h7]; omega) (by rw [h7]; omega)
    refine ⟨cs', h3, h4.trans ?_⟩
    have h5 : i.val.toNat < n := by omega
    rw [h7, Int.toNat_natCast]
    simp [RR.rows, List.getD_eq_getElem?_getD, h5]
end Go.Sy

/-
  Loops and calls over reified states. Plain theorems.
-/
import Derived.Test.YtkjjihicaefmcaaDoorSyZ
set_option linter.unusedVariables false
set_option linter.unusedSectionVars false
set_option linter.unusedSimpArgs false
namespace Go.Sy
open Go Go.RowKit
inductive EqX (c : Cx) (x y : X) : Prop where
  | mk (h : x.toD c = y.toD c)
def eqE (c : Cx) (E : List (Nat × X)) : List (Nat × X) → Prop
  | [] => True
  | (t, x) :: l => EqX c (getE E t) x ∧ eqE c E l
inductive EqO (c : Cx) (x y : OX) : Prop where
  | mk (h : x.toOb c = y.toOb c)
def eqL (c : Cx) (n m : Nat) : List (Option OX) → List (Option OX) → Prop
  | _, [] => True
  | some a :: l, some b :: r => EqO c a b ∧ b.nmB n m = true ∧ eqL c n m l r
  | _ :: l, none :: r => eqL c n m l r
  | _, _ => False
def eqO (c : Cx) : List OX → List OX → Prop
  | [], [] => True
  | a :: l, b :: r => EqO c a b ∧ eqO c l r
  | _, _ => False
structure WkX (c : Cx) (σ τ : Sx) : Prop where
  nE : (τ.E.all fun p => p.2.nmB τ.L.length τ.O.length) = true
  E : eqE c σ.E τ.E
  L : eqL c τ.L.length τ.O.length σ.L τ.L
  O : eqO c σ.O τ.O
theorem eqO_len {c : Cx} : ∀ {l r : List OX}, eqO c l r → l.length = r.length ∧ l.map (OX.toOb c) = r.map (OX.toOb c)
  | [], [], _ => ⟨rfl, rfl⟩
  | [], _ :: _, h => h.elim
  | _ :: _, [], h => h.elim
  | a :: l, b :: r, h => by
    obtain ⟨h1, h2⟩ := eqO_len h.2
    obtain ⟨h3⟩ := h.1
    exact ⟨by simp [h1], by simp [h2, h3]⟩
theorem ovr_congr {c : Cx} : ∀ {ns : List Nat} {l r : List OX}, l.map (OX.toOb c) = r.map (OX.toOb c) → ovr c ns l = ovr c ns r
  | [], l, r, _ => by funext m; simp [ovr]
  | n :: ns, [], [], _ => rfl
  | n :: ns, [], _ :: _, h => by simp at h
  | n :: ns, _ :: _, [], h => by simp at h
  | n :: ns, a :: l, b :: r, h => by
    simp only [List.map_cons, List.cons.injEq] at h
    funext m
    simp only [ovr, h.1, ovr_congr (ns := ns) h.2]
theorem eqL_len {c : Cx} {n m : Nat} : ∀ {l r : List (Option OX)}, eqL c n m l r → r.length ≤ l.length
  | _, [], _ => by simp
  | some a :: l, some b :: r, h => by have := eqL_len h.2.2; simp; omega
  | none :: l, none :: r, h => by have := eqL_len (l := l) (r := r) h; simp; omega
  | some a :: l, none :: r, h => by have := eqL_len (l := l) (r := r) h; simp; omega
  | [], some b :: r, h => h.elim
  | none :: l, some b :: r, h => h.elim
  | [], none :: r, h => h.elim
theorem eqL_get {c : Cx} {n m : Nat} : ∀ {l r : List (Option OX)}, eqL c n m l r → ∀ i ob, (r.map (Option.map (OX.toOb c))).getD i none = some ob → (l.map (Option.map (OX.toOb c))).getD i none = some ob ∧ ∃ b : OX, b.nmB n m = true ∧ b.toOb c = ob
  | _, [], _, i, ob, h => by simp at h
  | some a :: l, some b :: r, h, i, ob, hi => by
    cases i with
    | zero =>
      simp at hi
      subst hi
      obtain ⟨h3⟩ := h.1
      exact ⟨by simp [h3], b, h.2.1, rfl⟩
    | succ i =>
      simp only [List.map_cons, List.getD_cons_succ] at hi ⊢
      exact eqL_get h.2.2 i ob hi
  | none :: l, none :: r, h, i, ob, hi => by
    cases i with
    | zero => simp at hi
    | succ i =>
      simp only [List.map_cons, List.getD_cons_succ] at hi ⊢
      exact eqL_get (l := l) (r := r) h i ob hi
  | some a :: l, none :: r, h, i, ob, hi => by
    cases i with
    | zero => simp at hi
    | succ i =>
      simp only [List.map_cons, List.getD_cons_succ] at hi ⊢
      exact eqL_get (l := l) (r := r) h i ob hi
  | [], some b :: r, h, i, ob, hi => h.elim
  | none :: l, some b :: r, h, i, ob, hi => h.elim
  | [], none :: r, h, i, ob, hi => h.elim
theorem getE_mem : ∀ {E : List (Nat × X)} {t : Nat}, getE E t = .junk ∨ ∃ p ∈ E, p.1 = t ∧ p.2 = getE E t
  | [], t => .inl rfl
  | (k, x) :: l, t => by
    simp only [getE]
    split
    · rename_i e; exact .inr ⟨(k, x), by simp, e.symm, rfl⟩
    · rcases getE_mem (E := l) (t := t) with h | ⟨p, hp, h1, h2⟩
      · exact .inl h
      · exact .inr ⟨p, List.mem_cons_of_mem _ hp, h1, h2⟩
theorem eqE_mem {c : Cx} {E : List (Nat × X)} : ∀ {l : List (Nat × X)}, eqE c E l → ∀ p ∈ l, (getE E p.1).toD c = p.2.toD c
  | [], _, p, hp => by simp at hp
  | (t, x) :: l, h, p, hp => by
    rcases List.mem_cons.1 hp with rfl | hp
    · obtain ⟨h3⟩ := h.1; exact h3
    · exact eqE_mem h.2 p hp
theorem WkX.weak {c : Cx} {σ τ : Sx} (hc : c.Ok σ) (h : WkX c σ τ) : c.Ok τ ∧ Weak (σ.toSt c) (τ.toSt c) := by
  obtain ⟨hl, hO⟩ := eqO_len h.O
  have hc' : c.Ok τ := ⟨by rw [← hl]; exact hc.len, hc.nod, hc.lt⟩
  refine ⟨hc', fun t => ?_, (ovr_congr hO).symm, rfl, rfl, ?_, fun i ob hi => ?_⟩
  · rcases getE_mem (E := τ.E) (t := t) with hj | ⟨p, hp, e1, e2⟩
    · left
      show (getE τ.E t).toD c = _
      rw [hj]; rfl
    · right
      have h1 := eqE_mem h.E p hp
      have h2 := List.all_eq_true.1 h.nE p hp
      have e3 : (τ.toSt c).env t = (σ.toSt c).env t := by
        show (getE τ.E t).toD c = (getE σ.E t).toD c
        rw [← e2, ← h1, e1]
      refine ⟨e3, ?_⟩
      rw [← e3]
      show D.nms (c.n0 + (τ.L.map _).length) ((getE τ.E t).toD c)
      rw [List.length_map, ← e2]
      refine nmB_nms hc.lt p.2 ?_
      rw [← hc'.len]; exact h2
  · simp only [Sx.toSt, List.length_map]
    exact eqL_len h.L
  · obtain ⟨h1, b, h2, h3⟩ := eqL_get h.L i ob hi
    refine ⟨h1, ?_⟩
    rw [← h3]
    have := obB_nms (c := c) (n := τ.L.length) hc.lt (ob := b) (by rw [← hc'.len]; exact h2)
    simpa [St.nx, Sx.toSt] using this
theorem LoopN.intro {o : Ar} {P : Program} {T : List (TypeId × TI)} {D : DT} {N : Nat} {c : Cx} {code : Code} {Q : Exit → Sx → Prop} {σ : Sx} (ho : o = Ar.real) (hm : P.follows .mixedOrders = true) (hT : TOk P T) (hdr : drawsB D code = true)
    (J : Nat → Sx → Prop) (m0 : Nat) (τ : Sx) (h0 : J m0 τ) (hw : WkX c σ τ)
    (round : ∀ m τ, J m τ → ∀ R : Sx → Prop, (∀ σ' m' τ', m' < m → J m' τ' → WkX c σ' τ' → R σ') → ex o P c T D N code (thenX R Q) τ) : LoopN P N c code Q σ := by
  subst ho
  refine ⟨fun hc => ?_⟩
  obtain ⟨hc0, hw0⟩ := hw.weak hc
  refine Awp.loop (fun m S => ∃ τ, S = τ.toSt c ∧ c.Ok τ ∧ J m τ) m0 _ ⟨τ, rfl, hc0, h0⟩ hw0 ?_
  rintro m S ⟨τ, rfl, hc1, hJ⟩
  have := round m τ hJ (fun σ' => ∃ m' τ', m' < m ∧ J m' τ' ∧ WkX c σ' τ') (fun σ' m' τ' h1 h2 h3 => ⟨m', τ', h1, h2, h3⟩)
  refine (ex_sound hT hm code hdr _ τ hc1 this).mono ?_
  rintro e S' ⟨σ', rfl, hc', hq⟩
  cases e with
  | normal =>
    obtain ⟨m', τ', h1, h2, h3⟩ := hq
    obtain ⟨h4, h5⟩ := h3.weak hc'
    exact ⟨m', _, h1, ⟨τ', rfl, h4, h2⟩, h5⟩
  | _ => exact ⟨σ', rfl, hc', hq⟩
def wrs : Code → List Nat
  | .region _ ops _ => ops.toList.filterMap (·.dst)
  | .seq a b => wrs a ++ wrs b
  | .cond _ a b => wrs a ++ wrs b
  | .block _ a => wrs a
  | .loop a => wrs a
  | _ => []
def setsL {α : Type} (l : List α) : List (Nat × α) → List α
  | [] => l
  | (i, x) :: r => setsL (l.set i x) r
def nubE (ws : List Nat) : List (Nat × X) → List (Nat × X)
  | [] => []
  | (t, x) :: l => if ws.contains t then nubE ws l else (t, x) :: nubE (t :: ws) l
def Sx.over (σ : Sx) (ws : List Nat) (sl : List (Nat × X)) (ls : List (Nat × OX)) (os : List (Nat × OX)) : Sx :=
  ⟨sl ++ nubE ws σ.E, setsL σ.L (ls.map fun p => (p.1, some p.2)), setsL σ.O os⟩
theorem LoopN.over {o : Ar} {P : Program} {T : List (TypeId × TI)} {D : DT} {N : Nat} {c : Cx} {code : Code} {Q : Exit → Sx → Prop} {σ : Sx} (ho : o = Ar.real) (hm : P.follows .mixedOrders = true) (hT : TOk P T) (hdr : drawsB D code = true) {α : Type}
    (sl : α → List (Nat × X)) (ls os : α → List (Nat × OX)) (Inv : α → Prop) (μ : α → Nat) (a0 : α) (h0 : Inv a0) (hw : WkX c σ (σ.over (wrs code) (sl a0) (ls a0) (os a0)))
    (round : ∀ a, Inv a → ∀ R : Sx → Prop, (∀ σ' a', μ a' < μ a → Inv a' → WkX c σ' (σ.over (wrs code) (sl a') (ls a') (os a')) → R σ') → ex o P c T D N code (thenX R Q) (σ.over (wrs code) (sl a) (ls a) (os a))) : LoopN P N c code Q σ := by
  refine LoopN.intro ho hm hT hdr (fun m τ => ∃ a, Inv a ∧ μ a = m ∧ τ = σ.over (wrs code) (sl a) (ls a) (os a)) (μ a0) _ ⟨a0, h0, rfl, rfl⟩ hw ?_
  rintro m τ ⟨a, ha, rfl, rfl⟩ R hR
  exact round a ha R fun σ' a' h1 h2 h3 => hR σ' _ _ h1 ⟨a', h2, rfl, rfl⟩ h3
theorem LoopN.ghost {P : Program} {N : Nat} {c : Cx} {code : Code} {Q : Exit → Sx → Prop} {σ : Sx} (t E sz : Nat) (ht : getE σ.E t = .v (.slice none 0 0))
    (h : LoopN P N c code Q ⟨putE σ.E t (.own (.loc σ.L.length) 0), σ.L ++ [some (.row 0 E sz (.lits []))], σ.O⟩) : LoopN P N c code Q σ := by
  obtain ⟨h⟩ := h
  refine ⟨fun hc => ?_⟩
  have h' := h ⟨hc.len, hc.nod, hc.lt⟩
  refine Awp.ghost (env := (σ.toSt c).env) (B := (σ.toSt c).B) (n0 := c.n0) (L := (σ.toSt c).L) (lv := c.lv) t E sz ?_ ?_
  · show (getE σ.E t).toD c = _
    rw [ht]; rfl
  · have e : (Sx.toSt c ⟨putE σ.E t (.own (.loc σ.L.length) 0), σ.L ++ [some (.row 0 E sz (.lits []))], σ.O⟩) = ⟨upd (σ.toSt c).env t (.own (c.n0 + (σ.toSt c).L.length) 0), (σ.toSt c).B, c.n0, (σ.toSt c).L ++ [some (.row 0 E sz [])], c.lv⟩ := by
      have h1 := env_put c σ (some t) (.own (.loc σ.L.length) 0)
      simp only [Sx.put, updO] at h1
      simp only [Sx.toSt, List.map_append, List.map_cons, List.map_nil, Option.map_some, OX.toOb, RR.rows, X.toCLL, List.length_map]
      congr 1
    rw [e] at h'
    exact h'
mutual
theorem toD_none {c c' : Cx} : ∀ x : X, x.nmB 0 0 = true → x.toD c = x.toD c'
  | .junk, _ | .i _ _, _ | .b _, _ | .v _, _ | .ro _, _ | .rp _ _, _ | .rpix _ _ _ _, _ | .lit _, _ => by simp only [X.toD]
  | .ptr x _, hx | .pix x _ _ _, hx | .rptr x _ _ _ _, hx | .own x _, hx | .mp x, hx | .st x _ _, hx => by
    cases x <;> simp [X.nmB] at hx
  | .fn _ l l', hx => by
    simp only [X.nmB, Bool.and_eq_true] at hx
    simp only [X.toD, toDL_none (c := c) (c' := c') l hx.1, toDL_none (c := c) (c' := c') l' hx.2]
  | .agg l, hx | .tup l, hx => by
    simp only [X.nmB] at hx
    simp only [X.toD, toDL_none (c := c) (c' := c') l hx]
  | .d _, hx => by simp only [X.toD]
theorem toDL_none {c c' : Cx} : ∀ l : List X, X.nmBL 0 0 l = true → X.toDL c l = X.toDL c' l
  | [], _ => rfl
  | x :: l, hx => by
    simp only [X.nmBL, Bool.and_eq_true] at hx
    simp only [X.toDL, toD_none (c := c) (c' := c') x hx.1, toDL_none (c := c) (c' := c') l hx.2]
end
theorem CallN.pure {P P' : Program} {c : Cx} {f : FuncId} {args args' : List X} {res : X} {σ : Sx} {k : Kx} (hP : P' = P) (hx : XC P f args' [] res []) (hf : FnOk P f) (hn : X.nmBL 0 0 args' = true) (hr : res.nmB 0 0 = true)
    (ha : X.toDL c args = X.toDL c args') (h : k res ([], []) σ) : CallN P' c f args σ k := by
  subst hP
  refine ⟨fun hc => ?_⟩
  have h1 := hx { c with ons := [] } List.nodup_nil rfl
  rw [toDL_none (c' := c) args' hn, ← ha, toD_none (c' := c) res hr] at h1
  exact ⟨[], _, [], [], h1, hf, nil_all, nil_all, res, ([], []), σ, h, rfl, fun _ => rfl, hc, rfl, rfl⟩
mutual
def rnX (ren : List Nm) : X → X
  | .ptr (.out i) off => .ptr (ren.getD i (.out i)) off
  | .pix (.out i) off m j => .pix (ren.getD i (.out i)) off m j
  | .rptr (.out i) v s j off => .rptr (ren.getD i (.out i)) v s j off
  | .own (.out i) v => .own (ren.getD i (.out i)) v
  | .mp (.out i) => .mp (ren.getD i (.out i))
  | .st (.out i) v j => .st (ren.getD i (.out i)) v j
  | .fn f l l' => .fn f (rnXL ren l) (rnXL ren l')
  | .agg l => .agg (rnXL ren l)
  | .tup l => .tup (rnXL ren l)
  | x => x
def rnXL (ren : List Nm) : List X → List X
  | [] => []
  | x :: l => rnX ren x :: rnXL ren l
end
def rnOX (ren : List Nm) : OX → OX
  | .var cs T => .var (rnXL ren cs) T
  | .iter (.out i) v s u => .iter (ren.getD i (.out i)) v s u
  | o => o
theorem rn_at {c c' : Cx} {ren : List Nm} (h : c'.ons = ren.map (Nm.at c)) {i : Nat} (hi : i < ren.length) : (Nm.out i).at c' = (ren.getD i (.out i)).at c := by
  simp [Nm.at, h, List.getD_eq_getElem?_getD, hi]
mutual
theorem rnX_toD {c c' : Cx} {ren : List Nm} (h : c'.ons = ren.map (Nm.at c)) : ∀ x : X, x.nmB 0 ren.length = true → x.toD c' = (rnX ren x).toD c
  | .junk, _ | .i _ _, _ | .b _, _ | .v _, _ | .ro _, _ | .rp _ _, _ | .rpix _ _ _ _, _ | .lit _, _ => by simp only [X.toD, rnX]
  | .ptr x _, hx | .pix x _ _ _, hx | .rptr x _ _ _ _, hx | .own x _, hx | .mp x, hx | .st x _ _, hx => by
    cases x with
    | loc k => simp [X.nmB] at hx
    | out k =>
      simp only [X.nmB, decide_eq_true_eq] at hx
      simp only [X.toD, rnX, rn_at h hx]
  | .fn _ l l', hx => by
    simp only [X.nmB, Bool.and_eq_true] at hx
    simp only [X.toD, rnX, rnXL_toD h l hx.1, rnXL_toD h l' hx.2]
  | .agg l, hx | .tup l, hx => by
    simp only [X.nmB] at hx
    simp only [X.toD, rnX, rnXL_toD h l hx]
  | .d _, hx => by cases hx
theorem rnXL_toD {c c' : Cx} {ren : List Nm} (h : c'.ons = ren.map (Nm.at c)) : ∀ l : List X, X.nmBL 0 ren.length l = true → X.toDL c' l = X.toDL c (rnXL ren l)
  | [], _ => rfl
  | x :: l, hx => by
    simp only [X.nmBL, Bool.and_eq_true] at hx
    simp only [X.toDL, rnXL, rnX_toD h x hx.1, rnXL_toD h l hx.2]
end
theorem es_none {c c' : Cx} : ∀ {m : MX}, m.ok = true → m.es c = m.es c'
  | .nil, _ => rfl
  | .base _ _ _ _ _, _ => rfl
  | .put m k x, hm => by
    simp only [MX.ok, Bool.and_eq_true] at hm
    simp only [MX.es, es_none (c := c) (c' := c') hm.2, toD_none (c := c) (c' := c') x (noNm_nmB hm.1 0 0)]
  | .del m k, hm => by
    have hm' : m.ok = true := hm
    simp only [MX.es, es_none (c := c) (c' := c') hm']
theorem rnOX_toOb {c c' : Cx} {ren : List Nm} (h : c'.ons = ren.map (Nm.at c)) {ob : OX} (hob : ob.nmB 0 ren.length = true) : ob.toOb c' = (rnOX ren ob).toOb c := by
  cases ob with
  | var cs T => simp only [OX.toOb, rnOX, rnXL_toD h cs hob]
  | row ver E sz r => rfl
  | map ver ag m es => simp only [OX.toOb, rnOX, es_none (c := c') (c' := c) hob]
  | iter mp ver seen cur =>
    cases mp with
    | loc k => simp [OX.nmB] at hob
    | out k =>
      simp only [OX.nmB, decide_eq_true_eq] at hob
      simp only [OX.toOb, rnOX, rn_at h hob]
def Sx.setAll (σ : Sx) : List Nm → List OX → Sx
  | n :: ns, ob :: l => (σ.set n ob).setAll ns l
  | _, _ => σ
def hasAll (c : Cx) (σ : Sx) : List Nm → List OX → Prop
  | [], [] => True
  | n :: ns, ob :: l => (∃ ob', σ.get n = some ob' ∧ ob'.toOb c = ob.toOb c) ∧ hasAll c σ ns l
  | _, _ => False
def distN : List Nm → Bool
  | [] => true
  | n :: ns => (ns.all fun m => !(Nm.beq n m)) && distN ns
def outAll (m : Nat) : List Nm → List OX → Bool
  | .out _ :: ns, ob :: l => ob.nmB 0 m && outAll m ns l
  | .loc _ :: ns, _ :: l => outAll m ns l
  | _, _ => true
theorem get_set_ne {σ : Sx} {n m : Nm} (h : Nm.beq n m = false) (ob : OX) : (σ.set n ob).get m = σ.get m := by
  cases n <;> cases m <;> simp only [Nm.beq, decide_eq_false_iff_not] at h <;> simp only [Sx.set, Sx.get]
  · simp [List.getD_eq_getElem?_getD, h]
  · simp [h]
theorem hasAll_set {c : Cx} {σ : Sx} {n : Nm} {ob : OX} : ∀ {ns : List Nm} {l : List OX}, (ns.all fun m => !(Nm.beq n m)) = true → hasAll c σ ns l → hasAll c (σ.set n ob) ns l
  | [], [], _, h => h
  | [], _ :: _, _, h => h.elim
  | _ :: _, [], _, h => h.elim
  | m :: ns, x :: l, hn, h => by
    simp only [List.all_cons, Bool.and_eq_true, Bool.not_eq_true'] at hn
    obtain ⟨ob', h1, h2⟩ := h.1
    exact ⟨⟨ob', by rw [get_set_ne hn.1]; exact h1, h2⟩, hasAll_set hn.2 h.2⟩
theorem setAll_toSt {c : Cx} : ∀ {ns : List Nm} {l r : List OX} {σ : Sx}, c.Ok σ → distN ns = true → hasAll c σ ns l → r.length = ns.length → (σ.toSt c).sets ((ns.map (Nm.at c)).zip (r.map (OX.toOb c))) = (σ.setAll ns r).toSt c ∧ c.Ok (σ.setAll ns r)
  | [], l, r, σ, hc, _, _, hr => by cases r <;> exact ⟨rfl, hc⟩
  | n :: ns, [], r, σ, hc, _, h, _ => h.elim
  | n :: ns, a :: l, [], σ, hc, _, h, hr => by simp at hr
  | n :: ns, a :: l, b :: r, σ, hc, hd, h, hr => by
    simp only [distN, Bool.and_eq_true] at hd
    obtain ⟨ob', h1, h2⟩ := h.1
    have e := toSt_set hc h1 (ob' := b) .junk
    have e' : (σ.toSt c).set1 (n.at c) (b.toOb c) = (σ.set n b).toSt c := e
    simp only [List.map_cons, List.zip_cons_cons, St.sets, Sx.setAll, e']
    exact setAll_toSt (hc.set n b) hd.2 (hasAll_set hd.1 h.2) (by simpa using hr)
theorem CallN.objs {P P' : Program} {c : Cx} {f : FuncId} {args args' : List X} {O O' : List OX} {res : X} {σ : Sx} {k : Kx} (ren : List Nm) (hP : P' = P) (hx : XC P f args' O res O') (hf : FnOk P f)
    (hl : ren.length = O.length) (hl' : O'.length = O.length) (hd : distN ren = true) (hv : ren.all (Nm.inB σ) = true)
    (hn : X.nmBL 0 O.length args' = true) (hr : res.nmB 0 O.length = true) (hO : noL O.length O = true) (hO' : noL O.length O' = true)
    (hout : outAll σ.O.length ren (O'.map (rnOX ren)) = true)
    (ha : X.toDL c args = X.toDL c (rnXL ren args')) (hh : hasAll c σ ren (O.map (rnOX ren))) (h : k (rnX ren res) (ren, ren) (σ.setAll ren (O'.map (rnOX ren)))) : CallN P' c f args σ k := by
  subst hP
  refine ⟨fun hc => ?_⟩
  let c' : Cx := { c with ons := ren.map (Nm.at c) }
  have hce : c'.ons = ren.map (Nm.at c) := rfl
  have hnod : (ren.map (Nm.at c)).Nodup := by
    clear hx hl hn hr hout ha hh h hO hO' hl'
    clear hce c'
    induction ren with
    | nil => simp
    | cons n ns ih =>
      simp only [distN, Bool.and_eq_true, List.all_eq_true, Bool.not_eq_true'] at hd
      simp only [List.all_cons, Bool.and_eq_true] at hv
      simp only [List.map_cons, List.nodup_cons]
      refine ⟨fun hm => ?_, ih hd.2 hv.2⟩
      obtain ⟨m, hm1, hm2⟩ := List.mem_map.1 hm
      exact beq_at (T := []) (P := P') (fun x hx => by simp at hx) hc hv.1 (List.all_eq_true.1 hv.2 m hm1) (hd.1 m hm1) hm2.symm
  have hlen : c'.ons.length = O.length := by rw [hce, List.length_map, hl]
  have h1 := hx c' hnod hlen
  have hmO : O.map (OX.toOb c') = (O.map (rnOX ren)).map (OX.toOb c) := by
    rw [List.map_map]
    exact List.map_congr_left fun ob hob => rnOX_toOb hce (by rw [hl]; exact List.all_eq_true.1 hO ob hob)
  have hmO' : O'.map (OX.toOb c') = (O'.map (rnOX ren)).map (OX.toOb c) := by
    rw [List.map_map]
    exact List.map_congr_left fun ob hob => rnOX_toOb hce (by rw [hl]; exact List.all_eq_true.1 hO' ob hob)
  rw [rnXL_toD hce args' (by rw [hl]; exact hn), ← ha, rnX_toD hce res (by rw [hl]; exact hr), hmO, hmO'] at h1
  have hset := setAll_toSt (r := O'.map (rnOX ren)) hc hd hh (by rw [List.length_map, hl', hl])
  refine ⟨_, _, _, [], h1, hf, ?_, ?_, rnX ren res, (ren, ren), _, h, rfl, fun d' => ?_, hset.2, ?_, ?_⟩
  · have key : ∀ (ns : List Nm) (l : List OX), hasAll c σ ns l → ∀ x ∈ (ns.map (Nm.at c)).zip (l.map (OX.toOb c)), (σ.toSt c).get x.1 = some x.2 := by
      intro ns
      induction ns with
      | nil => intro l _ x hx; simp at hx
      | cons n ns ih =>
        intro l hl x hx
        cases l with
        | nil => exact hl.elim
        | cons a l =>
          simp only [List.map_cons, List.zip_cons_cons, List.mem_cons] at hx
          rcases hx with rfl | hx
          · obtain ⟨ob', e1, e2⟩ := hl.1
            rw [← e2]
            exact toSt_get hc e1
          · exact ih l hl.2 x hx
    exact key ren _ hh
  · have key : ∀ (ns : List Nm) (l r : List OX), l.length = ns.length → r.length = ns.length → outAll σ.O.length ns r = true → ns.all (Nm.inB σ) = true → ∀ x ∈ (ns.map (Nm.at c)).zip (r.map (OX.toOb c)), (∃ y, (x.1, y) ∈ (ns.map (Nm.at c)).zip (l.map (OX.toOb c))) ∧ (x.1 < (σ.toSt c).n0 → x.2.nms (σ.toSt c).n0) := by
      intro ns
      induction ns with
      | nil => intro l r _ _ _ _ x hx; simp at hx
      | cons n ns ih =>
        intro l r hl hr ho hv x hx
        cases l with
        | nil => simp at hl
        | cons a l =>
          cases r with
          | nil => simp at hr
          | cons b r =>
            simp only [List.map_cons, List.zip_cons_cons, List.mem_cons] at hx ⊢
            simp only [List.all_cons, Bool.and_eq_true] at hv
            rcases hx with rfl | hx
            · refine ⟨⟨_, .inl rfl⟩, fun hlt => ?_⟩
              cases n with
              | loc i =>
                have : c.n0 + i < c.n0 := hlt
                omega
              | out i =>
                simp only [outAll, Bool.and_eq_true] at ho
                have := obB_nms (c := c) (n := 0) hc.lt (ob := b) (by rw [← hc.len]; exact ho.1)
                exact this
            · have ho' : outAll σ.O.length ns r = true := by
                cases n with
                | loc i => exact ho
                | out i => simp only [outAll, Bool.and_eq_true] at ho; exact ho.2
              obtain ⟨⟨y, hy⟩, h2⟩ := ih l r (by simpa using hl) (by simpa using hr) ho' hv.2 x hx
              exact ⟨⟨y, .inr hy⟩, h2⟩
    exact key ren _ _ (by rw [List.length_map, hl]) (by rw [List.length_map, hl', hl]) hout hv
  · exact hset.1
  · have hz : ((ren.map (Nm.at c)).zip ((O.map (rnOX ren)).map (OX.toOb c))).map (·.1) = ren.map (Nm.at c) := by
      rw [List.map_fst_zip]; simp [hl]
    exact hz
  · have hz : ((ren.map (Nm.at c)).zip ((O'.map (rnOX ren)).map (OX.toOb c))).map (·.1) = ren.map (Nm.at c) := by
      rw [List.map_fst_zip]; simp [hl, hl']
    simp only [nameNew, List.map_nil, List.append_nil]
    exact hz
theorem CallI.pure {P P' : Program} {c : Cx} {f : FuncId} {args args' : List X} {res : X} {σ : Sx} {k : X → Sx → Prop} (hP : P' = P) (hx : XC P f args' [] res []) (hf : FnOk P f) (hn : X.nmBL 0 0 args' = true) (hr : res.nmB 0 0 = true)
    (ha : X.toDL c args = X.toDL c args') (h : k res σ) : CallI P' c f args σ k := CallI.of (CallN.pure hP hx hf hn hr ha h)
theorem CallI.objs {P P' : Program} {c : Cx} {f : FuncId} {args args' : List X} {O O' : List OX} {res : X} {σ : Sx} {k : X → Sx → Prop} (ren : List Nm) (hP : P' = P) (hx : XC P f args' O res O') (hf : FnOk P f)
    (hl : ren.length = O.length) (hl' : O'.length = O.length) (hd : distN ren = true) (hv : ren.all (Nm.inB σ) = true)
    (hn : X.nmBL 0 O.length args' = true) (hr : res.nmB 0 O.length = true) (hO : noL O.length O = true) (hO' : noL O.length O' = true)
    (hout : outAll σ.O.length ren (O'.map (rnOX ren)) = true)
    (ha : X.toDL c args = X.toDL c (rnXL ren args')) (hh : hasAll c σ ren (O.map (rnOX ren))) (h : k (rnX ren res) (σ.setAll ren (O'.map (rnOX ren)))) : CallI P' c f args σ k :=
  CallI.of (CallN.objs ren hP hx hf hl hl' hd hv hn hr hO hO' hout ha hh h)
theorem CallI.inl {P P' : Program} {c : Cx} {f : FuncId} {fn : Func} {code : Code} {N : Nat} {T : List (TypeId × TI)} (Dt : DT) {args : List X} (args' : List X) (O : List OX) {σ : Sx} {k : X → Sx → Prop} (ren : List Nm) {o : Ar} (ho : o = Ar.real) (hP : P' = P)
    (hf : P.funcs[f]? = some fn) (hb : fn.body = some code) (hng : (fn.name == "runtime.NumGoroutine") = false) (hN : fn.ntmps = N) (hm : P.follows .mixedOrders = true) (hT : TOk P T) (hdr : drawsB Dt code = true) (hn : args.length ≤ N)
    (hl : ren.length = O.length) (hd : distN ren = true) (hv : ren.all (Nm.inB σ) = true) (hargs : X.nmBL 0 O.length args' = true) (hO : noL O.length O = true)
    (ha : X.toDL c args = X.toDL c (rnXL ren args')) (hh : hasAll c σ ren (O.map (rnOX ren)))
    (h : ∀ (c' : Cx) (K : X → List OX → Prop), (∀ x O1, x.nmB 0 O.length = true → noL O.length O1 = true → O1.length = O.length → outAll σ.O.length ren (O1.map (rnOX ren)) = true → k (rnX ren x) (σ.setAll ren (O1.map (rnOX ren))) → K x O1) → ex o P' c' T Dt N code (retX o T fn.results.toList K) ⟨(List.range' 0 args'.length).zip args', [], O⟩) : CallI P' c f args σ k := by
  subst hP ho
  refine ⟨fun hc => ?_⟩
  let c' : Cx := ⟨(σ.toSt c).nx, (σ.toSt c).get, ren.map (Nm.at c), fun n => n < (σ.toSt c).n0 → (σ.toSt c).lv n⟩
  have hce : c'.ons = ren.map (Nm.at c) := rfl
  have hnod : (ren.map (Nm.at c)).Nodup := by
    clear hl hargs ha hh h hO
    clear hce c'
    induction ren with
    | nil => simp
    | cons n ns ih =>
      simp only [distN, Bool.and_eq_true, List.all_eq_true, Bool.not_eq_true'] at hd
      simp only [List.all_cons, Bool.and_eq_true] at hv
      simp only [List.map_cons, List.nodup_cons]
      refine ⟨fun hm => ?_, ih hd.2 hv.2⟩
      obtain ⟨m, hm1, hm2⟩ := List.mem_map.1 hm
      exact beq_at (T := []) (P := P') (fun x hx => by simp at hx) hc hv.1 (List.all_eq_true.1 hv.2 m hm1) (hd.1 m hm1) hm2.symm
  have hlen : c'.ons.length = O.length := by rw [hce, List.length_map, hl]
  have hmO : O.map (OX.toOb c') = (O.map (rnOX ren)).map (OX.toOb c) := by
    rw [List.map_map]
    exact List.map_congr_left fun ob hob => rnOX_toOb hce (by rw [hl]; exact List.all_eq_true.1 hO ob hob)
  have eargs : X.toDL c args = X.toDL c' args' := by rw [ha, ← rnXL_toD hce args' (by rw [hl]; exact hargs)]
  have hrd : ∀ x ∈ c'.ons.zip (O.map (OX.toOb c')), (σ.toSt c).get x.1 = some x.2 := by
    rw [hmO, hce]
    have key : ∀ (ns : List Nm) (l : List OX), hasAll c σ ns l → ∀ x ∈ (ns.map (Nm.at c)).zip (l.map (OX.toOb c)), (σ.toSt c).get x.1 = some x.2 := by
      intro ns
      induction ns with
      | nil => intro l _ x hx; simp at hx
      | cons n ns ih =>
        intro l hl x hx
        cases l with
        | nil => exact hl.elim
        | cons a l =>
          simp only [List.map_cons, List.zip_cons_cons, List.mem_cons] at hx
          rcases hx with rfl | hx
          · obtain ⟨ob', e1, e2⟩ := hl.1
            rw [← e2]
            exact toSt_get hc e1
          · exact ih l hl.2 x hx
    exact key ren _ hh
  refine CallSem.of_body hf hb hng hN (by rw [toDL_len]; exact hn) (fun hob hBok hnm => ?_)
  have hovr : ovr c' c'.ons O = (σ.toSt c).get := ovr_eq rfl _ _ hrd
  have hlt : ∀ n ∈ c'.ons, n < c'.n0 := by
    intro n hn'
    obtain ⟨i, hi, rfl⟩ := List.getElem_of_mem hn'
    have hi' : i < c'.ons.length := hi
    have hz : i < (c'.ons.zip (O.map (OX.toOb c'))).length := by simp; omega
    have h1 := hrd _ (List.getElem_mem hz)
    have h2 := (hob _ _ h1).1
    simpa using h2
  have hok : c'.Ok ⟨(List.range' 0 args'.length).zip args', [], O⟩ := ⟨hlen.symm, hnod, hlt⟩
  refine Awp.weak (S' := Sx.toSt c' ⟨(List.range' 0 args'.length).zip args', [], O⟩) ?_ ?_
  · refine ⟨fun t => ?_, hovr, rfl, rfl, by simp [Sx.toSt], fun i o ho => by simp [Sx.toSt] at ho⟩
    show Sx.env c' _ t = D.junk ∨ _
    simp only [Sx.env, getE_zip, Nat.zero_le, if_true, Nat.sub_zero]
    rcases Nat.lt_or_ge t args'.length with ht | ht
    · right
      have e1 : envOf (X.toDL c args) t = (args'.getD t .junk).toD c' := by
        rw [eargs, toDL_eq]
        simp [envOf, List.getD_eq_getElem?_getD, ht]
      refine ⟨?_, ?_⟩
      · show Sx.env c' _ t = envOf (X.toDL c args) t
        rw [e1]
        simp [Sx.env, getE_zip]
      · have h2 := (nmsL_iff _ _).1 hnm
        have h3 : envOf (X.toDL c args) t ∈ X.toDL c args := by
          have h4 : t < (X.toDL c args).length := by rw [eargs, toDL_len]; exact ht
          simp only [envOf, List.getD_eq_getElem?_getD, List.getElem?_eq_getElem h4, Option.getD_some]
          exact List.getElem_mem h4
        exact D.nms_mono (by show (σ.toSt c).nx ≤ (σ.toSt c).nx + _; omega) _ (h2 _ h3)
    · left
      rw [List.getD_eq_getElem?_getD, List.getElem?_eq_none ht]
      rfl
  · have hex := h c' (fun x O1 => x.nmB 0 O.length = true ∧ noL O.length O1 = true ∧ O1.length = O.length ∧ outAll σ.O.length ren (O1.map (rnOX ren)) = true ∧ k (rnX ren x) (σ.setAll ren (O1.map (rnOX ren)))) (fun x O1 h1 h2 h3 h4 h5 => ⟨h1, h2, h3, h4, h5⟩)
    refine (ex_sound hT hm code hdr _ _ hok hex).mono ?_
    rintro e S' ⟨σ', rfl, hc', hq⟩
    have fin : (match resXL T σ' fn.results.toList with | some xs => frzK Ar.real σ' (oneX xs) fun x => x.nmB 0 O.length = true ∧ noL O.length σ'.O = true ∧ σ'.O.length = O.length ∧ outAll σ.O.length ren (σ'.O.map (rnOX ren)) = true ∧ k (rnX ren x) (σ.setAll ren (σ'.O.map (rnOX ren))) | none => False) →
        ∃ ds d S', resL P' (σ'.toSt c') fn.results.toList = some ds ∧ Frz (σ'.toSt c') (resOne ds) d ∧ d.nms (σ.toSt c).nx ∧ UpH (σ'.toSt c').B S'.get ∧ S'.env = (σ.toSt c).env ∧ S'.n0 = (σ.toSt c).n0 ∧ S'.lv = (σ.toSt c).lv ∧ S'.L.length = (σ.toSt c).L.length ∧ (∀ n o, S'.B n = some o → n < S'.n0 ∧ o.nms S'.n0) ∧ ∃ x σ', k x σ' ∧ d = x.toD c ∧ S' = σ'.toSt c ∧ c.Ok σ' := by
      intro hq
      split at hq
      case h_2 => exact hq.elim
      rename_i xs hxs
      obtain ⟨x', ⟨g1, g2, g3, g4, g5⟩, hfz⟩ := frzK_real hc' _ hq
      have hset := setAll_toSt (r := σ'.O.map (rnOX ren)) hc hd hh (by rw [List.length_map, g3, hl])
      have hmO' : σ'.O.map (OX.toOb c') = (σ'.O.map (rnOX ren)).map (OX.toOb c) := by
        rw [List.map_map]
        exact List.map_congr_left fun ob hob => rnOX_toOb hce (by rw [hl]; exact List.all_eq_true.1 g2 ob hob)
      have hsome : ∀ x ∈ (ren.map (Nm.at c)).zip ((σ'.O.map (rnOX ren)).map (OX.toOb c)), ((σ.toSt c).get x.1).isSome = true := by
        intro x hx
        have h1 := (List.of_mem_zip hx).1
        obtain ⟨i, hi, e⟩ := List.getElem_of_mem h1
        have hi' : i < (c'.ons.zip (O.map (OX.toOb c'))).length := by simp only [List.length_zip, List.length_map, hce] at hi ⊢; omega
        have h2 := hrd _ (List.getElem_mem hi')
        simp only [List.getElem_zip, hce] at h2
        rw [← e, h2]; rfl
      refine ⟨_, x'.toD c', (σ.setAll ren (σ'.O.map (rnOX ren))).toSt c, resX_toD hT hc' hxs, by rw [← oneX_toD]; exact hfz, ?_, ?_, by rw [← hset.1, St.sets_env], by rw [← hset.1, St.sets_n0], by rw [← hset.1, St.sets_lv], ?_, ?_, rnX ren x', _, g5, rnX_toD hce x' (by rw [hl]; exact g1), rfl, hset.2⟩
      · have := nmB_nms (c := c') (n := 0) hlt x' (by rw [hlen]; exact g1)
        exact this
      · rw [← hset.1, St.get_sets _ _ hsome]
        have e : (σ'.toSt c').B = setH (σ.toSt c).get ((ren.map (Nm.at c)).zip ((σ'.O.map (rnOX ren)).map (OX.toOb c))) := by
          funext m
          rw [← hmO', ← hce]
          rw [setH_zip c' (σ.toSt c).get c'.ons σ'.O hnod (by rw [g3, hlen]) m]
          show ovr c' c'.ons σ'.O m = _
          rw [ovr_find c' c'.ons σ'.O hc'.len m]
        rw [e, UpH_refl]
        trivial
      · rw [← hset.1]
        have := St.sets_nx ((ren.map (Nm.at c)).zip ((σ'.O.map (rnOX ren)).map (OX.toOb c))) (σ.toSt c)
        have h0 := St.sets_n0 ((ren.map (Nm.at c)).zip ((σ'.O.map (rnOX ren)).map (OX.toOb c))) (σ.toSt c)
        unfold St.nx at this
        omega
      · rw [← hset.1]
        have hb := sets_Bok ((ren.map (Nm.at c)).zip ((σ'.O.map (rnOX ren)).map (OX.toOb c))) (σ.toSt c) hBok (fun x hx hlt' => ?_)
        · intro n o ho
          have := hb n o ho
          rw [St.sets_n0]
          exact this
        · have key : ∀ (ns : List Nm) (r : List OX), r.length = ns.length → outAll σ.O.length ns r = true → ns.all (Nm.inB σ) = true → ∀ x ∈ (ns.map (Nm.at c)).zip (r.map (OX.toOb c)), x.1 < (σ.toSt c).n0 → x.2.nms (σ.toSt c).n0 := by
            intro ns
            induction ns with
            | nil => intro r _ _ _ x hx; simp at hx
            | cons n ns ih =>
              intro r hr ho hv x hx
              cases r with
              | nil => simp at hr
              | cons b r =>
                simp only [List.map_cons, List.zip_cons_cons, List.mem_cons] at hx
                simp only [List.all_cons, Bool.and_eq_true] at hv
                rcases hx with rfl | hx
                · intro hlt
                  cases n with
                  | loc i =>
                    have : c.n0 + i < c.n0 := hlt
                    omega
                  | out i =>
                    simp only [outAll, Bool.and_eq_true] at ho
                    have := obB_nms (c := c) (n := 0) hc.lt (ob := b) (by rw [← hc.len]; exact ho.1)
                    exact this
                · have ho' : outAll σ.O.length ns r = true := by
                    cases n with
                    | loc i => exact ho
                    | out i => simp only [outAll, Bool.and_eq_true] at ho; exact ho.2
                  exact ih r (by simpa using hr) ho' hv.2 x hx
          exact key ren _ (by rw [List.length_map, g3, hl]) g4 hv x hx hlt'
    cases e with
    | ret => exact fin hq
    | normal => exact fin hq
    | exit id => exact hq.elim
    | goto l => exact hq.elim
    | panic ch => exact hq.elim
    | outgrown => exact hq.elim
def keepN (ren : List Nm) (m : Nat) : Nm → Nm
  | .loc i => .loc (m + i)
  | .out i => ren.getD i (.out i)
mutual
def keepX (ren : List Nm) (m : Nat) : X → X
  | .ptr n off => .ptr (keepN ren m n) off
  | .pix n off q j => .pix (keepN ren m n) off q j
  | .rptr n v s j off => .rptr (keepN ren m n) v s j off
  | .own n v => .own (keepN ren m n) v
  | .mp n => .mp (keepN ren m n)
  | .st n v j => .st (keepN ren m n) v j
  | .fn f l l' => .fn f (keepXL ren m l) (keepXL ren m l')
  | .agg l => .agg (keepXL ren m l)
  | .tup l => .tup (keepXL ren m l)
  | x => x
def keepXL (ren : List Nm) (m : Nat) : List X → List X
  | [] => []
  | x :: l => keepX ren m x :: keepXL ren m l
end
def keepOX (ren : List Nm) (m : Nat) : OX → OX
  | .var cs T => .var (keepXL ren m cs) T
  | .iter n v s u => .iter (keepN ren m n) v s u
  | o => o
def keepL (ren : List Nm) (m : Nat) : List (Option OX) → List (Option OX)
  | [] => []
  | some ob :: l => some (keepOX ren m ob) :: keepL ren m l
  | none :: l => none :: keepL ren m l
def nmLB (n m : Nat) : List (Option OX) → Bool
  | [] => true
  | some ob :: l => ob.nmB n m && nmLB n m l
  | none :: l => nmLB n m l
section
variable {c c' : Cx} {ren : List Nm} {m : Nat}
theorem keepN_at (h : c'.ons = ren.map (Nm.at c)) (h0 : c'.n0 = c.n0 + m) {q : Nat} {n : Nm} (hn : (match n with | .loc k => decide (k < q) | .out k => decide (k < ren.length)) = true) : n.at c' = (keepN ren m n).at c := by
  cases n with
  | loc k => simp only [Nm.at, keepN, h0]; omega
  | out k =>
    simp only [decide_eq_true_eq] at hn
    exact rn_at h hn
mutual
theorem keepX_toD (h : c'.ons = ren.map (Nm.at c)) (h0 : c'.n0 = c.n0 + m) {q : Nat} : ∀ x : X, x.nmB q ren.length = true → x.toD c' = (keepX ren m x).toD c
  | .junk, _ | .i _ _, _ | .b _, _ | .v _, _ | .ro _, _ | .rp _ _, _ | .rpix _ _ _ _, _ | .lit _, _ => by simp only [X.toD, keepX]
  | .ptr x _, hx | .pix x _ _ _, hx | .rptr x _ _ _ _, hx | .own x _, hx | .mp x, hx | .st x _ _, hx => by
    simp only [X.nmB] at hx
    simp only [X.toD, keepX, keepN_at h h0 hx]
  | .fn _ l l', hx => by
    simp only [X.nmB, Bool.and_eq_true] at hx
    simp only [X.toD, keepX, keepXL_toD h h0 l hx.1, keepXL_toD h h0 l' hx.2]
  | .agg l, hx | .tup l, hx => by
    simp only [X.nmB] at hx
    simp only [X.toD, keepX, keepXL_toD h h0 l hx]
  | .d _, hx => by cases hx
theorem keepXL_toD (h : c'.ons = ren.map (Nm.at c)) (h0 : c'.n0 = c.n0 + m) {q : Nat} : ∀ l : List X, X.nmBL q ren.length l = true → X.toDL c' l = X.toDL c (keepXL ren m l)
  | [], _ => rfl
  | x :: l, hx => by
    simp only [X.nmBL, Bool.and_eq_true] at hx
    simp only [X.toDL, keepXL, keepX_toD h h0 x hx.1, keepXL_toD h h0 l hx.2]
end
theorem keepOX_toOb (h : c'.ons = ren.map (Nm.at c)) (h0 : c'.n0 = c.n0 + m) {q : Nat} {ob : OX} (hob : ob.nmB q ren.length = true) : ob.toOb c' = (keepOX ren m ob).toOb c := by
  cases ob with
  | var cs T => simp only [OX.toOb, keepOX, keepXL_toD h h0 cs hob]
  | row ver E sz r => rfl
  | map ver ag m es => simp only [OX.toOb, keepOX, es_none (c := c') (c' := c) hob]
  | iter mp ver seen cur =>
    simp only [OX.nmB] at hob
    simp only [OX.toOb, keepOX, keepN_at h h0 hob]
theorem keepL_toOb (h : c'.ons = ren.map (Nm.at c)) (h0 : c'.n0 = c.n0 + m) {q : Nat} : ∀ l : List (Option OX), nmLB q ren.length l = true → l.map (Option.map (OX.toOb c')) = (keepL ren m l).map (Option.map (OX.toOb c))
  | [], _ => rfl
  | some ob :: l, hl => by
    simp only [nmLB, Bool.and_eq_true] at hl
    simp only [List.map_cons, keepL, Option.map_some, keepOX_toOb h h0 hl.1, keepL_toOb h h0 l hl.2]
  | none :: l, hl => by
    simp only [nmLB] at hl
    simp only [List.map_cons, keepL, Option.map_none, keepL_toOb h h0 l hl]
end
def retKX (T : List (TypeId × TI)) (rs : List ResultVar) (K : X → List (Option OX) → List OX → Prop) : Exit → Sx → Prop
  | .ret, σ | .normal, σ => match resXL T σ rs with | some xs => K (oneX xs) σ.L σ.O | none => False
  | _, _ => False
def Sx.more (σ : Sx) (L2 : List (Option OX)) : Sx := { σ with L := σ.L ++ L2 }
theorem CallI.inlK {P P' : Program} {c : Cx} {f : FuncId} {fn : Func} {code : Code} {N : Nat} {T : List (TypeId × TI)} (Dt : DT) {args : List X} (args' : List X) (O : List OX) {σ : Sx} {k : X → Sx → Prop} (ren : List Nm) {o : Ar} (ho : o = Ar.real) (hP : P' = P)
    (hf : P.funcs[f]? = some fn) (hb : fn.body = some code) (hng : (fn.name == "runtime.NumGoroutine") = false) (hN : fn.ntmps = N) (hm : P.follows .mixedOrders = true) (hT : TOk P T) (hdr : drawsB Dt code = true) (hn : args.length ≤ N)
    (hl : ren.length = O.length) (hd : distN ren = true) (hv : ren.all (Nm.inB σ) = true) (hargs : X.nmBL 0 O.length args' = true) (hO : noL O.length O = true)
    (ha : X.toDL c args = X.toDL c (rnXL ren args')) (hh : hasAll c σ ren (O.map (rnOX ren)))
    (h : ∀ (c' : Cx) (K : X → List (Option OX) → List OX → Prop), (∀ x L1 O1, x.nmB L1.length O.length = true → nmLB L1.length O.length L1 = true → noL O.length O1 = true → O1.length = O.length → outAll σ.O.length ren (O1.map (rnOX ren)) = true → k (keepX ren σ.L.length x) ((σ.setAll ren (O1.map (rnOX ren))).more (keepL ren σ.L.length L1)) → K x L1 O1) → ex o P' c' T Dt N code (retKX T fn.results.toList K) ⟨(List.range' 0 args'.length).zip args', [], O⟩) : CallI P' c f args σ k := by
  subst hP ho
  refine ⟨fun hc => ?_⟩
  let c' : Cx := ⟨(σ.toSt c).nx, (σ.toSt c).get, ren.map (Nm.at c), fun n => n < (σ.toSt c).n0 → (σ.toSt c).lv n⟩
  have hce : c'.ons = ren.map (Nm.at c) := rfl
  have hc0 : c'.n0 = c.n0 + σ.L.length := by show (σ.toSt c).nx = _; simp [St.nx, Sx.toSt]
  have hnod : (ren.map (Nm.at c)).Nodup := by
    clear hl hargs ha hh h hO
    clear hce hc0 c'
    induction ren with
    | nil => simp
    | cons n ns ih =>
      simp only [distN, Bool.and_eq_true, List.all_eq_true, Bool.not_eq_true'] at hd
      simp only [List.all_cons, Bool.and_eq_true] at hv
      simp only [List.map_cons, List.nodup_cons]
      refine ⟨fun hm => ?_, ih hd.2 hv.2⟩
      obtain ⟨m, hm1, hm2⟩ := List.mem_map.1 hm
      exact beq_at (T := []) (P := P') (fun x hx => by simp at hx) hc hv.1 (List.all_eq_true.1 hv.2 m hm1) (hd.1 m hm1) hm2.symm
  have hlen : c'.ons.length = O.length := by rw [hce, List.length_map, hl]
  have hmO : O.map (OX.toOb c') = (O.map (rnOX ren)).map (OX.toOb c) := by
    rw [List.map_map]
    exact List.map_congr_left fun ob hob => rnOX_toOb hce (by rw [hl]; exact List.all_eq_true.1 hO ob hob)
  have eargs : X.toDL c args = X.toDL c' args' := by rw [ha, ← rnXL_toD hce args' (by rw [hl]; exact hargs)]
  have hrd : ∀ x ∈ c'.ons.zip (O.map (OX.toOb c')), (σ.toSt c).get x.1 = some x.2 := by
    rw [hmO, hce]
    have key : ∀ (ns : List Nm) (l : List OX), hasAll c σ ns l → ∀ x ∈ (ns.map (Nm.at c)).zip (l.map (OX.toOb c)), (σ.toSt c).get x.1 = some x.2 := by
      intro ns
      induction ns with
      | nil => intro l _ x hx; simp at hx
      | cons n ns ih =>
        intro l hl x hx
        cases l with
        | nil => exact hl.elim
        | cons a l =>
          simp only [List.map_cons, List.zip_cons_cons, List.mem_cons] at hx
          rcases hx with rfl | hx
          · obtain ⟨ob', e1, e2⟩ := hl.1
            rw [← e2]
            exact toSt_get hc e1
          · exact ih l hl.2 x hx
    exact key ren _ hh
  refine CallSem.of_bodyK hf hb hng hN (by rw [toDL_len]; exact hn) (fun hob hBok hnm => ?_)
  have hovr : ovr c' c'.ons O = (σ.toSt c).get := ovr_eq rfl _ _ hrd
  have hlt : ∀ n ∈ c'.ons, n < c'.n0 := by
    intro n hn'
    obtain ⟨i, hi, rfl⟩ := List.getElem_of_mem hn'
    have hi' : i < c'.ons.length := hi
    have hz : i < (c'.ons.zip (O.map (OX.toOb c'))).length := by simp; omega
    have h1 := hrd _ (List.getElem_mem hz)
    have h2 := (hob _ _ h1).1
    simpa using h2
  have hok : c'.Ok ⟨(List.range' 0 args'.length).zip args', [], O⟩ := ⟨hlen.symm, hnod, hlt⟩
  refine Awp.weak (S' := Sx.toSt c' ⟨(List.range' 0 args'.length).zip args', [], O⟩) ?_ ?_
  · refine ⟨fun t => ?_, hovr, rfl, rfl, by simp [Sx.toSt], fun i o ho => by simp [Sx.toSt] at ho⟩
    show Sx.env c' _ t = D.junk ∨ _
    simp only [Sx.env, getE_zip, Nat.zero_le, if_true, Nat.sub_zero]
    rcases Nat.lt_or_ge t args'.length with ht | ht
    · right
      have e1 : envOf (X.toDL c args) t = (args'.getD t .junk).toD c' := by
        rw [eargs, toDL_eq]
        simp [envOf, List.getD_eq_getElem?_getD, ht]
      refine ⟨?_, ?_⟩
      · show Sx.env c' _ t = envOf (X.toDL c args) t
        rw [e1]
        simp [Sx.env, getE_zip]
      · have h2 := (nmsL_iff _ _).1 hnm
        have h3 : envOf (X.toDL c args) t ∈ X.toDL c args := by
          have h4 : t < (X.toDL c args).length := by rw [eargs, toDL_len]; exact ht
          simp only [envOf, List.getD_eq_getElem?_getD, List.getElem?_eq_getElem h4, Option.getD_some]
          exact List.getElem_mem h4
        exact D.nms_mono (by show (σ.toSt c).nx ≤ (σ.toSt c).nx + _; omega) _ (h2 _ h3)
    · left
      rw [List.getD_eq_getElem?_getD, List.getElem?_eq_none ht]
      rfl
  · have hex := h c' (fun x L1 O1 => x.nmB L1.length O.length = true ∧ nmLB L1.length O.length L1 = true ∧ noL O.length O1 = true ∧ O1.length = O.length ∧ outAll σ.O.length ren (O1.map (rnOX ren)) = true ∧ k (keepX ren σ.L.length x) ((σ.setAll ren (O1.map (rnOX ren))).more (keepL ren σ.L.length L1))) (fun x L1 O1 h1 h2 h3 h4 h5 h6 => ⟨h1, h2, h3, h4, h5, h6⟩)
    refine (ex_sound hT hm code hdr _ _ hok hex).mono ?_
    rintro e S' ⟨σ', rfl, hc', hq⟩
    have fin : (match resXL T σ' fn.results.toList with | some xs => ((oneX xs).nmB σ'.L.length O.length = true ∧ nmLB σ'.L.length O.length σ'.L = true ∧ noL O.length σ'.O = true ∧ σ'.O.length = O.length ∧ outAll σ.O.length ren (σ'.O.map (rnOX ren)) = true ∧ k (keepX ren σ.L.length (oneX xs)) ((σ.setAll ren (σ'.O.map (rnOX ren))).more (keepL ren σ.L.length σ'.L))) | none => False) →
        ∃ ds S', resL P' (σ'.toSt c') fn.results.toList = some ds ∧ S'.env = (σ.toSt c).env ∧ S'.n0 = (σ.toSt c).n0 ∧ S'.lv = (σ.toSt c).lv ∧ S'.get = (σ'.toSt c').get ∧ S'.nx = (σ'.toSt c').nx ∧ (∀ n o, S'.B n = some o → n < S'.n0 ∧ o.nms S'.n0) ∧ ∃ x σ', k x σ' ∧ resOne ds = x.toD c ∧ S' = σ'.toSt c ∧ c.Ok σ' := by
      intro hq
      split at hq
      case h_2 => exact hq.elim
      rename_i xs hxs
      obtain ⟨g1, g6, g2, g3, g4, g5⟩ := hq
      have hset := setAll_toSt (r := σ'.O.map (rnOX ren)) hc hd hh (by rw [List.length_map, g3, hl])
      have hmO' : σ'.O.map (OX.toOb c') = (σ'.O.map (rnOX ren)).map (OX.toOb c) := by
        rw [List.map_map]
        exact List.map_congr_left fun ob hob => rnOX_toOb hce (by rw [hl]; exact List.all_eq_true.1 g2 ob hob)
      have hsome : ∀ x ∈ (ren.map (Nm.at c)).zip ((σ'.O.map (rnOX ren)).map (OX.toOb c)), ((σ.toSt c).get x.1).isSome = true := by
        intro x hx
        have h1 := (List.of_mem_zip hx).1
        obtain ⟨i, hi, e⟩ := List.getElem_of_mem h1
        have hi' : i < (c'.ons.zip (O.map (OX.toOb c'))).length := by simp only [List.length_zip, List.length_map, hce] at hi ⊢; omega
        have h2 := hrd _ (List.getElem_mem hi')
        simp only [List.getElem_zip, hce] at h2
        rw [← e, h2]; rfl
      have hB : (σ'.toSt c').B = ((σ.setAll ren (σ'.O.map (rnOX ren))).toSt c).get := by
        rw [← hset.1, St.get_sets _ _ hsome]
        funext m
        rw [← hmO', ← hce]
        rw [setH_zip c' (σ.toSt c).get c'.ons σ'.O hnod (by rw [g3, hlen]) m]
        show ovr c' c'.ons σ'.O m = _
        rw [ovr_find c' c'.ons σ'.O hc'.len m]
      have hnx0 : ((σ.setAll ren (σ'.O.map (rnOX ren))).toSt c).nx = (σ.toSt c).nx := by rw [← hset.1]; exact St.sets_nx _ _
      have hL0 : (σ.setAll ren (σ'.O.map (rnOX ren))).L.length = σ.L.length := by
        have := hnx0
        simp only [St.nx, Sx.toSt, List.length_map] at this
        omega
      have hkl : (keepL ren σ.L.length σ'.L).map (Option.map (OX.toOb c)) = σ'.L.map (Option.map (OX.toOb c')) := (keepL_toOb hce hc0 (q := σ'.L.length) σ'.L (by rw [hl]; exact g6)).symm
      refine ⟨_, ((σ.setAll ren (σ'.O.map (rnOX ren))).more (keepL ren σ.L.length σ'.L)).toSt c, resX_toD hT hc' hxs, ?_, rfl, rfl, ?_, ?_, ?_, keepX ren σ.L.length (oneX xs), _, g5, ?_, rfl, ⟨hset.2.len, hset.2.nod, hset.2.lt⟩⟩
      · show ((σ.setAll ren (σ'.O.map (rnOX ren))).toSt c).env = _
        rw [← hset.1, St.sets_env]
      · funext n
        have hgb : ∀ n, (σ'.toSt c').get n = if n < c.n0 + σ.L.length then ((σ.setAll ren (σ'.O.map (rnOX ren))).toSt c).get n else (σ'.L.map (Option.map (OX.toOb c'))).getD (n - (c.n0 + σ.L.length)) none := fun n => by
          rw [← hB]
          unfold St.get
          show (if n < c'.n0 then (σ'.toSt c').B n else (σ'.L.map (Option.map (OX.toOb c'))).getD (n - c'.n0) none) = _
          rw [hc0]
        rw [hgb]
        unfold St.get
        show (if n < c.n0 then _ else ((((σ.setAll ren (σ'.O.map (rnOX ren))).L ++ keepL ren σ.L.length σ'.L).map (Option.map (OX.toOb c))).getD (n - c.n0) none)) = _
        rw [List.map_append, hkl]
        by_cases h1 : n < c.n0
        · rw [if_pos h1, if_pos (by omega)]
          rw [if_pos (show n < ((σ.setAll ren (σ'.O.map (rnOX ren))).toSt c).n0 from h1)]
          rfl
        · rw [if_neg h1]
          by_cases h2 : n < c.n0 + σ.L.length
          · rw [if_pos h2, if_neg (show ¬ n < ((σ.setAll ren (σ'.O.map (rnOX ren))).toSt c).n0 from h1)]
            rw [List.getD_eq_getElem?_getD, List.getElem?_append_left (by rw [List.length_map, hL0]; omega), List.getD_eq_getElem?_getD]
            rfl
          · rw [if_neg h2]
            rw [List.getD_eq_getElem?_getD, List.getElem?_append_right (by rw [List.length_map, hL0]; omega), List.getD_eq_getElem?_getD, List.length_map, hL0]
            congr 2
            omega
      · have e1 : ((σ.setAll ren (σ'.O.map (rnOX ren))).more (keepL ren σ.L.length σ'.L)).L.length = σ.L.length + σ'.L.length := by
          simp only [Sx.more, List.length_append, hL0]
          have := congrArg List.length hkl
          simp only [List.length_map] at this
          omega
        show c.n0 + (List.map _ _).length = c'.n0 + (List.map _ _).length
        rw [List.length_map, List.length_map, e1, hc0]
        omega
      · have hb := sets_Bok ((ren.map (Nm.at c)).zip ((σ'.O.map (rnOX ren)).map (OX.toOb c))) (σ.toSt c) hBok (fun x hx hlt' => ?_)
        · intro n o ho
          have ho' : ((σ.setAll ren (σ'.O.map (rnOX ren))).toSt c).B n = some o := ho
          rw [← hset.1] at ho'
          exact hb n o ho'
        · have key : ∀ (ns : List Nm) (r : List OX), r.length = ns.length → outAll σ.O.length ns r = true → ns.all (Nm.inB σ) = true → ∀ x ∈ (ns.map (Nm.at c)).zip (r.map (OX.toOb c)), x.1 < (σ.toSt c).n0 → x.2.nms (σ.toSt c).n0 := by
            intro ns
            induction ns with
            | nil => intro r _ _ _ x hx; simp at hx
            | cons n ns ih =>
              intro r hr ho hv x hx
              cases r with
              | nil => simp at hr
              | cons b r =>
                simp only [List.map_cons, List.zip_cons_cons, List.mem_cons] at hx
                simp only [List.all_cons, Bool.and_eq_true] at hv
                rcases hx with rfl | hx
                · intro hlt
                  cases n with
                  | loc i =>
                    have : c.n0 + i < c.n0 := hlt
                    omega
                  | out i =>
                    simp only [outAll, Bool.and_eq_true] at ho
                    have := obB_nms (c := c) (n := 0) hc.lt (ob := b) (by rw [← hc.len]; exact ho.1)
                    exact this
                · have ho' : outAll σ.O.length ns r = true := by
                    cases n with
                    | loc i => exact ho
                    | out i => simp only [outAll, Bool.and_eq_true] at ho; exact ho.2
                  exact ih r (by simpa using hr) ho' hv.2 x hx
          exact key ren _ (by rw [List.length_map, g3, hl]) g4 hv x hx hlt'
      · rw [← oneX_toD]
        exact keepX_toD hce hc0 (q := σ'.L.length) (oneX xs) (by rw [hl]; exact g1)
    cases e with
    | ret => exact fin hq
    | normal => exact fin hq
    | exit id => exact hq.elim
    | goto l => exact hq.elim
    | panic ch => exact hq.elim
    | outgrown => exact hq.elim
def UnX (o : Ar) (P : Program) (c : Cx) (T : List (TypeId × TI)) (D : DT) (N : Nat) (code : Code) (Q : Exit → Sx → Prop) : Nat → Sx → Prop
  | 0, _ => False
  | n + 1, σ => StopN σ (ex o P c T D N code (thenX (UnX o P c T D N code Q n) Q))
theorem LoopN.lay {o : Ar} {P : Program} {T : List (TypeId × TI)} {D : DT} {N : Nat} {c : Cx} {code : Code} {Q : Exit → Sx → Prop} {σ : Sx} (n : Nat) (ho : o = Ar.real) (hm : P.follows .mixedOrders = true) (hT : TOk P T) (hdr : drawsB D code = true)
    (h : UnX o P c T D N code Q n σ) : LoopN P N c code Q σ := by
  subst ho
  refine ⟨fun hc => ?_⟩
  refine Awp.loop2 (fun m S => ∃ τ, S = τ.toSt c ∧ c.Ok τ ∧ UnX Ar.real P c T D N code Q m τ) n ⟨σ, rfl, hc, h⟩ ?_
  rintro m S ⟨τ, rfl, hc1, hJ⟩
  cases m with
  | zero => exact hJ.elim
  | succ m =>
    refine (ex_sound hT hm code hdr _ τ hc1 hJ.1).mono ?_
    rintro e S' ⟨σ', rfl, hc', hq⟩
    cases e with
    | normal => exact ⟨m, Nat.lt_succ_self m, σ', rfl, hc', hq⟩
    | _ => exact ⟨σ', rfl, hc', hq⟩
end Go.Sy

/-
  Functions, loops and calls over reified states. Plain theorems.
-/
import Derived.Test.YtkjjihicaefmcaaDoorSyY
set_option linter.unusedVariables false
set_option linter.unusedSectionVars false
set_option linter.unusedSimpArgs false
namespace Go.Sy
open Go Go.RowKit
mutual
def X.nmB (n m : Nat) : X → Bool
  | .junk | .i _ _ | .b _ | .v _ | .ro _ | .rp _ _ | .rpix _ _ _ _ | .lit _ => true
  | .ptr x _ | .pix x _ _ _ | .rptr x _ _ _ _ | .own x _ | .mp x | .st x _ _ => match x with | .loc k => decide (k < n) | .out k => decide (k < m)
  | .fn _ l l' => X.nmBL n m l && X.nmBL n m l'
  | .agg l | .tup l => X.nmBL n m l
  | .d _ => false
def X.nmBL (n m : Nat) : List X → Bool
  | [] => true
  | x :: l => X.nmB n m x && X.nmBL n m l
end
def OX.nmB (n m : Nat) : OX → Bool
  | .var cs _ => X.nmBL n m cs
  | .row _ _ _ _ => true
  | .map _ _ _ es => es.ok
  | .iter x _ _ _ => match x with | .loc k => decide (k < n) | .out k => decide (k < m)
theorem nm_at {c : Cx} {n : Nat} (hlt : ∀ x ∈ c.ons, x < c.n0) {x : Nm} (h : (match x with | .loc k => decide (k < n) | .out k => decide (k < c.ons.length)) = true) : x.at c < c.n0 + n := by
  cases x with
  | loc k => simp only [decide_eq_true_eq] at h; simp only [Nm.at]; omega
  | out k =>
    simp only [decide_eq_true_eq] at h
    simp only [Nm.at, List.getD_eq_getElem?_getD, List.getElem?_eq_getElem h, Option.getD_some]
    have := hlt _ (List.getElem_mem h)
    omega
mutual
theorem nmB_nms {c : Cx} {n : Nat} (hlt : ∀ x ∈ c.ons, x < c.n0) : ∀ x : X, x.nmB n c.ons.length = true → (x.toD c).nms (c.n0 + n)
  | .junk, _ | .i _ _, _ | .b _, _ | .v _, _ | .ro _, _ | .rp _ _, _ | .rpix _ _ _ _, _ | .lit _, _ => trivial
  | .ptr x _, h | .pix x _ _ _, h | .rptr x _ _ _ _, h | .own x _, h | .mp x, h | .st x _ _, h => nm_at hlt h
  | .fn _ l l', h => by
    simp only [X.nmB, Bool.and_eq_true] at h
    exact ⟨nmBL_nms hlt l h.1, nmBL_nms hlt l' h.2⟩
  | .agg l, h | .tup l, h => nmBL_nms hlt l h
  | .d _, h => by cases h
theorem nmBL_nms {c : Cx} {n : Nat} (hlt : ∀ x ∈ c.ons, x < c.n0) : ∀ l : List X, X.nmBL n c.ons.length l = true → D.nmsL (c.n0 + n) (X.toDL c l)
  | [], _ => trivial
  | x :: l, h => by
    simp only [X.nmBL, Bool.and_eq_true] at h
    exact ⟨nmB_nms hlt x h.1, nmBL_nms hlt l h.2⟩
end
theorem obB_nms {c : Cx} {n : Nat} (hlt : ∀ x ∈ c.ons, x < c.n0) {ob : OX} (h : ob.nmB n c.ons.length = true) : (ob.toOb c).nms (c.n0 + n) := by
  cases ob with
  | var cs T => exact nmBL_nms hlt cs h
  | row ver E sz r =>
    intro x hx
    obtain ⟨l, _, rfl⟩ := List.mem_map.1 hx
    rw [nmsL_iff]
    intro d hd
    obtain ⟨x, _, rfl⟩ := List.mem_map.1 hd
    trivial
  | map ver ag m es => exact fun x hx => ok_nms c h x hx _
  | iter mp ver seen cur => exact nm_at hlt h
mutual
theorem toD_congr {c c' : Cx} (h : c.ons = c'.ons) {m : Nat} : ∀ x : X, x.nmB 0 m = true → x.toD c = x.toD c'
  | .junk, _ | .i _ _, _ | .b _, _ | .v _, _ | .ro _, _ | .rp _ _, _ | .rpix _ _ _ _, _ | .lit _, _ => by simp only [X.toD]
  | .ptr x _, hx | .pix x _ _ _, hx | .rptr x _ _ _ _, hx | .own x _, hx | .mp x, hx | .st x _ _, hx => by
    cases x with
    | loc k => simp [X.nmB] at hx
    | out k => simp only [X.toD, Nm.at, h]
  | .fn _ l l', hx => by
    simp only [X.nmB, Bool.and_eq_true] at hx
    simp only [X.toD, toDL_congr h l hx.1, toDL_congr h l' hx.2]
  | .agg l, hx | .tup l, hx => by
    simp only [X.nmB] at hx
    simp only [X.toD, toDL_congr h l hx]
  | .d _, hx => by simp only [X.toD]
theorem toDL_congr {c c' : Cx} (h : c.ons = c'.ons) {m : Nat} : ∀ l : List X, X.nmBL 0 m l = true → X.toDL c l = X.toDL c' l
  | [], _ => rfl
  | x :: l, hx => by
    simp only [X.nmBL, Bool.and_eq_true] at hx
    simp only [X.toDL, toD_congr h x hx.1, toDL_congr h l hx.2]
end
theorem noNm_nmB {x : X} (h : x.noNm = true) (n m : Nat) : x.nmB n m = true := by
  have key : ∀ l : List X, (l.all fun x => match x with | .i _ _ | .b _ | .v _ | .ro _ | .lit _ => true | _ => false) = true → X.nmBL n m l = true := by
    intro l
    induction l with
    | nil => intro _; rfl
    | cons a l ih =>
      intro h
      simp only [List.all_cons, Bool.and_eq_true] at h
      simp only [X.nmBL, Bool.and_eq_true]
      refine ⟨?_, ih h.2⟩
      have h1 := h.1
      cases a <;> first | rfl | cases h1
  cases x <;> first | rfl | (cases h; done) | exact key _ h
theorem es_congr {c c' : Cx} (h : c.ons = c'.ons) : ∀ {m : MX}, m.ok = true → m.es c = m.es c'
  | .nil, _ => rfl
  | .base _ _ _ _ _, _ => rfl
  | .put m k x, hm => by
    simp only [MX.ok, Bool.and_eq_true] at hm
    simp only [MX.es, es_congr h hm.2, toD_congr h x (noNm_nmB hm.1 0 0)]
  | .del m k, hm => by
    have hm' : m.ok = true := hm
    simp only [MX.es, es_congr h hm']
theorem toOb_congr {c c' : Cx} (h : c.ons = c'.ons) {m : Nat} {ob : OX} (hob : ob.nmB 0 m = true) : ob.toOb c = ob.toOb c' := by
  cases ob with
  | var cs T => simp only [OX.toOb, toDL_congr h cs hob]
  | row ver E sz r => rfl
  | map ver ag m es => simp only [OX.toOb, es_congr h hob]
  | iter mp ver seen cur =>
    cases mp with
    | loc k => simp [OX.nmB] at hob
    | out k => simp only [OX.toOb, Nm.at, h]
def resX (T : List (TypeId × TI)) (σ : Sx) : ResultVar → Option X
  | .tmp t => some (getE σ.E t)
  | .cell a t =>
    match getE σ.E a, tiL T t with
    | .ptr n off, some ti =>
      match σ.get n with
      | some (.var cs _) => loadX ti.k ti.sz cs off
      | _ => none
    | _, _ => none
def resXL (T : List (TypeId × TI)) (σ : Sx) : List ResultVar → Option (List X)
  | [] => some []
  | r :: l => match resX T σ r, resXL T σ l with | some x, some xs => some (x :: xs) | _, _ => none
def oneX : List X → X
  | [x] => x
  | l => .tup l
mutual
def frzK (o : Ar) (σ : Sx) : X → (X → Prop) → Prop
  | .own (.loc i) ver, K =>
    match σ.L.getD i none with
    | some (.row ver' _ _ r) => NeedT (o.eqN ver ver') (K (.ro r))
    | _ => False
  | .agg l, K => frzKL o σ l fun l' => K (.agg l')
  | .tup l, K => frzKL o σ l fun l' => K (.tup l')
  | .own (.out i) ver, K => if i < σ.O.length then K (.own (.out i) ver) else False
  | .d _, _ => False
  | .fn f l l', K => K (.fn f l l')
  | x, K => K x.coe
def frzKL (o : Ar) (σ : Sx) : List X → (List X → Prop) → Prop
  | [], K => K []
  | x :: l, K => frzK o σ x fun x' => frzKL o σ l fun l' => K (x' :: l')
end
mutual
theorem frzK_real {c : Cx} {σ : Sx} (hc : c.Ok σ) {K : X → Prop} : ∀ x : X, frzK Ar.real σ x K → ∃ x', K x' ∧ Frz (σ.toSt c) (x.toD c) (x'.toD c)
  | .own (.loc i) ver, h => by
    unfold frzK at h
    split at h
    · rename_i ver' E sz r hg
      obtain ⟨h1, h⟩ := h
      simp only [real_eqN, decide_eq_true_eq] at h1
      subst h1
      refine ⟨_, h, ?_⟩
      simp only [X.toD, Frz]
      refine .inl ⟨_, _, rfl, ?_, E, sz, _, toSt_get hc (n := .loc i) hg, by rw [List.length_map], fun j hj => ?_⟩
      · exact Nat.le_add_right _ _
      · simp [List.getD_eq_getElem?_getD, hj]
    · exact h.elim
  | .own (.out i) ver, h => by
    unfold frzK at h
    split at h
    · rename_i hi
      refine ⟨_, h, ?_⟩
      simp only [X.toD, Frz]
      refine .inr ⟨trivial, ?_⟩
      have hi' : i < c.ons.length := by rw [← hc.len]; exact hi
      have := hc.lt _ (List.getElem_mem hi')
      simp only [Nm.at, List.getD_eq_getElem?_getD, List.getElem?_eq_getElem hi', Option.getD_some]
      exact this
    · exact h.elim
  | .agg l, h => by
    unfold frzK at h
    obtain ⟨l', hk, hf⟩ := frzKL_real hc l h
    exact ⟨_, hk, by simp only [X.toD, Frz]; exact ⟨_, rfl, hf⟩⟩
  | .tup l, h => by
    unfold frzK at h
    obtain ⟨l', hk, hf⟩ := frzKL_real hc l h
    exact ⟨_, hk, by simp only [X.toD, Frz]; exact ⟨_, rfl, hf⟩⟩
  | .fn f l l', h => by unfold frzK at h; exact ⟨_, h, by simp only [X.toD, Frz]; rfl⟩
  | .junk, h => by unfold frzK at h; exact ⟨_, h, by rw [toD_coe]; simp only [X.toD, Frz]⟩
  | .i _ _, h => by unfold frzK at h; exact ⟨_, h, by rw [toD_coe]; simp only [X.toD, Frz]⟩
  | .b _, h => by unfold frzK at h; exact ⟨_, h, by rw [toD_coe]; simp only [X.toD, Frz]⟩
  | .v _, h => by unfold frzK at h; exact ⟨_, h, by rw [toD_coe]; simp only [X.toD, Frz]⟩
  | .ro _, h => by unfold frzK at h; exact ⟨_, h, by rw [toD_coe]; simp only [X.toD, Frz]⟩
  | .ptr _ _, h => by unfold frzK at h; exact ⟨_, h, by rw [toD_coe]; simp only [X.toD, Frz]⟩
  | .pix _ _ _ _, h => by unfold frzK at h; exact ⟨_, h, by rw [toD_coe]; simp only [X.toD, Frz]⟩
  | .rp _ _, h => by unfold frzK at h; exact ⟨_, h, by rw [toD_coe]; simp only [X.toD, Frz]⟩
  | .rpix _ _ _ _, h => by unfold frzK at h; exact ⟨_, h, by rw [toD_coe]; simp only [X.toD, Frz]⟩
  | .rptr _ _ _ _ _, h => by unfold frzK at h; exact ⟨_, h, by rw [toD_coe]; simp only [X.toD, Frz]⟩
  | .lit _, h => by unfold frzK at h; exact ⟨_, h, by rw [toD_coe]; simp only [X.toD, Frz]⟩
  | .mp _, h => by unfold frzK at h; exact ⟨_, h, by rw [toD_coe]; simp only [X.toD, Frz]⟩
  | .st _ _ _, h => by unfold frzK at h; exact ⟨_, h, by rw [toD_coe]; simp only [X.toD, Frz]⟩
  | .d _, h => by unfold frzK at h; exact h.elim
theorem frzKL_real {c : Cx} {σ : Sx} (hc : c.Ok σ) {K : List X → Prop} : ∀ l : List X, frzKL Ar.real σ l K → ∃ l', K l' ∧ FrzL (σ.toSt c) (X.toDL c l) (X.toDL c l')
  | [], h => ⟨[], h, by simp only [X.toDL, FrzL]⟩
  | x :: l, h => by
    unfold frzKL at h
    obtain ⟨x', h, hx⟩ := frzK_real hc x h
    obtain ⟨l', h, hl⟩ := frzKL_real hc l h
    exact ⟨x' :: l', h, by simp only [X.toDL, FrzL]; exact ⟨_, _, rfl, hx, hl⟩⟩
end
def XC (P : Program) (f : FuncId) (args : List X) (O : List OX) (res : X) (O' : List OX) : Prop :=
  ∀ c : Cx, c.ons.Nodup → c.ons.length = O.length → CRule P f (X.toDL c args) (c.ons.zip (O.map (OX.toOb c))) (res.toD c) { set := c.ons.zip (O'.map (OX.toOb c)) }
def noL (m : Nat) (l : List OX) : Bool := l.all (OX.nmB 0 m)
def upL : List OX → List OX → Prop
  | [], [] => True
  | a :: l, b :: r => (∀ c, upO (some (a.toOb c)) (some (b.toOb c))) ∧ upL l r
  | _, _ => False
structure FinX (res : X) (O' : List OX) (x : X) (O1 : List OX) : Prop where
  res : ∀ c, x.toD c = res.toD c
  up : upL O1 O'
def retX (o : Ar) (T : List (TypeId × TI)) (rs : List ResultVar) (K : X → List OX → Prop) : Exit → Sx → Prop
  | .ret, σ | .normal, σ => match resXL T σ rs with | some xs => frzK o σ (oneX xs) fun x => K x σ.O | none => False
  | _, _ => False
theorem getE_zip (args : List X) (t i : Nat) : getE ((List.range' i args.length).zip args) t = if i ≤ t then args.getD (t - i) .junk else .junk := by
  induction args generalizing i with
  | nil => simp [getE]
  | cons x l ih =>
    simp only [List.length_cons, List.range'_succ, List.zip_cons_cons, getE]
    by_cases h : t = i
    · subst h; simp
    · simp only [h, if_false, ih]
      by_cases h2 : i ≤ t
      · have h3 : t - i = (t - (i + 1)) + 1 := by omega
        rw [if_pos (by omega), if_pos h2, h3, List.getD_cons_succ]
      · rw [if_neg (by omega), if_neg h2]
theorem ovr_eq {c : Cx} {H : Heap} (hB : c.B0 = H) : ∀ (ns : List Nat) (l : List OX), (∀ x ∈ ns.zip (l.map (OX.toOb c)), H x.1 = some x.2) → ovr c ns l = H
  | [], l, _ => by funext m; simp [ovr, hB]
  | n :: ns, [], _ => by funext m; simp [ovr, hB]
  | n :: ns, a :: l, h => by
    have ih := ovr_eq hB ns l (fun x hx => h x (by simp [hx]))
    funext m
    simp only [ovr, ih]
    split
    · rename_i e
      subst e
      exact (h (m, a.toOb c) (by simp)).symm
    · rfl
theorem setH_zip (c : Cx) (H : Heap) : ∀ (ns : List Nat) (l : List OX), ns.Nodup → l.length = ns.length → ∀ m, setH H (ns.zip (l.map (OX.toOb c))) m = match (ns.zip l).find? (fun x => x.1 == m) with | some x => some (x.2.toOb c) | none => H m := by
  intro ns
  induction ns generalizing H with
  | nil => intro l _ _ m; rfl
  | cons n ns ih =>
    intro l hn hl m
    cases l with
    | nil => simp at hl
    | cons a l =>
      simp only [List.map_cons, List.zip_cons_cons, setH]
      rw [ih _ l (List.nodup_cons.1 hn).2 (by simpa using hl) m]
      simp only [List.find?_cons]
      by_cases e : n = m
      · subst e
        simp only [beq_self_eq_true]
        have : (ns.zip l).find? (fun x => x.1 == n) = none := by
          rw [List.find?_eq_none]
          intro x hx
          have := (List.of_mem_zip hx).1
          simp only [beq_iff_eq]
          intro e
          exact (List.nodup_cons.1 hn).1 (e ▸ this)
        rw [this]
        simp [upd]
      · have e' : (n == m) = false := by simpa using e
        simp only [e']
        have e'' : m ≠ n := fun h => e h.symm
        simp [upd, e'']
theorem ovr_find (c : Cx) : ∀ (ns : List Nat) (l : List OX), l.length = ns.length → ∀ m, ovr c ns l m = match (ns.zip l).find? (fun x => x.1 == m) with | some x => some (x.2.toOb c) | none => c.B0 m
  | [], l, h, m => by cases l <;> rfl
  | n :: ns, [], h, m => by simp at h
  | n :: ns, a :: l, h, m => by
    simp only [ovr, List.zip_cons_cons, List.find?_cons]
    by_cases e : m = n
    · subst e; simp
    · have e' : (n == m) = false := by simpa using fun h => e h.symm
      simp only [e', e, if_false]
      exact ovr_find c ns l (by simpa using h) m
theorem upL_find {c : Cx} : ∀ {ns : List Nat} {l r : List OX}, upL l r → ∀ m, (match (ns.zip l).find? (fun x => x.1 == m), (ns.zip r).find? (fun x => x.1 == m) with | some x, some y => upO (some (x.2.toOb c)) (some (y.2.toOb c)) | none, none => True | _, _ => False)
  | [], l, r, _, m => by simp
  | n :: ns, [], [], _, m => by simp
  | n :: ns, [], _ :: _, h, m => h.elim
  | n :: ns, _ :: _, [], h, m => h.elim
  | n :: ns, a :: l, b :: r, h, m => by
    simp only [List.zip_cons_cons, List.find?_cons]
    by_cases e : n = m
    · subst e; simp only [beq_self_eq_true]; exact h.1 c
    · have e' : (n == m) = false := by simpa using e
      simp only [e']
      exact upL_find h.2 m
theorem resX_toD {P : Program} {T : List (TypeId × TI)} (hT : TOk P T) {c : Cx} {σ : Sx} (hc : c.Ok σ) : ∀ {rs : List ResultVar} {xs : List X}, resXL T σ rs = some xs → resL P (σ.toSt c) rs = some (X.toDL c xs)
  | [], xs, h => by simp only [resXL, Option.some.injEq] at h; subst h; rfl
  | r :: rs, xs, h => by
    simp only [resXL] at h
    split at h
    · rename_i x xs' hx hxs
      cases h
      simp only [resL, resX_toD hT hc hxs]
      have : resD P (σ.toSt c) r = some (x.toD c) := by
        cases r with
        | tmp t => simp only [resX, Option.some.injEq] at hx; subst hx; rfl
        | cell a t =>
          simp only [resX] at hx
          split at hx
          · rename_i n off ti ha hti
            split at hx
            · rename_i cs T' hg
              simp only [resD]
              have e1 : (σ.toSt c).env a = .ptr (n.at c) off := by
                show (getE σ.E a).toD c = _
                rw [ha]; rfl
              rw [e1, (hT.get hti).sz, (hT.get hti).k]
              simp only [toSt_get hc hg, OX.toOb]
              exact loadX_toD c hx
            · cases hx
          · cases hx
      rw [this]
      rfl
    · cases h
theorem oneX_toD (c : Cx) (xs : List X) : (oneX xs).toD c = resOne (X.toDL c xs) := by
  match xs with
  | [] => rfl
  | [x] => rfl
  | x :: y :: l => rfl
theorem XC.of_body {P : Program} {f : FuncId} {fn : Func} {code : Code} {N : Nat} {T : List (TypeId × TI)} (Dt : DT) {args : List X} {O O' : List OX} {res : X} (hf : P.funcs[f]? = some fn) (hb : fn.body = some code) (hN : fn.ntmps = N) (hm : P.follows .mixedOrders = true) (hT : TOk P T) (hdr : drawsB Dt code = true)
    (hn : args.length ≤ N) (hargs : X.nmBL 0 O.length args = true) (hO : noL O.length O = true) (hO' : noL O.length O' = true) (hl' : O'.length = O.length) (hres : res.nmB 0 O.length = true)
    (h : ∀ o, o = Ar.real → ∀ P', P' = P → ∀ (c : Cx) (K : X → List OX → Prop), (∀ x O1, FinX res O' x O1 → K x O1) → ex o P' c T Dt N code (retX o T fn.results.toList K) ⟨(List.range' 0 args.length).zip args, [], O⟩) : XC P f args O res O' := by
  intro c0 hnod hlen
  refine CRule.of_body hf hb hN (by rw [toDL_len]; exact hn) ?_
  intro nx H lv hrd hnm
  let c : Cx := ⟨nx, H, c0.ons, lv⟩
  have hce : c.ons = c0.ons := rfl
  have hal : ∀ ob ∈ O, ob.toOb c = ob.toOb c0 := fun ob hob => toOb_congr hce (List.all_eq_true.1 hO ob hob)
  have hmap : O.map (OX.toOb c) = O.map (OX.toOb c0) := List.map_congr_left hal
  have hmap' : O'.map (OX.toOb c) = O'.map (OX.toOb c0) := List.map_congr_left fun ob hob => toOb_congr hce (List.all_eq_true.1 hO' ob hob)
  have hovr : ovr c c0.ons O = H := ovr_eq rfl _ _ (by rw [hmap]; exact fun x hx => (hrd x hx).1)
  have hlt : ∀ n ∈ c.ons, n < c.n0 := by
    intro n hn'
    obtain ⟨i, hi, rfl⟩ := List.getElem_of_mem hn'
    have hi' : i < c0.ons.length := hi
    have hz : i < (c0.ons.zip (O.map (OX.toOb c0))).length := by simp; omega
    have := (hrd _ (List.getElem_mem hz)).2.1
    simpa using this
  have hok : c.Ok ⟨(List.range' 0 args.length).zip args, [], O⟩ := ⟨hlen.symm, hnod, hlt⟩
  refine Awp.weak (S' := Sx.toSt c ⟨(List.range' 0 args.length).zip args, [], O⟩) ?_ ?_
  · refine ⟨fun t => ?_, hovr, rfl, rfl, by simp [Sx.toSt], fun i o ho => by simp [Sx.toSt] at ho⟩
    show Sx.env c _ t = D.junk ∨ _
    simp only [Sx.env, getE_zip, Nat.zero_le, if_true, Nat.sub_zero]
    rcases Nat.lt_or_ge t args.length with ht | ht
    · right
      have e1 : envOf (X.toDL c0 args) t = (args.getD t .junk).toD c := by
        rw [toDL_congr (c' := c) hce.symm args hargs, toDL_eq]
        simp [envOf, List.getD_eq_getElem?_getD, ht]
      refine ⟨?_, ?_⟩
      · show Sx.env c _ t = envOf (X.toDL c0 args) t
        rw [e1]
        simp [Sx.env, getE_zip]
      · have h2 := (nmsL_iff _ _).1 hnm
        have h3 : envOf (X.toDL c0 args) t ∈ X.toDL c0 args := by
          have h4 : t < (X.toDL c0 args).length := by rw [toDL_len]; exact ht
          simp only [envOf, List.getD_eq_getElem?_getD, List.getElem?_eq_getElem h4, Option.getD_some]
          exact List.getElem_mem h4
        exact D.nms_mono (by show nx ≤ nx + _; omega) _ (h2 _ h3)
    · left
      rw [List.getD_eq_getElem?_getD, List.getElem?_eq_none ht]
      rfl
  · have hex := h Ar.real rfl P rfl c (fun x O1 => FinX res O' x O1) (fun _ _ h => h)
    refine (ex_sound hT hm code hdr _ _ hok hex).mono ?_
    rintro e S' ⟨σ', rfl, hc', hq⟩
    have fin : (match resXL T σ' fn.results.toList with | some xs => frzK Ar.real σ' (oneX xs) fun x => FinX res O' x σ'.O | none => False) →
        (∃ ds, resL P (σ'.toSt c) fn.results.toList = some ds ∧ Frz (σ'.toSt c) (resOne ds) (res.toD c0)) ∧ (res.toD c0).nms nx ∧ UpH (σ'.toSt c).B (setH H (c0.ons.zip (O'.map (OX.toOb c0)))) := by
      intro hq
      split at hq
      case h_2 => exact hq.elim
      rename_i xs hxs
      obtain ⟨x', hfin, hfz⟩ := frzK_real hc' _ hq
      have eres : res.toD c = res.toD c0 := toD_congr hce res hres
      refine ⟨⟨_, resX_toD hT hc' hxs, ?_⟩, ?_, ?_⟩
      · rw [← oneX_toD, ← eres, ← hfin.res c]
        exact hfz
      · rw [← eres]
        have := nmB_nms (c := c) (n := 0) hlt res (by rw [show c.ons.length = O.length from hlen]; exact hres)
        exact this
      · intro m
        rw [← hmap']
        rw [setH_zip c H c0.ons O' hnod (by rw [hl', hlen]) m]
        show upO (ovr c c0.ons σ'.O m) _
        rw [ovr_find c c0.ons σ'.O hc'.len m]
        have hu := upL_find (c := c) (ns := c0.ons) hfin.up m
        split at hu
        · rename_i x y hx hy
          rw [hx, hy]; exact hu
        · rename_i hx hy
          rw [hx, hy]; exact upO_refl _
        · exact hu.elim
    cases e with
    | ret => exact fin hq
    | normal => exact fin hq
    | exit id => exact hq.elim
    | goto l => exact hq.elim
    | panic ch => exact hq.elim
    | outgrown => exact hq.elim
end Go.Sy

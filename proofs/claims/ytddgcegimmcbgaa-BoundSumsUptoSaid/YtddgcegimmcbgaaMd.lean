/-
  Vectors: what one takes from another, said plainly. Plain theorems.
-/
import Derived.Test.YtddgcegimmcbgaaMa
import Derived.Test.YtddgcegimmcbgaaMb
import Derived.Test.YtddgcegimmcbgaaMc
set_option linter.unusedSectionVars false
namespace Go.Proofs.Ytddgcegimmcbgaa.Sy
open Go Go.Sy Go.Proofs.Ytddgcegimmcbgaa
set_option maxRecDepth 100000
set_option maxHeartbeats 8000000
set_option linter.unusedVariables false
set_option linter.unusedSimpArgs false

theorem nextAt_eq_none {p : Nat → Bool} {a n : Nat} : nextAt p a n = none ↔ ∀ j, a ≤ j → j < n → p j = false := by
  simp only [nextAt, List.find?_eq_none, List.mem_range'_1]
  constructor
  · intro h j h1 h2; simpa using h j ⟨h1, by omega⟩
  · intro h j hj; simpa using h j hj.1 (by omega)
theorem nextAt_isNone {p : Nat → Bool} {n : Nat} : (nextAt p 0 n).isNone = true ↔ ∀ j, j < n → p j = false := by
  rw [Option.isNone_iff_eq_none, nextAt_eq_none]
  exact ⟨fun h j hj => h j (Nat.zero_le _) hj, fun h j _ hj => h j hj⟩
theorem getD_el {α : Type} [Inhabited α] {l : List α} {i : Nat} (h : i < l.length) : l.getD i default = l[i] := by simp [List.getD_eq_getElem?_getD, h]

/-- The order of slots. -/
def sl (p q : Part) : Prop := p.kind < q.kind ∨ (p.kind = q.kind ∧ p.role < q.role)
structure POk (p : Part) : Prop where
  k0 : 0 ≤ p.kind
  k1 : p.kind < 4
  r0 : 0 ≤ p.role
  r1 : p.role ≤ 32
  a0 : 1 ≤ p.amount
  a1 : p.amount ≤ 9007199254740992
structure VOk (v : List Part) : Prop where
  ok : ∀ p ∈ v, POk p
  up : v.Pairwise sl
theorem sl_trans {p q r : Part} (h : sl p q) (h' : sl q r) : sl p r := by
  unfold sl at *
  omega
theorem badAt_iff (v : List Part) (i : Nat) : badAt v i = false ↔ POk (v.getD i default) ∧ (0 < i → sl (v.getD (i - 1) default) (v.getD i default)) := by
  unfold badAt slotRight amountRight slotCmp sl
  generalize v.getD i default = p
  generalize v.getD (i - 1) default = q
  obtain ⟨k, r, a⟩ := p
  obtain ⟨k', r', a'⟩ := q
  simp only [Bool.or_eq_false_iff, Bool.not_eq_eq_eq_not, Bool.not_false, Bool.and_eq_true, decide_eq_true_eq, decide_eq_false_iff_not, Bool.and_eq_false_iff]
  constructor
  · rintro ⟨h1, h2, h3, h4⟩
    refine ⟨⟨by dsimp only; omega, by dsimp only; omega, by dsimp only; omega, by dsimp only; omega, by show 1 ≤ a; omega, by show a ≤ _; omega⟩, fun h => ?_⟩
    rcases h4 with h4 | h4
    · exact absurd h h4
    · split at h4
      · omega
      · split at h4 <;> omega
  · rintro ⟨⟨h1, h2, h3, h4, h5, h6⟩, h7⟩
    dsimp only at *
    refine ⟨by omega, by omega, by omega, ?_⟩
    by_cases h : 0 < i
    · right
      have := h7 h
      rw [if_neg (by omega), if_pos (by omega)]
      decide
    · exact .inl h
theorem vecRight_iff (v : List Part) : vecRight v = true ↔ VOk v := by
  unfold vecRight
  rw [nextAt_isNone]
  constructor
  · intro h
    have h1 := fun j hj => (badAt_iff v j).1 (h j hj)
    refine ⟨fun p hp => ?_, ?_⟩
    · obtain ⟨i, hi, rfl⟩ := List.mem_iff_getElem.1 hp
      have := (h1 i hi).1
      rwa [getD_el hi] at this
    · rw [List.pairwise_iff_getElem]
      intro i j hi hj hij
      induction j with
      | zero => omega
      | succ j ih =>
        have h2 := (h1 (j + 1) hj).2 (by omega)
        rw [getD_el hj, Nat.add_sub_cancel, getD_el (by omega)] at h2
        by_cases e : i = j
        · subst e; exact h2
        · exact sl_trans (ih (by omega) (by omega)) h2
  · rintro ⟨h1, h2⟩ j hj
    rw [badAt_iff, getD_el hj]
    refine ⟨h1 _ (List.getElem_mem hj), fun h => ?_⟩
    rw [getD_el (by omega)]
    exact List.pairwise_iff_getElem.1 h2 _ _ _ _ (by omega)
/-- The amount at a slot. -/
def lk : List Part → Int → Int → Int
  | [], _, _ => 0
  | p :: l, k, r => if p.kind = k ∧ p.role = r then p.amount else lk l k r
/-! ### Taking one from another -/
def left1 (bs : List Part) (x : Part) : List Part := if x.amount - lk bs x.kind x.role = 0 then [] else [⟨x.kind, x.role, x.amount - lk bs x.kind x.role⟩]
def res : List Part → List Part → List Part
  | [], _ => []
  | x :: xs, bs => left1 bs x ++ res xs bs
end Go.Proofs.Ytddgcegimmcbgaa.Sy

/-
  Vectors and their sums. Plain theorems.
-/
set_option linter.unusedSectionVars false
namespace Go.Proofs.Ytddgcegimmcbgaa.Sy
open Go Go.Sy Go.Proofs.Ytddgcegimmcbgaa
set_option maxRecDepth 100000
set_option maxHeartbeats 8000000
set_option linter.unusedVariables false
set_option linter.unusedSimpArgs false

theorem VOk.tail {x : Part} {xs : List Part} (h : VOk (x :: xs)) : VOk xs := ⟨fun p hp => h.ok p (by simp [hp]), (List.pairwise_cons.1 h.up).2⟩
/-- How much of a kind. -/
def sk : List Part → Int → Int
  | [], _ => 0
  | p :: l, k => (if p.kind = k then p.amount else 0) + sk l k
theorem sk_app (a b : List Part) (k : Int) : sk (a ++ b) k = sk a k + sk b k := by
  induction a with
  | nil => simp [sk]
  | cons p a ih => simp only [List.cons_append, sk, ih]; omega
theorem sk_nn {v : List Part} (h : ∀ p ∈ v, POk p) (k : Int) : 0 ≤ sk v k := by
  induction v with
  | nil => simp [sk]
  | cons p v ih =>
    have h1 := (h p (by simp)).a0
    have h2 := ih fun q hq => h q (by simp [hq])
    simp only [sk]
    split <;> omega
theorem sk_bd {R k : Int} : ∀ (v : List Part) (r0 : Int), VOk v → (∀ p ∈ v, p.role ≤ R) → (∀ p ∈ v, p.kind = k → r0 ≤ p.role) → r0 ≤ R + 1 → sk v k ≤ (R + 1 - r0) * 9007199254740992
  | [], r0, _, _, _, h => by
    simp only [sk]
    omega
  | p :: v, r0, hv, hR, h0, hr => by
    obtain ⟨h1, h2⟩ := List.pairwise_cons.1 hv.up
    have hp := hv.ok p (by simp)
    have hpR := hR p (by simp)
    simp only [sk]
    split
    · rename_i e
      have h3 := h0 p (by simp) e
      have := sk_bd (R := R) (k := k) v (p.role + 1) hv.tail (fun q hq => hR q (by simp [hq])) (fun q hq hk => by
        have := h1 q hq
        unfold sl at this
        omega) (by omega)
      have := hp.a1
      omega
    · have := sk_bd (R := R) (k := k) v r0 hv.tail (fun q hq => hR q (by simp [hq])) (fun q hq hk => h0 q (by simp [hq]) hk) hr
      omega
theorem sk_bd33 {v : List Part} (hv : VOk v) (k : Int) : sk v k ≤ 33 * 9007199254740992 := by
  have := sk_bd (R := 32) (k := k) v 0 hv (fun p hp => (hv.ok p hp).r1) (fun p hp _ => (hv.ok p hp).r0) (by omega)
  omega
theorem sk_bd1 {v : List Part} (hv : VOk v) (h : ∀ p ∈ v, p.role = 0) (k : Int) : sk v k ≤ 9007199254740992 := by
  have := sk_bd (R := 0) (k := k) v 0 hv (fun p hp => by rw [h p hp]; omega) (fun p hp _ => by rw [h p hp]; omega) (by omega)
  omega
def S4.of (f : Int → Int) : S4 := ⟨f 0, f 1, f 2, f 3⟩
theorem ofTo_sk {v : List Part} (hv : VOk v) : ∀ i, i ≤ v.length → ofTo v i = S4.of (sk (v.take i))
  | 0, _ => rfl
  | i + 1, h => by
    have h1 := fun k => sk_bd33 hv k
    have h2 : ∀ k, sk v k = sk (v.take (i + 1)) k + sk (v.drop (i + 1)) k := fun k => by rw [← sk_app, List.take_append_drop]
    have h3 := fun k => sk_nn (v := v.drop (i + 1)) (fun p hp => hv.ok p (List.mem_of_mem_drop hp)) k
    have h4 := fun k => sk_nn (v := v.take (i + 1)) (fun p hp => hv.ok p (List.mem_of_mem_take hp)) k
    have hp := hv.ok _ (List.getElem_mem (show i < v.length by omega))
    have e : ∀ k, sk (v.take (i + 1)) k = sk (v.take i) k + if (v[i]).kind = k then (v[i]).amount else 0 := fun k => by
      rw [List.take_succ_eq_append_getElem (by omega), sk_app]
      simp [sk]
    simp only [ofTo]
    rw [ofTo_sk hv i (by omega), getD_el (by omega)]
    unfold S4.addAt S4.of
    generalize v[i] = p at *
    obtain ⟨kk, r, a⟩ := p
    have k0 := hp.k0
    have k1 := hp.k1
    dsimp only at *
    have hw : ∀ k, 0 ≤ k → k < 4 → sk (v.take (i + 1)) k ≤ 33 * 9007199254740992 ∧ 0 ≤ sk (v.take (i + 1)) k := fun k _ _ => by
      have a1 := h1 k
      have a2 := h2 k
      have a3 := h3 k
      have a4 := h4 k
      omega
    rcases (show kk = 0 ∨ kk = 1 ∨ kk = 2 ∨ kk = 3 by omega) with rfl | rfl | rfl | rfl
    all_goals
      simp only [e, S4.at_] at *
      simp at *
    · exact wrap_i64 (by have := hw 0; simp at this; omega) (by have := hw 0; simp at this; omega)
    · exact wrap_i64 (by have := hw 1; simp at this; omega) (by have := hw 1; simp at this; omega)
    · exact wrap_i64 (by have := hw 2; simp at this; omega) (by have := hw 2; simp at this; omega)
    · exact wrap_i64 (by have := hw 3; simp at this; omega) (by have := hw 3; simp at this; omega)
theorem sumsOf_sk {v : List Part} (hv : VOk v) : sumsOf v = S4.of (sk v) := by
  unfold sumsOf
  rw [if_pos ((vecRight_iff v).2 hv), ofTo_sk hv _ (Nat.le_refl _), List.take_length]
end Go.Proofs.Ytddgcegimmcbgaa.Sy

/-
  Profiles: the document's check is the program's. Plain theorems.
-/
set_option linter.unusedSectionVars false
namespace Go.Proofs.Ytddgcegimmcbgaa.Sy
open Go Go.Sy Go.Proofs.Ytddgcegimmcbgaa
set_option maxRecDepth 100000
set_option maxHeartbeats 8000000
set_option linter.unusedVariables false
set_option linter.unusedSimpArgs false

/-- A vector that has something, all of it of no role. -/
structure Bare (v : List Part) : Prop where
  ok : VOk v
  role : ∀ p ∈ v, p.role = 0
  pos : 0 < v.length
theorem bareR_iff (v : List Part) : bareR v = true ↔ Bare v := by
  unfold bareR onlyR
  rw [Bool.and_eq_true, decide_eq_true_eq, decide_eq_true_eq]
  by_cases h : vecRight v = true
  · rw [if_pos h, List.length_filter_eq_length_iff]
    constructor
    · rintro ⟨h1, h2⟩
      refine ⟨(vecRight_iff v).1 h, fun p hp => ?_, h1⟩
      have := h2 p hp
      simpa [inR] using this
    · rintro ⟨h1, h2, h3⟩
      refine ⟨h3, fun p hp => ?_⟩
      simp [inR, h2 p hp]
  · rw [if_neg h]
    constructor
    · rintro ⟨h1, h2⟩
      simp only [List.length_nil] at h2
      omega
    · rintro ⟨h1, h2, h3⟩
      exact absurd ((vecRight_iff v).2 h1) h
theorem Bare.sums {v : List Part} (h : Bare v) (k : Int) : 0 ≤ sk v k ∧ sk v k ≤ 9007199254740992 := ⟨sk_nn h.ok.ok k, sk_bd1 h.ok h.role k⟩
theorem Bare.right {v : List Part} (h : Bare v) : sumsRight (sumsOf v) = true := by
  rw [sumsOf_sk h.ok, sumsRight_iff]
  have h0 := h.sums 0
  have h1 := h.sums 1
  have h2 := h.sums 2
  have h3 := h.sums 3
  simp only [S4.of]
  omega
theorem Bare.some {v : List Part} (h : Bare v) : sumsOf v ≠ ⟨0, 0, 0, 0⟩ := by
  rw [sumsOf_sk h.ok]
  intro e
  simp only [S4.of, S4.mk.injEq] at e
  match v, h with
  | [], h => exact absurd h.pos (by simp)
  | p :: v, h =>
    have hp := h.ok.ok p (by simp)
    have k0 := hp.k0
    have k1 := hp.k1
    have a0 := hp.a0
    have hn := fun k => sk_nn (v := v) (fun q hq => h.ok.ok q (by simp [hq])) k
    have h0 := hn 0
    have h1 := hn 1
    have h2 := hn 2
    have h3 := hn 3
    simp only [sk] at e
    obtain ⟨e0, e1, e2, e3⟩ := e
    rcases (show p.kind = 0 ∨ p.kind = 1 ∨ p.kind = 2 ∨ p.kind = 3 by omega) with e | e | e | e
    all_goals
      rw [e] at e0 e1 e2 e3
      simp at e0 e1 e2 e3
      omega
theorem fine_bare {p : Prof} (h : fineR p = true) : (1 ≤ p.ags.length ∧ p.ags.length ≤ 16 ∧ 1 ≤ p.wants.length ∧ p.wants.length ≤ 32) ∧ (∀ i, i < p.ags.length → Bare (p.ags.getD i default)) ∧ (∀ i, i < p.wants.length → Bare (p.wants.getD i default).need ∧ 1 ≤ (p.wants.getD i default).weight ∧ (p.wants.getD i default).weight ≤ 1000) ∧ topS (totTo p.ags p.ags.length) = true := by
  unfold fineR at h
  simp only [Bool.and_eq_true, decide_eq_true_eq] at h
  obtain ⟨h1, h2, h3, h4⟩ := h
  have ht : nextAt (fun k => !bareR (p.ags.getD k default)) 0 p.ags.length = none ∧ topS (totTo p.ags p.ags.length) = true := by
    unfold totR at h1
    cases hn : nextAt (fun k => !bareR (p.ags.getD k default)) 0 p.ags.length with
    | some j => rw [hn] at h1; cases h1
    | none => rw [hn] at h1; exact ⟨rfl, h1⟩
  refine ⟨h2, fun i hi => ?_, fun i hi => ?_, ht.2⟩
  · have := nextAt_eq_none.1 ht.1 i (Nat.zero_le _) hi
    exact (bareR_iff _).1 (by simpa using this)
  · have := all_getD.1 h4 i hi
    unfold okW at this
    simp only [Bool.and_eq_true, decide_eq_true_eq] at this
    exact ⟨(bareR_iff _).1 this.1, this.2.1⟩
end Go.Proofs.Ytddgcegimmcbgaa.Sy

/-
  One agent's profile: its deltas, what they leave, and all weights. Plain theorems.
-/
set_option linter.unusedSectionVars false
namespace Go.Proofs.Ytddgcegimmcbgaa.Sy
open Go Go.Sy Go.Proofs.Ytddgcegimmcbgaa
set_option maxRecDepth 100000
set_option maxHeartbeats 8000000
set_option linter.unusedVariables false
set_option linter.unusedSimpArgs false

/-- A fraction by its words. -/
structure Rd where
  m : Bool
  x : List Nat
  y : List Nat
instance : Inhabited Rd := ⟨⟨false, [], []⟩⟩
def foldARd_m (e : Rd) := (by
  have h : PLift (e.m = e.m) := ⟨rfl⟩
  conv at h => arg 1; lhs; delta Rd.m
  exact h)
theorem foldRd_m (e : Rd) : type_of% (foldARd_m e).down := (foldARd_m e).down
def foldARd_x (e : Rd) := (by
  have h : PLift (e.x = e.x) := ⟨rfl⟩
  conv at h => arg 1; lhs; delta Rd.x
  exact h)
theorem foldRd_x (e : Rd) : type_of% (foldARd_x e).down := (foldARd_x e).down
def foldARd_y (e : Rd) := (by
  have h : PLift (e.y = e.y) := ⟨rfl⟩
  conv at h => arg 1; lhs; delta Rd.y
  exact h)
theorem foldRd_y (e : Rd) : type_of% (foldARd_y e).down := (foldARd_y e).down
theorem foldRd : (⟨false, [], []⟩ : Rd) = default := rfl
theorem QN12 : type_of% (And.intro @foldRd (And.intro @foldRd_m (And.intro @foldRd_x (And.intro @foldRd_y (QB7))))) := And.intro @foldRd (And.intro @foldRd_m (And.intro @foldRd_x (And.intro @foldRd_y (QB7))))
def Rd.X (o : Ar) (r : Rd) : List X := [xb r.m, .ro (SL o encU r.x), .ro (SL o encU r.y)]
def Rt.rd (r : Rt) : Rd := ⟨r.m, wd r.n, wd r.d⟩
def ag0 (p : Prof) : List Part := p.ags.getD 0 default
def oneD (p : Prof) (i : Nat) : Fr × Bool := deltaR (sumsOf (p.wants.getD i default).need) (sumsOf (ag0 p))
def oneRt (p : Prof) (i : Nat) : Rt := Rt.of (oneD p i).1.num.toNat (oneD p i).1.den.toNat
def oneOk (p : Prof) (i : Nat) : Bool := (oneD p i).2 && (subV (ag0 p) (p.wants.getD i default).need).2
structure AgS where
  dl : List Rt
  rest : Rt
  ws : Rt
def oneTo (p : Prof) : Nat → AgS
  | 0 => ⟨[], Rt.whole 1, Rt.whole 0⟩
  | i + 1 => ⟨(oneTo p i).dl ++ [oneRt p i], (oneTo p i).rest.add (oneRt p i).neg, (oneTo p i).ws.add (Rt.whole (p.wants.getD i default).weight.toNat)⟩
def oneR (p : Prof) : AgS × Bool :=
  if checkR p = 0 ∧ p.ags.length = 1 then
    match nextAt (fun i => !oneOk p i) 0 p.wants.length with
    | some j => (oneTo p j, false)
    | none => (oneTo p p.wants.length, true)
  else (oneTo p 0, false)
def AgS.X (o : Ar) (p : Prof) (s : AgS) : List X := Prof.X o p ++ [.ro (SL o Rd.X (s.dl.map Rt.rd)), xb s.rest.m, .ro (SL o encU (wd s.rest.n)), .ro (SL o encU (wd s.rest.d)), xb s.ws.m, .ro (SL o encU (wd s.ws.n)), .ro (SL o encU (wd s.ws.d))]
/-! ### Sizes -/
theorem lowF_bd {n d : Nat} (hd : 0 < d) : 0 ≤ (lowF n d).num ∧ (lowF n d).num ≤ n ∧ 1 ≤ (lowF n d).den ∧ (lowF n d).den ≤ d := by
  unfold lowF
  have h1 : n / Nat.gcd n d ≤ n := Nat.div_le_self _ _
  have h2 : d / Nat.gcd n d ≤ d := Nat.div_le_self _ _
  have h3 : 0 < d / Nat.gcd n d := Nat.div_pos (Nat.gcd_le_right _ hd) (Nat.gcd_pos_of_pos_right _ hd)
  dsimp only
  generalize n / Nat.gcd n d = a at *
  generalize d / Nat.gcd n d = b at *
  omega
theorem domTo_den {s t : S4} (h : sumsRight s = true) (h' : sumsRight t = true) : ∀ k, 1 ≤ (domTo s t k).den
  | 0 => by simp [domTo]
  | k + 1 => by
    have ih := domTo_den h h' k
    have h2 := S4.at_bd h' k
    simp only [domTo]
    unfold domStep
    split
    · dsimp only; omega
    · exact ih
theorem deltaR_ok {s t : S4} (h : (deltaR s t).2 = true) : 0 ≤ (deltaR s t).1.num ∧ (deltaR s t).1.num ≤ 1152921504606846976 ∧ 1 ≤ (deltaR s t).1.den ∧ (deltaR s t).1.den ≤ 1152921504606846976 := by
  unfold deltaR at *
  split
  · rename_i h1
    rw [if_pos h1] at h
    cases h
  · rename_i h1
    have hr : sumsRight s = true ∧ sumsRight t = true := by
      apply Classical.byContradiction
      intro hn
      apply h1
      right
      unfold sumsHolds
      cases h2 : sumsRight t with
      | false => simp
      | true =>
        cases h3 : sumsRight s with
        | false => simp
        | true => exact absurd ⟨h3, h2⟩ hn
    have hb := domTo_bd hr.1 hr.2 4
    have hd := domTo_den hr.1 hr.2 4
    have hs : sumsDom s t = domTo s t 4 := if_pos hr
    rw [hs]
    dsimp only
    unfold lowR
    have hF : fracRight (domTo s t 4).num (domTo s t 4).den = true := by
      unfold fracRight
      rw [decide_eq_true hb.1.1, decide_eq_true hd]
      rfl
    rw [if_pos hF]
    have := lowF_bd (n := (domTo s t 4).num.toNat) (d := (domTo s t 4).den.toNat) (by omega)
    omega
theorem oneRt_ok {p : Prof} {i : Nat} (h : (oneD p i).2 = true) : (oneRt p i).Ok 2 := by
  have := deltaR_ok h
  exact Rt.of_ok2 (by unfold oneD; omega) (by unfold oneD; omega) (by unfold oneD; omega)
theorem whole_ok {n : Nat} (h : n < 9223372036854775808) : (Rt.whole n).Ok 2 := Rt.of_ok2 (by decide) h (by decide)
theorem oneTo_ok {p : Prof} (hw : ∀ i, i < p.wants.length → (p.wants.getD i default).weight ≤ 9223372036854775807) : ∀ i, i ≤ p.wants.length → (∀ j, j < i → oneOk p j = true) → (oneTo p i).rest.Ok (2 + 3 * i) ∧ (oneTo p i).ws.Ok (2 + 3 * i)
  | 0, _, _ => ⟨whole_ok (by decide), whole_ok (by decide)⟩
  | i + 1, hi, h => by
    obtain ⟨h1, h2⟩ := oneTo_ok hw i (by omega) fun j hj => h j (by omega)
    have hr := h i (by omega)
    unfold oneOk at hr
    rw [Bool.and_eq_true] at hr
    have hd := oneRt_ok hr.1
    have hw1 := hw i (by omega)
    exact ⟨(h1.add hd.neg).mono (by omega), (h2.add (whole_ok (n := (p.wants.getD i default).weight.toNat) (by omega))).mono (by omega)⟩
structure StO where
  i : Nat
  rv : Nat
  dl : List Rd
  rm : Bool
  rx : List Nat
  ry : List Nat
  wm : Bool
  wx : List Nat
  wy : List Nat
structure InO (p : Prof) (s : StO) : Prop where
  i : s.i ≤ p.wants.length
  ok : ∀ j, j < s.i → oneOk p j = true
  dl : s.dl = (oneTo p s.i).dl.map Rt.rd
  rm : s.rm = (oneTo p s.i).rest.m
  rx : s.rx = wd (oneTo p s.i).rest.n
  ry : s.ry = wd (oneTo p s.i).rest.d
  wm : s.wm = (oneTo p s.i).ws.m
  wx : s.wx = wd (oneTo p s.i).ws.n
  wy : s.wy = wd (oneTo p s.i).ws.d
theorem oneTo_len (p : Prof) : ∀ i, (oneTo p i).dl.length = i
  | 0 => rfl
  | i + 1 => by simp [oneTo, oneTo_len p i]
@[reducible] def AX (o : Ar) (p : Prof) (dl : List Rd) (rm : Bool) (rx ry : List Nat) (wm : Bool) (wx wy : List Nat) : List X := [.ro (SL o PV.X p.ags), .ro (SL o Want.X p.wants), xi p.lo.a, xi p.lo.b, xi p.lo.c, xi p.lo.d, .ro (SL o Rd.X dl), xb rm, .ro (SL o encU rx), .ro (SL o encU ry), xb wm, .ro (SL o encU wx), .ro (SL o encU wy)]
theorem FinX_AX {o : Ar} (ho : o = Ar.real) {ags : List (List Part)} {wants : List Want} {a b c d : Int} {dl : List Rd} {rm : Bool} {rx ry : List Nat} {wm : Bool} {wx wy : List Nat} {f : Bool} {r : RR} {y : BX} (h : r.rows = (SL Ar.real Rd.X dl).rows) (h' : y.val = f) :
    FinX (.tup [.agg [.ro (SL Ar.real PV.X ags), .ro (SL Ar.real Want.X wants), xi a, xi b, xi c, xi d, .ro (SL Ar.real Rd.X dl), xb rm, .ro (SL Ar.real encU rx), .ro (SL Ar.real encU ry), xb wm, .ro (SL Ar.real encU wx), .ro (SL Ar.real encU wy)], xb f]) []
      (.tup [.agg [.ro (SL o PV.X ags), .ro (SL o Want.X wants), xi a, xi b, xi c, xi d, .ro r, xb rm, .ro (SL o encU rx), .ro (SL o encU ry), xb wm, .ro (SL o encU wx), .ro (SL o encU wy)], .b y]) [] := .pure fun _ => by
  subst ho
  simp only [X.toD, X.toDL, h, h']
  rfl
theorem x_one (p : Prof) (hp : ProfOk p) (hwb : ∀ i, i64B (p.wants.getD i default).weight) : XC Try.prog 89 [.agg (Prof.X Ar.real p)] [] (.tup [.agg (AX Ar.real p ((oneR p).1.dl.map Rt.rd) (oneR p).1.rest.m (wd (oneR p).1.rest.n) (wd (oneR p).1.rest.d) (oneR p).1.ws.m (wd (oneR p).1.ws.n) (wd (oneR p).1.ws.d)), xb (oneR p).2]) [] := by
  have hCk := x_Check p hp
  have hW1 := x_whole 1 (by decide)
  have hW0 := x_whole 0 (by decide)
  have hn1 : (oneTo p 0).rest = Rt.whole 1 := rfl
  have hn0 : (oneTo p 0).ws = Rt.whole 0 := rfl
  have hnd : (oneTo p 0).dl = [] := rfl
  have q0 : ¬ (checkR p = 0 ∧ p.ags.length = 1) → oneR p = (oneTo p 0, false) := fun h => if_neg h
  have q1 : checkR p = 0 → p.ags.length = 1 → ∀ i, i < p.wants.length → (∀ j, j < i → oneOk p j = true) → oneOk p i = false → oneR p = (oneTo p i, false) := fun h h' i hi hlt hx => by
    unfold oneR
    rw [if_pos ⟨h, h'⟩, nextAt_some (Nat.zero_le _) hi (by simp only [hx, Bool.not_false]) (fun k _ hk => by simp only [hlt k hk, Bool.not_true])]
  have q2 : checkR p = 0 → p.ags.length = 1 → (∀ j, j < p.wants.length → oneOk p j = true) → oneR p = (oneTo p p.wants.length, true) := fun h h' hlt => by
    unfold oneR
    rw [if_pos ⟨h, h'⟩, nextAt_none (fun k _ hk => by simp only [hlt k hk, Bool.not_true])]
  have hfin : checkR p = 0 → p.wants.length ≤ 32 ∧ ∀ i, i < p.wants.length → 1 ≤ (p.wants.getD i default).weight ∧ (p.wants.getD i default).weight ≤ 1000 := fun h => by
    have hf : fineR p = true := by
      unfold checkR at h
      split at h
      · assumption
      · cases h
    obtain ⟨f1, _, f3, _⟩ := fine_bare hf
    exact ⟨f1.2.2.2, fun i hi => (f3 i hi).2⟩
  have hokk := fun h => oneTo_ok (p := p) (fun i hi => by have := ((hfin h).2 i hi).2; omega)
  have hSn := fun i => x_sumsOf (p.wants.getD i default).need (hp.w i)
  have hSa := x_sumsOf (ag0 p) (hp.a 0)
  have hDl := fun i => x_Delta (sumsOf (p.wants.getD i default).need) (sumsOf (ag0 p))
  have hHo := fun i => x_vecHolds (ag0 p) (p.wants.getD i default).need (hp.a 0) (hp.w i)
  have hRo : ∀ i, (oneD p i).2 = true → XC Try.prog 80 [.agg [xi (oneD p i).1.num, xi (oneD p i).1.den]] [] (oneRt p i).X [] := fun i h => by
    have hd := deltaR_ok h
    have h1 := x_ratOf (oneD p i).1.num.toNat (oneD p i).1.den.toNat (by unfold oneD; omega) (by unfold oneD; omega) (by unfold oneD; omega)
    rw [show (((oneD p i).1.num.toNat : Nat) : Int) = (oneD p i).1.num by unfold oneD; omega, show (((oneD p i).1.den.toNat : Nat) : Int) = (oneD p i).1.den by unfold oneD; omega] at h1
    exact h1
  have hNg := fun i (h : (oneD p i).2 = true) => x_neg (oneRt p i) 2 (oneRt_ok h) (by decide)
  have hWh : ∀ i, checkR p = 0 → i < p.wants.length → XC Try.prog 77 [xi (p.wants.getD i default).weight] [] (Rt.whole (p.wants.getD i default).weight.toNat).X [] := fun i h hi => by
    have h0 := (hfin h).2 i hi
    have h1 := x_whole (p.wants.getD i default).weight.toNat (by omega)
    rw [show (((p.wants.getD i default).weight.toNat : Nat) : Int) = (p.wants.getD i default).weight by omega] at h1
    exact h1
  have hA1 := fun i (h : checkR p = 0) (hi : i < p.wants.length) (hlt : ∀ j, j < i → oneOk p j = true) (hd : (oneD p i).2 = true) => x_radd (oneTo p i).rest (oneRt p i).neg (2 + 3 * i) 2 (hokk h i (by omega) hlt).1 (oneRt_ok hd).neg (by have := (hfin h).1; omega)
  have hA2 := fun i (h : checkR p = 0) (hi : i < p.wants.length) (hlt : ∀ j, j < i → oneOk p j = true) => x_radd (oneTo p i).ws (Rt.whole (p.wants.getD i default).weight.toNat) (2 + 3 * i) 2 (hokk h i (by omega) hlt).2 (whole_ok (by have := ((hfin h).2 i hi).2; omega)) (by have := (hfin h).1; omega)
  have hs1 : ∀ i, (oneTo p i).rest.add (oneRt p i).neg = (oneTo p (i + 1)).rest := fun _ => rfl
  have hs2 : ∀ i, (oneTo p i).ws.add (Rt.whole (p.wants.getD i default).weight.toNat) = (oneTo p (i + 1)).ws := fun _ => rfl
  have hs3 : ∀ i, (oneTo p (i + 1)).dl = (oneTo p i).dl ++ [oneRt p i] := fun _ => rfl
  have hoo : ∀ i, oneOk p i = ((oneD p i).2 && (subV (ag0 p) (p.wants.getD i default).need).2) := fun _ => rfl
  have hod : ∀ i, deltaR (sumsOf (p.wants.getD i default).need) (sumsOf (ag0 p)) = oneD p i := fun _ => rfl
  have hlen := oneTo_len p
  simp only [hs1] at hA1
  simp only [hs2] at hA2
  simp only [hod] at hDl
  clear hs1 hs2 hod hokk
  generalize hdr : (oneR p).1.dl.map Rt.rd = dlr
  generalize hrm : (oneR p).1.rest.m = rmr
  generalize hrx : wd (oneR p).1.rest.n = rxr
  generalize hry : wd (oneR p).1.rest.d = ryr
  generalize hwm : (oneR p).1.ws.m = wmr
  generalize hwx : wd (oneR p).1.ws.n = wxr
  generalize hwy : wd (oneR p).1.ws.d = wyr
  generalize hrb : (oneR p).2 = rbr
  have hfinish : ∀ (i : Nat) (b : Bool), oneR p = (oneTo p i, b) → dlr = (oneTo p i).dl.map Rt.rd ∧ rmr = (oneTo p i).rest.m ∧ rxr = wd (oneTo p i).rest.n ∧ ryr = wd (oneTo p i).rest.d ∧ wmr = (oneTo p i).ws.m ∧ wxr = wd (oneTo p i).ws.n ∧ wyr = wd (oneTo p i).ws.d ∧ rbr = b := fun i b h => by
    rw [h] at hdr hrm hrx hry hwm hwx hwy hrb
    exact ⟨hdr.symm, hrm.symm, hrx.symm, hry.symm, hwm.symm, hwx.symm, hwy.symm, hrb.symm⟩
  clear hdr hrm hrx hry hwm hwx hwy hrb
  rw [← hn1] at hW1
  rw [← hn0] at hW0
  generalize hcr : checkR p = cr at *
  obtain ⟨w1m, hw1m⟩ : ∃ x, x = (oneTo p 0).rest.m := ⟨_, rfl⟩
  obtain ⟨w1x, hw1x⟩ : ∃ x, x = wd (oneTo p 0).rest.n := ⟨_, rfl⟩
  obtain ⟨w1y, hw1y⟩ : ∃ x, x = wd (oneTo p 0).rest.d := ⟨_, rfl⟩
  obtain ⟨w0m, hw0m⟩ : ∃ x, x = (oneTo p 0).ws.m := ⟨_, rfl⟩
  obtain ⟨w0x, hw0x⟩ : ∃ x, x = wd (oneTo p 0).ws.n := ⟨_, rfl⟩
  obtain ⟨w0y, hw0y⟩ : ∃ x, x = wd (oneTo p 0).ws.d := ⟨_, rfl⟩
  have hI0 : ∀ rv, InO p ⟨0, rv, [], w1m, w1x, w1y, w0m, w0x, w0y⟩ := fun rv => ⟨Nat.zero_le _, fun j hj => absurd hj (Nat.not_lt_zero j), by show [] = (oneTo p 0).dl.map Rt.rd; rw [hnd]; rfl, hw1m, hw1x, hw1y, hw0m, hw0x, hw0y⟩
  unfold Rt.X at hW1 hW0
  rw [← hw1m, ← hw1x, ← hw1y] at hW1
  rw [← hw0m, ← hw0x, ← hw0y] at hW0
  clear hn1 hn0 hnd
  have hpa := hp.na
  have hpw := hp.nw
  obtain ⟨ags, hags⟩ : ∃ x, x = p.ags := ⟨_, rfl⟩
  obtain ⟨wants, hwants⟩ : ∃ x, x = p.wants := ⟨_, rfl⟩
  obtain ⟨loa, hloa⟩ : ∃ x, x = p.lo.a := ⟨_, rfl⟩
  obtain ⟨lob, hlob⟩ : ∃ x, x = p.lo.b := ⟨_, rfl⟩
  obtain ⟨loc, hloc⟩ : ∃ x, x = p.lo.c := ⟨_, rfl⟩
  obtain ⟨lod, hlod⟩ : ∃ x, x = p.lo.d := ⟨_, rfl⟩
  have hPX : Prof.X Ar.real p = [.ro (SL Ar.real PV.X ags), .ro (SL Ar.real Want.X wants), xi loa, xi lob, xi loc, xi lod] := by rw [hags, hwants, hloa, hlob, hloc, hlod]; rfl
  rw [hPX] at hCk ⊢
  unfold AX
  rw [← hags, ← hwants, ← hloa, ← hlob, ← hloc, ← hlod]
  (refine XC.of_body ([(1, [(0, 1), (0, 2), (0, 4), (1, 4), (2, 4)]), (7, [(2, 3), (2, 4), (2, 5), (2, 6), (0, 12), (1, 12), (2, 12), (3, 12), (4, 12), (5, 12), (6, 12), (7, 12), (8, 12)]), (8, []), (12, [(0, 3), (1, 3)]), (13, [(0, 4), (1, 4)])]) Try.func89 rfl Try.ntmps89 mixed (T := [(2, ti2), (3, ti3), (4, ti4), (31, ti31), (42, ti42), (52, ti52), (53, ti53), (57, ti57), (64, ti64), (75, ti75), (123, ti123), (132, ti132), (142, ti142), (144, ti144), (156, ti156), (158, ti158)]) (.cons tok2 (.cons tok3 (.cons tok4 (.cons tok31 (.cons tok42 (.cons tok52 (.cons tok53 (.cons tok57 (.cons tok64 (.cons tok75 (.cons tok123 (.cons tok132 (.cons tok142 (.cons tok144 (.cons tok156 (.cons tok158 .nil)))))))))))))))) (by kernel_rfl) (by simp) rfl rfl rfl rfl rfl ?_; rintro o ho P hP c K hK; have hm : P.follows .mixedOrders = true := hP ▸ mixed; have hT : TOk P [(2, ti2), (3, ti3), (4, ti4), (31, ti31), (42, ti42), (52, ti52), (53, ti53), (57, ti57), (64, ti64), (75, ti75), (123, ti123), (132, ti132), (142, ti142), (144, ti144), (156, ti156), (158, ti158)] := hP ▸ (.cons tok2 (.cons tok3 (.cons tok4 (.cons tok31 (.cons tok42 (.cons tok52 (.cons tok53 (.cons tok57 (.cons tok64 (.cons tok75 (.cons tok123 (.cons tok132 (.cons tok142 (.cons tok144 (.cons tok156 (.cons tok158 .nil)))))))))))))))); (try rw [← ho]); cbv; (repeat (refine StopN.mk ?_; cbv)))
  rw [← ho] at hW1 hW0 hCk
  repeat' (first | (refine Br.mk (fun hb => ?_) (fun hb => ?_) <;> ((try rw [ho] at hb); (try dsimp only [Ar.real, IX.vo] at hb); (try simp only [QN12] at hb); (try simp only [QBo, beq_iff_eq, beq_eq_false_iff_ne, ne_eq] at hb))) | (refine StopN.mk ?_; cbv) | (first | refine CallN.pure hP hW1 fn77 rfl rfl rfl ?_ | refine CallN.pure hP hW0 fn77 rfl rfl rfl ?_ | refine CallI.pure hP hCk fn121 rfl rfl rfl ?_); cbv | ((first | refine CallI.pure hP (x_Delta _ _) fn33 (by first | rfl | (rw [ho]; done) | (rw [ho]; rfl)) (by rfl) (by first | rfl | (rw [ho]; done) | (rw [ho]; rfl)) ?_ | refine CallN.pure hP (x_Delta _ _) fn33 (by first | rfl | (rw [ho]; done) | (rw [ho]; rfl)) (by rfl) (by first | rfl | (rw [ho]; done) | (rw [ho]; rfl)) ?_); (try rw [← ho]); generalize hr : deltaR _ _ = r; (try rw [ho] at hr); (try dsimp only [Ar.real, IX.vo] at hr); (try simp only [QN12] at hr); cbv) | ((first | refine CallI.pure hP (x_Check _ ‹_›) fn121 (by first | rfl | (rw [ho]; done) | (rw [ho]; rfl)) (by rfl) (by first | rfl | (rw [ho]; done) | (rw [ho]; rfl)) ?_ | refine CallN.pure hP (x_Check _ ‹_›) fn121 (by first | rfl | (rw [ho]; done) | (rw [ho]; rfl)) (by rfl) (by first | rfl | (rw [ho]; done) | (rw [ho]; rfl)) ?_); (try rw [← ho]); generalize hr : checkR _ = r; (try rw [ho] at hr); (try dsimp only [Ar.real, IX.vo] at hr); (try simp only [QN12] at hr); cbv) | ((first | refine CallI.pure hP (x_sumsOf _ ‹_›) fn122 (by first | rfl | (rw [ho]; done) | (rw [ho]; rfl)) (by rfl) (by first | rfl | (rw [ho]; done) | (rw [ho]; rfl)) ?_ | refine CallN.pure hP (x_sumsOf _ ‹_›) fn122 (by first | rfl | (rw [ho]; done) | (rw [ho]; rfl)) (by rfl) (by first | rfl | (rw [ho]; done) | (rw [ho]; rfl)) ?_); (try rw [← ho]); generalize hr : sumsOf _ = r; (try rw [ho] at hr); (try dsimp only [Ar.real, IX.vo] at hr); (try simp only [QN12] at hr); cbv) | ((first | refine CallI.pure hP (x_vecHolds _ _ ‹_› ‹_›) fn146 (by first | rfl | (rw [ho]; done) | (rw [ho]; rfl)) (by rfl) (by first | rfl | (rw [ho]; done) | (rw [ho]; rfl)) ?_ | refine CallN.pure hP (x_vecHolds _ _ ‹_› ‹_›) fn146 (by first | rfl | (rw [ho]; done) | (rw [ho]; rfl)) (by rfl) (by first | rfl | (rw [ho]; done) | (rw [ho]; rfl)) ?_); (try rw [← ho]); generalize hr : subV _ _ = r; (try rw [ho] at hr); (try dsimp only [Ar.real, IX.vo] at hr); (try simp only [QN12] at hr); cbv) | (refine hK _ _ ?_) | (refine NeedT.mk ?_ ?_))
  · obtain ⟨e1, e2, e3, e4, e5, e6, e7, e8⟩ := hfinish 0 false (q0 (fun h => hb h.1))
    rw [← hw1m] at e2; rw [← hw1x] at e3; rw [← hw1y] at e4; rw [← hw0m] at e5; rw [← hw0x] at e6; rw [← hw0y] at e7
    subst e2 e3 e4 e5 e6 e7 e8
    rw [e1]
    exact FinX_AX ho (rows_nil_SL Ar.real rfl Rd.X) rfl
  · obtain ⟨e1, e2, e3, e4, e5, e6, e7, e8⟩ := hfinish 0 false (q0 (fun h => by rw [← hags] at h; apply hb; rw [h.2]; rfl))
    rw [← hw1m] at e2; rw [← hw1x] at e3; rw [← hw1y] at e4; rw [← hw0m] at e5; rw [← hw0x] at e6; rw [← hw0y] at e7
    subst e2 e3 e4 e5 e6 e7 e8
    rw [e1]
    exact FinX_AX ho (rows_nil_SL Ar.real rfl Rd.X) rfl
  have hc0 : cr = 0 := by assumption
  have ha1 : p.ags.length = 1 := by rw [← hags]; ((try clear hR3); (try clear hR2); (try clear hR); (try clear hK); (try simp only [ncCast] at *); (try simp only [castI_eq] at *)); omega
  replace q1 := q1 hc0 ha1
  replace q2 := q2 hc0 ha1
  replace hWh := fun i => hWh i hc0
  replace hA1 := fun i => hA1 i hc0
  replace hA2 := fun i => hA2 i hc0
  have hw32 : wants.length ≤ 32 := by rw [hwants]; exact (hfin hc0).1
  clear q0
  refine LoopN.ghostv 2 6 144 3 158 _ rfl rfl ?_
  refine LoopN.over (o := o) (D := [(1, [(0, 1), (0, 2), (0, 4), (1, 4), (2, 4)]), (7, [(2, 3), (2, 4), (2, 5), (2, 6), (0, 12), (1, 12), (2, 12), (3, 12), (4, 12), (5, 12), (6, 12), (7, 12), (8, 12)]), (8, []), (12, [(0, 3), (1, 3)]), (13, [(0, 4), (1, 4)])]) ho hm hT (by kernel_rfl) (fun s : StO => [(27, xn s.i)]) (fun s => [(2, .var [.ro (SL o PV.X ags), .ro (SL o Want.X wants), xi loa, xi lob, xi loc, xi lod, .own (.loc 3) s.rv, xb s.rm, .ro (SL o encU s.rx), .ro (SL o encU s.ry), xb s.wm, .ro (SL o encU s.wx), .ro (SL o encU s.wy)] 158), (3, .row s.rv 144 3 (SL o Rd.X s.dl))]) (fun _ => []) (InO p) (fun s => wants.length - s.i) ⟨0, 0, [], w1m, w1x, w1y, w0m, w0x, w0y⟩ (hI0 0) ?_ ?_
  · refine ⟨(by cbv), by cbv; repeat' (first | trivial | exact EqX.rfl' | exact EqO.rfl' | apply And.intro | ((try clear hR3); (try clear hR2); (try clear hR); (try clear hK); (try simp only [ncCast] at *); (try simp only [castI_eq] at *); refine EqX.i ?_; (try rw [ho]); (try dsimp only [Ar.real, IX.vo, IX.val, BX.val, IX.toN]); (try simp only [QN12]); (repeat rw [wrap_i64 (by omega) (by omega)]); omega) | exact EqO.row rfl (rows_nil_SL o ho Rd.X)), by cbv; repeat' (first | trivial | exact EqO.rfl' | apply And.intro | exact EqO.row rfl (rows_nil_SL o ho Rd.X)), by cbv; repeat' (first | trivial | exact EqO.rfl' | apply And.intro | exact EqO.row rfl (rows_nil_SL o ho Rd.X))⟩
  · rintro ⟨i, rv, dl, rm, rx, ry, wm, wx, wy⟩ ⟨hi, hok, hdl, hrm, hrx, hry, hwm, hwx, hwy⟩ R hR
    dsimp only at hi hok hdl hrm hrx hry hwm hwx hwy
    have hSi := hSn i
    have hDi := hDl i
    have hHi := hHo i
    have hRi := hRo i
    have hNi := hNg i
    have hWi := hWh i
    have hAi := fun hd h => hA1 i h hok hd
    have hBi := fun h => hA2 i h hok
    have hoi := hoo i
    have q3 := q1 i
    have hf1 := fun b h => hfinish i b h
    have hsn := hs3 i
    have hln := hlen i
    rw [← hrm, ← hrx, ← hry] at hAi
    rw [← hwm, ← hwx, ← hwy] at hBi
    obtain ⟨mm, hmm⟩ : ∃ x, x = (oneRt p i).m := ⟨_, rfl⟩
    obtain ⟨mx, hmx⟩ : ∃ x, x = wd (oneRt p i).n := ⟨_, rfl⟩
    obtain ⟨my, hmy⟩ : ∃ x, x = wd (oneRt p i).d := ⟨_, rfl⟩
    have hrd : (oneRt p i).rd = ⟨mm, mx, my⟩ := by rw [hmm, hmx, hmy]; rfl
    rw [← hmm, ← hmx, ← hmy] at hRi hNi
    generalize (oneRt p i).neg.m = nm at *
    generalize wd (oneRt p i).neg.n = nx at *
    generalize wd (oneRt p i).neg.d = ny at *
    generalize (Rt.whole (p.wants.getD i default).weight.toNat).m = vm at *
    generalize wd (Rt.whole (p.wants.getD i default).weight.toNat).n = vx at *
    generalize wd (Rt.whole (p.wants.getD i default).weight.toNat).d = vy at *
    generalize hr2m : (oneTo p (i + 1)).rest.m = r2m at *
    generalize hr2x : wd (oneTo p (i + 1)).rest.n = r2x at *
    generalize hr2y : wd (oneTo p (i + 1)).rest.d = r2y at *
    generalize hw2m : (oneTo p (i + 1)).ws.m = w2m at *
    generalize hw2x : wd (oneTo p (i + 1)).ws.n = w2x at *
    generalize hw2y : wd (oneTo p (i + 1)).ws.d = w2y at *
    generalize sumsOf (ag0 p) = sa at *
    generalize sumsOf (p.wants.getD i default).need = sn at *
    generalize hq : (subV (ag0 p) (p.wants.getD i default).need).2 = hh at *
    generalize hod : oneD p i = od at *
    obtain ⟨⟨fn, fd⟩, fok⟩ := od
    dsimp only at hRi hNi hAi hDi hoi
    have en : o.nth wants i = p.wants.getD i default := by rw [ho, real_nth, hwants]
    have en0 : o.nth ags 0 = ag0 p := by rw [ho, real_nth, hags]; rfl
    rw [← en] at hSi hHi hWi
    rw [← en0] at hHi hSa
    rw [← hwants] at hWi hAi hBi q3 hi
    obtain ⟨dl', hdl'⟩ : ∃ x, x = dl ++ [(⟨mm, mx, my⟩ : Rd)] := ⟨_, rfl⟩
    have hdl2 : dl' = (oneTo p (i + 1)).dl.map Rt.rd := by rw [hdl', hsn, List.map_append, ← hdl, List.map_singleton, hrd]
    have hdll : dl.length = i := by rw [hdl, List.length_map]; exact hln
    rw [← ho] at hSi hHi hDi hSa
    simp only [← ho] at hRi hNi hWi hAi hBi
    cbv
    repeat' (first | (refine Br.mk (fun hb => ?_) (fun hb => ?_) <;> ((try rw [ho] at hb); (try dsimp only [Ar.real, IX.vo] at hb); (try simp only [QN12] at hb); (try simp only [QBo, beq_iff_eq, beq_eq_false_iff_ne, ne_eq] at hb))) | (refine StopN.mk ?_; cbv) | (first | refine CallN.pure hP hSi fn122 rfl rfl rfl ?_ | refine CallN.pure hP hSa fn122 rfl rfl rfl ?_ | refine CallN.pure hP hDi fn33 rfl rfl rfl ?_ | refine CallN.pure hP hHi fn146 rfl rfl rfl ?_ | refine CallI.pure hP (hRi ‹_›) fn80 rfl rfl rfl ?_ | refine CallN.pure hP (hNi ‹_›) fn147 rfl rfl rfl ?_ | refine CallN.pure hP (hWi ‹_›) fn77 rfl rfl rfl ?_ | refine CallN.pure hP (hAi ‹_› ‹_›) fn79 rfl rfl rfl ?_ | refine CallN.pure hP (hBi ‹_›) fn79 rfl rfl rfl ?_); cbv | ((first | refine CallI.pure hP (x_Delta _ _) fn33 (by first | rfl | (rw [ho]; done) | (rw [ho]; rfl)) (by rfl) (by first | rfl | (rw [ho]; done) | (rw [ho]; rfl)) ?_ | refine CallN.pure hP (x_Delta _ _) fn33 (by first | rfl | (rw [ho]; done) | (rw [ho]; rfl)) (by rfl) (by first | rfl | (rw [ho]; done) | (rw [ho]; rfl)) ?_); (try rw [← ho]); generalize hr : deltaR _ _ = r; (try rw [ho] at hr); (try dsimp only [Ar.real, IX.vo] at hr); (try simp only [QN12] at hr); cbv) | ((first | refine CallI.pure hP (x_Check _ ‹_›) fn121 (by first | rfl | (rw [ho]; done) | (rw [ho]; rfl)) (by rfl) (by first | rfl | (rw [ho]; done) | (rw [ho]; rfl)) ?_ | refine CallN.pure hP (x_Check _ ‹_›) fn121 (by first | rfl | (rw [ho]; done) | (rw [ho]; rfl)) (by rfl) (by first | rfl | (rw [ho]; done) | (rw [ho]; rfl)) ?_); (try rw [← ho]); generalize hr : checkR _ = r; (try rw [ho] at hr); (try dsimp only [Ar.real, IX.vo] at hr); (try simp only [QN12] at hr); cbv) | ((first | refine CallI.pure hP (x_sumsOf _ ‹_›) fn122 (by first | rfl | (rw [ho]; done) | (rw [ho]; rfl)) (by rfl) (by first | rfl | (rw [ho]; done) | (rw [ho]; rfl)) ?_ | refine CallN.pure hP (x_sumsOf _ ‹_›) fn122 (by first | rfl | (rw [ho]; done) | (rw [ho]; rfl)) (by rfl) (by first | rfl | (rw [ho]; done) | (rw [ho]; rfl)) ?_); (try rw [← ho]); generalize hr : sumsOf _ = r; (try rw [ho] at hr); (try dsimp only [Ar.real, IX.vo] at hr); (try simp only [QN12] at hr); cbv) | ((first | refine CallI.pure hP (x_vecHolds _ _ ‹_› ‹_›) fn146 (by first | rfl | (rw [ho]; done) | (rw [ho]; rfl)) (by rfl) (by first | rfl | (rw [ho]; done) | (rw [ho]; rfl)) ?_ | refine CallN.pure hP (x_vecHolds _ _ ‹_› ‹_›) fn146 (by first | rfl | (rw [ho]; done) | (rw [ho]; rfl)) (by rfl) (by first | rfl | (rw [ho]; done) | (rw [ho]; rfl)) ?_); (try rw [← ho]); generalize hr : subV _ _ = r; (try rw [ho] at hr); (try dsimp only [Ar.real, IX.vo] at hr); (try simp only [QN12] at hr); cbv) | (refine hK _ _ ?_) | (refine NeedT.mk ?_ ?_))
    any_goals (((try clear hR3); (try clear hR2); (try clear hR); (try clear hK); (try simp only [ncCast] at *); (try simp only [castI_eq] at *); (try rw [ho]); (try dsimp only [Ar.real, IX.vo, IX.val, BX.val, IX.toN]); (try simp only [QN12]); (try simp only [decide_eq_true_eq]); (all_goals (repeat rw [wrap_i64 (by omega) (by omega)])); (all_goals (first | omega | (simp only [Int.ofNat_eq_natCast]; omega)))); done)
    · obtain ⟨e1, e2, e3, e4, e5, e6, e7, e8⟩ := hf1 false (q3 (by assumption) hok (by rw [hoi, ‹fok = false›]; rfl))
      rw [← hdl] at e1; rw [← hrm] at e2; rw [← hrx] at e3; rw [← hry] at e4; rw [← hwm] at e5; rw [← hwx] at e6; rw [← hwy] at e7
      subst e1 e2 e3 e4 e5 e6 e7 e8
      exact FinX_AX ho (by rw [ho]) rfl
    · obtain ⟨e1, e2, e3, e4, e5, e6, e7, e8⟩ := hf1 false (q3 (by assumption) hok (by rw [hoi, ‹hh = false›, Bool.and_false]))
      rw [← hdl] at e1; rw [← hrm] at e2; rw [← hrx] at e3; rw [← hry] at e4; rw [← hwm] at e5; rw [← hwx] at e6; rw [← hwy] at e7
      subst e1 e2 e3 e4 e5 e6 e7 e8
      exact FinX_AX ho (by rw [ho]) rfl
    · have hil : i < wants.length := by assumption
      have hoki : oneOk p i = true := by rw [hoi, ‹fok = true›, ‹hh = true›]; rfl
      refine hR _ ⟨i + 1, rv + 1, dl', r2m, r2x, r2y, w2m, w2x, w2y⟩ (by show wants.length - (i + 1) < wants.length - i; omega) ⟨by show i + 1 ≤ p.wants.length; rw [← hwants]; omega, fun j hj => ?_, hdl2, hr2m.symm, hr2x.symm, hr2y.symm, hw2m.symm, hw2x.symm, hw2y.symm⟩ ?_
      · have hj' : j < i + 1 := hj
        rcases Nat.lt_or_ge j i with h5 | h5
        · exact hok j h5
        · obtain rfl : j = i := by omega
          exact hoki
      · refine ⟨(by cbv), by cbv; repeat' (first | trivial | exact EqX.rfl' | exact EqO.rfl' | apply And.intro | ((try clear hR3); (try clear hR2); (try clear hR); (try clear hK); (try simp only [ncCast] at *); (try simp only [castI_eq] at *); refine EqX.i ?_; (try rw [ho]); (try dsimp only [Ar.real, IX.vo, IX.val, BX.val, IX.toN]); (try simp only [QN12]); (repeat rw [wrap_i64 (by omega) (by omega)]); omega) | (refine EqO.snoc ho Rd.X _ _ _ _ rfl hdl' ?_; rw [ho]; rfl)), by cbv; repeat' (first | trivial | exact EqO.rfl' | apply And.intro | (refine EqO.snoc ho Rd.X _ _ _ _ rfl hdl' ?_; rw [ho]; rfl)), by cbv; repeat' (first | trivial | exact EqO.rfl' | apply And.intro | (refine EqO.snoc ho Rd.X _ _ _ _ rfl hdl' ?_; rw [ho]; rfl))⟩
    · have hil : i = p.wants.length := by rw [← hwants]; ((try clear hR3); (try clear hR2); (try clear hR); (try clear hK); (try simp only [ncCast] at *); (try simp only [castI_eq] at *)); omega
      obtain ⟨e1, e2, e3, e4, e5, e6, e7, e8⟩ := hf1 true (by rw [hil]; exact q2 (by rw [← hil]; exact hok))
      rw [← hdl] at e1; rw [← hrm] at e2; rw [← hrx] at e3; rw [← hry] at e4; rw [← hwm] at e5; rw [← hwx] at e6; rw [← hwy] at e7
      subst e1 e2 e3 e4 e5 e6 e7 e8
      exact FinX_AX ho (by rw [ho]) rfl
end Go.Proofs.Ytddgcegimmcbgaa.Sy

/-
  Bounds: the floor of a share; whether a result fits. Plain theorems.
-/
set_option linter.unusedSectionVars false
namespace Go.Proofs.Ytddgcegimmcbgaa.Sy
open Go Go.Sy Go.Proofs.Ytddgcegimmcbgaa
set_option maxRecDepth 100000
set_option maxHeartbeats 8000000
set_option linter.unusedVariables false
set_option linter.unusedSimpArgs false

theorem gcd_one (n : Nat) : Nat.gcd n 1 = 1 := Nat.gcd_one_right n
theorem whole_eq (n : Nat) : Rt.whole n = ⟨false, n, 1⟩ := by
  unfold Rt.whole Rt.of Rt.low
  dsimp only
  rw [gcd_one, Nat.div_one, Nat.div_one]
  rfl
/-- The sum of the first weights. -/
def wsum (p : Prof) : Nat → Nat
  | 0 => 0
  | i + 1 => wsum p i + (p.wants.getD i default).weight.toNat
theorem ws_eq (p : Prof) : ∀ i, (oneTo p i).ws = ⟨false, wsum p i, 1⟩
  | 0 => whole_eq 0
  | i + 1 => by
    simp only [oneTo, wsum]
    rw [ws_eq p i, whole_eq]
    unfold Rt.add Rt.low
    dsimp only
    rw [if_pos rfl]
    simp
theorem wsum_pos {p : Prof} {i : Nat} (h : 1 ≤ (p.wants.getD 0 default).weight) (hi : 0 < i) : 0 < wsum p i := by
  induction i with
  | zero => omega
  | succ i ih =>
    simp only [wsum]
    by_cases h0 : i = 0
    · subst h0
      omega
    · have := ih (by omega)
      omega
def floorT (p : Prof) (i : Int) : Fr × Bool :=
  if (oneR p).2 = true ∧ 0 ≤ i ∧ i < p.wants.length then
    (if (oneR p).1.rest.m = true then (⟨0, 1⟩, true) else ((Rt.whole (p.wants.getD i.toNat default).weight.toNat).mul (oneR p).1.rest |>.over (oneR p).1.ws).frac)
  else (⟨0, 0⟩, false)
theorem oneR_true {p : Prof} (h : (oneR p).2 = true) : checkR p = 0 ∧ p.ags.length = 1 ∧ (∀ j, j < p.wants.length → oneOk p j = true) ∧ (oneR p).1 = oneTo p p.wants.length := by
  unfold oneR at h ⊢
  by_cases h0 : checkR p = 0 ∧ p.ags.length = 1
  · rw [if_pos h0] at h ⊢
    cases hn : nextAt (fun i => !oneOk p i) 0 p.wants.length with
    | some j => rw [hn] at h; cases h
    | none =>
      unfold nextAt at hn
      rw [List.find?_range'_eq_none] at hn
      exact ⟨h0.1, h0.2, fun j hj => by simpa using hn j (Nat.zero_le _) (by omega), rfl⟩
  · rw [if_neg h0] at h
    cases h
theorem x_Floor (p : Prof) (hp : ProfOk p) (hwb : ∀ i, i64B (p.wants.getD i default).weight) (i : Int) : XC Try.prog 41 [.agg (Prof.X Ar.real p), xi i] [] (.tup [.agg [xi (floorT p i).1.num, xi (floorT p i).1.den], xb (floorT p i).2]) [] := by
  have hO := x_one p hp hwb
  have htrue := oneR_true (p := p)
  have hfin : checkR p = 0 → p.wants.length ≤ 32 ∧ ∀ i, i < p.wants.length → 1 ≤ (p.wants.getD i default).weight ∧ (p.wants.getD i default).weight ≤ 1000 := fun h => by
    have hf : fineR p = true := by
      unfold checkR at h
      split at h
      · assumption
      · cases h
    obtain ⟨f1, _, f3, _⟩ := fine_bare hf
    exact ⟨f1.2.2.2, fun i hi => (f3 i hi).2⟩
  have q0 : (oneR p).2 = false → floorT p i = (⟨0, 0⟩, false) := fun h => if_neg (by rw [h]; simp)
  have q1 : i < 0 → floorT p i = (⟨0, 0⟩, false) := fun h => if_neg (by omega)
  have q2 : (p.wants.length : Int) ≤ i → floorT p i = (⟨0, 0⟩, false) := fun h => if_neg (by omega)
  have q3 : (oneR p).2 = true → 0 ≤ i → i < p.wants.length → (oneR p).1.rest.m = true → floorT p i = (⟨0, 1⟩, true) := fun h h1 h2 h3 => by
    unfold floorT
    rw [if_pos ⟨h, h1, h2⟩, if_pos h3]
  have q4 : (oneR p).2 = true → 0 ≤ i → i < p.wants.length → (oneR p).1.rest.m = false → floorT p i = ((Rt.whole (p.wants.getD i.toNat default).weight.toNat).mul (oneR p).1.rest |>.over (oneR p).1.ws).frac := fun h h1 h2 h3 => by
    unfold floorT
    rw [if_pos ⟨h, h1, h2⟩, if_neg (by rw [h3]; decide)]
  have key : (oneR p).2 = true → 0 ≤ i → i < p.wants.length → XC Try.prog 77 [xi (p.wants.getD i.toNat default).weight] [] (Rt.whole (p.wants.getD i.toNat default).weight.toNat).X [] ∧
      XC Try.prog 92 [(Rt.whole (p.wants.getD i.toNat default).weight.toNat).X, (oneR p).1.rest.X] [] ((Rt.whole (p.wants.getD i.toNat default).weight.toNat).mul (oneR p).1.rest).X [] ∧
      XC Try.prog 94 [((Rt.whole (p.wants.getD i.toNat default).weight.toNat).mul (oneR p).1.rest).X, (oneR p).1.ws.X] [] ((Rt.whole (p.wants.getD i.toNat default).weight.toNat).mul (oneR p).1.rest |>.over (oneR p).1.ws).X [] ∧
      XC Try.prog 81 [((Rt.whole (p.wants.getD i.toNat default).weight.toNat).mul (oneR p).1.rest |>.over (oneR p).1.ws).X] [] (.tup [.agg [xi ((Rt.whole (p.wants.getD i.toNat default).weight.toNat).mul (oneR p).1.rest |>.over (oneR p).1.ws).frac.1.num, xi ((Rt.whole (p.wants.getD i.toNat default).weight.toNat).mul (oneR p).1.rest |>.over (oneR p).1.ws).frac.1.den], xb ((Rt.whole (p.wants.getD i.toNat default).weight.toNat).mul (oneR p).1.rest |>.over (oneR p).1.ws).frac.2]) [] := fun h h1 h2 => by
    obtain ⟨c1, c2, c3, c4⟩ := htrue h
    obtain ⟨f1, f2⟩ := hfin c1
    have hi1 : i.toNat < p.wants.length := by omega
    have hwi := f2 i.toNat hi1
    have hw0 := f2 0 (by omega)
    have hk := oneTo_ok (p := p) (fun j hj => by have := (f2 j hj).2; omega) p.wants.length (Nat.le_refl _) c3
    rw [c4]
    have hW := x_whole (p.wants.getD i.toNat default).weight.toNat (by omega)
    rw [show (((p.wants.getD i.toNat default).weight.toNat : Nat) : Int) = (p.wants.getD i.toNat default).weight by omega] at hW
    have hwk := whole_ok (n := (p.wants.getD i.toNat default).weight.toNat) (by omega)
    have hpos : 0 < (oneTo p p.wants.length).ws.n := by rw [ws_eq]; exact wsum_pos hw0.1 (by omega)
    have hM := x_rmul _ _ _ _ hwk hk.1 (by omega)
    have hV := x_over _ _ _ _ (hwk.mul hk.1) hk.2 hpos (by omega)
    have hF := x_frac _ _ ((hwk.mul hk.1).over hk.2 hpos) (by omega)
    exact ⟨hW, hM, hV, hF⟩
  clear htrue hfin
  generalize floorT p i = res at *
  generalize ((Rt.whole (p.wants.getD i.toNat default).weight.toNat).mul (oneR p).1.rest |>.over (oneR p).1.ws).frac = fr at *
  generalize ((Rt.whole (p.wants.getD i.toNat default).weight.toNat).mul (oneR p).1.rest |>.over (oneR p).1.ws) = r3 at *
  generalize ((Rt.whole (p.wants.getD i.toNat default).weight.toNat).mul (oneR p).1.rest) = r2 at *
  generalize (Rt.whole (p.wants.getD i.toNat default).weight.toNat) = r1 at *
  generalize oneR p = oo at *
  obtain ⟨⟨dl, rest, ws⟩, ok⟩ := oo
  obtain ⟨rm, rn, rd⟩ := rest
  obtain ⟨wm, wn, wdd⟩ := ws
  obtain ⟨m1, n1, d1⟩ := r1
  obtain ⟨m2, n2, d2⟩ := r2
  obtain ⟨m3, n3, d3⟩ := r3
  unfold Rt.X at key
  dsimp only at *
  generalize wd rn = rx at *
  generalize wd rd = ry at *
  generalize wd wn = wx at *
  generalize wd wdd = wy at *
  generalize wd n1 = x1 at *
  generalize wd d1 = y1 at *
  generalize wd n2 = x2 at *
  generalize wd d2 = y2 at *
  generalize wd n3 = x3 at *
  generalize wd d3 = y3 at *
  generalize dl.map Rt.rd = dr at *
  obtain ⟨ags, wants, lo⟩ := p
  obtain ⟨loa, lob, loc, lod⟩ := lo
  obtain ⟨pa, pw, hla, hwa⟩ := hp
  dsimp only at *
  (refine XC.of_body ([(6, [(6, 7), (6, 8), (6, 10), (9, 10), (6, 11), (9, 11)])]) Try.func41 rfl Try.ntmps41 mixed (T := [(2, ti2), (3, ti3), (4, ti4), (31, ti31), (42, ti42), (52, ti52), (57, ti57), (64, ti64), (75, ti75), (132, ti132), (142, ti142), (144, ti144), (156, ti156), (158, ti158)]) (.cons tok2 (.cons tok3 (.cons tok4 (.cons tok31 (.cons tok42 (.cons tok52 (.cons tok57 (.cons tok64 (.cons tok75 (.cons tok132 (.cons tok142 (.cons tok144 (.cons tok156 (.cons tok158 .nil)))))))))))))) (by kernel_rfl) (by simp) rfl rfl rfl rfl rfl ?_; rintro o ho P hP c K hK; have hm : P.follows .mixedOrders = true := hP ▸ mixed; have hT : TOk P [(2, ti2), (3, ti3), (4, ti4), (31, ti31), (42, ti42), (52, ti52), (57, ti57), (64, ti64), (75, ti75), (132, ti132), (142, ti142), (144, ti144), (156, ti156), (158, ti158)] := hP ▸ (.cons tok2 (.cons tok3 (.cons tok4 (.cons tok31 (.cons tok42 (.cons tok52 (.cons tok57 (.cons tok64 (.cons tok75 (.cons tok132 (.cons tok142 (.cons tok144 (.cons tok156 (.cons tok158 .nil)))))))))))))); (try rw [← ho]); cbv; (repeat (refine StopN.mk ?_; cbv)))
  have en : o.nth wants (o.toNat i) = wants.getD i.toNat default := by rw [ho, real_nth]; rfl
  simp only [← en, ← ho] at key
  rw [← ho] at hO
  have k1 := fun h h1 h2 => (key h h1 h2).1
  have k2 := fun h h1 h2 => (key h h1 h2).2.1
  have k3 := fun h h1 h2 => (key h h1 h2).2.2.1
  have k4 := fun h h1 h2 => (key h h1 h2).2.2.2
  clear key
  repeat' (first | (refine Br.mk (fun hb => ?_) (fun hb => ?_) <;> ((try rw [ho] at hb); (try dsimp only [Ar.real, IX.vo] at hb); (try simp only [QN12] at hb); (try simp only [QBo, beq_iff_eq, beq_eq_false_iff_ne, ne_eq] at hb))) | (refine StopN.mk ?_; cbv) | (first | refine CallI.pure hP hO fn89 rfl rfl rfl ?_ | refine CallN.pure hP (k1 ‹_› ‹_› ‹_›) fn77 rfl rfl rfl ?_ | refine CallN.pure hP (k2 ‹_› ‹_› ‹_›) fn92 rfl rfl rfl ?_ | refine CallN.pure hP (k3 ‹_› ‹_› ‹_›) fn94 rfl rfl rfl ?_ | refine CallN.pure hP (k4 ‹_› ‹_› ‹_›) fn81 rfl rfl rfl ?_); cbv | (refine hK _ _ ?_) | (refine NeedT.mk ?_ ?_))
  · rw [q0 hb]
    exact FinX_fr rfl rfl rfl
  · rw [q1 hb]
    exact FinX_fr rfl rfl rfl
  · rw [q2 hb]
    exact FinX_fr rfl rfl rfl
  · rw [q3 (by assumption) (by assumption) (by assumption) hb]
    exact FinX_fr rfl rfl rfl
  · ((try clear hR3); (try clear hR2); (try clear hR); (try clear hK); (try simp only [ncCast] at *); (try simp only [castI_eq] at *); (try rw [ho]); (try dsimp only [Ar.real, IX.vo, IX.val, BX.val, IX.toN]); (try simp only [QN12]); (try simp only [decide_eq_true_eq]); (all_goals (repeat rw [wrap_i64 (by omega) (by omega)])); (all_goals (first | omega | (simp only [Int.ofNat_eq_natCast]; omega))))
  · rw [q4 (by assumption) (by assumption) (by assumption) hb]
    exact FinX_fr rfl rfl rfl
/-! ### Results of drives -/
structure Gt where
  pick : Int
  agent : Int
  frame : Int
  num : Int
  den : Int
  weight : Int
  off : List Part
  la : Bool
instance : Inhabited Gt := ⟨⟨0, 0, 0, 0, 0, 0, [], false⟩⟩
def Gt.X (o : Ar) (g : Gt) : List X := [xi g.pick, xi g.agent, xi g.frame, xi g.num, xi g.den, xi g.weight, .ro (SL o Part.X g.off), xb g.la]
def IV.X (o : Ar) (l : List Int) : List X := [.ro (SL o encI l)]
structure Res where
  gr : List Gt
  tasks : List (List Int)
  left : List (List Part)
def Res.X (o : Ar) (r : Res) : List X := [.ro (SL o Gt.X r.gr), .ro (SL o IV.X r.tasks), .ro (SL o PV.X r.left)]
def tOk (l : List Int) : Bool := decide (l.length = 1) && (decide (0 ≤ l.getD 0 0) && decide (l.getD 0 0 ≤ 4096))
def fitsR (p : Prof) (r : Res) : Bool := (nextAt (fun i => !tOk (r.tasks.getD i default)) 0 r.tasks.length).isNone && decide (r.tasks.length = p.wants.length)
theorem x_rfits (p : Prof) (hp : ProfOk p) (r : Res) (hr : r.tasks.length ≤ 1048576) (hrt : ∀ i, (r.tasks.getD i default).length ≤ 1048576) (dl : List Rd) (rm : Bool) (rx ry : List Nat) (wm : Bool) (wx wy : List Nat) : XC Try.prog 90 [.agg (AX Ar.real p dl rm rx ry wm wx wy), .agg (Res.X Ar.real r)] [] (xb (fitsR p r)) [] := by
  have q0 : ∀ i, i < r.tasks.length → tOk (r.tasks.getD i default) = false → fitsR p r = false := fun i hi h => by
    unfold fitsR
    rw [isNone_no (p := fun i => !tOk (r.tasks.getD i default)) hi (by simp only [h, Bool.not_false])]
    rfl
  have q1 : (∀ i, i < r.tasks.length → tOk (r.tasks.getD i default) = true) → fitsR p r = decide (r.tasks.length = p.wants.length) := fun h => by
    unfold fitsR
    rw [isNone_all fun i hi => by simp only [h i hi, Bool.not_true]]
    rfl
  have ht : ∀ i, tOk (r.tasks.getD i default) = true ↔ (r.tasks.getD i []).length = 1 ∧ 0 ≤ (r.tasks.getD i []).getD 0 (Int.ofNat 0) ∧ (r.tasks.getD i []).getD 0 (Int.ofNat 0) ≤ 4096 := fun i => by
    unfold tOk
    simp only [Bool.and_eq_true, decide_eq_true_eq]
    exact Iff.rfl
  generalize fitsR p r = res at *
  obtain ⟨gr, tasks, left⟩ := r
  obtain ⟨ags, wants, lo⟩ := p
  obtain ⟨loa, lob, loc, lod⟩ := lo
  obtain ⟨pa, pw, hla, hwa⟩ := hp
  dsimp only at *
  (refine XC.of_body ([]) Try.func90 rfl Try.ntmps90 mixed (T := [(2, ti2), (3, ti3), (34, ti34), (42, ti42), (52, ti52), (57, ti57), (75, ti75), (77, ti77), (78, ti78), (80, ti80), (132, ti132), (144, ti144), (156, ti156), (158, ti158)]) (.cons tok2 (.cons tok3 (.cons tok34 (.cons tok42 (.cons tok52 (.cons tok57 (.cons tok75 (.cons tok77 (.cons tok78 (.cons tok80 (.cons tok132 (.cons tok144 (.cons tok156 (.cons tok158 .nil)))))))))))))) (by kernel_rfl) (by simp) rfl rfl rfl rfl rfl ?_; rintro o ho P hP c K hK; have hm : P.follows .mixedOrders = true := hP ▸ mixed; have hT : TOk P [(2, ti2), (3, ti3), (34, ti34), (42, ti42), (52, ti52), (57, ti57), (75, ti75), (77, ti77), (78, ti78), (80, ti80), (132, ti132), (144, ti144), (156, ti156), (158, ti158)] := hP ▸ (.cons tok2 (.cons tok3 (.cons tok34 (.cons tok42 (.cons tok52 (.cons tok57 (.cons tok75 (.cons tok77 (.cons tok78 (.cons tok80 (.cons tok132 (.cons tok144 (.cons tok156 (.cons tok158 .nil)))))))))))))); (try rw [← ho]); cbv; (repeat (refine StopN.mk ?_; cbv)))
  refine LoopN.over (o := o) (D := []) ho hm hT (by kernel_rfl) (fun i : Nat => [(10, xn i)]) (fun _ => []) (fun _ => []) (fun i => i ≤ tasks.length ∧ ∀ j, j < i → tOk (tasks.getD j default) = true) (fun i => tasks.length - i) 0 ⟨Nat.zero_le _, fun j hj => absurd hj (Nat.not_lt_zero j)⟩ ?_ ?_
  · refine ⟨(by cbv), by cbv; repeat' (first | trivial | exact EqX.rfl' | exact EqO.rfl' | apply And.intro | ((try clear hR3); (try clear hR2); (try clear hR); (try clear hK); (try simp only [ncCast] at *); (try simp only [castI_eq] at *); refine EqX.i ?_; (try rw [ho]); (try dsimp only [Ar.real, IX.vo, IX.val, BX.val, IX.toN]); (try simp only [QN12]); (repeat rw [wrap_i64 (by omega) (by omega)]); omega)), by cbv; repeat' (first | trivial | exact EqO.rfl' | apply And.intro), by cbv; repeat' (first | trivial | exact EqO.rfl' | apply And.intro)⟩
  · rintro i ⟨hi, hok⟩ R hR
    have hti := ht i
    have hli := hrt i
    have q2 := q0 i
    have en : o.nth tasks i = tasks.getD i default := by rw [ho, real_nth]
    cbv
    repeat' (first | (refine Br.mk (fun hb => ?_) (fun hb => ?_) <;> ((try rw [ho] at hb); (try dsimp only [Ar.real, IX.vo] at hb); (try simp only [QN12] at hb); (try simp only [QBo, beq_iff_eq, beq_eq_false_iff_ne, ne_eq] at hb))) | (refine StopN.mk ?_; cbv) | (refine hK _ _ ?_) | (refine NeedT.mk ?_ ?_))
    any_goals (((try clear hR3); (try clear hR2); (try clear hR); (try clear hK); (try simp only [ncCast] at *); (try simp only [castI_eq] at *); (try rw [ho]); (try dsimp only [Ar.real, IX.vo, IX.val, BX.val, IX.toN]); (try simp only [QN12]); (try simp only [decide_eq_true_eq]); (all_goals (repeat rw [wrap_i64 (by omega) (by omega)])); (all_goals (first | omega | (simp only [Int.ofNat_eq_natCast]; omega)))); done)
    · rw [q2 (by ((try clear hR3); (try clear hR2); (try clear hR); (try clear hK); (try simp only [ncCast] at *); (try simp only [castI_eq] at *)); omega) (Bool.eq_false_iff.2 fun h => by
        have h5 := hti.1 h
        ((try clear hR3); (try clear hR2); (try clear hR); (try clear hK); (try simp only [ncCast] at *); (try simp only [castI_eq] at *))
        omega)]
      exact .b rfl
    · rw [q2 (by ((try clear hR3); (try clear hR2); (try clear hR); (try clear hK); (try simp only [ncCast] at *); (try simp only [castI_eq] at *)); omega) (Bool.eq_false_iff.2 fun h => by
        have h5 := hti.1 h
        ((try clear hR3); (try clear hR2); (try clear hR); (try clear hK); (try simp only [ncCast] at *); (try simp only [castI_eq] at *))
        omega)]
      exact .b rfl
    · rw [q2 (by ((try clear hR3); (try clear hR2); (try clear hR); (try clear hK); (try simp only [ncCast] at *); (try simp only [castI_eq] at *)); omega) (Bool.eq_false_iff.2 fun h => by
        have h5 := hti.1 h
        ((try clear hR3); (try clear hR2); (try clear hR); (try clear hK); (try simp only [ncCast] at *); (try simp only [castI_eq] at *))
        omega)]
      exact .b rfl
    · have h6 := hti.2 ⟨by ((try clear hR3); (try clear hR2); (try clear hR); (try clear hK); (try simp only [ncCast] at *); (try simp only [castI_eq] at *)); omega, by assumption, by assumption⟩
      refine hR _ (i + 1) (by show tasks.length - (i + 1) < tasks.length - i; ((try clear hR3); (try clear hR2); (try clear hR); (try clear hK); (try simp only [ncCast] at *); (try simp only [castI_eq] at *)); omega) ⟨by show i + 1 ≤ tasks.length; ((try clear hR3); (try clear hR2); (try clear hR); (try clear hK); (try simp only [ncCast] at *); (try simp only [castI_eq] at *)); omega, fun j hj => ?_⟩ ?_
      · have hj' : j < i + 1 := hj
        rcases Nat.lt_or_ge j i with h5 | h5
        · exact hok j h5
        · obtain rfl : j = i := by ((try clear hR3); (try clear hR2); (try clear hR); (try clear hK); (try simp only [ncCast] at *); (try simp only [castI_eq] at *)); omega
          exact h6
      · refine ⟨(by cbv), by cbv; repeat' (first | trivial | exact EqX.rfl' | exact EqO.rfl' | apply And.intro | ((try clear hR3); (try clear hR2); (try clear hR); (try clear hK); (try simp only [ncCast] at *); (try simp only [castI_eq] at *); refine EqX.i ?_; (try rw [ho]); (try dsimp only [Ar.real, IX.vo, IX.val, BX.val, IX.toN]); (try simp only [QN12]); (repeat rw [wrap_i64 (by omega) (by omega)]); omega)), by cbv; repeat' (first | trivial | exact EqO.rfl' | apply And.intro), by cbv; repeat' (first | trivial | exact EqO.rfl' | apply And.intro)⟩
    · obtain rfl : i = tasks.length := by ((try clear hR3); (try clear hR2); (try clear hR); (try clear hK); (try simp only [ncCast] at *); (try simp only [castI_eq] at *)); omega
      rw [q1 hok]
      refine .b ?_
      rw [ho]
      rfl
end Go.Proofs.Ytddgcegimmcbgaa.Sy

/-
  Bounds: who is under. Plain theorems.
-/
set_option linter.unusedSectionVars false
namespace Go.Proofs.Ytddgcegimmcbgaa.Sy
open Go Go.Sy Go.Proofs.Ytddgcegimmcbgaa
set_option maxRecDepth 100000
set_option maxHeartbeats 8000000
set_option linter.unusedVariables false
set_option linter.unusedSimpArgs false

def tk (r : Res) (i : Nat) : Int := (r.tasks.getD i default).getD 0 0
def undA (p : Prof) (r : Res) (i : Nat) : Rt := ((oneRt p i).mul (Rt.whole (tk r i).toNat)).mul (oneTo p p.wants.length).ws
def undC (p : Prof) (i : Nat) : Rt := (oneTo p p.wants.length).rest.mul (Rt.whole (p.wants.getD i default).weight.toNat)
def underB (p : Prof) (r : Res) (i : Nat) : Bool := !(undA p r i).above (undC p i)
theorem oneTo_at (p : Prof) : ∀ n i, i < n → ((oneTo p n).dl.map Rt.rd).getD i default = (oneRt p i).rd
  | 0, i, h => by omega
  | n + 1, i, h => by
    have hl := oneTo_len p n
    simp only [oneTo]
    rw [List.map_append, List.getD_eq_getElem?_getD]
    by_cases e : i < n
    · rw [List.getElem?_append_left (by simp; omega), ← List.getD_eq_getElem?_getD]
      exact oneTo_at p n i e
    · obtain rfl : i = n := by omega
      rw [List.getElem?_append_right (by simp; omega)]
      simp [hl]
theorem checkR_fin {p : Prof} (h : checkR p = 0) : (1 ≤ p.wants.length ∧ p.wants.length ≤ 32) ∧ ∀ i, i < p.wants.length → 1 ≤ (p.wants.getD i default).weight ∧ (p.wants.getD i default).weight ≤ 1000 := by
  have hf : fineR p = true := by
    unfold checkR at h
    split at h
    · assumption
    · cases h
  obtain ⟨f1, _, f3, _⟩ := fine_bare hf
  exact ⟨f1.2.2, fun i hi => (f3 i hi).2⟩
theorem fitsR_at {p : Prof} {r : Res} (h : fitsR p r = true) : r.tasks.length = p.wants.length ∧ ∀ i, i < p.wants.length → (r.tasks.getD i default).length = 1 ∧ 0 ≤ tk r i ∧ tk r i ≤ 4096 := by
  unfold fitsR at h
  rw [Bool.and_eq_true, decide_eq_true_eq] at h
  refine ⟨h.2, fun i hi => ?_⟩
  have h1 := h.1
  unfold nextAt at h1
  rw [Option.isNone_iff_eq_none, List.find?_range'_eq_none] at h1
  have := h1 i (Nat.zero_le _) (by omega)
  simp only [Bool.not_eq_true', Bool.not_eq_false', Bool.not_eq_false, Bool.not_not] at this
  unfold tOk at this
  simp only [Bool.and_eq_true, decide_eq_true_eq] at this
  exact this
@[reducible] def UO (o : Ar) (p : Prof) (dl : List Rd) (rm : Bool) (rx ry : List Nat) (wm : Bool) (wx wy : List Nat) (r : Res) : List OX := [.var (AX o p dl rm rx ry wm wx wy) 158, .var [.ro (SL o Gt.X r.gr), .ro (SL o IV.X r.tasks), .ro (SL o PV.X r.left)] 80]
theorem x_under1 (o : Ar) (ho : o = Ar.real) (p : Prof) (hp : ProfOk p) (r : Res) (h1 : (oneR p).2 = true) (h2 : fitsR p r = true) (i : Nat) (hi : i < p.wants.length) :
    XC Try.prog 91 [xn i, .ptr (.out 0) 0, .ptr (.out 1) 0] (UO o p ((oneR p).1.dl.map Rt.rd) (oneR p).1.rest.m (wd (oneR p).1.rest.n) (wd (oneR p).1.rest.d) (oneR p).1.ws.m (wd (oneR p).1.ws.n) (wd (oneR p).1.ws.d) r) (xb (underB p r i)) (UO o p ((oneR p).1.dl.map Rt.rd) (oneR p).1.rest.m (wd (oneR p).1.rest.n) (wd (oneR p).1.rest.d) (oneR p).1.ws.m (wd (oneR p).1.ws.n) (wd (oneR p).1.ws.d) r) := by
  obtain ⟨c1, c2, c3, c4⟩ := oneR_true h1
  obtain ⟨⟨f0, f1⟩, f2⟩ := checkR_fin c1
  obtain ⟨t1, t2⟩ := fitsR_at h2
  obtain ⟨t3, t4, t5⟩ := t2 i hi
  have hwi := f2 i hi
  have hk := oneTo_ok (p := p) (fun j hj => by have := (f2 j hj).2; omega) p.wants.length (Nat.le_refl _) c3
  have hoki := c3 i hi
  unfold oneOk at hoki
  rw [Bool.and_eq_true] at hoki
  have hd := oneRt_ok hoki.1
  have hat := oneTo_at p p.wants.length i hi
  have hdl : i < ((oneTo p p.wants.length).dl.map Rt.rd).length := by rw [List.length_map, oneTo_len]; exact hi
  have kt := whole_ok (n := (tk r i).toNat) (by omega)
  have kw := whole_ok (n := (p.wants.getD i default).weight.toNat) (by omega)
  have hW1 := x_whole (tk r i).toNat (by omega)
  rw [show (((tk r i).toNat : Nat) : Int) = tk r i by omega] at hW1
  have hW2 := x_whole (p.wants.getD i default).weight.toNat (by omega)
  rw [show (((p.wants.getD i default).weight.toNat : Nat) : Int) = (p.wants.getD i default).weight by omega] at hW2
  have hM1 := x_rmul _ _ _ _ hd kt (by omega)
  have hM2 := x_rmul _ _ _ _ (hd.mul kt) hk.2 (by omega)
  have hM3 := x_rmul _ _ _ _ hk.1 kw (by omega)
  have hAb := x_above _ _ _ _ ((hd.mul kt).mul hk.2) (hk.1.mul kw) (by omega)
  have e1 : (undA p r i).above (undC p i) = (((oneRt p i).mul (Rt.whole (tk r i).toNat)).mul (oneTo p p.wants.length).ws).above ((oneTo p p.wants.length).rest.mul (Rt.whole (p.wants.getD i default).weight.toNat)) := rfl
  unfold underB
  rw [e1, c4]
  clear e1 hd hk kt kw c3
  generalize (((oneRt p i).mul (Rt.whole (tk r i).toNat)).mul (oneTo p p.wants.length).ws).above ((oneTo p p.wants.length).rest.mul (Rt.whole (p.wants.getD i default).weight.toNat)) = bb at *
  generalize (((oneRt p i).mul (Rt.whole (tk r i).toNat)).mul (oneTo p p.wants.length).ws) = r3 at *
  generalize ((oneRt p i).mul (Rt.whole (tk r i).toNat)) = r2 at *
  generalize ((oneTo p p.wants.length).rest.mul (Rt.whole (p.wants.getD i default).weight.toNat)) = r5 at *
  generalize Rt.whole (tk r i).toNat = r1 at *
  generalize Rt.whole (p.wants.getD i default).weight.toNat = r4 at *
  generalize (oneTo p p.wants.length).dl.map Rt.rd = dr at *
  unfold Rt.rd at hat
  generalize oneRt p i = r0 at *
  generalize (oneTo p p.wants.length).rest = rr at *
  generalize (oneTo p p.wants.length).ws = wr at *
  obtain ⟨rm, rn, rd⟩ := rr
  obtain ⟨wm, wn, wdd⟩ := wr
  obtain ⟨m0, n0, d0⟩ := r0
  obtain ⟨m1, n1, d1⟩ := r1
  obtain ⟨m2, n2, d2⟩ := r2
  obtain ⟨m3, n3, d3⟩ := r3
  obtain ⟨m4, n4, d4⟩ := r4
  obtain ⟨m5, n5, d5⟩ := r5
  unfold Rt.X at *
  dsimp only at *
  generalize wd rn = rx at *
  generalize wd rd = ry at *
  generalize wd wn = wx at *
  generalize wd wdd = wy at *
  generalize wd n0 = x0 at *
  generalize wd d0 = y0 at *
  generalize wd n1 = x1 at *
  generalize wd d1 = y1 at *
  generalize wd n2 = x2 at *
  generalize wd d2 = y2 at *
  generalize wd n3 = x3 at *
  generalize wd d3 = y3 at *
  generalize wd n4 = x4 at *
  generalize wd d4 = y4 at *
  generalize wd n5 = x5 at *
  generalize wd d5 = y5 at *
  obtain ⟨gr, tasks, left⟩ := r
  obtain ⟨ags, wants, lo⟩ := p
  obtain ⟨loa, lob, loc, lod⟩ := lo
  obtain ⟨pa, pw, hla, hwa⟩ := hp
  unfold tk at *
  dsimp only at *
  (refine XC.of_body ([(1, [(0, 12), (1, 12), (3, 12), (4, 12), (12, 14), (13, 14), (12, 15), (13, 15), (0, 17), (1, 17), (3, 17), (4, 17), (5, 17), (6, 17), (8, 17), (9, 17), (10, 17), (11, 17), (12, 17), (13, 17), (14, 17), (15, 17), (16, 17)]), (2, [(0, 10), (1, 10), (2, 10), (0, 11)])]) Try.func91 rfl Try.ntmps91 mixed (T := [(2, ti2), (4, ti4), (31, ti31), (34, ti34), (42, ti42), (52, ti52), (57, ti57), (75, ti75), (77, ti77), (78, ti78), (80, ti80), (132, ti132), (142, ti142), (144, ti144), (156, ti156), (158, ti158)]) (.cons tok2 (.cons tok4 (.cons tok31 (.cons tok34 (.cons tok42 (.cons tok52 (.cons tok57 (.cons tok75 (.cons tok77 (.cons tok78 (.cons tok80 (.cons tok132 (.cons tok142 (.cons tok144 (.cons tok156 (.cons tok158 .nil)))))))))))))))) (by kernel_rfl) (by simp) rfl rfl rfl rfl rfl ?_; rintro o2 ho2 P hP c K hK; have hm : P.follows .mixedOrders = true := hP ▸ mixed; have hT : TOk P [(2, ti2), (4, ti4), (31, ti31), (34, ti34), (42, ti42), (52, ti52), (57, ti57), (75, ti75), (77, ti77), (78, ti78), (80, ti80), (132, ti132), (142, ti142), (144, ti144), (156, ti156), (158, ti158)] := hP ▸ (.cons tok2 (.cons tok4 (.cons tok31 (.cons tok34 (.cons tok42 (.cons tok52 (.cons tok57 (.cons tok75 (.cons tok77 (.cons tok78 (.cons tok80 (.cons tok132 (.cons tok142 (.cons tok144 (.cons tok156 (.cons tok158 .nil)))))))))))))))); (try rw [← ho2]); have e2 : o = o2 := ho.trans ho2.symm; subst e2; cbv; (repeat (refine StopN.mk ?_; cbv)))
  have en : o.nth dr i = ⟨m0, x0, y0⟩ := by rw [ho, real_nth]; exact hat
  have en2 : o.nth (o.nth tasks i) 0 = (tasks.getD i default).getD 0 0 := by rw [ho, real_nth, real_nth]; rfl
  have en3 : o.nth wants i = wants.getD i default := by rw [ho, real_nth]
  rw [show m0 = (o.nth dr i).m by rw [en], show x0 = (o.nth dr i).x by rw [en], show y0 = (o.nth dr i).y by rw [en], ← ho] at hM1
  rw [← en2, ← ho] at hW1
  rw [← en3, ← ho] at hW2
  rw [← ho] at hM2 hM3 hAb
  repeat' (first | (refine Br.mk (fun hb => ?_) (fun hb => ?_) <;> ((try rw [ho] at hb); (try dsimp only [Ar.real, IX.vo] at hb); (try simp only [QN12] at hb); (try simp only [QBo, beq_iff_eq, beq_eq_false_iff_ne, ne_eq] at hb))) | (refine StopN.mk ?_; cbv) | (first | refine CallN.pure hP hW1 fn77 rfl rfl rfl ?_ | refine CallN.pure hP hW2 fn77 rfl rfl rfl ?_ | refine CallN.pure hP hM1 fn92 rfl rfl rfl ?_ | refine CallN.pure hP hM2 fn92 rfl rfl rfl ?_ | refine CallN.pure hP hM3 fn92 rfl rfl rfl ?_ | refine CallN.pure hP hAb fn93 rfl rfl rfl ?_); cbv | (refine hK _ _ ?_) | (refine NeedT.mk ?_ ?_))
  · ((try clear hR3); (try clear hR2); (try clear hR); (try clear hK); (try simp only [ncCast] at *); (try simp only [castI_eq] at *); (try rw [ho]); (try dsimp only [Ar.real, IX.vo, IX.val, BX.val, IX.toN]); (try simp only [QN12]); (try simp only [decide_eq_true_eq]); (all_goals (repeat rw [wrap_i64 (by omega) (by omega)])); (all_goals (first | omega | (simp only [Int.ofNat_eq_natCast]; omega))))
  · ((try clear hR3); (try clear hR2); (try clear hR); (try clear hK); (try simp only [ncCast] at *); (try simp only [castI_eq] at *); (try rw [ho]); (try dsimp only [Ar.real, IX.vo, IX.val, BX.val, IX.toN]); (try simp only [QN12]); (try simp only [decide_eq_true_eq]); (all_goals (repeat rw [wrap_i64 (by omega) (by omega)])); (all_goals (first | omega | (simp only [Int.ofNat_eq_natCast]; omega))))
  · have t6 : (tasks.getD i default).length = 1 := t3
    rw [ho]
    show decide ((0 : Int) ≤ 0 ∧ (0 : Int) < ((tasks.getD i default).length : Int)) = true
    rw [t6]
    rfl
  · ((try clear hR3); (try clear hR2); (try clear hR); (try clear hK); (try simp only [ncCast] at *); (try simp only [castI_eq] at *); (try rw [ho]); (try dsimp only [Ar.real, IX.vo, IX.val, BX.val, IX.toN]); (try simp only [QN12]); (try simp only [decide_eq_true_eq]); (all_goals (repeat rw [wrap_i64 (by omega) (by omega)])); (all_goals (first | omega | (simp only [Int.ofNat_eq_natCast]; omega))))
  · exact FinX_bOr (by rw [ho]; rfl) rfl
def undTo (p : Prof) (r : Res) : Nat → List Int
  | 0 => []
  | i + 1 => if underB p r i = true then undTo p r i ++ [(i : Int)] else undTo p r i
def undR (p : Prof) (r : Res) : List Int := if (oneR p).2 = true ∧ fitsR p r = true then undTo p r p.wants.length else []
theorem undTo_len (p : Prof) (r : Res) : ∀ i, (undTo p r i).length ≤ i
  | 0 => by simp [undTo]
  | i + 1 => by
    have := undTo_len p r i
    simp only [undTo]
    split
    · simp; omega
    · omega
theorem x_Under (p : Prof) (hp : ProfOk p) (hwb : ∀ i, i64B (p.wants.getD i default).weight) (r : Res) (hr : r.tasks.length ≤ 1048576) (hrt : ∀ i, (r.tasks.getD i default).length ≤ 1048576) : XC Try.prog 39 [.agg (Prof.X Ar.real p), .agg (Res.X Ar.real r)] [] (.ro (SL Ar.real encI (undR p r))) [] := by
  have hO := x_one p hp hwb
  have hF := fun dl rm rx ry wm wx wy => x_rfits p hp r hr hrt dl rm rx ry wm wx wy
  have hU := fun (o : Ar) (ho : o = Ar.real) h1 h2 i hi => x_under1 o ho p hp r h1 h2 i hi
  have hn := p.wants.length
  have h32 : (oneR p).2 = true → p.wants.length ≤ 32 := fun h => (checkR_fin (oneR_true h).1).1.2
  have q0 : (oneR p).2 = false → undR p r = [] := fun h => if_neg (by rw [h]; simp)
  have q1 : fitsR p r = false → undR p r = [] := fun h => if_neg (by rw [h]; simp)
  have q2 : (oneR p).2 = true → fitsR p r = true → undR p r = undTo p r p.wants.length := fun h h' => if_pos ⟨h, h'⟩
  have hM0 : undTo p r 0 = [] := rfl
  have hM1 : ∀ i, undTo p r (i + 1) = if underB p r i = true then undTo p r i ++ [(i : Int)] else undTo p r i := fun _ => rfl
  have hMl := undTo_len p r
  generalize undR p r = res at *
  generalize undTo p r = M at *
  generalize fitsR p r = fr at *
  generalize underB p r = uB at *
  generalize oneR p = oo at *
  obtain ⟨⟨dl, rest, ws⟩, ok⟩ := oo
  obtain ⟨rm, rn, rd⟩ := rest
  obtain ⟨wm, wn, wdd⟩ := ws
  dsimp only at *
  generalize wd rn = rx at *
  generalize wd rd = ry at *
  generalize wd wn = wx at *
  generalize wd wdd = wy at *
  generalize dl.map Rt.rd = dr at *
  have hF1 := hF dr rm rx ry wm wx wy
  clear hF
  obtain ⟨gr, tasks, left⟩ := r
  obtain ⟨ags, wants, lo⟩ := p
  obtain ⟨loa, lob, loc, lod⟩ := lo
  obtain ⟨pa, pw, hla, hwa⟩ := hp
  dsimp only at *
  (refine XC.of_body ([]) Try.func39 rfl Try.ntmps39 mixed (T := [(3, ti3), (4, ti4), (42, ti42), (43, ti43), (52, ti52), (57, ti57), (75, ti75), (77, ti77), (78, ti78), (80, ti80), (132, ti132), (144, ti144), (156, ti156), (158, ti158)]) (.cons tok3 (.cons tok4 (.cons tok42 (.cons tok43 (.cons tok52 (.cons tok57 (.cons tok75 (.cons tok77 (.cons tok78 (.cons tok80 (.cons tok132 (.cons tok144 (.cons tok156 (.cons tok158 .nil)))))))))))))) (by kernel_rfl) (by simp) rfl rfl rfl rfl rfl ?_; rintro o ho P hP c K hK; have hm : P.follows .mixedOrders = true := hP ▸ mixed; have hT : TOk P [(3, ti3), (4, ti4), (42, ti42), (43, ti43), (52, ti52), (57, ti57), (75, ti75), (77, ti77), (78, ti78), (80, ti80), (132, ti132), (144, ti144), (156, ti156), (158, ti158)] := hP ▸ (.cons tok3 (.cons tok4 (.cons tok42 (.cons tok43 (.cons tok52 (.cons tok57 (.cons tok75 (.cons tok77 (.cons tok78 (.cons tok80 (.cons tok132 (.cons tok144 (.cons tok156 (.cons tok158 .nil)))))))))))))); (try rw [← ho]); cbv; (repeat (refine StopN.mk ?_; cbv)))
  have hU1 := fun h1 h2 i hi => hU o ho h1 h2 i hi
  clear hU
  rw [← ho] at hO hF1
  repeat' (first | (refine Br.mk (fun hb => ?_) (fun hb => ?_) <;> ((try rw [ho] at hb); (try dsimp only [Ar.real, IX.vo] at hb); (try simp only [QN12] at hb); (try simp only [QBo, beq_iff_eq, beq_eq_false_iff_ne, ne_eq] at hb))) | (refine StopN.mk ?_; cbv) | (first | refine CallI.pure hP hO fn89 rfl rfl rfl ?_ | refine CallI.pure hP hF1 fn90 rfl rfl rfl ?_ | refine CallN.pure hP hF1 fn90 rfl rfl rfl ?_); cbv | (refine hK _ _ ?_) | (refine NeedT.mk ?_ ?_))
  · rw [q0 hb]
    exact .ro (rows_nil_SL Ar.real rfl encI)
  · rw [q1 hb]
    exact .ro (rows_nil_SL Ar.real rfl encI)
  have q3 := q2 (by assumption) (by assumption)
  have hU2 := hU1 (by assumption) (by assumption)
  have h32 := h32 (by assumption)
  clear q0 q1 q2 hU1
  refine LoopN.ghost 8 3 1 rfl ?_
  refine LoopN.over (o := o) (D := []) ho hm hT (by kernel_rfl) (fun s : StX => [(28, xn s.i), (8, .own (.loc 3) s.rv)]) (fun s => [(3, .row s.rv 3 1 (SL o encI s.out))]) (fun _ => []) (fun s => s.i ≤ wants.length ∧ s.out = M s.i) (fun s => wants.length - s.i) ⟨0, 0, []⟩ ⟨Nat.zero_le _, hM0.symm⟩ ?_ ?_
  · refine ⟨(by cbv), by cbv; repeat' (first | trivial | exact EqX.rfl' | exact EqO.rfl' | apply And.intro | ((try clear hR3); (try clear hR2); (try clear hR); (try clear hK); (try simp only [ncCast] at *); (try simp only [castI_eq] at *); refine EqX.i ?_; (try rw [ho]); (try dsimp only [Ar.real, IX.vo, IX.val, BX.val, IX.toN]); (try simp only [QN12]); (repeat rw [wrap_i64 (by omega) (by omega)]); omega) | exact EqO.row rfl (rows_nil_SL o ho encI)), by cbv; repeat' (first | trivial | exact EqO.rfl' | apply And.intro | exact EqO.row rfl (rows_nil_SL o ho encI)), by cbv; repeat' (first | trivial | exact EqO.rfl' | apply And.intro | exact EqO.row rfl (rows_nil_SL o ho encI))⟩
  · rintro ⟨i, rv, out⟩ ⟨hi, hout⟩ R hR
    dsimp only at hi hout
    have hUi := hU2 i
    have e1 := hM1 i
    have hol := hMl i
    rw [← hout] at e1 hol
    obtain ⟨out', hout'⟩ : ∃ q, q = M (i + 1) := ⟨_, rfl⟩
    rw [← hout'] at e1
    generalize uB i = b at *
    cbv
    repeat' (first | (refine Br.mk (fun hb => ?_) (fun hb => ?_) <;> ((try rw [ho] at hb); (try dsimp only [Ar.real, IX.vo] at hb); (try simp only [QN12] at hb); (try simp only [QBo, beq_iff_eq, beq_eq_false_iff_ne, ne_eq] at hb))) | (refine StopN.mk ?_; cbv) | (first | refine CallI.objs [.loc 2, .loc 1] hP (hUi ‹_›) fn91 rfl rfl rfl rfl (by rfl) rfl rfl rfl rfl (by rfl) ⟨⟨_, rfl, rfl⟩, ⟨_, rfl, rfl⟩, trivial⟩ ?_); cbv | (refine hK _ _ ?_) | (refine NeedT.mk ?_ ?_))
    any_goals (((try clear hR3); (try clear hR2); (try clear hR); (try clear hK); (try simp only [ncCast] at *); (try simp only [castI_eq] at *); (try rw [ho]); (try dsimp only [Ar.real, IX.vo, IX.val, BX.val, IX.toN]); (try simp only [QN12]); (try simp only [decide_eq_true_eq]); (all_goals (repeat rw [wrap_i64 (by omega) (by omega)])); (all_goals (first | omega | (simp only [Int.ofNat_eq_natCast]; omega)))); done)
    · have e2 := e1.trans (if_pos (by assumption))
      refine hR _ ⟨i + 1, rv + 1, out'⟩ (by dsimp only; omega) ⟨by dsimp only; omega, hout'⟩ ?_
      refine ⟨(by cbv), by cbv; repeat' (first | trivial | exact EqX.rfl' | exact EqO.rfl' | apply And.intro | ((try clear hR3); (try clear hR2); (try clear hR); (try clear hK); (try simp only [ncCast] at *); (try simp only [castI_eq] at *); refine EqX.i ?_; (try rw [ho]); (try dsimp only [Ar.real, IX.vo, IX.val, BX.val, IX.toN]); (try simp only [QN12]); (repeat rw [wrap_i64 (by omega) (by omega)]); omega) | exact EqO.snoc ho encI _ _ _ _ rfl e2 rfl), by cbv; repeat' (first | trivial | exact EqO.rfl' | apply And.intro | exact EqO.snoc ho encI _ _ _ _ rfl e2 rfl), by cbv; repeat' (first | trivial | exact EqO.rfl' | apply And.intro | exact EqO.snoc ho encI _ _ _ _ rfl e2 rfl)⟩
    · have e2 := e1.trans (if_neg (by rw [‹b = false›]; decide))
      refine hR _ ⟨i + 1, rv, out'⟩ (by dsimp only; omega) ⟨by dsimp only; omega, hout'⟩ ?_
      subst e2
      refine ⟨(by cbv), by cbv; repeat' (first | trivial | exact EqX.rfl' | exact EqO.rfl' | apply And.intro | ((try clear hR3); (try clear hR2); (try clear hR); (try clear hK); (try simp only [ncCast] at *); (try simp only [castI_eq] at *); refine EqX.i ?_; (try rw [ho]); (try dsimp only [Ar.real, IX.vo, IX.val, BX.val, IX.toN]); (try simp only [QN12]); (repeat rw [wrap_i64 (by omega) (by omega)]); omega)), by cbv; repeat' (first | trivial | exact EqO.rfl' | apply And.intro), by cbv; repeat' (first | trivial | exact EqO.rfl' | apply And.intro)⟩
    · obtain rfl : i = wants.length := by ((try clear hR3); (try clear hR2); (try clear hR); (try clear hK); (try simp only [ncCast] at *); (try simp only [castI_eq] at *)); omega
      rw [← q3] at hout
      subst hout
      exact .ro (by rw [ho])
end Go.Proofs.Ytddgcegimmcbgaa.Sy

/-
  Bounds, in Lean alone: what sums of fractions are in lowest terms. Plain theorems.
-/
set_option linter.unusedSectionVars false
namespace Go.Proofs.Ytddgcegimmcbgaa.Sy
open Go Go.Sy Go.Proofs.Ytddgcegimmcbgaa
set_option maxRecDepth 100000
set_option maxHeartbeats 8000000
set_option linter.unusedVariables false
set_option linter.unusedSimpArgs false

theorem low_scale (m : Bool) (n d k : Nat) (hk : 0 < k) : Rt.low ⟨m, n * k, d * k⟩ = Rt.low ⟨m, n, d⟩ := by
  unfold Rt.low
  dsimp only
  rw [Nat.gcd_mul_right, Nat.mul_div_mul_right _ _ hk, Nat.mul_div_mul_right _ _ hk]
/-- n and d by their greatest common divisor. -/
theorem by_gcd (n d : Nat) (hd : 0 < d) : ∃ a b g, 0 < g ∧ 0 < b ∧ n = a * g ∧ d = b * g ∧ n / Nat.gcd n d = a ∧ d / Nat.gcd n d = b := by
  have hg : 0 < Nat.gcd n d := Nat.gcd_pos_of_pos_right _ hd
  refine ⟨n / Nat.gcd n d, d / Nat.gcd n d, Nat.gcd n d, hg, Nat.div_pos (Nat.le_of_dvd hd (Nat.gcd_dvd_right _ _)) hg, (Nat.div_mul_cancel (Nat.gcd_dvd_left _ _)).symm, (Nat.div_mul_cancel (Nat.gcd_dvd_right _ _)).symm, rfl, rfl⟩
theorem low_add (a b c d : Nat) (hb : 0 < b) (hd : 0 < d) : (Rt.low ⟨false, a, b⟩).add (Rt.of c d) = Rt.low ⟨false, a * d + c * b, b * d⟩ := by
  obtain ⟨a', b', g, hg, hb', ea, eb, qa, qb⟩ := by_gcd a b hb
  obtain ⟨c', d', h, hh, hd', ec, ed, qc, qd⟩ := by_gcd c d hd
  have e1 : Rt.low ⟨false, a, b⟩ = ⟨false, a', b'⟩ := by unfold Rt.low; dsimp only; rw [qa, qb]; rfl
  have e2 : Rt.of c d = ⟨false, c', d'⟩ := by unfold Rt.of Rt.low; dsimp only; rw [qc, qd]; rfl
  rw [e1, e2]
  unfold Rt.add
  rw [if_pos rfl]
  dsimp only
  rw [← low_scale false _ _ (g * h) (Nat.mul_pos hg hh), ea, eb, ec, ed]
  congr 2
  · rw [Nat.add_mul]
    congr 1 <;> ac_rfl
  · ac_rfl
/-- The law's sums. -/
def smA (l : List Fr) : Nat → Int
  | 0 => 0
  | i + 1 => smA l i * max 1 (l.getD i default).den + max 0 (l.getD i default).num * (smB l i)
where smB (l : List Fr) : Nat → Int
  | 0 => 1
  | i + 1 => smB l i * max 1 (l.getD i default).den
def smB (l : List Fr) (i : Nat) : Int := smA.smB l i
theorem smB_succ (l : List Fr) (i : Nat) : smB l (i + 1) = smB l i * max 1 (l.getD i default).den := rfl
theorem smA_succ (l : List Fr) (i : Nat) : smA l (i + 1) = smA l i * max 1 (l.getD i default).den + max 0 (l.getD i default).num * smB l i := rfl
def Lil (l : List Fr) (i : Nat) : Prop := (l.getD i default).num ≤ 10000 ∧ (l.getD i default).den ≤ 10000
theorem sm_bd {l : List Fr} : ∀ i, (∀ j, j < i → Lil l j) → (0 ≤ smA l i ∧ smA l i ≤ (i * 10000 ^ i : Nat)) ∧ 1 ≤ smB l i ∧ smB l i ≤ (10000 ^ i : Nat)
  | 0, _ => ⟨⟨Int.le_refl 0, by simp [smA]⟩, Int.le_refl 1, by simp [smB, smA.smB]⟩
  | i + 1, h => by
    obtain ⟨⟨h1, h2⟩, h3, h4⟩ := sm_bd i fun j hj => h j (by omega)
    obtain ⟨h5, h6⟩ := h i (by omega)
    rw [smA_succ, smB_succ]
    generalize smA l i = a at *
    generalize smB l i = b at *
    generalize (l.getD i default).num = n at *
    generalize (l.getD i default).den = d at *
    have hd1 : 1 ≤ max 1 d := by omega
    have hd2 : max 1 d ≤ 10000 := by omega
    have hn1 : 0 ≤ max 0 n := by omega
    have hn2 : max 0 n ≤ 10000 := by omega
    generalize max 1 d = d' at *
    generalize max 0 n = n' at *
    have e1 : ((10000 ^ (i + 1) : Nat) : Int) = ((10000 ^ i : Nat) : Int) * 10000 := by rw [Nat.pow_succ]; push_cast; rfl
    have e2 : (((i + 1) * 10000 ^ (i + 1) : Nat) : Int) = ((i * 10000 ^ i : Nat) : Int) * 10000 + 10000 * ((10000 ^ i : Nat) : Int) := by
      have : (i + 1) * 10000 ^ (i + 1) = (i * 10000 ^ i) * 10000 + 10000 * 10000 ^ i := by
        rw [Nat.pow_succ, Nat.add_mul, Nat.one_mul, ← Nat.mul_assoc, Nat.mul_comm 10000 (10000 ^ i)]
      rw [this]; push_cast; rfl
    rw [e1, e2]
    generalize ((10000 ^ i : Nat) : Int) = P at *
    generalize ((i * 10000 ^ i : Nat) : Int) = Q at *
    have m1 : 0 ≤ a * d' := Int.mul_nonneg h1 (by omega)
    have m2 : a * d' ≤ Q * 10000 := Int.mul_le_mul h2 hd2 (by omega) (by omega)
    have m3 : 0 ≤ n' * b := Int.mul_nonneg hn1 (by omega)
    have m4 : n' * b ≤ 10000 * P := Int.mul_le_mul hn2 h4 (by omega) (by omega)
    have m5 : 1 * 1 ≤ b * d' := Int.mul_le_mul h3 hd1 (by omega) (by omega)
    have m6 : b * d' ≤ P * 10000 := Int.mul_le_mul h4 hd2 (by omega) (by omega)
    omega
theorem sumTo_eq {l : List Fr} : ∀ i, (∀ j, j < i → frOk l j = true) → (∀ j, j < i → Lil l j) → sumTo l i = Rt.low ⟨false, (smA l i).toNat, (smB l i).toNat⟩
  | 0, _, _ => rfl
  | i + 1, h, hl => by
    have ih := sumTo_eq i (fun j hj => h j (by omega)) fun j hj => hl j (by omega)
    obtain ⟨⟨h1, h2⟩, h3, h4⟩ := sm_bd i fun j hj => hl j (by omega)
    have hr := h i (by omega)
    unfold frOk fracRight at hr
    simp only [Bool.and_eq_true, decide_eq_true_eq] at hr
    have e : sumTo l (i + 1) = (sumTo l i).add (Rt.of (l.getD i default).num.toNat (l.getD i default).den.toNat) := rfl
    rw [e, ih, smA_succ, smB_succ]
    generalize smA l i = a at *
    generalize smB l i = b at *
    generalize (l.getD i default).num = n at *
    generalize (l.getD i default).den = d at *
    rw [low_add _ _ _ _ (by omega) (by omega)]
    obtain ⟨a, rfl⟩ := Int.eq_ofNat_of_zero_le h1
    obtain ⟨b, rfl⟩ := Int.eq_ofNat_of_zero_le (show 0 ≤ b by omega)
    obtain ⟨n, rfl⟩ := Int.eq_ofNat_of_zero_le hr.1
    obtain ⟨d, rfl⟩ := Int.eq_ofNat_of_zero_le (show 0 ≤ d by omega)
    have e1 : max (1 : Int) (d : Int) = d := by omega
    have e2 : max (0 : Int) (n : Int) = n := by omega
    rw [e1, e2]
    norm_cast
theorem low_frac (a b : Nat) (hb : 0 < b) (h1 : a < 9223372036854775808) (h2 : b < 9223372036854775808) : (Rt.low ⟨false, a, b⟩).frac = (lowF a b, true) := by
  have h3 : a / Nat.gcd a b ≤ a := Nat.div_le_self _ _
  have h4 : b / Nat.gcd a b ≤ b := Nat.div_le_self _ _
  unfold Rt.frac Rt.low lowF
  dsimp only
  rw [if_pos ⟨by omega, by omega, rfl⟩]
/-- What Sum answers to fractions of small numbers. -/
theorem sumR_eq {l : List Fr} (h4 : l.length ≤ 4) (hl : ∀ j, j < l.length → Lil l j) : sumR l = if (nextAt (fun i => !frOk l i) 0 l.length).isNone = true then (lowF (smA l l.length).toNat (smB l l.length).toNat, true) else (⟨0, 0⟩, false) := by
  unfold sumR
  split
  · rename_i h
    have hok : ∀ j, j < l.length → frOk l j = true := fun j hj => by
      cases e : frOk l j with
      | true => rfl
      | false =>
        rw [isNone_no hj (by simp only [e, Bool.not_false])] at h
        exact absurd h (by decide)
    obtain ⟨⟨b1, b2⟩, b3, b4⟩ := sm_bd l.length hl
    have p1 : 10000 ^ l.length ≤ 10000 ^ 4 := Nat.pow_le_pow_right (by decide) h4
    have p2 : l.length * 10000 ^ l.length ≤ 4 * 10000 ^ 4 := Nat.mul_le_mul h4 p1
    rw [sumTo_eq _ hok hl, low_frac _ _ (by omega) (by omega) (by omega)]
  · rfl
/-- What Delta answers. -/
theorem lowF_cross (a b : Nat) (hb : 0 < b) : (lowF a b).num * (b : Int) = (a : Int) * (lowF a b).den := by
  obtain ⟨a', b', g, hg, hb', ea, eb, qa, qb⟩ := by_gcd a b hb
  unfold lowF
  dsimp only
  rw [qa, qb, ea, eb]
  push_cast
  ac_rfl
end Go.Proofs.Ytddgcegimmcbgaa.Sy

/-
  Bounds: the small run of the laws. Plain theorems.
-/
set_option linter.unusedSectionVars false
namespace Go.Proofs.Ytddgcegimmcbgaa.Sy
open Go Go.Sy Go.Proofs.Ytddgcegimmcbgaa
set_option maxRecDepth 100000
set_option maxHeartbeats 8000000
set_option linter.unusedVariables false
set_option linter.unusedSimpArgs false

theorem x_res36' {P : Program} {f : FuncId} {args : List X} {O O' : List OX} {r r' : X} (h : XC P f args O r O') (hr : ∀ c, r.toD c = r'.toD c) : XC P f args O r' O' := by
  intro c h1 h2
  rw [← hr c]
  exact h c h1 h2
def wkA : List Part := [⟨0, 0, 9⟩, ⟨1, 0, 18⟩]
def wkB : List Want := [⟨1, [⟨0, 0, 1⟩, ⟨1, 0, 4⟩]⟩, ⟨1, [⟨0, 0, 3⟩, ⟨1, 0, 1⟩]⟩]
def wkP : Prof := ⟨[wkA], wkB, ⟨0, 0, 0, 0⟩⟩
def wkR : Res := ⟨[], [[1], [1]], []⟩
theorem getD_leP {α : Type} [Inhabited α] {l : List α} {Q : α → Prop} (h : ∀ x ∈ l, Q x) (hd : Q default) (k : Nat) : Q (l.getD k default) := by
  by_cases hk : k < l.length
  · rw [getD_el hk]
    exact h _ (List.getElem_mem hk)
  · rw [List.getD_eq_getElem?_getD, List.getElem?_eq_none (by omega)]
    exact hd
theorem wkP_ok : ProfOk wkP := ⟨by decide, by decide, getD_leP (Q := fun v : List Part => v.length ≤ 1048576) (l := [wkA]) (by decide) (by decide), getD_leP (Q := fun w : Want => w.need.length ≤ 1048576) (l := wkB) (by decide) (by decide)⟩
theorem wkP_w : ∀ i, i64B (wkP.wants.getD i default).weight := getD_leP (Q := fun w : Want => i64B w.weight) (l := wkB) (by unfold i64B; decide) (by unfold i64B; decide)
theorem wk_floor : floorT wkP 1 = (⟨2, 9⟩, true) := by decide +kernel
theorem wk_und : undR wkP wkR = [0] := by decide +kernel
theorem wk_sum : sumR [⟨1, 6⟩, ⟨1, 3⟩] = (⟨1, 2⟩, true) := by decide +kernel
theorem x_works36 : XC Try.prog 37 [] [] (xb true) [] := by
  have h1 : XC Try.prog 41 [.agg (Prof.X Ar.real wkP), xi 1] [] (.tup [.agg [.i .i64 (.lit 2), .i .i64 (.lit 9)], .b .t]) [] := x_res36' (x_Floor wkP wkP_ok wkP_w 1) fun c => by rw [wk_floor]; rfl
  have h2 : XC Try.prog 39 [.agg (Prof.X Ar.real wkP), .agg (Res.X Ar.real wkR)] [] (.ro (.lits [[.i .i64 (.lit 0)]])) [] := x_res36' (x_Under wkP wkP_ok wkP_w wkR (by decide) (getD_leP (Q := fun l : List Int => l.length ≤ 1048576) (l := [[1], [1]]) (by decide) (by decide))) fun c => by rw [wk_und]; rfl
  have h3 : XC Try.prog 31 [.ro (SL Ar.real Fr.X [⟨1, 6⟩, ⟨1, 3⟩])] [] (.tup [.agg [.i .i64 (.lit 1), .i .i64 (.lit 2)], .b .t]) [] := x_res36' (x_Sum [⟨1, 6⟩, ⟨1, 3⟩] (by decide) (getD_leP (Q := fun f : Fr => i64B f.num ∧ i64B f.den) (l := [⟨1, 6⟩, ⟨1, 3⟩]) (by unfold i64B; decide) (by unfold i64B; decide))) fun c => by rw [wk_sum]; rfl
  (refine XC.of_body ([]) Try.func37 rfl Try.ntmps37 mixed (T := [(2, ti2), (3, ti3), (31, ti31), (34, ti34), (42, ti42), (43, ti43), (52, ti52), (57, ti57), (60, ti60), (64, ti64), (75, ti75), (77, ti77), (78, ti78), (80, ti80), (123, ti123), (132, ti132)]) (.cons tok2 (.cons tok3 (.cons tok31 (.cons tok34 (.cons tok42 (.cons tok43 (.cons tok52 (.cons tok57 (.cons tok60 (.cons tok64 (.cons tok75 (.cons tok77 (.cons tok78 (.cons tok80 (.cons tok123 (.cons tok132 .nil)))))))))))))))) (by kernel_rfl) (by simp) rfl rfl rfl rfl rfl ?_; rintro o ho P hP c K hK; have hm : P.follows .mixedOrders = true := hP ▸ mixed; have hT : TOk P [(2, ti2), (3, ti3), (31, ti31), (34, ti34), (42, ti42), (43, ti43), (52, ti52), (57, ti57), (60, ti60), (64, ti64), (75, ti75), (77, ti77), (78, ti78), (80, ti80), (123, ti123), (132, ti132)] := hP ▸ (.cons tok2 (.cons tok3 (.cons tok31 (.cons tok34 (.cons tok42 (.cons tok43 (.cons tok52 (.cons tok57 (.cons tok60 (.cons tok64 (.cons tok75 (.cons tok77 (.cons tok78 (.cons tok80 (.cons tok123 (.cons tok132 .nil)))))))))))))))); (try rw [← ho]); cbv; (repeat (refine StopN.mk ?_; cbv)))
  repeat' (first | (refine NeedT.mk (by rw [ho]; rfl) ?_) | (refine StopN.mk ?_; cbv) | (first | refine CallI.pure hP h1 fn41 rfl rfl (by rfl) ?_ | refine CallI.pure hP h2 fn39 rfl rfl (by rfl) ?_ | refine CallI.pure hP h3 fn31 rfl rfl (by rfl) ?_); cbv)
  exact hK _ _ (.b rfl)
end Go.Proofs.Ytddgcegimmcbgaa.Sy

/-
  The law BoundSums. Plain theorems.
-/
set_option linter.unusedSectionVars false
namespace Go.Proofs.Ytddgcegimmcbgaa.Sy
open Go Go.Sy Go.Proofs.Ytddgcegimmcbgaa
set_option maxRecDepth 100000
set_option maxHeartbeats 8000000
set_option linter.unusedVariables false
set_option linter.unusedSimpArgs false

def frTo (l : List Fr) : Nat → Bool
  | 0 => true
  | i + 1 => frTo l i && frOk l i
theorem frTo_iff (l : List Fr) : ∀ i, frTo l i = true ↔ ∀ j, j < i → frOk l j = true
  | 0 => ⟨fun _ j hj => absurd hj (Nat.not_lt_zero j), fun _ => rfl⟩
  | i + 1 => by
    simp only [frTo, Bool.and_eq_true, frTo_iff l i]
    refine ⟨fun ⟨h1, h2⟩ j hj => ?_, fun h => ⟨fun j hj => h j (by omega), h i (by omega)⟩⟩
    rcases Nat.lt_or_ge j i with h5 | h5
    · exact h1 j h5
    · obtain rfl : j = i := by omega
      exact h2
theorem sumR_eq2 {l : List Fr} (h4 : l.length ≤ 4) (hl : ∀ j, j < l.length → Lil l j) : sumR l = if frTo l l.length = true then (lowF (smA l l.length).toNat (smB l l.length).toNat, true) else (⟨0, 0⟩, false) := by
  rw [sumR_eq h4 hl]
  congr 1
  cases e : frTo l l.length with
  | true =>
    rw [isNone_all fun i hi => by simp only [(frTo_iff l _).1 e i hi, Bool.not_true]]
  | false =>
    cases e2 : (nextAt (fun i => !frOk l i) 0 l.length).isNone with
    | false => rfl
    | true =>
      have : frTo l l.length = true := (frTo_iff l _).2 fun j hj => by
        cases e3 : frOk l j with
        | true => rfl
        | false =>
          rw [isNone_no hj (by simp only [e3, Bool.not_false])] at e2
          exact absurd e2 (by decide)
      rw [e] at this
      exact absurd this (by decide)
/-- What Delta answers: as the law says. -/
theorem delta_law (need total : S4) :
    (deltaR need total).2 = (decide (0 ≤ (sumsDom need total).at_) && sumsHolds total need) ∧ ((deltaR need total).2 = false → (deltaR need total).1 = ⟨0, 0⟩) ∧
    ((deltaR need total).2 = true → (deltaR need total).1 = lowF (sumsDom need total).num.toNat (sumsDom need total).den.toNat ∧ rFracCmp (deltaR need total).1.num (deltaR need total).1.den (sumsDom need total).num (sumsDom need total).den = 0 ∧
      (0 ≤ (sumsDom need total).num ∧ (sumsDom need total).num ≤ 9223372036854775807) ∧ 1 ≤ (sumsDom need total).den ∧ (sumsDom need total).den ≤ 9223372036854775807) := by
  have hbd := sumsDom_bd need total
  have hok : (deltaR need total).2 = true → 0 ≤ (sumsDom need total).num ∧ 1 ≤ (sumsDom need total).den := by
    unfold deltaR
    split
    · intro h
      exact absurd h (by decide)
    · rename_i h0
      intro _
      unfold sumsDom at h0 ⊢
      split at h0
      · rename_i h1
        rw [if_pos h1]
        exact ⟨(domTo_bd h1.1 h1.2 4).1.1, domTo_den h1.1 h1.2 4⟩
      · exact absurd (Or.inl (by decide)) h0
  have e2 : (deltaR need total).2 = (decide (0 ≤ (sumsDom need total).at_) && sumsHolds total need) := by
    unfold deltaR
    split
    · rename_i h
      rcases h with h | h
      · rw [decide_eq_false (by omega)]
        rfl
      · rw [h, Bool.and_false]
    · rename_i h
      have h1 : ¬ (sumsDom need total).at_ < 0 := fun h' => h (.inl h')
      have h2 : sumsHolds total need = true := by
        cases e : sumsHolds total need with
        | true => rfl
        | false => exact absurd (.inr e) h
      rw [h2, decide_eq_true (by omega)]
      rfl
  refine ⟨e2, ?_, ?_⟩
  · unfold deltaR
    split
    · exact fun _ => rfl
    · intro h
      exact absurd (show true = false from h) (by decide)
  · intro h
    obtain ⟨h1, h2⟩ := hok h
    have e : (deltaR need total).1 = lowF (sumsDom need total).num.toNat (sumsDom need total).den.toNat := by
      unfold deltaR at h ⊢
      split at h
      · exact absurd h (by decide)
      · rename_i h0
        rw [if_neg h0]
        exact if_pos (by unfold fracRight; simp only [Bool.and_eq_true, decide_eq_true_eq]; omega)
    rw [e]
    obtain ⟨b1, b2⟩ := hbd
    generalize (sumsDom need total).num = n at *
    generalize (sumsDom need total).den = d at *
    unfold i64B at b1 b2
    obtain ⟨n, rfl⟩ := Int.eq_ofNat_of_zero_le h1
    obtain ⟨d, rfl⟩ := Int.eq_ofNat_of_zero_le (show 0 ≤ d by omega)
    simp only [Int.toNat_natCast]
    have hb := lowF_bd (n := n) (d := d) (by omega)
    have hc := lowF_cross n d (by omega)
    refine ⟨trivial, ?_, ⟨by omega, by omega⟩, by omega, by omega⟩
    rw [rFracCmp_eq (by unfold i64B; omega) (by unfold i64B; omega) (by unfold i64B; omega) (by unfold i64B; omega)]
    generalize (lowF n d).num = x at *
    generalize (lowF n d).den = y at *
    unfold fracCmp
    have r1 : fracRight x y = true := by unfold fracRight; simp only [Bool.and_eq_true, decide_eq_true_eq]; omega
    have r2 : fracRight (n : Int) (d : Int) = true := by unfold fracRight; simp only [Bool.and_eq_true, decide_eq_true_eq]; omega
    rw [if_pos ⟨r1, r2⟩, if_pos hc]
/-! ### The law -/
structure StBs where
  i : Nat
  f : Bool
  a : Int
  b : Int
structure InBs (l : List Fr) (s : StBs) : Prop where
  i : s.i ≤ l.length
  f : s.f = frTo l s.i
  a : s.a = smA l s.i
  b : s.b = smB l s.i
  l : ∀ j, j < s.i → Lil l j
theorem pos_le {i : Nat} {x : Int} (hi : i ≤ 4) (h : x ≤ (i * 10000 ^ i : Nat)) : x ≤ 40000000000000000 := by
  have p1 : 10000 ^ i ≤ 10000 ^ 4 := Nat.pow_le_pow_right (by decide) hi
  have p2 : i * 10000 ^ i ≤ 4 * 10000 ^ 4 := Nat.mul_le_mul hi p1
  omega
theorem pow_le4 {i : Nat} {x : Int} (hi : i ≤ 4) (h : x ≤ (10000 ^ i : Nat)) : x ≤ 10000000000000000 := by
  have p1 : 10000 ^ i ≤ 10000 ^ 4 := Nat.pow_le_pow_right (by decide) hi
  omega
theorem x_BoundSums (l : List Fr) (hl : l.length ≤ 1048576) (hb0 : ∀ i, i64B (l.getD i default).num ∧ i64B (l.getD i default).den) (need total : S4) : XC Try.prog 7 [.ro (SL Ar.real Fr.X l), .agg (S4.X Ar.real need), .agg (S4.X Ar.real total)] [] (xb true) [] := by
  have hW := x_works36
  have hF := fun i => x_r02Right (l.getD i default).num (l.getD i default).den
  have hS := fun h : l.length ≤ 4 => x_Sum l (by omega) hb0
  have hD := x_Delta need total
  have hDom := x_rDom need total
  rw [rDom_eq] at hDom
  have hH := x_r06Holds total need
  obtain ⟨d1, d2, d3⟩ := delta_law need total
  have hL2 : (deltaR need total).2 = true → XC Try.prog 32 [xi (sumsDom need total).num, xi (sumsDom need total).den] [] (.agg [xi (deltaR need total).1.num, xi (deltaR need total).1.den]) [] := fun h => by
    have := x_r36Low (sumsDom need total).num (sumsDom need total).den (d3 h).2.2.1 (d3 h).2.2.2
    rw [← (d3 h).1] at this
    exact this
  have hCm : (deltaR need total).2 = true → XC Try.prog 36 [.agg [xi (deltaR need total).1.num, xi (deltaR need total).1.den], .agg [xi (sumsDom need total).num, xi (sumsDom need total).den]] [] (xi 0) [] := fun h => by
    have hd := deltaR_ok h
    have := x_r02Cmp (deltaR need total).1.num (deltaR need total).1.den (sumsDom need total).num (sumsDom need total).den (by unfold i64B; omega) (by unfold i64B; omega) (sumsDom_bd need total).1 (sumsDom_bd need total).2
    rw [(d3 h).2.1] at this
    exact this
  replace d2 : (deltaR need total).2 = false → (deltaR need total).1.num = 0 ∧ (deltaR need total).1.den = 0 := fun h => by rw [d2 h]; exact ⟨rfl, rfl⟩
  clear d3
  have hL1 := fun (h4 : l.length ≤ 4) (h : ∀ j, j < l.length → Lil l j) => x_r36Low (smA l l.length) (smB l l.length) (by
    obtain ⟨⟨b1, b2⟩, b3, b4⟩ := sm_bd l.length h
    have := pos_le h4 b2
    omega) (by
    obtain ⟨⟨b1, b2⟩, b3, b4⟩ := sm_bd l.length h
    have := pow_le4 h4 b4
    omega)
  have hSq := fun (h4 : l.length ≤ 4) (h : ∀ j, j < l.length → Lil l j) => sumR_eq2 h4 h
  have hst : ∀ i, frTo l (i + 1) = (frTo l i && frOk l i) ∧ smA l (i + 1) = smA l i * max 1 (l.getD i default).den + max 0 (l.getD i default).num * smB l i ∧ smB l (i + 1) = smB l i * max 1 (l.getD i default).den := fun i => ⟨rfl, rfl, rfl⟩
  have hfk : ∀ i, fracRight (l.getD i default).num (l.getD i default).den = frOk l i := fun _ => rfl
  simp only [hfk] at hF
  have hI0 : InBs l ⟨0, true, 0, 1⟩ := ⟨Nat.zero_le _, rfl, rfl, rfl, fun j hj => absurd hj (Nat.not_lt_zero j)⟩
  have hbd := fun i (h : ∀ j, j < i → Lil l j) => sm_bd i h
  generalize deltaR need total = dl at *
  generalize sumsHolds total need = hh at *
  generalize sumsDom need total = dm at *
  generalize sumR l = sr at *
  obtain ⟨⟨dn, dd⟩, dk⟩ := dl
  obtain ⟨num, den, at_⟩ := dm
  obtain ⟨⟨sn, sd⟩, sk⟩ := sr
  dsimp only at *
  obtain ⟨n1, n2, n3, n4⟩ := need
  obtain ⟨t1, t2, t3, t4⟩ := total
  unfold S4.X at *
  (refine XC.of_body ([(11, []), (13, [(6, 9)]), (19, [(8, 13)])]) Try.func7 rfl Try.ntmps7 mixed (T := [(2, ti2), (3, ti3), (4, ti4), (60, ti60), (61, ti61), (64, ti64)]) (.cons tok2 (.cons tok3 (.cons tok4 (.cons tok60 (.cons tok61 (.cons tok64 .nil)))))) (by kernel_rfl) (by simp) rfl rfl rfl rfl rfl ?_; rintro o ho P hP c K hK; have hm : P.follows .mixedOrders = true := hP ▸ mixed; have hT : TOk P [(2, ti2), (3, ti3), (4, ti4), (60, ti60), (61, ti61), (64, ti64)] := hP ▸ (.cons tok2 (.cons tok3 (.cons tok4 (.cons tok60 (.cons tok61 (.cons tok64 .nil)))))); (try rw [← ho]); cbv; (repeat (refine StopN.mk ?_; cbv)))
  repeat' (first | (refine Br.mk (fun hb => ?_) (fun hb => ?_) <;> ((try rw [ho] at hb); (try dsimp only [Ar.real, IX.vo] at hb); (try simp only [QN12] at hb); (try simp only [QBo, beq_iff_eq, beq_eq_false_iff_ne, ne_eq] at hb))) | (refine StopN.mk ?_; cbv) | fail; cbv | ((first | refine CallI.pure hP (x_r02Right _ _) fn30 (by first | rfl | (rw [ho]; done) | (rw [ho]; rfl)) (by rfl) (by first | rfl | (rw [ho]; done) | (rw [ho]; rfl)) ?_ | refine CallN.pure hP (x_r02Right _ _) fn30 (by first | rfl | (rw [ho]; done) | (rw [ho]; rfl)) (by rfl) (by first | rfl | (rw [ho]; done) | (rw [ho]; rfl)) ?_); (try rw [← ho]); generalize hr : fracRight _ _ = r; (try rw [ho] at hr); (try dsimp only [Ar.real, IX.vo] at hr); (try simp only [QN12] at hr); cbv) | ((first | refine CallI.pure hP (x_Delta _ _) fn33 (by first | rfl | (rw [ho]; done) | (rw [ho]; rfl)) (by rfl) (by first | rfl | (rw [ho]; done) | (rw [ho]; rfl)) ?_ | refine CallN.pure hP (x_Delta _ _) fn33 (by first | rfl | (rw [ho]; done) | (rw [ho]; rfl)) (by rfl) (by first | rfl | (rw [ho]; done) | (rw [ho]; rfl)) ?_); (try rw [← ho]); generalize hr : deltaR _ _ = r; (try rw [ho] at hr); (try dsimp only [Ar.real, IX.vo] at hr); (try simp only [QN12] at hr); cbv) | ((first | refine CallI.pure hP (x_rDom _ _) fn34 (by first | rfl | (rw [ho]; done) | (rw [ho]; rfl)) (by rfl) (by first | rfl | (rw [ho]; done) | (rw [ho]; rfl)) ?_ | refine CallN.pure hP (x_rDom _ _) fn34 (by first | rfl | (rw [ho]; done) | (rw [ho]; rfl)) (by rfl) (by first | rfl | (rw [ho]; done) | (rw [ho]; rfl)) ?_); (try rw [← ho]); generalize hr : rDom _ _ = r; (try rw [ho] at hr); (try dsimp only [Ar.real, IX.vo] at hr); (try simp only [QN12] at hr); cbv) | ((first | refine CallI.pure hP (x_r06Holds _ _) fn35 (by first | rfl | (rw [ho]; done) | (rw [ho]; rfl)) (by rfl) (by first | rfl | (rw [ho]; done) | (rw [ho]; rfl)) ?_ | refine CallN.pure hP (x_r06Holds _ _) fn35 (by first | rfl | (rw [ho]; done) | (rw [ho]; rfl)) (by rfl) (by first | rfl | (rw [ho]; done) | (rw [ho]; rfl)) ?_); (try rw [← ho]); generalize hr : sumsHolds _ _ = r; (try rw [ho] at hr); (try dsimp only [Ar.real, IX.vo] at hr); (try simp only [QN12] at hr); cbv) | ((first | refine CallI.pure hP (x_r02Cmp _ _ _ _ ‹_› ‹_› ‹_› ‹_›) fn36 (by first | rfl | (rw [ho]; done) | (rw [ho]; rfl)) (by rfl) (by first | rfl | (rw [ho]; done) | (rw [ho]; rfl)) ?_ | refine CallN.pure hP (x_r02Cmp _ _ _ _ ‹_› ‹_› ‹_› ‹_›) fn36 (by first | rfl | (rw [ho]; done) | (rw [ho]; rfl)) (by rfl) (by first | rfl | (rw [ho]; done) | (rw [ho]; rfl)) ?_); (try rw [← ho]); generalize hr : rFracCmp _ _ _ _ = r; (try rw [ho] at hr); (try dsimp only [Ar.real, IX.vo] at hr); (try simp only [QN12] at hr); cbv) | ((first | refine CallI.pure hP (x_works36) fn37 (by first | rfl | (rw [ho]; done) | (rw [ho]; rfl)) (by rfl) (by first | rfl | (rw [ho]; done) | (rw [ho]; rfl)) ?_ | refine CallN.pure hP (x_works36) fn37 (by first | rfl | (rw [ho]; done) | (rw [ho]; rfl)) (by rfl) (by first | rfl | (rw [ho]; done) | (rw [ho]; rfl)) ?_); (try rw [← ho]); cbv) | (refine hK _ _ ?_) | (refine NeedT.mk ?_ ?_))

  · exact .b rfl
  have h4 : l.length ≤ 4 := by omega
  replace hS := hS h4
  replace hSq := hSq h4
  replace hL1 := hL1 h4
  refine LoopN.over (o := o) (D := [(11, []), (13, [(6, 9)]), (19, [(8, 13)])]) ho hm hT (by kernel_rfl) (fun s : StBs => [(10, xn s.i), (9, xb s.f), (8, xi s.b), (7, xi s.a)]) (fun _ => []) (fun _ => []) (InBs l) (fun s => l.length - s.i) ⟨0, true, 0, 1⟩ hI0 ?_ ?_
  · refine ⟨(by cbv), by cbv; repeat' (first | trivial | exact EqX.rfl' | exact EqO.rfl' | apply And.intro | ((try clear hR3); (try clear hR2); (try clear hR); (try clear hK); (try simp only [ncCast] at *); (try simp only [castI_eq] at *); refine EqX.i ?_; (try rw [ho]); (try dsimp only [Ar.real, IX.vo, IX.val, BX.val, IX.toN]); (try simp only [QN12]); (repeat rw [wrap_i64 (by omega) (by omega)]); omega) | (exact EqX.b rfl) | (exact EqX.i rfl)), by cbv; repeat' (first | trivial | exact EqO.rfl' | apply And.intro | (exact EqX.b rfl) | (exact EqX.i rfl)), by cbv; repeat' (first | trivial | exact EqO.rfl' | apply And.intro | (exact EqX.b rfl) | (exact EqX.i rfl))⟩
  · rintro ⟨i, f, a, b⟩ ⟨hi, hf1, ha1, hb1, hlil⟩ R hR
    dsimp only at hi hf1 ha1 hb1 hlil
    have hFi := hF i
    obtain ⟨s1, s2, s3⟩ := hst i
    rw [← hf1] at s1
    rw [← ha1, ← hb1] at s2
    rw [← hb1] at s3
    have hbdi := hbd i hlil
    have hbdj := fun h : Lil l i => hbd (i + 1) fun j hj => by
      rcases Nat.lt_or_ge j i with h5 | h5
      · exact hlil j h5
      · obtain rfl : j = i := by omega
        exact h
    have en : o.nth l i = l.getD i default := by rw [ho, real_nth]
    have hS1 := fun _ : i = l.length => hS
    have q1 := fun h : i = l.length => hL1 (by rw [← h]; exact hlil)
    have q2 := fun h : i = l.length => hSq (by rw [← h]; exact hlil)
    have e1 : i = l.length → smA l l.length = a ∧ smB l l.length = b ∧ frTo l l.length = f := fun h => by rw [← h]; exact ⟨ha1.symm, hb1.symm, hf1.symm⟩
    generalize smA l l.length = ae at *
    generalize smB l l.length = be at *
    generalize frTo l l.length = fe at *
    have hstep : ∀ (h1 : (l.getD i default).num ≤ 10000) (h2 : (l.getD i default).den ≤ 10000) (h3 : i < l.length), InBs l ⟨i + 1, f && frOk l i, a * max 1 (l.getD i default).den + max 0 (l.getD i default).num * b, b * max 1 (l.getD i default).den⟩ ∧
        (0 ≤ a * max 1 (l.getD i default).den ∧ a * max 1 (l.getD i default).den ≤ 40000000000000000) ∧ (0 ≤ max 0 (l.getD i default).num * b ∧ max 0 (l.getD i default).num * b ≤ 40000000000000000) ∧ 1 ≤ b * max 1 (l.getD i default).den ∧ b * max 1 (l.getD i default).den ≤ 10000000000000000 := fun h1 h2 h3 => by
      obtain ⟨⟨b1, b2⟩, b3, b4⟩ := hbdj ⟨h1, h2⟩
      have b5 := pos_le (i := i + 1) (by omega) b2
      have b6 := pow_le4 (i := i + 1) (by omega) b4
      rw [s2] at b1 b5
      rw [s3] at b3 b6
      have m1 : 0 ≤ a * max 1 (l.getD i default).den := Int.mul_nonneg (by omega) (by omega)
      have m2 : 0 ≤ max 0 (l.getD i default).num * b := Int.mul_nonneg (by omega) (by omega)
      refine ⟨⟨h3, s1.symm, s2.symm, s3.symm, fun j hj => ?_⟩, ⟨m1, ?_⟩, ⟨m2, ?_⟩, b3, b6⟩
      · have hj' : j < i + 1 := hj
        rcases Nat.lt_or_ge j i with h5 | h5
        · exact hlil j h5
        · obtain rfl : j = i := by omega
          exact ⟨h1, h2⟩
      · generalize a * max 1 (l.getD i default).den = x at *
        generalize max 0 (l.getD i default).num * b = y at *
        omega
      · generalize a * max 1 (l.getD i default).den = x at *
        generalize max 0 (l.getD i default).num * b = y at *
        omega
    have hbd0 : i = l.length → (0 ≤ a ∧ a ≤ 40000000000000000) ∧ 1 ≤ b ∧ b ≤ 40000000000000000 := fun h => by
      have b5 := pos_le (i := i) (by omega) hbdi.1.2
      have b6 := pow_le4 (i := i) (by omega) hbdi.2.2
      rw [← ha1] at b5
      rw [← hb1] at b6
      rw [← ha1, ← hb1] at hbdi
      omega
    clear hbdi hbdj s1 s2 s3 ha1 hb1 hf1 hbd hst
    replace hfk := hfk i
    generalize hnn : (l.getD i default).num = nn at *
    generalize hdd : (l.getD i default).den = de at *
    have hnn' := hnn
    have hdd' := hdd
    rw [← en] at hnn' hdd'
    generalize hfok : frOk l i = fo at *
    cbv
    repeat' (first | (refine Br.mk (fun hb => ?_) (fun hb => ?_) <;> ((try rw [ho] at hb); (try dsimp only [Ar.real, IX.vo] at hb); (try simp only [QN12] at hb); (try simp only [QBo, beq_iff_eq, beq_eq_false_iff_ne, ne_eq] at hb))) | (refine StopN.mk ?_; cbv) | (first | refine CallI.pure hP hFi fn30 rfl rfl rfl ?_); cbv | ((first | refine CallI.pure hP (x_r02Right _ _) fn30 (by first | rfl | (rw [ho]; done) | (rw [ho]; rfl)) (by rfl) (by first | rfl | (rw [ho]; done) | (rw [ho]; rfl)) ?_ | refine CallN.pure hP (x_r02Right _ _) fn30 (by first | rfl | (rw [ho]; done) | (rw [ho]; rfl)) (by rfl) (by first | rfl | (rw [ho]; done) | (rw [ho]; rfl)) ?_); (try rw [← ho]); generalize hr : fracRight _ _ = r; (try rw [ho] at hr); (try dsimp only [Ar.real, IX.vo] at hr); (try simp only [QN12] at hr); cbv) | ((first | refine CallI.pure hP (x_Delta _ _) fn33 (by first | rfl | (rw [ho]; done) | (rw [ho]; rfl)) (by rfl) (by first | rfl | (rw [ho]; done) | (rw [ho]; rfl)) ?_ | refine CallN.pure hP (x_Delta _ _) fn33 (by first | rfl | (rw [ho]; done) | (rw [ho]; rfl)) (by rfl) (by first | rfl | (rw [ho]; done) | (rw [ho]; rfl)) ?_); (try rw [← ho]); generalize hr : deltaR _ _ = r; (try rw [ho] at hr); (try dsimp only [Ar.real, IX.vo] at hr); (try simp only [QN12] at hr); cbv) | ((first | refine CallI.pure hP (x_rDom _ _) fn34 (by first | rfl | (rw [ho]; done) | (rw [ho]; rfl)) (by rfl) (by first | rfl | (rw [ho]; done) | (rw [ho]; rfl)) ?_ | refine CallN.pure hP (x_rDom _ _) fn34 (by first | rfl | (rw [ho]; done) | (rw [ho]; rfl)) (by rfl) (by first | rfl | (rw [ho]; done) | (rw [ho]; rfl)) ?_); (try rw [← ho]); generalize hr : rDom _ _ = r; (try rw [ho] at hr); (try dsimp only [Ar.real, IX.vo] at hr); (try simp only [QN12] at hr); cbv) | ((first | refine CallI.pure hP (x_r06Holds _ _) fn35 (by first | rfl | (rw [ho]; done) | (rw [ho]; rfl)) (by rfl) (by first | rfl | (rw [ho]; done) | (rw [ho]; rfl)) ?_ | refine CallN.pure hP (x_r06Holds _ _) fn35 (by first | rfl | (rw [ho]; done) | (rw [ho]; rfl)) (by rfl) (by first | rfl | (rw [ho]; done) | (rw [ho]; rfl)) ?_); (try rw [← ho]); generalize hr : sumsHolds _ _ = r; (try rw [ho] at hr); (try dsimp only [Ar.real, IX.vo] at hr); (try simp only [QN12] at hr); cbv) | ((first | refine CallI.pure hP (x_r02Cmp _ _ _ _ ‹_› ‹_› ‹_› ‹_›) fn36 (by first | rfl | (rw [ho]; done) | (rw [ho]; rfl)) (by rfl) (by first | rfl | (rw [ho]; done) | (rw [ho]; rfl)) ?_ | refine CallN.pure hP (x_r02Cmp _ _ _ _ ‹_› ‹_› ‹_› ‹_›) fn36 (by first | rfl | (rw [ho]; done) | (rw [ho]; rfl)) (by rfl) (by first | rfl | (rw [ho]; done) | (rw [ho]; rfl)) ?_); (try rw [← ho]); generalize hr : rFracCmp _ _ _ _ = r; (try rw [ho] at hr); (try dsimp only [Ar.real, IX.vo] at hr); (try simp only [QN12] at hr); cbv) | ((first | refine CallI.pure hP (x_works36) fn37 (by first | rfl | (rw [ho]; done) | (rw [ho]; rfl)) (by rfl) (by first | rfl | (rw [ho]; done) | (rw [ho]; rfl)) ?_ | refine CallN.pure hP (x_works36) fn37 (by first | rfl | (rw [ho]; done) | (rw [ho]; rfl)) (by rfl) (by first | rfl | (rw [ho]; done) | (rw [ho]; rfl)) ?_); (try rw [← ho]); cbv) | (refine hK _ _ ?_) | (refine NeedT.mk ?_ ?_))
    any_goals (((try clear hR3); (try clear hR2); (try clear hR); (try clear hK); (try simp only [ncCast] at *); (try simp only [castI_eq] at *); (try rw [ho]); (try dsimp only [Ar.real, IX.vo, IX.val, BX.val, IX.toN]); (try simp only [QN12]); (try simp only [decide_eq_true_eq]); (all_goals (repeat rw [wrap_i64 (by omega) (by omega)])); (all_goals (first | omega | (simp only [Int.ofNat_eq_natCast]; omega)))); done)
    · exact .b rfl
    · exact .b rfl
    · obtain ⟨g1, ⟨g2, g2'⟩, ⟨g3, g3'⟩, g4, g4'⟩ := hstep (by omega) (by omega) ‹i < l.length›
      rw [hnn, hdd, hfk] at hr
      have hrf := hr
      obtain ⟨a', ha'⟩ : ∃ x, x = a * max 1 de + max 0 nn * b := ⟨_, rfl⟩
      obtain ⟨b', hb'⟩ : ∃ x, x = b * max 1 de := ⟨_, rfl⟩
      obtain ⟨f', hf'⟩ : ∃ x, x = (f && fo) := ⟨_, rfl⟩
      rw [← ha', ← hb', ← hf'] at g1
      have hB : IntKind.i64.wrap (b * max 1 (l.getD i default).den) = b' := by
        rw [hdd, ← hb']
        exact wrap_i64 (by omega) (by omega)
      have hA : IntKind.i64.wrap (IntKind.i64.wrap (a * max 1 (l.getD i default).den) + IntKind.i64.wrap (max 0 (l.getD i default).num * b)) = a' := by
        rw [hdd, hnn, wrap_i64 (x := a * max 1 de) (by omega) (by omega), wrap_i64 (x := max 0 nn * b) (by omega) (by omega), ← ha']
        exact wrap_i64 (by omega) (by omega)
      have hf2 : f = true → fo = f' := fun h => by rw [hf', h]; exact (Bool.true_and _).symm
      have hf3 : f = false → false = f' := fun h => by rw [hf', h]; exact (Bool.false_and _).symm
      refine hR _ ⟨i + 1, f', a', b'⟩ (by show l.length - (i + 1) < l.length - i; omega) g1 ?_
      refine ⟨(by cbv), by cbv; repeat' (first | trivial | exact EqX.rfl' | exact EqO.rfl' | apply And.intro | ((try clear hR3); (try clear hR2); (try clear hR); (try clear hK); (try simp only [ncCast] at *); (try simp only [castI_eq] at *); refine EqX.i ?_; (try rw [ho]); (try dsimp only [Ar.real, IX.vo, IX.val, BX.val, IX.toN]); (try simp only [QN12]); (repeat rw [wrap_i64 (by omega) (by omega)]); omega) | (refine EqX.i ?_; rw [ho]; exact hB) | (refine EqX.i ?_; rw [ho]; exact hA) | (refine EqX.b ?_; exact hrf.symm.trans (hf2 ‹_›))), by cbv; repeat' (first | trivial | exact EqO.rfl' | apply And.intro | (refine EqX.i ?_; rw [ho]; exact hB) | (refine EqX.i ?_; rw [ho]; exact hA) | (refine EqX.b ?_; exact hrf.symm.trans (hf2 ‹_›))), by cbv; repeat' (first | trivial | exact EqO.rfl' | apply And.intro | (refine EqX.i ?_; rw [ho]; exact hB) | (refine EqX.i ?_; rw [ho]; exact hA) | (refine EqX.b ?_; exact hrf.symm.trans (hf2 ‹_›)))⟩
    · exact .b rfl
    · exact .b rfl
    · obtain ⟨g1, ⟨g2, g2'⟩, ⟨g3, g3'⟩, g4, g4'⟩ := hstep (by omega) (by omega) ‹i < l.length›
      obtain ⟨a', ha'⟩ : ∃ x, x = a * max 1 de + max 0 nn * b := ⟨_, rfl⟩
      obtain ⟨b', hb'⟩ : ∃ x, x = b * max 1 de := ⟨_, rfl⟩
      obtain ⟨f', hf'⟩ : ∃ x, x = (f && fo) := ⟨_, rfl⟩
      rw [← ha', ← hb', ← hf'] at g1
      have hB : IntKind.i64.wrap (b * max 1 (l.getD i default).den) = b' := by
        rw [hdd, ← hb']
        exact wrap_i64 (by omega) (by omega)
      have hA : IntKind.i64.wrap (IntKind.i64.wrap (a * max 1 (l.getD i default).den) + IntKind.i64.wrap (max 0 (l.getD i default).num * b)) = a' := by
        rw [hdd, hnn, wrap_i64 (x := a * max 1 de) (by omega) (by omega), wrap_i64 (x := max 0 nn * b) (by omega) (by omega), ← ha']
        exact wrap_i64 (by omega) (by omega)
      have hf2 : f = true → fo = f' := fun h => by rw [hf', h]; exact (Bool.true_and _).symm
      have hf3 : f = false → false = f' := fun h => by rw [hf', h]; exact (Bool.false_and _).symm
      refine hR _ ⟨i + 1, f', a', b'⟩ (by show l.length - (i + 1) < l.length - i; omega) g1 ?_
      refine ⟨(by cbv), by cbv; repeat' (first | trivial | exact EqX.rfl' | exact EqO.rfl' | apply And.intro | ((try clear hR3); (try clear hR2); (try clear hR); (try clear hK); (try simp only [ncCast] at *); (try simp only [castI_eq] at *); refine EqX.i ?_; (try rw [ho]); (try dsimp only [Ar.real, IX.vo, IX.val, BX.val, IX.toN]); (try simp only [QN12]); (repeat rw [wrap_i64 (by omega) (by omega)]); omega) | (refine EqX.i ?_; rw [ho]; exact hB) | (refine EqX.i ?_; rw [ho]; exact hA) | (refine EqX.b ?_; exact hf3 ‹_›)), by cbv; repeat' (first | trivial | exact EqO.rfl' | apply And.intro | (refine EqX.i ?_; rw [ho]; exact hB) | (refine EqX.i ?_; rw [ho]; exact hA) | (refine EqX.b ?_; exact hf3 ‹_›)), by cbv; repeat' (first | trivial | exact EqO.rfl' | apply And.intro | (refine EqX.i ?_; rw [ho]; exact hB) | (refine EqX.i ?_; rw [ho]; exact hA) | (refine EqX.b ?_; exact hf3 ‹_›))⟩
    · have hil : i = l.length := by ((try clear hR3); (try clear hR2); (try clear hR); (try clear hK); (try simp only [ncCast] at *); (try simp only [castI_eq] at *)); omega
      replace q2 := q2 hil
      replace q1 := q1 hil
      replace e1 := e1 hil
      obtain ⟨e1, e2, e3⟩ := e1
      rw [e3] at q2
      rw [e1, e2] at q1 q2
      have hb7 : (0 ≤ a ∧ a ≤ 40000000000000000) ∧ 1 ≤ b ∧ b ≤ 40000000000000000 := hbd0 hil
      generalize hlg : lowF a.toNat b.toNat = lg at *
      obtain ⟨lgn, lgd⟩ := lg
      dsimp only at q1
      have hS0 : sk = f ∧ (f = true → sn = lgn ∧ sd = lgd) ∧ (f = false → sn = 0 ∧ sd = 0) := by
        cases f with
        | true =>
          rw [if_pos rfl] at q2
          injection q2 with q3 q4
          injection q3 with q5 q6
          exact ⟨q4, fun _ => ⟨q5, q6⟩, fun h => absurd h (by decide)⟩
        | false =>
          rw [if_neg (by decide)] at q2
          injection q2 with q3 q4
          injection q3 with q5 q6
          exact ⟨q4, fun h => absurd h (by decide), fun _ => ⟨q5, q6⟩⟩
      obtain ⟨rfl, g1, g2⟩ := hS0
      clear q2 hlg hstep
      rw [← ho] at hS
      refine CallI.pure hP hS fn31 rfl rfl rfl ?_
      cbv
      repeat' (first | (refine Br.mk (fun hb => ?_) (fun hb => ?_) <;> ((try rw [ho] at hb); (try dsimp only [Ar.real, IX.vo] at hb); (try simp only [QN12] at hb); (try simp only [QBo, beq_iff_eq, beq_eq_false_iff_ne, ne_eq] at hb))) | (refine StopN.mk ?_; cbv) | (first | refine CallN.pure hP q1 fn32 rfl rfl rfl ?_ | refine CallI.pure hP hD fn33 rfl rfl rfl ?_ | refine CallI.pure hP hDom fn34 rfl rfl rfl ?_ | refine CallI.pure hP hH fn35 rfl rfl rfl ?_ | refine CallN.pure hP (hL2 ‹_›) fn32 rfl rfl rfl ?_ | refine CallN.pure hP (hCm ‹_›) fn36 rfl rfl rfl ?_ | refine CallN.pure hP hW fn37 rfl rfl rfl ?_); cbv | ((first | refine CallI.pure hP (x_r02Right _ _) fn30 (by first | rfl | (rw [ho]; done) | (rw [ho]; rfl)) (by rfl) (by first | rfl | (rw [ho]; done) | (rw [ho]; rfl)) ?_ | refine CallN.pure hP (x_r02Right _ _) fn30 (by first | rfl | (rw [ho]; done) | (rw [ho]; rfl)) (by rfl) (by first | rfl | (rw [ho]; done) | (rw [ho]; rfl)) ?_); (try rw [← ho]); generalize hr : fracRight _ _ = r; (try rw [ho] at hr); (try dsimp only [Ar.real, IX.vo] at hr); (try simp only [QN12] at hr); cbv) | ((first | refine CallI.pure hP (x_Delta _ _) fn33 (by first | rfl | (rw [ho]; done) | (rw [ho]; rfl)) (by rfl) (by first | rfl | (rw [ho]; done) | (rw [ho]; rfl)) ?_ | refine CallN.pure hP (x_Delta _ _) fn33 (by first | rfl | (rw [ho]; done) | (rw [ho]; rfl)) (by rfl) (by first | rfl | (rw [ho]; done) | (rw [ho]; rfl)) ?_); (try rw [← ho]); generalize hr : deltaR _ _ = r; (try rw [ho] at hr); (try dsimp only [Ar.real, IX.vo] at hr); (try simp only [QN12] at hr); cbv) | ((first | refine CallI.pure hP (x_rDom _ _) fn34 (by first | rfl | (rw [ho]; done) | (rw [ho]; rfl)) (by rfl) (by first | rfl | (rw [ho]; done) | (rw [ho]; rfl)) ?_ | refine CallN.pure hP (x_rDom _ _) fn34 (by first | rfl | (rw [ho]; done) | (rw [ho]; rfl)) (by rfl) (by first | rfl | (rw [ho]; done) | (rw [ho]; rfl)) ?_); (try rw [← ho]); generalize hr : rDom _ _ = r; (try rw [ho] at hr); (try dsimp only [Ar.real, IX.vo] at hr); (try simp only [QN12] at hr); cbv) | ((first | refine CallI.pure hP (x_r06Holds _ _) fn35 (by first | rfl | (rw [ho]; done) | (rw [ho]; rfl)) (by rfl) (by first | rfl | (rw [ho]; done) | (rw [ho]; rfl)) ?_ | refine CallN.pure hP (x_r06Holds _ _) fn35 (by first | rfl | (rw [ho]; done) | (rw [ho]; rfl)) (by rfl) (by first | rfl | (rw [ho]; done) | (rw [ho]; rfl)) ?_); (try rw [← ho]); generalize hr : sumsHolds _ _ = r; (try rw [ho] at hr); (try dsimp only [Ar.real, IX.vo] at hr); (try simp only [QN12] at hr); cbv) | ((first | refine CallI.pure hP (x_r02Cmp _ _ _ _ ‹_› ‹_› ‹_› ‹_›) fn36 (by first | rfl | (rw [ho]; done) | (rw [ho]; rfl)) (by rfl) (by first | rfl | (rw [ho]; done) | (rw [ho]; rfl)) ?_ | refine CallN.pure hP (x_r02Cmp _ _ _ _ ‹_› ‹_› ‹_› ‹_›) fn36 (by first | rfl | (rw [ho]; done) | (rw [ho]; rfl)) (by rfl) (by first | rfl | (rw [ho]; done) | (rw [ho]; rfl)) ?_); (try rw [← ho]); generalize hr : rFracCmp _ _ _ _ = r; (try rw [ho] at hr); (try dsimp only [Ar.real, IX.vo] at hr); (try simp only [QN12] at hr); cbv) | ((first | refine CallI.pure hP (x_works36) fn37 (by first | rfl | (rw [ho]; done) | (rw [ho]; rfl)) (by rfl) (by first | rfl | (rw [ho]; done) | (rw [ho]; rfl)) ?_ | refine CallN.pure hP (x_works36) fn37 (by first | rfl | (rw [ho]; done) | (rw [ho]; rfl)) (by rfl) (by first | rfl | (rw [ho]; done) | (rw [ho]; rfl)) ?_); (try rw [← ho]); cbv) | (refine hK _ _ ?_) | (refine NeedT.mk ?_ ?_))
      all_goals clear hS hD hDom hH hL1 hW hP q1 hR hK hF hL2 hCm hfk hS1 hSq hFi hT hI0 hb0 hlil e1 e2 e3 hnn hdd hnn' hdd' hfok en hbd0 hi hb7 hl h4 hil ho hm
      all_goals try exact .b rfl
      all_goals exfalso
      all_goals cases sk <;> cases dk <;> cases hh <;> simp at * <;> (try omega)
end Go.Proofs.Ytddgcegimmcbgaa.Sy

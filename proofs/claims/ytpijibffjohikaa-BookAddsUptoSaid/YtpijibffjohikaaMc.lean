/-
  Vectors: what one takes from another, said plainly. Plain theorems.
-/
import Derived.Test.YtpijibffjohikaaMa
import Derived.Test.YtpijibffjohikaaMb
set_option linter.unusedSectionVars false
set_option maxRecDepth 100000
set_option maxHeartbeats 8000000
set_option linter.unusedVariables false
set_option linter.unusedSimpArgs false
namespace Go.Proofs.Ytpijibffjohikaa.Sy
open Go Go.Sy Go.Proofs.Ytpijibffjohikaa
theorem nextAt_eq_some {p : Nat → Bool} {a n k : Nat} : nextAt p a n = some k ↔ p k = true ∧ (a ≤ k ∧ k < n) ∧ ∀ j, a ≤ j → j < k → p j = false := by
  rw [nextAt, List.find?_range'_eq_some]
  simp only [List.mem_range'_1, Bool.not_eq_eq_eq_not, Bool.not_true]
  constructor
  · rintro ⟨h1, h2, h3⟩; exact ⟨h1, ⟨h2.1, by omega⟩, h3⟩
  · rintro ⟨h1, h2, h3⟩; exact ⟨h1, ⟨h2.1, by omega⟩, h3⟩
theorem nextAt_eq_none {p : Nat → Bool} {a n : Nat} : nextAt p a n = none ↔ ∀ j, a ≤ j → j < n → p j = false := by
  simp only [nextAt, List.find?_eq_none, List.mem_range'_1]
  constructor
  · intro h j h1 h2; simpa using h j ⟨h1, by omega⟩
  · intro h j hj; simpa using h j hj.1 (by omega)
theorem nextAt_isNone {p : Nat → Bool} {n : Nat} : (nextAt p 0 n).isNone = true ↔ ∀ j, j < n → p j = false := by
  rw [Option.isNone_iff_eq_none, nextAt_eq_none]
  exact ⟨fun h j hj => h j (Nat.zero_le _) hj, fun h j _ hj => h j hj⟩
theorem getD_el {α : Type} [Inhabited α] {l : List α} {i : Nat} (h : i < l.length) : l.getD i default = l[i] := by simp [List.getD_eq_getElem?_getD, h]
def sl (p q : Part) : Prop := p.kind < q.kind ∨ (p.kind = q.kind ∧ p.role < q.role)
structure POk (p : Part) : Prop where
  k0 : 0 ≤ p.kind
  k1 : p.kind < 4
  r0 : 0 ≤ p.role
  r1 : p.role ≤ 32
  a0 : 1 ≤ p.amount
  a1 : p.amount ≤ 9007199254740992
structure VOk (v : List Part) : Prop where
  ok : ∀ p ∈ v, POk p
  up : v.Pairwise sl
theorem sl_trans {p q r : Part} (h : sl p q) (h' : sl q r) : sl p r := by
  unfold sl at *
  omega
theorem badAt_iff (v : List Part) (i : Nat) : badAt v i = false ↔ POk (v.getD i default) ∧ (0 < i → sl (v.getD (i - 1) default) (v.getD i default)) := by
  unfold badAt slotRight amountRight slotCmp sl
  generalize v.getD i default = p
  generalize v.getD (i - 1) default = q
  obtain ⟨k, r, a⟩ := p
  obtain ⟨k', r', a'⟩ := q
  simp only [Bool.or_eq_false_iff, Bool.not_eq_eq_eq_not, Bool.not_false, Bool.and_eq_true, decide_eq_true_eq, decide_eq_false_iff_not, Bool.and_eq_false_iff]
  constructor
  · rintro ⟨h1, h2, h3, h4⟩
    refine ⟨⟨by dsimp only; omega, by dsimp only; omega, by dsimp only; omega, by dsimp only; omega, by show 1 ≤ a; omega, by show a ≤ _; omega⟩, fun h => ?_⟩
    rcases h4 with h4 | h4
    · exact absurd h h4
    · split at h4
      · omega
      · split at h4 <;> omega
  · rintro ⟨⟨h1, h2, h3, h4, h5, h6⟩, h7⟩
    dsimp only at *
    refine ⟨by omega, by omega, by omega, ?_⟩
    by_cases h : 0 < i
    · right
      have := h7 h
      rw [if_neg (by omega), if_pos (by omega)]
      decide
    · exact .inl h
theorem vecRight_iff (v : List Part) : vecRight v = true ↔ VOk v := by
  unfold vecRight
  rw [nextAt_isNone]
  constructor
  · intro h
    have h1 := fun j hj => (badAt_iff v j).1 (h j hj)
    refine ⟨fun p hp => ?_, ?_⟩
    · obtain ⟨i, hi, rfl⟩ := List.mem_iff_getElem.1 hp
      have := (h1 i hi).1
      rwa [getD_el hi] at this
    · rw [List.pairwise_iff_getElem]
      intro i j hi hj hij
      induction j with
      | zero => omega
      | succ j ih =>
        have h2 := (h1 (j + 1) hj).2 (by omega)
        rw [getD_el hj, Nat.add_sub_cancel, getD_el (by omega)] at h2
        by_cases e : i = j
        · subst e; exact h2
        · exact sl_trans (ih (by omega) (by omega)) h2
  · rintro ⟨h1, h2⟩ j hj
    rw [badAt_iff, getD_el hj]
    refine ⟨h1 _ (List.getElem_mem hj), fun h => ?_⟩
    rw [getD_el (by omega)]
    exact List.pairwise_iff_getElem.1 h2 _ _ _ _ (by omega)
def lk : List Part → Int → Int → Int
  | [], _, _ => 0
  | p :: l, k, r => if p.kind = k ∧ p.role = r then p.amount else lk l k r
theorem lk_no {k r : Int} : ∀ (v : List Part), (∀ p ∈ v, ¬ (p.kind = k ∧ p.role = r)) → lk v k r = 0
  | [], _ => rfl
  | p :: v, h => by
    simp only [lk]
    rw [if_neg (h p (by simp))]
    exact lk_no v fun q hq => h q (by simp [hq])
theorem lk_mem {v : List Part} (h : v.Pairwise sl) {p : Part} (hp : p ∈ v) : lk v p.kind p.role = p.amount := by
  induction v with
  | nil => cases hp
  | cons q v ih =>
    obtain ⟨h1, h2⟩ := List.pairwise_cons.1 h
    simp only [lk]
    rcases List.mem_cons.1 hp with rfl | hp
    · rw [if_pos ⟨rfl, rfl⟩]
    · have h3 := h1 p hp
      unfold sl at h3
      rw [if_neg (by omega)]
      exact ih h2 hp
theorem lk_bd {v : List Part} (h : ∀ p ∈ v, POk p) (k r : Int) : 0 ≤ lk v k r ∧ lk v k r ≤ 9007199254740992 := by
  induction v with
  | nil => simp [lk]
  | cons q v ih =>
    simp only [lk]
    split
    · have := h q (by simp)
      exact ⟨by have := this.a0; omega, this.a1⟩
    · exact ih fun p hp => h p (by simp [hp])
theorem lk_pos {v : List Part} (h : ∀ p ∈ v, POk p) {k r : Int} (hl : 1 ≤ lk v k r) : ∃ p ∈ v, p.kind = k ∧ p.role = r := by
  apply Classical.byContradiction
  intro hn
  have := lk_no (k := k) (r := r) v fun p hp hs => hn ⟨p, hp, hs⟩
  omega
def sf : List Part × List Part → List Part → Option (List Part × List Part)
  | st, [] => some st
  | st, p :: l => (subStep st p).bind fun s => sf s l
theorem sf_snoc (l : List Part) (p : Part) : ∀ st, sf st (l ++ [p]) = (sf st l).bind fun s => subStep s p := by
  induction l with
  | nil => intro st; simp [sf]
  | cons q l ih =>
    intro st
    simp only [List.cons_append, sf]
    cases subStep st q with
    | none => rfl
    | some s => exact ih s
theorem subTo_sf (a b : List Part) : ∀ k, k ≤ a.length → subTo a b k = sf ([], b) (a.take k)
  | 0, _ => rfl
  | k + 1, h => by
    rw [List.take_succ_eq_append_getElem (by omega), sf_snoc, ← subTo_sf a b k (by omega), ← getD_el (by omega)]
    rfl
def left1 (bs : List Part) (x : Part) : List Part := if x.amount - lk bs x.kind x.role = 0 then [] else [⟨x.kind, x.role, x.amount - lk bs x.kind x.role⟩]
def res : List Part → List Part → List Part
  | [], _ => []
  | x :: xs, bs => left1 bs x ++ res xs bs
theorem res_nil : ∀ {a : List Part}, (∀ p ∈ a, POk p) → res a [] = a
  | [], _ => rfl
  | x :: xs, h => by
    have h1 := (h x (by simp)).a0
    have h2 := res_nil (a := xs) fun p hp => h p (by simp [hp])
    simp only [res, left1, lk, Int.sub_zero]
    rw [if_neg (by omega), h2]
    rfl
theorem lk_cons_ne {y : Part} {ys : List Part} {k r : Int} (h : ¬ (y.kind = k ∧ y.role = r)) : lk (y :: ys) k r = lk ys k r := if_neg h
theorem res_cons {y : Part} {ys : List Part} : ∀ {a : List Part}, (∀ x ∈ a, ¬ (y.kind = x.kind ∧ y.role = x.role)) → res a (y :: ys) = res a ys
  | [], _ => rfl
  | x :: xs, h => by
    simp only [res, left1, lk_cons_ne (h x (by simp)), res_cons (a := xs) fun p hp => h p (by simp [hp])]
def HB (a bs : List Part) : Prop := ∀ p ∈ bs, p.amount ≤ lk a p.kind p.role
theorem pushP_left (out : List Part) {x : Part} {n : Int} (h : 0 ≤ n) : pushP out ⟨x.kind, x.role, n⟩ = out ++ (if n = 0 then [] else [⟨x.kind, x.role, n⟩]) := by
  unfold pushP
  dsimp only
  split
  · rw [if_neg (by omega)]
  · rw [if_pos (by omega), List.append_nil]
theorem sf_main : ∀ (a bs out : List Part), VOk a → VOk bs →
    (HB a bs → sf (out, bs) a = some (out ++ res a bs, [])) ∧ (¬ HB a bs → ∀ o, sf (out, bs) a ≠ some (o, []))
  | [], bs, out, ha, hb => by
    cases bs with
    | nil => exact ⟨fun _ => by simp [sf, res], fun h => absurd (fun p hp => by cases hp) h⟩
    | cons y ys =>
      refine ⟨fun h => ?_, fun _ o h => ?_⟩
      · have h1 := h y (by simp)
        have h2 := (hb.ok y (by simp)).a0
        simp only [lk] at h1
        omega
      · simp [sf] at h
  | x :: xs, bs, out, ha, hb => by
    obtain ⟨ha1, ha2⟩ := List.pairwise_cons.1 ha.up
    have hx := ha.ok x (by simp)
    have has : VOk xs := ⟨fun p hp => ha.ok p (by simp [hp]), ha2⟩
    have hxne : ∀ p ∈ xs, ¬ (x.kind = p.kind ∧ x.role = p.role) := fun p hp h => by
      have := ha1 p hp
      unfold sl at this
      omega
    cases bs with
    | nil =>
      refine ⟨fun _ => ?_, fun h => absurd (fun p hp => by cases hp) h⟩
      have h1 := (sf_main xs [] (out ++ [x]) has hb).1 (fun p hp => by cases hp)
      have h2 : subStep (out, []) x = some (out ++ [x], []) := by
        unfold subStep hitP pushP
        simp only [List.length_nil, Nat.lt_irrefl, decide_false, Bool.false_and, Bool.false_eq_true, if_false]
        rw [if_pos (by have := hx.a0; omega)]
      simp only [sf, h2, Option.bind_some, h1, res_nil has.ok, res_nil ha.ok, List.append_assoc, List.singleton_append]
    | cons y ys =>
      obtain ⟨hb1, hb2⟩ := List.pairwise_cons.1 hb.up
      have hy := hb.ok y (by simp)
      have hys : VOk ys := ⟨fun p hp => hb.ok p (by simp [hp]), hb2⟩
      have hyne : ∀ p ∈ ys, ¬ (y.kind = p.kind ∧ y.role = p.role) := fun p hp h => by
        have := hb1 p hp
        unfold sl at this
        omega
      by_cases e : y.kind = x.kind ∧ y.role = x.role
      · have hit : hitP (y :: ys) x = true := by
          unfold hitP
          simp only [List.length_cons, List.getD_cons_zero, decide_eq_true e.1, decide_eq_true e.2, Bool.and_true]
          exact decide_eq_true (by omega)
        have hHB : HB (x :: xs) (y :: ys) ↔ y.amount ≤ x.amount ∧ HB xs ys := by
          unfold HB
          constructor
          · intro h
            have h0 := h y (by simp)
            simp only [lk] at h0
            rw [if_pos ⟨e.1.symm, e.2.symm⟩] at h0
            refine ⟨h0, fun p hp => ?_⟩
            have h1 := h p (by simp [hp])
            rwa [lk_cons_ne (by have := hyne p hp; omega)] at h1
          · rintro ⟨h0, h1⟩ p hp
            rcases List.mem_cons.1 hp with rfl | hp
            · simp only [lk]
              rw [if_pos ⟨e.1.symm, e.2.symm⟩]
              exact h0
            · rw [lk_cons_ne (by have := hyne p hp; omega)]
              exact h1 p hp
        have hlk : lk (y :: ys) x.kind x.role = y.amount := if_pos e
        have hres : res (x :: xs) (y :: ys) = (if x.amount - y.amount = 0 then [] else [⟨x.kind, x.role, x.amount - y.amount⟩]) ++ res xs ys := by
          simp only [res, left1, hlk]
          rw [res_cons fun p hp => by have := hxne p hp; omega]
        by_cases hle : y.amount ≤ x.amount
        · have hq : quantSub x.amount y.amount = (x.amount - y.amount, true) := by
            unfold quantSub
            rw [if_neg (by have := hy.a0; omega), wrap_i64 (by have := hy.a0; have := hx.a1; omega) (by have := hy.a0; have := hx.a1; omega)]
          have hst : subStep (out, y :: ys) x = some (out ++ (if x.amount - y.amount = 0 then [] else [⟨x.kind, x.role, x.amount - y.amount⟩]), ys) := by
            unfold subStep
            simp only [hit, if_true, List.getD_cons_zero, hq, List.tail_cons]
            rw [pushP_left out (by omega)]
          obtain ⟨i1, i2⟩ := sf_main xs ys (out ++ (if x.amount - y.amount = 0 then [] else [⟨x.kind, x.role, x.amount - y.amount⟩])) has hys
          refine ⟨fun h => ?_, fun h o => ?_⟩
          · simp only [sf, hst, Option.bind_some]
            rw [i1 (hHB.1 h).2, hres, List.append_assoc]
          · simp only [sf, hst, Option.bind_some]
            exact i2 (fun h' => h (hHB.2 ⟨hle, h'⟩)) o
        · have hq : (quantSub x.amount y.amount).2 = false := by
            unfold quantSub
            rw [if_pos (by omega)]
          have hst : subStep (out, y :: ys) x = none := by
            unfold subStep
            simp only [hit, if_true, List.getD_cons_zero, hq, Bool.false_eq_true, if_false]
          refine ⟨fun h => absurd (hHB.1 h).1 hle, fun _ o h => ?_⟩
          simp [sf, hst] at h
      · have hit : hitP (y :: ys) x = false := by
          unfold hitP
          simp only [List.getD_cons_zero]
          by_cases e1 : y.kind = x.kind
          · rw [decide_eq_false (p := y.role = x.role) (by omega)]; simp
          · rw [decide_eq_false (p := y.kind = x.kind) e1]; simp
        have hst : subStep (out, y :: ys) x = some (out ++ [x], y :: ys) := by
          unfold subStep
          simp only [hit, Bool.false_eq_true, if_false]
          unfold pushP
          rw [if_pos (by have := hx.a0; omega)]
        obtain ⟨i1, i2⟩ := sf_main xs (y :: ys) (out ++ [x]) has hb
        refine ⟨fun h => ?_, fun h o => ?_⟩
        · have h0 := h y (by simp)
          have hy0 := hy.a0
          rw [lk_cons_ne (by omega)] at h0
          obtain ⟨p, hp, hp1, hp2⟩ := lk_pos has.ok (k := y.kind) (r := y.role) (by omega)
          have hxy : sl x y := by
            have := ha1 p hp
            unfold sl at *
            omega
          have hall : ∀ q ∈ y :: ys, ¬ (q.kind = x.kind ∧ q.role = x.role) := fun q hq => by
            rcases List.mem_cons.1 hq with rfl | hq
            · exact e
            · have := hb1 q hq
              unfold sl at *
              omega
          have hHB : HB xs (y :: ys) := fun q hq => by
            have := h q hq
            rwa [lk_cons_ne (by have := hall q hq; omega)] at this
          simp only [sf, hst, Option.bind_some]
          rw [i1 hHB]
          have : left1 (y :: ys) x = [x] := by
            unfold left1
            rw [lk_no _ hall, Int.sub_zero, if_neg (by have := hx.a0; omega)]
          simp only [res, this, List.append_assoc]
        · simp only [sf, hst, Option.bind_some]
          refine i2 (fun h' => h fun q hq => ?_) o
          have h1 := h' q hq
          simp only [lk]
          split
          · rename_i e2
            have h2 := h' y (by simp)
            have hy0 := hy.a0
            obtain ⟨p, hp, hp1, hp2⟩ := lk_pos has.ok (k := y.kind) (r := y.role) (by omega)
            have h3 := ha1 p hp
            rcases List.mem_cons.1 hq with rfl | hq
            · exact absurd ⟨e2.1.symm, e2.2.symm⟩ e
            · have h4 := hb1 q hq
              unfold sl at h3 h4
              omega
          · exact h1
theorem subV_ok {a b : List Part} (ha : VOk a) (hb : VOk b) (h : HB a b) : subV a b = (res a b, true) := by
  have h1 := (sf_main a b [] ha hb).1 h
  unfold subV
  rw [if_pos ⟨(vecRight_iff a).2 ha, (vecRight_iff b).2 hb⟩, subTo_sf a b _ (Nat.le_refl _), List.take_length, h1]
  rfl
end Go.Proofs.Ytpijibffjohikaa.Sy
namespace Go.Proofs.Ytpijibffjohikaa.Sy
open Go Go.Sy Go.Proofs.Ytpijibffjohikaa
theorem VOk.tail {x : Part} {xs : List Part} (h : VOk (x :: xs)) : VOk xs := ⟨fun p hp => h.ok p (by simp [hp]), (List.pairwise_cons.1 h.up).2⟩
def sk : List Part → Int → Int
  | [], _ => 0
  | p :: l, k => (if p.kind = k then p.amount else 0) + sk l k
theorem sk_app (a b : List Part) (k : Int) : sk (a ++ b) k = sk a k + sk b k := by
  induction a with
  | nil => simp [sk]
  | cons p a ih => simp only [List.cons_append, sk, ih]; omega
theorem sk_nn {v : List Part} (h : ∀ p ∈ v, POk p) (k : Int) : 0 ≤ sk v k := by
  induction v with
  | nil => simp [sk]
  | cons p v ih =>
    have h1 := (h p (by simp)).a0
    have h2 := ih fun q hq => h q (by simp [hq])
    simp only [sk]
    split <;> omega
theorem sk_bd {R k : Int} : ∀ (v : List Part) (r0 : Int), VOk v → (∀ p ∈ v, p.role ≤ R) → (∀ p ∈ v, p.kind = k → r0 ≤ p.role) → r0 ≤ R + 1 → sk v k ≤ (R + 1 - r0) * 9007199254740992
  | [], r0, _, _, _, h => by
    simp only [sk]
    omega
  | p :: v, r0, hv, hR, h0, hr => by
    obtain ⟨h1, h2⟩ := List.pairwise_cons.1 hv.up
    have hp := hv.ok p (by simp)
    have hpR := hR p (by simp)
    simp only [sk]
    split
    · rename_i e
      have h3 := h0 p (by simp) e
      have := sk_bd (R := R) (k := k) v (p.role + 1) hv.tail (fun q hq => hR q (by simp [hq])) (fun q hq hk => by
        have := h1 q hq
        unfold sl at this
        omega) (by omega)
      have := hp.a1
      omega
    · have := sk_bd (R := R) (k := k) v r0 hv.tail (fun q hq => hR q (by simp [hq])) (fun q hq hk => h0 q (by simp [hq]) hk) hr
      omega
theorem sk_bd33 {v : List Part} (hv : VOk v) (k : Int) : sk v k ≤ 33 * 9007199254740992 := by
  have := sk_bd (R := 32) (k := k) v 0 hv (fun p hp => (hv.ok p hp).r1) (fun p hp _ => (hv.ok p hp).r0) (by omega)
  omega
theorem sk_bd1 {v : List Part} (hv : VOk v) (h : ∀ p ∈ v, p.role = 0) (k : Int) : sk v k ≤ 9007199254740992 := by
  have := sk_bd (R := 0) (k := k) v 0 hv (fun p hp => by rw [h p hp]; omega) (fun p hp _ => by rw [h p hp]; omega) (by omega)
  omega
def S4.of (f : Int → Int) : S4 := ⟨f 0, f 1, f 2, f 3⟩
theorem ofTo_sk {v : List Part} (hv : VOk v) : ∀ i, i ≤ v.length → ofTo v i = S4.of (sk (v.take i))
  | 0, _ => rfl
  | i + 1, h => by
    have h1 := fun k => sk_bd33 hv k
    have h2 : ∀ k, sk v k = sk (v.take (i + 1)) k + sk (v.drop (i + 1)) k := fun k => by rw [← sk_app, List.take_append_drop]
    have h3 := fun k => sk_nn (v := v.drop (i + 1)) (fun p hp => hv.ok p (List.mem_of_mem_drop hp)) k
    have h4 := fun k => sk_nn (v := v.take (i + 1)) (fun p hp => hv.ok p (List.mem_of_mem_take hp)) k
    have hp := hv.ok _ (List.getElem_mem (show i < v.length by omega))
    have e : ∀ k, sk (v.take (i + 1)) k = sk (v.take i) k + if (v[i]).kind = k then (v[i]).amount else 0 := fun k => by
      rw [List.take_succ_eq_append_getElem (by omega), sk_app]
      simp [sk]
    simp only [ofTo]
    rw [ofTo_sk hv i (by omega), getD_el (by omega)]
    unfold S4.addAt S4.of
    generalize v[i] = p at *
    obtain ⟨kk, r, a⟩ := p
    have k0 := hp.k0
    have k1 := hp.k1
    dsimp only at *
    have hw : ∀ k, 0 ≤ k → k < 4 → sk (v.take (i + 1)) k ≤ 33 * 9007199254740992 ∧ 0 ≤ sk (v.take (i + 1)) k := fun k _ _ => by
      have a1 := h1 k
      have a2 := h2 k
      have a3 := h3 k
      have a4 := h4 k
      omega
    rcases (show kk = 0 ∨ kk = 1 ∨ kk = 2 ∨ kk = 3 by omega) with rfl | rfl | rfl | rfl
    all_goals
      simp only [e, S4.at_] at *
      simp at *
    · exact wrap_i64 (by have := hw 0; simp at this; omega) (by have := hw 0; simp at this; omega)
    · exact wrap_i64 (by have := hw 1; simp at this; omega) (by have := hw 1; simp at this; omega)
    · exact wrap_i64 (by have := hw 2; simp at this; omega) (by have := hw 2; simp at this; omega)
    · exact wrap_i64 (by have := hw 3; simp at this; omega) (by have := hw 3; simp at this; omega)
theorem sumsOf_sk {v : List Part} (hv : VOk v) : sumsOf v = S4.of (sk v) := by
  unfold sumsOf
  rw [if_pos ((vecRight_iff v).2 hv), ofTo_sk hv _ (Nat.le_refl _), List.take_length]
end Go.Proofs.Ytpijibffjohikaa.Sy
namespace Go.Proofs.Ytpijibffjohikaa.Sy
open Go Go.Sy Go.Proofs.Ytpijibffjohikaa
structure Bare (v : List Part) : Prop where
  ok : VOk v
  role : ∀ p ∈ v, p.role = 0
  pos : 0 < v.length
theorem Bare.sums {v : List Part} (h : Bare v) (k : Int) : 0 ≤ sk v k ∧ sk v k ≤ 9007199254740992 := ⟨sk_nn h.ok.ok k, sk_bd1 h.ok h.role k⟩
theorem Bare.right {v : List Part} (h : Bare v) : sumsRight (sumsOf v) = true := by
  rw [sumsOf_sk h.ok, sumsRight_iff]
  have h0 := h.sums 0
  have h1 := h.sums 1
  have h2 := h.sums 2
  have h3 := h.sums 3
  simp only [S4.of]
  omega
theorem Bare.some {v : List Part} (h : Bare v) : sumsOf v ≠ ⟨0, 0, 0, 0⟩ := by
  rw [sumsOf_sk h.ok]
  intro e
  simp only [S4.of, S4.mk.injEq] at e
  match v, h with
  | [], h => exact absurd h.pos (by simp)
  | p :: v, h =>
    have hp := h.ok.ok p (by simp)
    have k0 := hp.k0
    have k1 := hp.k1
    have a0 := hp.a0
    have hn := fun k => sk_nn (v := v) (fun q hq => h.ok.ok q (by simp [hq])) k
    have h0 := hn 0
    have h1 := hn 1
    have h2 := hn 2
    have h3 := hn 3
    simp only [sk] at e
    obtain ⟨e0, e1, e2, e3⟩ := e
    rcases (show p.kind = 0 ∨ p.kind = 1 ∨ p.kind = 2 ∨ p.kind = 3 by omega) with e | e | e | e
    all_goals
      rw [e] at e0 e1 e2 e3
      simp at e0 e1 e2 e3
      omega
end Go.Proofs.Ytpijibffjohikaa.Sy

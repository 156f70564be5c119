/-
  Vectors: what one takes from another, said plainly. Plain theorems.
-/
import Derived.Test.YtddgcegimmcbgaaMa
import Derived.Test.YtddgcegimmcbgaaMb
import Derived.Test.YtddgcegimmcbgaaMc
set_option linter.unusedSectionVars false
set_option maxRecDepth 100000
set_option maxHeartbeats 8000000
set_option linter.unusedVariables false
set_option linter.unusedSimpArgs false
namespace Go.Proofs.Ytddgcegimmcbgaa.Sy
open Go Go.Sy Go.Proofs.Ytddgcegimmcbgaa
theorem nextAt_eq_some {p : Nat → Bool} {a n k : Nat} : nextAt p a n = some k ↔ p k = true ∧ (a ≤ k ∧ k < n) ∧ ∀ j, a ≤ j → j < k → p j = false := by
  rw [nextAt, List.find?_range'_eq_some]
  simp only [List.mem_range'_1, Bool.not_eq_eq_eq_not, Bool.not_true]
  constructor
  · rintro ⟨h1, h2, h3⟩; exact ⟨h1, ⟨h2.1, by omega⟩, h3⟩
  · rintro ⟨h1, h2, h3⟩; exact ⟨h1, ⟨h2.1, by omega⟩, h3⟩
theorem nextAt_eq_none {p : Nat → Bool} {a n : Nat} : nextAt p a n = none ↔ ∀ j, a ≤ j → j < n → p j = false := by
  simp only [nextAt, List.find?_eq_none, List.mem_range'_1]
  constructor
  · intro h j h1 h2; simpa using h j ⟨h1, by omega⟩
  · intro h j hj; simpa using h j hj.1 (by omega)
theorem nextAt_isNone {p : Nat → Bool} {n : Nat} : (nextAt p 0 n).isNone = true ↔ ∀ j, j < n → p j = false := by
  rw [Option.isNone_iff_eq_none, nextAt_eq_none]
  exact ⟨fun h j hj => h j (Nat.zero_le _) hj, fun h j _ hj => h j hj⟩
theorem getD_el {α : Type} [Inhabited α] {l : List α} {i : Nat} (h : i < l.length) : l.getD i default = l[i] := by simp [List.getD_eq_getElem?_getD, h]
def sl (p q : Part) : Prop := p.kind < q.kind ∨ (p.kind = q.kind ∧ p.role < q.role)
structure POk (p : Part) : Prop where
  k0 : 0 ≤ p.kind
  k1 : p.kind < 4
  r0 : 0 ≤ p.role
  r1 : p.role ≤ 32
  a0 : 1 ≤ p.amount
  a1 : p.amount ≤ 9007199254740992
structure VOk (v : List Part) : Prop where
  ok : ∀ p ∈ v, POk p
  up : v.Pairwise sl
theorem sl_trans {p q r : Part} (h : sl p q) (h' : sl q r) : sl p r := by
  unfold sl at *
  omega
theorem badAt_iff (v : List Part) (i : Nat) : badAt v i = false ↔ POk (v.getD i default) ∧ (0 < i → sl (v.getD (i - 1) default) (v.getD i default)) := by
  unfold badAt slotRight amountRight slotCmp sl
  generalize v.getD i default = p
  generalize v.getD (i - 1) default = q
  obtain ⟨k, r, a⟩ := p
  obtain ⟨k', r', a'⟩ := q
  simp only [Bool.or_eq_false_iff, Bool.not_eq_eq_eq_not, Bool.not_false, Bool.and_eq_true, decide_eq_true_eq, decide_eq_false_iff_not, Bool.and_eq_false_iff]
  constructor
  · rintro ⟨h1, h2, h3, h4⟩
    refine ⟨⟨by dsimp only; omega, by dsimp only; omega, by dsimp only; omega, by dsimp only; omega, by show 1 ≤ a; omega, by show a ≤ _; omega⟩, fun h => ?_⟩
    rcases h4 with h4 | h4
    · exact absurd h h4
    · split at h4
      · omega
      · split at h4 <;> omega
  · rintro ⟨⟨h1, h2, h3, h4, h5, h6⟩, h7⟩
    dsimp only at *
    refine ⟨by omega, by omega, by omega, ?_⟩
    by_cases h : 0 < i
    · right
      have := h7 h
      rw [if_neg (by omega), if_pos (by omega)]
      decide
    · exact .inl h
theorem vecRight_iff (v : List Part) : vecRight v = true ↔ VOk v := by
  unfold vecRight
  rw [nextAt_isNone]
  constructor
  · intro h
    have h1 := fun j hj => (badAt_iff v j).1 (h j hj)
    refine ⟨fun p hp => ?_, ?_⟩
    · obtain ⟨i, hi, rfl⟩ := List.mem_iff_getElem.1 hp
      have := (h1 i hi).1
      rwa [getD_el hi] at this
    · rw [List.pairwise_iff_getElem]
      intro i j hi hj hij
      induction j with
      | zero => omega
      | succ j ih =>
        have h2 := (h1 (j + 1) hj).2 (by omega)
        rw [getD_el hj, Nat.add_sub_cancel, getD_el (by omega)] at h2
        by_cases e : i = j
        · subst e; exact h2
        · exact sl_trans (ih (by omega) (by omega)) h2
  · rintro ⟨h1, h2⟩ j hj
    rw [badAt_iff, getD_el hj]
    refine ⟨h1 _ (List.getElem_mem hj), fun h => ?_⟩
    rw [getD_el (by omega)]
    exact List.pairwise_iff_getElem.1 h2 _ _ _ _ (by omega)
def lk : List Part → Int → Int → Int
  | [], _, _ => 0
  | p :: l, k, r => if p.kind = k ∧ p.role = r then p.amount else lk l k r
theorem lk_at {k r : Int} : ∀ (v : List Part) (i : Nat), i < v.length → getAt v k r i = true → (∀ j, j < i → getAt v k r j = false) → lk v k r = (v.getD i default).amount
  | [], i, h, _, _ => by simp at h
  | p :: v, 0, _, h, _ => by
    simp only [getAt, List.getD_cons_zero, Bool.and_eq_true, decide_eq_true_eq] at h
    simp only [lk, List.getD_cons_zero]
    rw [if_pos h]
  | p :: v, i + 1, hi, h, hlt => by
    have h0 := hlt 0 (by omega)
    simp only [getAt, List.getD_cons_zero, Bool.and_eq_false_iff, decide_eq_false_iff_not] at h0
    simp only [lk, List.getD_cons_succ]
    rw [if_neg (by omega)]
    refine lk_at v i (by simpa using hi) (by simpa [getAt] using h) (fun j hj => ?_)
    have := hlt (j + 1) (by omega)
    simpa [getAt] using this
theorem lk_no {k r : Int} : ∀ (v : List Part), (∀ p ∈ v, ¬ (p.kind = k ∧ p.role = r)) → lk v k r = 0
  | [], _ => rfl
  | p :: v, h => by
    simp only [lk]
    rw [if_neg (h p (by simp))]
    exact lk_no v fun q hq => h q (by simp [hq])
theorem getR_lk (v : List Part) (k r : Int) : getR v k r = lk v k r := by
  unfold getR
  cases h : nextAt (getAt v k r) 0 v.length with
  | some i =>
    obtain ⟨h1, h2, h3⟩ := nextAt_eq_some.1 h
    exact (lk_at v i h2.2 h1 fun j hj => h3 j (Nat.zero_le _) hj).symm
  | none =>
    have h1 := nextAt_eq_none.1 h
    refine (lk_no v fun p hp hs => ?_).symm
    obtain ⟨i, hi, rfl⟩ := List.mem_iff_getElem.1 hp
    have := h1 i (Nat.zero_le _) hi
    rw [getAt, getD_el hi, decide_eq_true hs.1, decide_eq_true hs.2] at this
    cases this
theorem lk_mem {v : List Part} (h : v.Pairwise sl) {p : Part} (hp : p ∈ v) : lk v p.kind p.role = p.amount := by
  induction v with
  | nil => cases hp
  | cons q v ih =>
    obtain ⟨h1, h2⟩ := List.pairwise_cons.1 h
    simp only [lk]
    rcases List.mem_cons.1 hp with rfl | hp
    · rw [if_pos ⟨rfl, rfl⟩]
    · have h3 := h1 p hp
      unfold sl at h3
      rw [if_neg (by omega)]
      exact ih h2 hp
theorem lk_bd {v : List Part} (h : ∀ p ∈ v, POk p) (k r : Int) : 0 ≤ lk v k r ∧ lk v k r ≤ 9007199254740992 := by
  induction v with
  | nil => simp [lk]
  | cons q v ih =>
    simp only [lk]
    split
    · have := h q (by simp)
      exact ⟨by have := this.a0; omega, this.a1⟩
    · exact ih fun p hp => h p (by simp [hp])
theorem lk_pos {v : List Part} (h : ∀ p ∈ v, POk p) {k r : Int} (hl : 1 ≤ lk v k r) : ∃ p ∈ v, p.kind = k ∧ p.role = r := by
  apply Classical.byContradiction
  intro hn
  have := lk_no (k := k) (r := r) v fun p hp hs => hn ⟨p, hp, hs⟩
  omega
def sf : List Part × List Part → List Part → Option (List Part × List Part)
  | st, [] => some st
  | st, p :: l => (subStep st p).bind fun s => sf s l
theorem sf_snoc (l : List Part) (p : Part) : ∀ st, sf st (l ++ [p]) = (sf st l).bind fun s => subStep s p := by
  induction l with
  | nil => intro st; simp [sf]
  | cons q l ih =>
    intro st
    simp only [List.cons_append, sf]
    cases subStep st q with
    | none => rfl
    | some s => exact ih s
theorem subTo_sf (a b : List Part) : ∀ k, k ≤ a.length → subTo a b k = sf ([], b) (a.take k)
  | 0, _ => rfl
  | k + 1, h => by
    rw [List.take_succ_eq_append_getElem (by omega), sf_snoc, ← subTo_sf a b k (by omega), ← getD_el (by omega)]
    rfl
def left1 (bs : List Part) (x : Part) : List Part := if x.amount - lk bs x.kind x.role = 0 then [] else [⟨x.kind, x.role, x.amount - lk bs x.kind x.role⟩]
def res : List Part → List Part → List Part
  | [], _ => []
  | x :: xs, bs => left1 bs x ++ res xs bs
theorem res_nil : ∀ {a : List Part}, (∀ p ∈ a, POk p) → res a [] = a
  | [], _ => rfl
  | x :: xs, h => by
    have h1 := (h x (by simp)).a0
    have h2 := res_nil (a := xs) fun p hp => h p (by simp [hp])
    simp only [res, left1, lk, Int.sub_zero]
    rw [if_neg (by omega), h2]
    rfl
theorem lk_cons_ne {y : Part} {ys : List Part} {k r : Int} (h : ¬ (y.kind = k ∧ y.role = r)) : lk (y :: ys) k r = lk ys k r := if_neg h
theorem res_cons {y : Part} {ys : List Part} : ∀ {a : List Part}, (∀ x ∈ a, ¬ (y.kind = x.kind ∧ y.role = x.role)) → res a (y :: ys) = res a ys
  | [], _ => rfl
  | x :: xs, h => by
    simp only [res, left1, lk_cons_ne (h x (by simp)), res_cons (a := xs) fun p hp => h p (by simp [hp])]
def HB (a bs : List Part) : Prop := ∀ p ∈ bs, p.amount ≤ lk a p.kind p.role
theorem pushP_left (out : List Part) {x : Part} {n : Int} (h : 0 ≤ n) : pushP out ⟨x.kind, x.role, n⟩ = out ++ (if n = 0 then [] else [⟨x.kind, x.role, n⟩]) := by
  unfold pushP
  dsimp only
  split
  · rw [if_neg (by omega)]
  · rw [if_pos (by omega), List.append_nil]
theorem sf_main : ∀ (a bs out : List Part), VOk a → VOk bs →
    (HB a bs → sf (out, bs) a = some (out ++ res a bs, [])) ∧ (¬ HB a bs → ∀ o, sf (out, bs) a ≠ some (o, []))
  | [], bs, out, ha, hb => by
    cases bs with
    | nil => exact ⟨fun _ => by simp [sf, res], fun h => absurd (fun p hp => by cases hp) h⟩
    | cons y ys =>
      refine ⟨fun h => ?_, fun _ o h => ?_⟩
      · have h1 := h y (by simp)
        have h2 := (hb.ok y (by simp)).a0
        simp only [lk] at h1
        omega
      · simp [sf] at h
  | x :: xs, bs, out, ha, hb => by
    obtain ⟨ha1, ha2⟩ := List.pairwise_cons.1 ha.up
    have hx := ha.ok x (by simp)
    have has : VOk xs := ⟨fun p hp => ha.ok p (by simp [hp]), ha2⟩
    have hxne : ∀ p ∈ xs, ¬ (x.kind = p.kind ∧ x.role = p.role) := fun p hp h => by
      have := ha1 p hp
      unfold sl at this
      omega
    cases bs with
    | nil =>
      refine ⟨fun _ => ?_, fun h => absurd (fun p hp => by cases hp) h⟩
      have h1 := (sf_main xs [] (out ++ [x]) has hb).1 (fun p hp => by cases hp)
      have h2 : subStep (out, []) x = some (out ++ [x], []) := by
        unfold subStep hitP pushP
        simp only [List.length_nil, Nat.lt_irrefl, decide_false, Bool.false_and, Bool.false_eq_true, if_false]
        rw [if_pos (by have := hx.a0; omega)]
      simp only [sf, h2, Option.bind_some, h1, res_nil has.ok, res_nil ha.ok, List.append_assoc, List.singleton_append]
    | cons y ys =>
      obtain ⟨hb1, hb2⟩ := List.pairwise_cons.1 hb.up
      have hy := hb.ok y (by simp)
      have hys : VOk ys := ⟨fun p hp => hb.ok p (by simp [hp]), hb2⟩
      have hyne : ∀ p ∈ ys, ¬ (y.kind = p.kind ∧ y.role = p.role) := fun p hp h => by
        have := hb1 p hp
        unfold sl at this
        omega
      by_cases e : y.kind = x.kind ∧ y.role = x.role
      · have hit : hitP (y :: ys) x = true := by
          unfold hitP
          simp only [List.length_cons, List.getD_cons_zero, decide_eq_true e.1, decide_eq_true e.2, Bool.and_true]
          exact decide_eq_true (by omega)
        have hHB : HB (x :: xs) (y :: ys) ↔ y.amount ≤ x.amount ∧ HB xs ys := by
          unfold HB
          constructor
          · intro h
            have h0 := h y (by simp)
            simp only [lk] at h0
            rw [if_pos ⟨e.1.symm, e.2.symm⟩] at h0
            refine ⟨h0, fun p hp => ?_⟩
            have h1 := h p (by simp [hp])
            rwa [lk_cons_ne (by have := hyne p hp; omega)] at h1
          · rintro ⟨h0, h1⟩ p hp
            rcases List.mem_cons.1 hp with rfl | hp
            · simp only [lk]
              rw [if_pos ⟨e.1.symm, e.2.symm⟩]
              exact h0
            · rw [lk_cons_ne (by have := hyne p hp; omega)]
              exact h1 p hp
        have hlk : lk (y :: ys) x.kind x.role = y.amount := if_pos e
        have hres : res (x :: xs) (y :: ys) = (if x.amount - y.amount = 0 then [] else [⟨x.kind, x.role, x.amount - y.amount⟩]) ++ res xs ys := by
          simp only [res, left1, hlk]
          rw [res_cons fun p hp => by have := hxne p hp; omega]
        by_cases hle : y.amount ≤ x.amount
        · have hq : quantSub x.amount y.amount = (x.amount - y.amount, true) := by
            unfold quantSub
            rw [if_neg (by have := hy.a0; omega), wrap_i64 (by have := hy.a0; have := hx.a1; omega) (by have := hy.a0; have := hx.a1; omega)]
          have hst : subStep (out, y :: ys) x = some (out ++ (if x.amount - y.amount = 0 then [] else [⟨x.kind, x.role, x.amount - y.amount⟩]), ys) := by
            unfold subStep
            simp only [hit, if_true, List.getD_cons_zero, hq, List.tail_cons]
            rw [pushP_left out (by omega)]
          obtain ⟨i1, i2⟩ := sf_main xs ys (out ++ (if x.amount - y.amount = 0 then [] else [⟨x.kind, x.role, x.amount - y.amount⟩])) has hys
          refine ⟨fun h => ?_, fun h o => ?_⟩
          · simp only [sf, hst, Option.bind_some]
            rw [i1 (hHB.1 h).2, hres, List.append_assoc]
          · simp only [sf, hst, Option.bind_some]
            exact i2 (fun h' => h (hHB.2 ⟨hle, h'⟩)) o
        · have hq : (quantSub x.amount y.amount).2 = false := by
            unfold quantSub
            rw [if_pos (by omega)]
          have hst : subStep (out, y :: ys) x = none := by
            unfold subStep
            simp only [hit, if_true, List.getD_cons_zero, hq, Bool.false_eq_true, if_false]
          refine ⟨fun h => absurd (hHB.1 h).1 hle, fun _ o h => ?_⟩
          simp [sf, hst] at h
      · have hit : hitP (y :: ys) x = false := by
          unfold hitP
          simp only [List.getD_cons_zero]
          by_cases e1 : y.kind = x.kind
          · rw [decide_eq_false (p := y.role = x.role) (by omega)]; simp
          · rw [decide_eq_false (p := y.kind = x.kind) e1]; simp
        have hst : subStep (out, y :: ys) x = some (out ++ [x], y :: ys) := by
          unfold subStep
          simp only [hit, Bool.false_eq_true, if_false]
          unfold pushP
          rw [if_pos (by have := hx.a0; omega)]
        obtain ⟨i1, i2⟩ := sf_main xs (y :: ys) (out ++ [x]) has hb
        refine ⟨fun h => ?_, fun h o => ?_⟩
        · have h0 := h y (by simp)
          have hy0 := hy.a0
          rw [lk_cons_ne (by omega)] at h0
          obtain ⟨p, hp, hp1, hp2⟩ := lk_pos has.ok (k := y.kind) (r := y.role) (by omega)
          have hxy : sl x y := by
            have := ha1 p hp
            unfold sl at *
            omega
          have hall : ∀ q ∈ y :: ys, ¬ (q.kind = x.kind ∧ q.role = x.role) := fun q hq => by
            rcases List.mem_cons.1 hq with rfl | hq
            · exact e
            · have := hb1 q hq
              unfold sl at *
              omega
          have hHB : HB xs (y :: ys) := fun q hq => by
            have := h q hq
            rwa [lk_cons_ne (by have := hall q hq; omega)] at this
          simp only [sf, hst, Option.bind_some]
          rw [i1 hHB]
          have : left1 (y :: ys) x = [x] := by
            unfold left1
            rw [lk_no _ hall, Int.sub_zero, if_neg (by have := hx.a0; omega)]
          simp only [res, this, List.append_assoc]
        · simp only [sf, hst, Option.bind_some]
          refine i2 (fun h' => h fun q hq => ?_) o
          have h1 := h' q hq
          simp only [lk]
          split
          · rename_i e2
            have h2 := h' y (by simp)
            have hy0 := hy.a0
            obtain ⟨p, hp, hp1, hp2⟩ := lk_pos has.ok (k := y.kind) (r := y.role) (by omega)
            have h3 := ha1 p hp
            rcases List.mem_cons.1 hq with rfl | hq
            · exact absurd ⟨e2.1.symm, e2.2.symm⟩ e
            · have h4 := hb1 q hq
              unfold sl at h3 h4
              omega
          · exact h1
theorem rHolds_iff (a b : List Part) : rHolds a b = true ↔ VOk a ∧ VOk b ∧ HB a b := by
  unfold rHolds
  rw [Bool.and_eq_true, Bool.and_eq_true, vecRight_iff, vecRight_iff, nextAt_isNone]
  constructor
  · rintro ⟨h1, h2, h3⟩
    refine ⟨h2, h3, fun p hp => ?_⟩
    obtain ⟨i, hi, rfl⟩ := List.mem_iff_getElem.1 hp
    have := h1 i hi
    rw [lessAt, getD_el hi, getR_lk, decide_eq_false_iff_not] at this
    omega
  · rintro ⟨h2, h3, h1⟩
    refine ⟨fun i hi => ?_, h2, h3⟩
    have := h1 _ (List.getElem_mem hi)
    rw [lessAt, getD_el hi, getR_lk, decide_eq_false_iff_not]
    omega
theorem subV_ok {a b : List Part} (ha : VOk a) (hb : VOk b) (h : HB a b) : subV a b = (res a b, true) := by
  have h1 := (sf_main a b [] ha hb).1 h
  unfold subV
  rw [if_pos ⟨(vecRight_iff a).2 ha, (vecRight_iff b).2 hb⟩, subTo_sf a b _ (Nat.le_refl _), List.take_length, h1]
  rfl
theorem subV_no {a b : List Part} (h : ¬ (VOk a ∧ VOk b ∧ HB a b)) : subV a b = ([], false) := by
  unfold subV
  split
  · rename_i h0
    rw [vecRight_iff, vecRight_iff] at h0
    have h1 := (sf_main a b [] h0.1 h0.2).2 fun h' => h ⟨h0.1, h0.2, h'⟩
    rw [subTo_sf a b _ (Nat.le_refl _), List.take_length]
    split
    · rename_i o e
      exact absurd e (h1 _)
    · rfl
  · rfl
theorem rHolds_eq (a b : List Part) : rHolds a b = (subV a b).2 := by
  by_cases h : VOk a ∧ VOk b ∧ HB a b
  · rw [(rHolds_iff a b).2 h, subV_ok h.1 h.2.1 h.2.2]
  · rw [subV_no h]
    exact Bool.eq_false_iff.2 fun h' => h ((rHolds_iff a b).1 h')
theorem res_mem {a b : List Part} {z : Part} (h : z ∈ res a b) : ∃ x ∈ a, x.kind = z.kind ∧ x.role = z.role ∧ z.amount = x.amount - lk b x.kind x.role ∧ z.amount ≠ 0 := by
  induction a with
  | nil => cases h
  | cons x xs ih =>
    simp only [res] at h
    rcases List.mem_append.1 h with h | h
    · unfold left1 at h
      split at h
      · cases h
      · rw [List.mem_singleton.1 h]
        exact ⟨x, by simp, rfl, rfl, rfl, by assumption⟩
    · obtain ⟨y, hy, h1⟩ := ih h
      exact ⟨y, by simp [hy], h1⟩
theorem res_ok {a b : List Part} (ha : VOk a) (hb : VOk b) (h : HB a b) : VOk (res a b) := by
  refine ⟨fun z hz => ?_, ?_⟩
  · obtain ⟨x, hx, h1, h2, h3, h4⟩ := res_mem hz
    have hp := ha.ok x hx
    have h5 := lk_bd hb.ok x.kind x.role
    have h6 : lk b x.kind x.role ≤ x.amount := by
      by_cases h7 : 1 ≤ lk b x.kind x.role
      · obtain ⟨p, hp, e1, e2⟩ := lk_pos hb.ok h7
        have h8 := h p hp
        rw [e1, e2, lk_mem ha.up hx] at h8
        have h9 := lk_mem hb.up hp
        rw [e1, e2] at h9
        omega
      · have := hp.a0
        omega
    exact ⟨by rw [← h1]; exact hp.k0, by rw [← h1]; exact hp.k1, by rw [← h2]; exact hp.r0, by rw [← h2]; exact hp.r1, by omega, by have := hp.a1; omega⟩
  · have hu := ha.up
    clear ha h
    induction a with
    | nil => exact List.Pairwise.nil
    | cons x xs ih =>
      obtain ⟨h1, h2⟩ := List.pairwise_cons.1 hu
      simp only [res]
      refine List.pairwise_append.2 ⟨?_, ih h2, fun p hp q hq => ?_⟩
      · unfold left1
        split <;> simp
      · obtain ⟨y, hy, e1, e2, _⟩ := res_mem hq
        have h3 := h1 y hy
        unfold left1 at hp
        split at hp
        · cases hp
        · rw [List.mem_singleton.1 hp]
          unfold sl at *
          dsimp only
          omega
end Go.Proofs.Ytddgcegimmcbgaa.Sy
namespace Go.Proofs.Ytddgcegimmcbgaa.Sy
open Go Go.Sy Go.Proofs.Ytddgcegimmcbgaa
theorem HB_hit {x y : Part} {xs ys : List Part} (hb : VOk (y :: ys)) (e : y.kind = x.kind ∧ y.role = x.role) : HB (x :: xs) (y :: ys) ↔ y.amount ≤ x.amount ∧ HB xs ys := by
  obtain ⟨hb1, hb2⟩ := List.pairwise_cons.1 hb.up
  have hyne : ∀ p ∈ ys, ¬ (y.kind = p.kind ∧ y.role = p.role) := fun p hp h => by
    have := hb1 p hp
    unfold sl at this
    omega
  unfold HB
  constructor
  · intro h
    have h0 := h y (by simp)
    simp only [lk] at h0
    rw [if_pos ⟨e.1.symm, e.2.symm⟩] at h0
    refine ⟨h0, fun p hp => ?_⟩
    have h1 := h p (by simp [hp])
    rwa [lk_cons_ne (by have := hyne p hp; omega)] at h1
  · rintro ⟨h0, h1⟩ p hp
    rcases List.mem_cons.1 hp with rfl | hp
    · simp only [lk]
      rw [if_pos ⟨e.1.symm, e.2.symm⟩]
      exact h0
    · rw [lk_cons_ne (by have := hyne p hp; omega)]
      exact h1 p hp
theorem res_hit {x y : Part} {xs ys : List Part} (ha : VOk (x :: xs)) (e : y.kind = x.kind ∧ y.role = x.role) : res (x :: xs) (y :: ys) = (if x.amount - y.amount = 0 then [] else [⟨x.kind, x.role, x.amount - y.amount⟩]) ++ res xs ys := by
  obtain ⟨ha1, ha2⟩ := List.pairwise_cons.1 ha.up
  have hxne : ∀ p ∈ xs, ¬ (x.kind = p.kind ∧ x.role = p.role) := fun p hp h => by
    have := ha1 p hp
    unfold sl at this
    omega
  have hlk : lk (y :: ys) x.kind x.role = y.amount := if_pos e
  simp only [res, left1, hlk]
  rw [res_cons fun p hp => by have := hxne p hp; omega]
theorem HB_miss {x y : Part} {xs ys : List Part} (ha : VOk (x :: xs)) (hb : VOk (y :: ys)) (e : ¬ (y.kind = x.kind ∧ y.role = x.role)) (h : HB (x :: xs) (y :: ys)) : HB xs (y :: ys) ∧ res (x :: xs) (y :: ys) = x :: res xs (y :: ys) := by
  obtain ⟨ha1, ha2⟩ := List.pairwise_cons.1 ha.up
  obtain ⟨hb1, hb2⟩ := List.pairwise_cons.1 hb.up
  have hx := ha.ok x (by simp)
  have hy := hb.ok y (by simp)
  have has : VOk xs := ⟨fun p hp => ha.ok p (by simp [hp]), ha2⟩
  have h0 := h y (by simp)
  have hy0 := hy.a0
  rw [lk_cons_ne (by omega)] at h0
  obtain ⟨p, hp, hp1, hp2⟩ := lk_pos has.ok (k := y.kind) (r := y.role) (by omega)
  have hxy : sl x y := by
    have := ha1 p hp
    unfold sl at *
    omega
  have hall : ∀ q ∈ y :: ys, ¬ (q.kind = x.kind ∧ q.role = x.role) := fun q hq => by
    rcases List.mem_cons.1 hq with rfl | hq
    · exact e
    · have := hb1 q hq
      unfold sl at *
      omega
  have : left1 (y :: ys) x = [x] := by
    unfold left1
    rw [lk_no _ hall, Int.sub_zero, if_neg (by have := hx.a0; omega)]
  refine ⟨fun q hq => ?_, ?_⟩
  · have := h q hq
    rwa [lk_cons_ne (by have := hall q hq; omega)] at this
  · simp only [res, this, List.singleton_append]
theorem VOk.tail {x : Part} {xs : List Part} (h : VOk (x :: xs)) : VOk xs := ⟨fun p hp => h.ok p (by simp [hp]), (List.pairwise_cons.1 h.up).2⟩
def sk : List Part → Int → Int
  | [], _ => 0
  | p :: l, k => (if p.kind = k then p.amount else 0) + sk l k
theorem sk_app (a b : List Part) (k : Int) : sk (a ++ b) k = sk a k + sk b k := by
  induction a with
  | nil => simp [sk]
  | cons p a ih => simp only [List.cons_append, sk, ih]; omega
theorem sk_nn {v : List Part} (h : ∀ p ∈ v, POk p) (k : Int) : 0 ≤ sk v k := by
  induction v with
  | nil => simp [sk]
  | cons p v ih =>
    have h1 := (h p (by simp)).a0
    have h2 := ih fun q hq => h q (by simp [hq])
    simp only [sk]
    split <;> omega
theorem sk_bd {R k : Int} : ∀ (v : List Part) (r0 : Int), VOk v → (∀ p ∈ v, p.role ≤ R) → (∀ p ∈ v, p.kind = k → r0 ≤ p.role) → r0 ≤ R + 1 → sk v k ≤ (R + 1 - r0) * 9007199254740992
  | [], r0, _, _, _, h => by
    simp only [sk]
    omega
  | p :: v, r0, hv, hR, h0, hr => by
    obtain ⟨h1, h2⟩ := List.pairwise_cons.1 hv.up
    have hp := hv.ok p (by simp)
    have hpR := hR p (by simp)
    simp only [sk]
    split
    · rename_i e
      have h3 := h0 p (by simp) e
      have := sk_bd (R := R) (k := k) v (p.role + 1) hv.tail (fun q hq => hR q (by simp [hq])) (fun q hq hk => by
        have := h1 q hq
        unfold sl at this
        omega) (by omega)
      have := hp.a1
      omega
    · have := sk_bd (R := R) (k := k) v r0 hv.tail (fun q hq => hR q (by simp [hq])) (fun q hq hk => h0 q (by simp [hq]) hk) hr
      omega
theorem sk_bd33 {v : List Part} (hv : VOk v) (k : Int) : sk v k ≤ 33 * 9007199254740992 := by
  have := sk_bd (R := 32) (k := k) v 0 hv (fun p hp => (hv.ok p hp).r1) (fun p hp _ => (hv.ok p hp).r0) (by omega)
  omega
theorem sk_bd1 {v : List Part} (hv : VOk v) (h : ∀ p ∈ v, p.role = 0) (k : Int) : sk v k ≤ 9007199254740992 := by
  have := sk_bd (R := 0) (k := k) v 0 hv (fun p hp => by rw [h p hp]; omega) (fun p hp _ => by rw [h p hp]; omega) (by omega)
  omega
def S4.of (f : Int → Int) : S4 := ⟨f 0, f 1, f 2, f 3⟩
theorem ofTo_sk {v : List Part} (hv : VOk v) : ∀ i, i ≤ v.length → ofTo v i = S4.of (sk (v.take i))
  | 0, _ => rfl
  | i + 1, h => by
    have h1 := fun k => sk_bd33 hv k
    have h2 : ∀ k, sk v k = sk (v.take (i + 1)) k + sk (v.drop (i + 1)) k := fun k => by rw [← sk_app, List.take_append_drop]
    have h3 := fun k => sk_nn (v := v.drop (i + 1)) (fun p hp => hv.ok p (List.mem_of_mem_drop hp)) k
    have h4 := fun k => sk_nn (v := v.take (i + 1)) (fun p hp => hv.ok p (List.mem_of_mem_take hp)) k
    have hp := hv.ok _ (List.getElem_mem (show i < v.length by omega))
    have e : ∀ k, sk (v.take (i + 1)) k = sk (v.take i) k + if (v[i]).kind = k then (v[i]).amount else 0 := fun k => by
      rw [List.take_succ_eq_append_getElem (by omega), sk_app]
      simp [sk]
    simp only [ofTo]
    rw [ofTo_sk hv i (by omega), getD_el (by omega)]
    unfold S4.addAt S4.of
    generalize v[i] = p at *
    obtain ⟨kk, r, a⟩ := p
    have k0 := hp.k0
    have k1 := hp.k1
    dsimp only at *
    have hw : ∀ k, 0 ≤ k → k < 4 → sk (v.take (i + 1)) k ≤ 33 * 9007199254740992 ∧ 0 ≤ sk (v.take (i + 1)) k := fun k _ _ => by
      have a1 := h1 k
      have a2 := h2 k
      have a3 := h3 k
      have a4 := h4 k
      omega
    rcases (show kk = 0 ∨ kk = 1 ∨ kk = 2 ∨ kk = 3 by omega) with rfl | rfl | rfl | rfl
    all_goals
      simp only [e, S4.at_] at *
      simp at *
    · exact wrap_i64 (by have := hw 0; simp at this; omega) (by have := hw 0; simp at this; omega)
    · exact wrap_i64 (by have := hw 1; simp at this; omega) (by have := hw 1; simp at this; omega)
    · exact wrap_i64 (by have := hw 2; simp at this; omega) (by have := hw 2; simp at this; omega)
    · exact wrap_i64 (by have := hw 3; simp at this; omega) (by have := hw 3; simp at this; omega)
theorem sumsOf_sk {v : List Part} (hv : VOk v) : sumsOf v = S4.of (sk v) := by
  unfold sumsOf
  rw [if_pos ((vecRight_iff v).2 hv), ofTo_sk hv _ (Nat.le_refl _), List.take_length]
theorem res_sk : ∀ (a b : List Part), VOk a → VOk b → HB a b → ∀ k, sk (res a b) k + sk b k = sk a k
  | [], [], _, _, _, k => by simp [res, sk]
  | [], y :: ys, _, hb, h, k => by
    have h1 := h y (by simp)
    have h2 := (hb.ok y (by simp)).a0
    simp only [lk] at h1
    omega
  | x :: xs, [], ha, _, _, k => by
    rw [res_nil ha.ok]
    simp [sk]
  | x :: xs, y :: ys, ha, hb, h, k => by
    by_cases e : y.kind = x.kind ∧ y.role = x.role
    · obtain ⟨h1, h2⟩ := (HB_hit hb e).1 h
      have ih := res_sk xs ys ha.tail hb.tail h2 k
      rw [res_hit ha e, sk_app]
      have : sk (if x.amount - y.amount = 0 then [] else [⟨x.kind, x.role, x.amount - y.amount⟩]) k = if x.kind = k then x.amount - y.amount else 0 := by
        split
        · simp only [sk]; split <;> omega
        · simp [sk]
      rw [this]
      simp only [sk, e.1]
      split <;> omega
    · obtain ⟨h1, h2⟩ := HB_miss ha hb e h
      have ih := res_sk xs (y :: ys) ha.tail hb h1 k
      rw [h2]
      simp only [sk] at *
      omega
end Go.Proofs.Ytddgcegimmcbgaa.Sy
namespace Go.Proofs.Ytddgcegimmcbgaa.Sy
open Go Go.Sy Go.Proofs.Ytddgcegimmcbgaa
structure Bare (v : List Part) : Prop where
  ok : VOk v
  role : ∀ p ∈ v, p.role = 0
  pos : 0 < v.length
theorem rBare_iff (v : List Part) : rBare v = true ↔ Bare v := by
  unfold rBare
  rw [Bool.and_eq_true, Bool.and_eq_true, nextAt_isNone, vecRight_iff, decide_eq_true_eq]
  constructor
  · rintro ⟨h1, h2, h3⟩
    refine ⟨h3, fun p hp => ?_, h2⟩
    obtain ⟨i, hi, rfl⟩ := List.mem_iff_getElem.1 hp
    have := h1 i hi
    simp only [roleAt, getD_el hi, Bool.not_eq_eq_eq_not, Bool.not_false, decide_eq_true_eq] at this
    exact this
  · rintro ⟨h1, h2, h3⟩
    refine ⟨fun i hi => ?_, h3, h1⟩
    simp only [roleAt, getD_el hi, Bool.not_eq_eq_eq_not, Bool.not_false, decide_eq_true_eq]
    exact h2 _ (List.getElem_mem hi)
theorem bareR_iff (v : List Part) : bareR v = true ↔ Bare v := by
  unfold bareR onlyR
  rw [Bool.and_eq_true, decide_eq_true_eq, decide_eq_true_eq]
  by_cases h : vecRight v = true
  · rw [if_pos h, List.length_filter_eq_length_iff]
    constructor
    · rintro ⟨h1, h2⟩
      refine ⟨(vecRight_iff v).1 h, fun p hp => ?_, h1⟩
      have := h2 p hp
      simpa [inR] using this
    · rintro ⟨h1, h2, h3⟩
      refine ⟨h3, fun p hp => ?_⟩
      simp [inR, h2 p hp]
  · rw [if_neg h]
    constructor
    · rintro ⟨h1, h2⟩
      simp only [List.length_nil] at h2
      omega
    · rintro ⟨h1, h2, h3⟩
      exact absurd ((vecRight_iff v).2 h1) h
theorem rBare_eq (v : List Part) : rBare v = bareR v := Bool.eq_iff_iff.2 ((rBare_iff v).trans (bareR_iff v).symm)
theorem Bare.sums {v : List Part} (h : Bare v) (k : Int) : 0 ≤ sk v k ∧ sk v k ≤ 9007199254740992 := ⟨sk_nn h.ok.ok k, sk_bd1 h.ok h.role k⟩
theorem Bare.right {v : List Part} (h : Bare v) : sumsRight (sumsOf v) = true := by
  rw [sumsOf_sk h.ok, sumsRight_iff]
  have h0 := h.sums 0
  have h1 := h.sums 1
  have h2 := h.sums 2
  have h3 := h.sums 3
  simp only [S4.of]
  omega
theorem Bare.some {v : List Part} (h : Bare v) : sumsOf v ≠ ⟨0, 0, 0, 0⟩ := by
  rw [sumsOf_sk h.ok]
  intro e
  simp only [S4.of, S4.mk.injEq] at e
  match v, h with
  | [], h => exact absurd h.pos (by simp)
  | p :: v, h =>
    have hp := h.ok.ok p (by simp)
    have k0 := hp.k0
    have k1 := hp.k1
    have a0 := hp.a0
    have hn := fun k => sk_nn (v := v) (fun q hq => h.ok.ok q (by simp [hq])) k
    have h0 := hn 0
    have h1 := hn 1
    have h2 := hn 2
    have h3 := hn 3
    simp only [sk] at e
    obtain ⟨e0, e1, e2, e3⟩ := e
    rcases (show p.kind = 0 ∨ p.kind = 1 ∨ p.kind = 2 ∨ p.kind = 3 by omega) with e | e | e | e
    all_goals
      rw [e] at e0 e1 e2 e3
      simp at e0 e1 e2 e3
      omega
def sg (l : List (List Part)) (k : Int) : Nat → Int
  | 0 => 0
  | i + 1 => sg l k i + sk (l.getD i default) k
theorem sg_bd {l : List (List Part)} (h : ∀ i, i < l.length → Bare (l.getD i default)) (k : Int) : ∀ i, i ≤ l.length → 0 ≤ sg l k i ∧ sg l k i ≤ i * 9007199254740992
  | 0, _ => by simp [sg]
  | i + 1, hi => by
    have h1 := sg_bd h k i (by omega)
    have h2 := (h i (by omega)).sums k
    simp only [sg]
    omega
theorem totTo_sg {l : List (List Part)} (hl : l.length ≤ 16) (h : ∀ i, i < l.length → Bare (l.getD i default)) : ∀ i, i ≤ l.length → totTo l i = S4.of fun k => sg l k i
  | 0, _ => rfl
  | i + 1, hi => by
    have hb := h i (by omega)
    have hs := fun k => sg_bd h k i (by omega)
    have hk := fun k => hb.sums k
    simp only [totTo]
    rw [totTo_sg hl h i (by omega), sumsOf_sk hb.ok]
    unfold sumsAdd
    rw [if_pos]
    · rfl
    · simp only [sumsRight_iff, S4.of]
      have a0 := hs 0
      have a1 := hs 1
      have a2 := hs 2
      have a3 := hs 3
      have b0 := hk 0
      have b1 := hk 1
      have b2 := hk 2
      have b3 := hk 3
      omega
theorem rAgTo_sg {l : List (List Part)} (hl : l.length ≤ 16) (h : ∀ i, i < l.length → Bare (l.getD i default)) : ∀ i, i ≤ l.length → rAgTo l i = S4.of fun k => 9007199254740992 - sg l k i
  | 0, _ => rfl
  | i + 1, hi => by
    have hb := h i (by omega)
    have hs := fun k => sg_bd h k (i + 1) (by omega)
    simp only [rAgTo]
    rw [rAgTo_sg hl h i (by omega), sumsOf_sk hb.ok]
    have a0 := hs 0
    have a1 := hs 1
    have a2 := hs 2
    have a3 := hs 3
    simp only [sg] at a0 a1 a2 a3
    simp only [S4.of, sg]
    rw [wrap_i64 (by omega) (by omega), wrap_i64 (by omega) (by omega), wrap_i64 (by omega) (by omega), wrap_i64 (by omega) (by omega)]
    simp only [S4.mk.injEq]
    omega
theorem sg_mono {l : List (List Part)} (h : ∀ i, i < l.length → Bare (l.getD i default)) (k : Int) {i : Nat} : ∀ {j}, i ≤ j → j ≤ l.length → sg l k i ≤ sg l k j
  | 0, hij, _ => by
    obtain rfl : i = 0 := by omega
    exact Int.le_refl _
  | j + 1, hij, hj => by
    rcases Nat.lt_or_ge j i with h1 | h1
    · obtain rfl : i = j + 1 := by omega
      exact Int.le_refl _
    · have h2 := sg_mono h k (i := i) h1 (by omega)
      have h3 := ((h j (by omega)).sums k).1
      simp only [sg]
      omega
theorem nnS_iff (s : S4) : nnS s = true ↔ 0 ≤ s.a ∧ 0 ≤ s.b ∧ 0 ≤ s.c ∧ 0 ≤ s.d := decide_eq_true_iff
theorem topS_iff (s : S4) : topS s = true ↔ s.a ≤ 9007199254740992 ∧ s.b ≤ 9007199254740992 ∧ s.c ≤ 9007199254740992 ∧ s.d ≤ 9007199254740992 := decide_eq_true_iff
theorem agents_eq {l : List (List Part)} (hl : 1 ≤ l.length ∧ l.length ≤ 16) : (nextAt (fun i => !rAgOk l i) 0 l.length).isNone = (totR l).2 := by
  rw [Bool.eq_iff_iff, nextAt_isNone]
  unfold totR
  cases hn : nextAt (fun k => !bareR (l.getD k default)) 0 l.length with
  | some j =>
    obtain ⟨h1, h2, h3⟩ := nextAt_eq_some.1 hn
    refine ⟨fun h => ?_, fun h => by cases h⟩
    have := h j h2.2
    simp only [rAgOk, rBare_eq, Bool.not_eq_eq_eq_not, Bool.not_false, Bool.not_true, Bool.and_eq_true] at this h1
    rw [h1] at this
    exact absurd this.2 (by decide)
  | none =>
    have h1 := nextAt_eq_none.1 hn
    have hb : ∀ i, i < l.length → Bare (l.getD i default) := fun i hi => (bareR_iff _).1 (by
      have := h1 i (Nat.zero_le _) hi
      simpa using this)
    show _ ↔ topS (totTo l l.length) = true
    rw [totTo_sg hl.2 hb _ (Nat.le_refl _)]
    rw [topS_iff]
    simp only [S4.of]
    constructor
    · intro h
      have := h (l.length - 1) (by omega)
      rw [rAgOk, show l.length - 1 + 1 = l.length by omega, rAgTo_sg hl.2 hb _ (Nat.le_refl _)] at this
      rw [Bool.not_eq_eq_eq_not, Bool.not_false, Bool.and_eq_true, nnS_iff] at this
      simp only [S4.of] at this
      omega
    · intro h i hi
      rw [rAgOk, rAgTo_sg hl.2 hb _ (by omega), (rBare_iff _).2 (hb i hi)]
      have a0 := sg_mono hb 0 (i := i + 1) (j := l.length) (by omega) (Nat.le_refl _)
      have a1 := sg_mono hb 1 (i := i + 1) (j := l.length) (by omega) (Nat.le_refl _)
      have a2 := sg_mono hb 2 (i := i + 1) (j := l.length) (by omega) (Nat.le_refl _)
      have a3 := sg_mono hb 3 (i := i + 1) (j := l.length) (by omega) (Nat.le_refl _)
      rw [Bool.and_true, Bool.not_eq_eq_eq_not, Bool.not_false, nnS_iff]
      simp only [S4.of]
      omega
theorem rFine_eq (p : Prof) : rFine p = fineR p := by
  unfold rFine fineR
  by_cases hl : 1 ≤ p.ags.length ∧ p.ags.length ≤ 16 ∧ 1 ≤ p.wants.length ∧ p.wants.length ≤ 32
  · rw [decide_eq_true hl, agents_eq ⟨hl.1, hl.2.1⟩, Bool.true_and, Bool.true_and]
    congr 2
    rw [Bool.eq_iff_iff, nextAt_isNone, all_getD]
    constructor
    · intro h k hk
      have := h k hk
      rw [Bool.not_eq_eq_eq_not, Bool.not_false] at this
      unfold rWok at this
      rw [rBare_eq] at this
      exact this
    · intro h k hk
      rw [Bool.not_eq_eq_eq_not, Bool.not_false]
      unfold rWok
      rw [rBare_eq]
      exact h k hk
  · rw [decide_eq_false hl, Bool.false_and, Bool.false_and, Bool.and_false]
theorem div_bd {x y : Int} (hx : 0 ≤ x ∧ x ≤ 1152921504606846976) (hy : 0 < y) : IntKind.i64.wrap (x.tdiv y) = x / y ∧ 0 ≤ x / y ∧ x / y ≤ 1152921504606846976 := by
  have h1 : 0 ≤ x / y := Int.ediv_nonneg hx.1 (by omega)
  have h2 : x / y ≤ x := Int.ediv_le_self _ hx.1
  rw [Int.tdiv_eq_ediv_of_nonneg hx.1]
  exact ⟨wrap_i64 (by omega) (by omega), h1, by omega⟩
theorem many_rel {s t : S4} (hs : sumsRight s = true) : ∀ k, (rManyTo s t k = -1 ∧ manyTo s t k = 1152921504606846976 ∧ ∀ j, j < k → t.at_ j ≤ 0) ∨ (0 ≤ rManyTo s t k ∧ rManyTo s t k = manyTo s t k)
  | 0 => .inl ⟨rfl, rfl, fun j hj => by omega⟩
  | k + 1 => by
    have hx := S4.at_bd hs k
    simp only [rManyTo, manyTo]
    generalize hy : t.at_ k = y at *
    generalize s.at_ k = x at *
    rcases many_rel hs k (t := t) with ⟨h1, h2, h3⟩ | ⟨h1, h2⟩
    · rw [h1, h2]
      unfold rManyStep minQ
      by_cases h0 : 0 < y
      · obtain ⟨d1, d2, d3⟩ := div_bd hx h0
        right
        rw [d1, if_pos ⟨h0, .inl (by decide)⟩, if_pos h0]
        omega
      · left
        rw [if_neg (fun h => h0 h.1), if_neg h0]
        refine ⟨rfl, rfl, fun j hj => ?_⟩
        rcases Nat.lt_or_ge j k with h4 | h4
        · exact h3 j h4
        · obtain rfl : j = k := by omega
          omega
    · right
      rw [← h2]
      generalize rManyTo s t k = n at *
      unfold rManyStep minQ
      by_cases h0 : 0 < y
      · obtain ⟨d1, d2, d3⟩ := div_bd hx h0
        rw [d1, if_pos h0]
        split <;> omega
      · rw [if_neg (fun h => h0 h.1), if_neg h0]
        omega
theorem many_eq {s t : S4} (hs : sumsRight s = true) (ht : sumsRight t = true) (h0 : t ≠ ⟨0, 0, 0, 0⟩) : rMany s t = sumsMany s t := by
  unfold rMany sumsMany
  rw [if_pos ⟨hs, ht, h0⟩, ← manyTo_4]
  rcases many_rel hs 4 (t := t) with ⟨h1, h2, h3⟩ | ⟨h1, h2⟩
  · exfalso
    apply h0
    have hr := (sumsRight_iff t).1 ht
    have a0 := h3 0 (by omega)
    have a1 := h3 1 (by omega)
    have a2 := h3 2 (by omega)
    have a3 := h3 3 (by omega)
    obtain ⟨a, b, c, d⟩ := t
    simp only [S4.at_, List.getD_cons_zero, List.getD_cons_succ] at a0 a1 a2 a3
    simp only [S4.mk.injEq]
    dsimp only at hr
    omega
  · omega
theorem fine_bare {p : Prof} (h : fineR p = true) : (1 ≤ p.ags.length ∧ p.ags.length ≤ 16 ∧ 1 ≤ p.wants.length ∧ p.wants.length ≤ 32) ∧ (∀ i, i < p.ags.length → Bare (p.ags.getD i default)) ∧ (∀ i, i < p.wants.length → Bare (p.wants.getD i default).need ∧ 1 ≤ (p.wants.getD i default).weight ∧ (p.wants.getD i default).weight ≤ 1000) ∧ topS (totTo p.ags p.ags.length) = true := by
  unfold fineR at h
  simp only [Bool.and_eq_true, decide_eq_true_eq] at h
  obtain ⟨h1, h2, h3, h4⟩ := h
  have ht : nextAt (fun k => !bareR (p.ags.getD k default)) 0 p.ags.length = none ∧ topS (totTo p.ags p.ags.length) = true := by
    unfold totR at h1
    cases hn : nextAt (fun k => !bareR (p.ags.getD k default)) 0 p.ags.length with
    | some j => rw [hn] at h1; cases h1
    | none => rw [hn] at h1; exact ⟨rfl, h1⟩
  refine ⟨h2, fun i hi => ?_, fun i hi => ?_, ht.2⟩
  · have := nextAt_eq_none.1 ht.1 i (Nat.zero_le _) hi
    exact (bareR_iff _).1 (by simpa using this)
  · have := all_getD.1 h4 i hi
    unfold okW at this
    simp only [Bool.and_eq_true, decide_eq_true_eq] at this
    exact ⟨(bareR_iff _).1 this.1, this.2.1⟩
theorem bound_eq {p : Prof} (h : fineR p = true) : rBndA p.ags p.wants p.ags.length = bndA p.ags p.wants p.ags.length := by
  obtain ⟨hl, ha, hw, _⟩ := fine_bare h
  have hW : ∀ i, i < p.ags.length → ∀ n, 0 ≤ n ∧ n ≤ 9007199254740992 → ∀ k, k ≤ p.wants.length → rBndW (p.ags.getD i default) p.wants n k = bndW (p.ags.getD i default) p.wants n k := by
    intro i hi n hn k
    induction k with
    | zero => intro _; rfl
    | succ k ih =>
      intro hk
      have hb := bndW_bd (a := p.ags.getD i default) (ws := p.wants) hn k
      have hm := sumsMany_bd (sumsOf (p.ags.getD i default)) (sumsOf (p.wants.getD k default).need)
      simp only [rBndW, bndW]
      rw [ih (by omega), many_eq (ha i hi).right (hw k (by omega)).1.right (hw k (by omega)).1.some, wrap_i64 (by omega) (by omega)]
  have hA : ∀ i, i ≤ p.ags.length → rBndA p.ags p.wants i = bndA p.ags p.wants i := by
    intro i
    induction i with
    | zero =>
      intro _
      have := bndA_bd (l := p.ags) (ws := p.wants) ⟨hl.2.1, hl.2.2.2⟩ 0
      simp only [bndA] at this
      simp only [rBndA, bndA]
      exact wrap_i64 (by omega) (by omega)
    | succ i ih =>
      intro hi
      simp only [rBndA, bndA]
      rw [ih (by omega), hW i (by omega) _ (bndA_bd ⟨hl.2.1, hl.2.2.2⟩ i) _ (Nat.le_refl _)]
  exact hA _ (Nat.le_refl _)
theorem rCheck_eq (p : Prof) : rCheck p = checkR p := by
  unfold rCheck checkR boundR
  rw [rFine_eq]
  by_cases h : fineR p = true
  · rw [if_pos h, if_pos h, if_pos h, bound_eq h]
  · rw [if_neg h, if_neg h]
end Go.Proofs.Ytddgcegimmcbgaa.Sy
namespace Go.Proofs.Ytddgcegimmcbgaa.Sy
open Go Go.Sy Go.Proofs.Ytddgcegimmcbgaa
structure Rd where
  m : Bool
  x : List Nat
  y : List Nat
instance : Inhabited Rd := ⟨⟨false, [], []⟩⟩
def foldARd_m (e : Rd) := (by
  have h : PLift (e.m = e.m) := ⟨rfl⟩
  conv at h => arg 1; lhs; delta Rd.m
  exact h)
theorem foldRd_m (e : Rd) : type_of% (foldARd_m e).down := (foldARd_m e).down
def foldARd_x (e : Rd) := (by
  have h : PLift (e.x = e.x) := ⟨rfl⟩
  conv at h => arg 1; lhs; delta Rd.x
  exact h)
theorem foldRd_x (e : Rd) : type_of% (foldARd_x e).down := (foldARd_x e).down
def foldARd_y (e : Rd) := (by
  have h : PLift (e.y = e.y) := ⟨rfl⟩
  conv at h => arg 1; lhs; delta Rd.y
  exact h)
theorem foldRd_y (e : Rd) : type_of% (foldARd_y e).down := (foldARd_y e).down
theorem foldRd : (⟨false, [], []⟩ : Rd) = default := rfl
theorem QN12 : type_of% (And.intro @foldRd (And.intro @foldRd_m (And.intro @foldRd_x (And.intro @foldRd_y (QB7))))) := And.intro @foldRd (And.intro @foldRd_m (And.intro @foldRd_x (And.intro @foldRd_y (QB7))))
def Rd.X (o : Ar) (r : Rd) : List X := [xb r.m, .ro (SL o encU r.x), .ro (SL o encU r.y)]
def Rt.rd (r : Rt) : Rd := ⟨r.m, wd r.n, wd r.d⟩
def ag0 (p : Prof) : List Part := p.ags.getD 0 default
def oneD (p : Prof) (i : Nat) : Fr × Bool := deltaR (sumsOf (p.wants.getD i default).need) (sumsOf (ag0 p))
def oneRt (p : Prof) (i : Nat) : Rt := Rt.of (oneD p i).1.num.toNat (oneD p i).1.den.toNat
def oneOk (p : Prof) (i : Nat) : Bool := (oneD p i).2 && (subV (ag0 p) (p.wants.getD i default).need).2
structure AgS where
  dl : List Rt
  rest : Rt
  ws : Rt
def oneTo (p : Prof) : Nat → AgS
  | 0 => ⟨[], Rt.whole 1, Rt.whole 0⟩
  | i + 1 => ⟨(oneTo p i).dl ++ [oneRt p i], (oneTo p i).rest.add (oneRt p i).neg, (oneTo p i).ws.add (Rt.whole (p.wants.getD i default).weight.toNat)⟩
def oneR (p : Prof) : AgS × Bool :=
  if checkR p = 0 ∧ p.ags.length = 1 then
    match nextAt (fun i => !oneOk p i) 0 p.wants.length with
    | some j => (oneTo p j, false)
    | none => (oneTo p p.wants.length, true)
  else (oneTo p 0, false)
def AgS.X (o : Ar) (p : Prof) (s : AgS) : List X := Prof.X o p ++ [.ro (SL o Rd.X (s.dl.map Rt.rd)), xb s.rest.m, .ro (SL o encU (wd s.rest.n)), .ro (SL o encU (wd s.rest.d)), xb s.ws.m, .ro (SL o encU (wd s.ws.n)), .ro (SL o encU (wd s.ws.d))]
theorem lowF_bd {n d : Nat} (hd : 0 < d) : 0 ≤ (lowF n d).num ∧ (lowF n d).num ≤ n ∧ 1 ≤ (lowF n d).den ∧ (lowF n d).den ≤ d := by
  unfold lowF
  have h1 : n / Nat.gcd n d ≤ n := Nat.div_le_self _ _
  have h2 : d / Nat.gcd n d ≤ d := Nat.div_le_self _ _
  have h3 : 0 < d / Nat.gcd n d := Nat.div_pos (Nat.gcd_le_right _ hd) (Nat.gcd_pos_of_pos_right _ hd)
  dsimp only
  generalize n / Nat.gcd n d = a at *
  generalize d / Nat.gcd n d = b at *
  omega
theorem domTo_den {s t : S4} (h : sumsRight s = true) (h' : sumsRight t = true) : ∀ k, 1 ≤ (domTo s t k).den
  | 0 => by simp [domTo]
  | k + 1 => by
    have ih := domTo_den h h' k
    have h2 := S4.at_bd h' k
    simp only [domTo]
    unfold domStep
    split
    · dsimp only; omega
    · exact ih
theorem deltaR_ok {s t : S4} (h : (deltaR s t).2 = true) : 0 ≤ (deltaR s t).1.num ∧ (deltaR s t).1.num ≤ 1152921504606846976 ∧ 1 ≤ (deltaR s t).1.den ∧ (deltaR s t).1.den ≤ 1152921504606846976 := by
  unfold deltaR at *
  split
  · rename_i h1
    rw [if_pos h1] at h
    cases h
  · rename_i h1
    have hr : sumsRight s = true ∧ sumsRight t = true := by
      apply Classical.byContradiction
      intro hn
      apply h1
      right
      unfold sumsHolds
      cases h2 : sumsRight t with
      | false => simp
      | true =>
        cases h3 : sumsRight s with
        | false => simp
        | true => exact absurd ⟨h3, h2⟩ hn
    have hb := domTo_bd hr.1 hr.2 4
    have hd := domTo_den hr.1 hr.2 4
    have hs : sumsDom s t = domTo s t 4 := if_pos hr
    rw [hs]
    dsimp only
    unfold lowR
    have hF : fracRight (domTo s t 4).num (domTo s t 4).den = true := by
      unfold fracRight
      rw [decide_eq_true hb.1.1, decide_eq_true hd]
      rfl
    rw [if_pos hF]
    have := lowF_bd (n := (domTo s t 4).num.toNat) (d := (domTo s t 4).den.toNat) (by omega)
    omega
theorem oneRt_ok {p : Prof} {i : Nat} (h : (oneD p i).2 = true) : (oneRt p i).Ok 2 := by
  have := deltaR_ok h
  exact Rt.of_ok2 (by unfold oneD; omega) (by unfold oneD; omega) (by unfold oneD; omega)
theorem whole_ok {n : Nat} (h : n < 9223372036854775808) : (Rt.whole n).Ok 2 := Rt.of_ok2 (by decide) h (by decide)
theorem oneTo_ok {p : Prof} (hw : ∀ i, i < p.wants.length → (p.wants.getD i default).weight ≤ 9223372036854775807) : ∀ i, i ≤ p.wants.length → (∀ j, j < i → oneOk p j = true) → (oneTo p i).rest.Ok (2 + 3 * i) ∧ (oneTo p i).ws.Ok (2 + 3 * i)
  | 0, _, _ => ⟨whole_ok (by decide), whole_ok (by decide)⟩
  | i + 1, hi, h => by
    obtain ⟨h1, h2⟩ := oneTo_ok hw i (by omega) fun j hj => h j (by omega)
    have hr := h i (by omega)
    unfold oneOk at hr
    rw [Bool.and_eq_true] at hr
    have hd := oneRt_ok hr.1
    have hw1 := hw i (by omega)
    exact ⟨(h1.add hd.neg).mono (by omega), (h2.add (whole_ok (n := (p.wants.getD i default).weight.toNat) (by omega))).mono (by omega)⟩
structure StO where
  i : Nat
  rv : Nat
  dl : List Rd
  rm : Bool
  rx : List Nat
  ry : List Nat
  wm : Bool
  wx : List Nat
  wy : List Nat
structure InO (p : Prof) (s : StO) : Prop where
  i : s.i ≤ p.wants.length
  ok : ∀ j, j < s.i → oneOk p j = true
  dl : s.dl = (oneTo p s.i).dl.map Rt.rd
  rm : s.rm = (oneTo p s.i).rest.m
  rx : s.rx = wd (oneTo p s.i).rest.n
  ry : s.ry = wd (oneTo p s.i).rest.d
  wm : s.wm = (oneTo p s.i).ws.m
  wx : s.wx = wd (oneTo p s.i).ws.n
  wy : s.wy = wd (oneTo p s.i).ws.d
theorem oneTo_len (p : Prof) : ∀ i, (oneTo p i).dl.length = i
  | 0 => rfl
  | i + 1 => by simp [oneTo, oneTo_len p i]
@[reducible] def AX (o : Ar) (p : Prof) (dl : List Rd) (rm : Bool) (rx ry : List Nat) (wm : Bool) (wx wy : List Nat) : List X := [.ro (SL o PV.X p.ags), .ro (SL o Want.X p.wants), xi p.lo.a, xi p.lo.b, xi p.lo.c, xi p.lo.d, .ro (SL o Rd.X dl), xb rm, .ro (SL o encU rx), .ro (SL o encU ry), xb wm, .ro (SL o encU wx), .ro (SL o encU wy)]
theorem FinX_AX {o : Ar} (ho : o = Ar.real) {ags : List (List Part)} {wants : List Want} {a b c d : Int} {dl : List Rd} {rm : Bool} {rx ry : List Nat} {wm : Bool} {wx wy : List Nat} {f : Bool} {r : RR} {y : BX} (h : r.rows = (SL Ar.real Rd.X dl).rows) (h' : y.val = f) :
    FinX (.tup [.agg [.ro (SL Ar.real PV.X ags), .ro (SL Ar.real Want.X wants), xi a, xi b, xi c, xi d, .ro (SL Ar.real Rd.X dl), xb rm, .ro (SL Ar.real encU rx), .ro (SL Ar.real encU ry), xb wm, .ro (SL Ar.real encU wx), .ro (SL Ar.real encU wy)], xb f]) []
      (.tup [.agg [.ro (SL o PV.X ags), .ro (SL o Want.X wants), xi a, xi b, xi c, xi d, .ro r, xb rm, .ro (SL o encU rx), .ro (SL o encU ry), xb wm, .ro (SL o encU wx), .ro (SL o encU wy)], .b y]) [] := .pure fun _ => by
  subst ho
  simp only [X.toD, X.toDL, h, h']
  rfl
theorem x_one (p : Prof) (hp : ProfOk p) (hwb : ∀ i, i64B (p.wants.getD i default).weight) : XC Try.prog 89 [.agg (Prof.X Ar.real p)] [] (.tup [.agg (AX Ar.real p ((oneR p).1.dl.map Rt.rd) (oneR p).1.rest.m (wd (oneR p).1.rest.n) (wd (oneR p).1.rest.d) (oneR p).1.ws.m (wd (oneR p).1.ws.n) (wd (oneR p).1.ws.d)), xb (oneR p).2]) [] := by
  have hCk := x_Check p hp
  have hW1 := x_whole 1 (by decide)
  have hW0 := x_whole 0 (by decide)
  have hn1 : (oneTo p 0).rest = Rt.whole 1 := rfl
  have hn0 : (oneTo p 0).ws = Rt.whole 0 := rfl
  have hnd : (oneTo p 0).dl = [] := rfl
  have q0 : ¬ (checkR p = 0 ∧ p.ags.length = 1) → oneR p = (oneTo p 0, false) := fun h => if_neg h
  have q1 : checkR p = 0 → p.ags.length = 1 → ∀ i, i < p.wants.length → (∀ j, j < i → oneOk p j = true) → oneOk p i = false → oneR p = (oneTo p i, false) := fun h h' i hi hlt hx => by
    unfold oneR
    rw [if_pos ⟨h, h'⟩, nextAt_some (Nat.zero_le _) hi (by simp only [hx, Bool.not_false]) (fun k _ hk => by simp only [hlt k hk, Bool.not_true])]
  have q2 : checkR p = 0 → p.ags.length = 1 → (∀ j, j < p.wants.length → oneOk p j = true) → oneR p = (oneTo p p.wants.length, true) := fun h h' hlt => by
    unfold oneR
    rw [if_pos ⟨h, h'⟩, nextAt_none (fun k _ hk => by simp only [hlt k hk, Bool.not_true])]
  have hfin : checkR p = 0 → p.wants.length ≤ 32 ∧ ∀ i, i < p.wants.length → 1 ≤ (p.wants.getD i default).weight ∧ (p.wants.getD i default).weight ≤ 1000 := fun h => by
    have hf : fineR p = true := by
      unfold checkR at h
      split at h
      · assumption
      · cases h
    obtain ⟨f1, _, f3, _⟩ := fine_bare hf
    exact ⟨f1.2.2.2, fun i hi => (f3 i hi).2⟩
  have hokk := fun h => oneTo_ok (p := p) (fun i hi => by have := ((hfin h).2 i hi).2; omega)
  have hSn := fun i => x_sumsOf (p.wants.getD i default).need (hp.w i)
  have hSa := x_sumsOf (ag0 p) (hp.a 0)
  have hDl := fun i => x_Delta (sumsOf (p.wants.getD i default).need) (sumsOf (ag0 p))
  have hHo := fun i => x_vecHolds (ag0 p) (p.wants.getD i default).need (hp.a 0) (hp.w i)
  have hRo : ∀ i, (oneD p i).2 = true → XC Try.prog 80 [.agg [xi (oneD p i).1.num, xi (oneD p i).1.den]] [] (oneRt p i).X [] := fun i h => by
    have hd := deltaR_ok h
    have h1 := x_ratOf (oneD p i).1.num.toNat (oneD p i).1.den.toNat (by unfold oneD; omega) (by unfold oneD; omega) (by unfold oneD; omega)
    rw [show (((oneD p i).1.num.toNat : Nat) : Int) = (oneD p i).1.num by unfold oneD; omega, show (((oneD p i).1.den.toNat : Nat) : Int) = (oneD p i).1.den by unfold oneD; omega] at h1
    exact h1
  have hNg := fun i (h : (oneD p i).2 = true) => x_neg (oneRt p i) 2 (oneRt_ok h) (by decide)
  have hWh : ∀ i, checkR p = 0 → i < p.wants.length → XC Try.prog 77 [xi (p.wants.getD i default).weight] [] (Rt.whole (p.wants.getD i default).weight.toNat).X [] := fun i h hi => by
    have h0 := (hfin h).2 i hi
    have h1 := x_whole (p.wants.getD i default).weight.toNat (by omega)
    rw [show (((p.wants.getD i default).weight.toNat : Nat) : Int) = (p.wants.getD i default).weight by omega] at h1
    exact h1
  have hA1 := fun i (h : checkR p = 0) (hi : i < p.wants.length) (hlt : ∀ j, j < i → oneOk p j = true) (hd : (oneD p i).2 = true) => x_radd (oneTo p i).rest (oneRt p i).neg (2 + 3 * i) 2 (hokk h i (by omega) hlt).1 (oneRt_ok hd).neg (by have := (hfin h).1; omega)
  have hA2 := fun i (h : checkR p = 0) (hi : i < p.wants.length) (hlt : ∀ j, j < i → oneOk p j = true) => x_radd (oneTo p i).ws (Rt.whole (p.wants.getD i default).weight.toNat) (2 + 3 * i) 2 (hokk h i (by omega) hlt).2 (whole_ok (by have := ((hfin h).2 i hi).2; omega)) (by have := (hfin h).1; omega)
  have hs1 : ∀ i, (oneTo p i).rest.add (oneRt p i).neg = (oneTo p (i + 1)).rest := fun _ => rfl
  have hs2 : ∀ i, (oneTo p i).ws.add (Rt.whole (p.wants.getD i default).weight.toNat) = (oneTo p (i + 1)).ws := fun _ => rfl
  have hs3 : ∀ i, (oneTo p (i + 1)).dl = (oneTo p i).dl ++ [oneRt p i] := fun _ => rfl
  have hoo : ∀ i, oneOk p i = ((oneD p i).2 && (subV (ag0 p) (p.wants.getD i default).need).2) := fun _ => rfl
  have hod : ∀ i, deltaR (sumsOf (p.wants.getD i default).need) (sumsOf (ag0 p)) = oneD p i := fun _ => rfl
  have hlen := oneTo_len p
  simp only [hs1] at hA1
  simp only [hs2] at hA2
  simp only [hod] at hDl
  clear hs1 hs2 hod hokk
  generalize hdr : (oneR p).1.dl.map Rt.rd = dlr
  generalize hrm : (oneR p).1.rest.m = rmr
  generalize hrx : wd (oneR p).1.rest.n = rxr
  generalize hry : wd (oneR p).1.rest.d = ryr
  generalize hwm : (oneR p).1.ws.m = wmr
  generalize hwx : wd (oneR p).1.ws.n = wxr
  generalize hwy : wd (oneR p).1.ws.d = wyr
  generalize hrb : (oneR p).2 = rbr
  have hfinish : ∀ (i : Nat) (b : Bool), oneR p = (oneTo p i, b) → dlr = (oneTo p i).dl.map Rt.rd ∧ rmr = (oneTo p i).rest.m ∧ rxr = wd (oneTo p i).rest.n ∧ ryr = wd (oneTo p i).rest.d ∧ wmr = (oneTo p i).ws.m ∧ wxr = wd (oneTo p i).ws.n ∧ wyr = wd (oneTo p i).ws.d ∧ rbr = b := fun i b h => by
    rw [h] at hdr hrm hrx hry hwm hwx hwy hrb
    exact ⟨hdr.symm, hrm.symm, hrx.symm, hry.symm, hwm.symm, hwx.symm, hwy.symm, hrb.symm⟩
  clear hdr hrm hrx hry hwm hwx hwy hrb
  rw [← hn1] at hW1
  rw [← hn0] at hW0
  generalize hcr : checkR p = cr at *
  obtain ⟨w1m, hw1m⟩ : ∃ x, x = (oneTo p 0).rest.m := ⟨_, rfl⟩
  obtain ⟨w1x, hw1x⟩ : ∃ x, x = wd (oneTo p 0).rest.n := ⟨_, rfl⟩
  obtain ⟨w1y, hw1y⟩ : ∃ x, x = wd (oneTo p 0).rest.d := ⟨_, rfl⟩
  obtain ⟨w0m, hw0m⟩ : ∃ x, x = (oneTo p 0).ws.m := ⟨_, rfl⟩
  obtain ⟨w0x, hw0x⟩ : ∃ x, x = wd (oneTo p 0).ws.n := ⟨_, rfl⟩
  obtain ⟨w0y, hw0y⟩ : ∃ x, x = wd (oneTo p 0).ws.d := ⟨_, rfl⟩
  have hI0 : ∀ rv, InO p ⟨0, rv, [], w1m, w1x, w1y, w0m, w0x, w0y⟩ := fun rv => ⟨Nat.zero_le _, fun j hj => absurd hj (Nat.not_lt_zero j), by show [] = (oneTo p 0).dl.map Rt.rd; rw [hnd]; rfl, hw1m, hw1x, hw1y, hw0m, hw0x, hw0y⟩
  unfold Rt.X at hW1 hW0
  rw [← hw1m, ← hw1x, ← hw1y] at hW1
  rw [← hw0m, ← hw0x, ← hw0y] at hW0
  clear hn1 hn0 hnd
  have hpa := hp.na
  have hpw := hp.nw
  obtain ⟨ags, hags⟩ : ∃ x, x = p.ags := ⟨_, rfl⟩
  obtain ⟨wants, hwants⟩ : ∃ x, x = p.wants := ⟨_, rfl⟩
  obtain ⟨loa, hloa⟩ : ∃ x, x = p.lo.a := ⟨_, rfl⟩
  obtain ⟨lob, hlob⟩ : ∃ x, x = p.lo.b := ⟨_, rfl⟩
  obtain ⟨loc, hloc⟩ : ∃ x, x = p.lo.c := ⟨_, rfl⟩
  obtain ⟨lod, hlod⟩ : ∃ x, x = p.lo.d := ⟨_, rfl⟩
  have hPX : Prof.X Ar.real p = [.ro (SL Ar.real PV.X ags), .ro (SL Ar.real Want.X wants), xi loa, xi lob, xi loc, xi lod] := by rw [hags, hwants, hloa, hlob, hloc, hlod]; rfl
  rw [hPX] at hCk ⊢
  unfold AX
  rw [← hags, ← hwants, ← hloa, ← hlob, ← hloc, ← hlod]
  (refine XC.of_body ([(1, [(0, 1), (0, 2), (0, 4), (1, 4), (2, 4)]), (7, [(2, 3), (2, 4), (2, 5), (2, 6), (0, 12), (1, 12), (2, 12), (3, 12), (4, 12), (5, 12), (6, 12), (7, 12), (8, 12)]), (8, []), (12, [(0, 3), (1, 3)]), (13, [(0, 4), (1, 4)])]) Try.func89 rfl Try.ntmps89 mixed (T := [(2, ti2), (3, ti3), (4, ti4), (31, ti31), (42, ti42), (52, ti52), (53, ti53), (57, ti57), (64, ti64), (75, ti75), (123, ti123), (132, ti132), (142, ti142), (144, ti144), (156, ti156), (158, ti158)]) (.cons tok2 (.cons tok3 (.cons tok4 (.cons tok31 (.cons tok42 (.cons tok52 (.cons tok53 (.cons tok57 (.cons tok64 (.cons tok75 (.cons tok123 (.cons tok132 (.cons tok142 (.cons tok144 (.cons tok156 (.cons tok158 .nil)))))))))))))))) (by kernel_rfl) (by simp) rfl rfl rfl rfl rfl ?_; rintro o ho P hP c K hK; have hm : P.follows .mixedOrders = true := hP ▸ mixed; have hT : TOk P [(2, ti2), (3, ti3), (4, ti4), (31, ti31), (42, ti42), (52, ti52), (53, ti53), (57, ti57), (64, ti64), (75, ti75), (123, ti123), (132, ti132), (142, ti142), (144, ti144), (156, ti156), (158, ti158)] := hP ▸ (.cons tok2 (.cons tok3 (.cons tok4 (.cons tok31 (.cons tok42 (.cons tok52 (.cons tok53 (.cons tok57 (.cons tok64 (.cons tok75 (.cons tok123 (.cons tok132 (.cons tok142 (.cons tok144 (.cons tok156 (.cons tok158 .nil)))))))))))))))); (try rw [← ho]); cbv; (repeat (refine StopN.mk ?_; cbv)))
  rw [← ho] at hW1 hW0 hCk
  repeat' (first | (refine Br.mk (fun hb => ?_) (fun hb => ?_) <;> ((try rw [ho] at hb); (try dsimp only [Ar.real, IX.vo] at hb); (try simp only [QN12] at hb); (try simp only [QBo, beq_iff_eq, beq_eq_false_iff_ne, ne_eq] at hb))) | (refine StopN.mk ?_; cbv) | (first | refine CallN.pure hP hW1 fn77 rfl rfl rfl ?_ | refine CallN.pure hP hW0 fn77 rfl rfl rfl ?_ | refine CallI.pure hP hCk fn121 rfl rfl rfl ?_); cbv | ((first | refine CallI.pure hP (x_Delta _ _) fn33 (by first | rfl | (rw [ho]; done) | (rw [ho]; rfl)) (by rfl) (by first | rfl | (rw [ho]; done) | (rw [ho]; rfl)) ?_ | refine CallN.pure hP (x_Delta _ _) fn33 (by first | rfl | (rw [ho]; done) | (rw [ho]; rfl)) (by rfl) (by first | rfl | (rw [ho]; done) | (rw [ho]; rfl)) ?_); (try rw [← ho]); generalize hr : deltaR _ _ = r; (try rw [ho] at hr); (try dsimp only [Ar.real, IX.vo] at hr); (try simp only [QN12] at hr); cbv) | ((first | refine CallI.pure hP (x_Check _ ‹_›) fn121 (by first | rfl | (rw [ho]; done) | (rw [ho]; rfl)) (by rfl) (by first | rfl | (rw [ho]; done) | (rw [ho]; rfl)) ?_ | refine CallN.pure hP (x_Check _ ‹_›) fn121 (by first | rfl | (rw [ho]; done) | (rw [ho]; rfl)) (by rfl) (by first | rfl | (rw [ho]; done) | (rw [ho]; rfl)) ?_); (try rw [← ho]); generalize hr : checkR _ = r; (try rw [ho] at hr); (try dsimp only [Ar.real, IX.vo] at hr); (try simp only [QN12] at hr); cbv) | ((first | refine CallI.pure hP (x_sumsOf _ ‹_›) fn122 (by first | rfl | (rw [ho]; done) | (rw [ho]; rfl)) (by rfl) (by first | rfl | (rw [ho]; done) | (rw [ho]; rfl)) ?_ | refine CallN.pure hP (x_sumsOf _ ‹_›) fn122 (by first | rfl | (rw [ho]; done) | (rw [ho]; rfl)) (by rfl) (by first | rfl | (rw [ho]; done) | (rw [ho]; rfl)) ?_); (try rw [← ho]); generalize hr : sumsOf _ = r; (try rw [ho] at hr); (try dsimp only [Ar.real, IX.vo] at hr); (try simp only [QN12] at hr); cbv) | ((first | refine CallI.pure hP (x_vecHolds _ _ ‹_› ‹_›) fn146 (by first | rfl | (rw [ho]; done) | (rw [ho]; rfl)) (by rfl) (by first | rfl | (rw [ho]; done) | (rw [ho]; rfl)) ?_ | refine CallN.pure hP (x_vecHolds _ _ ‹_› ‹_›) fn146 (by first | rfl | (rw [ho]; done) | (rw [ho]; rfl)) (by rfl) (by first | rfl | (rw [ho]; done) | (rw [ho]; rfl)) ?_); (try rw [← ho]); generalize hr : subV _ _ = r; (try rw [ho] at hr); (try dsimp only [Ar.real, IX.vo] at hr); (try simp only [QN12] at hr); cbv) | (refine hK _ _ ?_) | (refine NeedT.mk ?_ ?_))
  · obtain ⟨e1, e2, e3, e4, e5, e6, e7, e8⟩ := hfinish 0 false (q0 (fun h => hb h.1))
    rw [← hw1m] at e2; rw [← hw1x] at e3; rw [← hw1y] at e4; rw [← hw0m] at e5; rw [← hw0x] at e6; rw [← hw0y] at e7
    subst e2 e3 e4 e5 e6 e7 e8
    rw [e1]
    exact FinX_AX ho (rows_nil_SL Ar.real rfl Rd.X) rfl
  · obtain ⟨e1, e2, e3, e4, e5, e6, e7, e8⟩ := hfinish 0 false (q0 (fun h => by rw [← hags] at h; apply hb; rw [h.2]; rfl))
    rw [← hw1m] at e2; rw [← hw1x] at e3; rw [← hw1y] at e4; rw [← hw0m] at e5; rw [← hw0x] at e6; rw [← hw0y] at e7
    subst e2 e3 e4 e5 e6 e7 e8
    rw [e1]
    exact FinX_AX ho (rows_nil_SL Ar.real rfl Rd.X) rfl
  have hc0 : cr = 0 := by assumption
  have ha1 : p.ags.length = 1 := by rw [← hags]; ((try clear hR3); (try clear hR2); (try clear hR); (try clear hK); (try simp only [ncCast] at *); (try simp only [castI_eq] at *)); omega
  replace q1 := q1 hc0 ha1
  replace q2 := q2 hc0 ha1
  replace hWh := fun i => hWh i hc0
  replace hA1 := fun i => hA1 i hc0
  replace hA2 := fun i => hA2 i hc0
  have hw32 : wants.length ≤ 32 := by rw [hwants]; exact (hfin hc0).1
  clear q0
  refine LoopN.ghostv 2 6 144 3 158 _ rfl rfl ?_
  refine LoopN.over (o := o) (D := [(1, [(0, 1), (0, 2), (0, 4), (1, 4), (2, 4)]), (7, [(2, 3), (2, 4), (2, 5), (2, 6), (0, 12), (1, 12), (2, 12), (3, 12), (4, 12), (5, 12), (6, 12), (7, 12), (8, 12)]), (8, []), (12, [(0, 3), (1, 3)]), (13, [(0, 4), (1, 4)])]) ho hm hT (by kernel_rfl) (fun s : StO => [(27, xn s.i)]) (fun s => [(2, .var [.ro (SL o PV.X ags), .ro (SL o Want.X wants), xi loa, xi lob, xi loc, xi lod, .own (.loc 3) s.rv, xb s.rm, .ro (SL o encU s.rx), .ro (SL o encU s.ry), xb s.wm, .ro (SL o encU s.wx), .ro (SL o encU s.wy)] 158), (3, .row s.rv 144 3 (SL o Rd.X s.dl))]) (fun _ => []) (InO p) (fun s => wants.length - s.i) ⟨0, 0, [], w1m, w1x, w1y, w0m, w0x, w0y⟩ (hI0 0) ?_ ?_
  · refine ⟨(by cbv), by cbv; repeat' (first | trivial | exact EqX.rfl' | exact EqO.rfl' | apply And.intro | ((try clear hR3); (try clear hR2); (try clear hR); (try clear hK); (try simp only [ncCast] at *); (try simp only [castI_eq] at *); refine EqX.i ?_; (try rw [ho]); (try dsimp only [Ar.real, IX.vo, IX.val, BX.val, IX.toN]); (try simp only [QN12]); (repeat rw [wrap_i64 (by omega) (by omega)]); omega) | exact EqO.row rfl (rows_nil_SL o ho Rd.X)), by cbv; repeat' (first | trivial | exact EqO.rfl' | apply And.intro | exact EqO.row rfl (rows_nil_SL o ho Rd.X)), by cbv; repeat' (first | trivial | exact EqO.rfl' | apply And.intro | exact EqO.row rfl (rows_nil_SL o ho Rd.X))⟩
  · rintro ⟨i, rv, dl, rm, rx, ry, wm, wx, wy⟩ ⟨hi, hok, hdl, hrm, hrx, hry, hwm, hwx, hwy⟩ R hR
    dsimp only at hi hok hdl hrm hrx hry hwm hwx hwy
    have hSi := hSn i
    have hDi := hDl i
    have hHi := hHo i
    have hRi := hRo i
    have hNi := hNg i
    have hWi := hWh i
    have hAi := fun hd h => hA1 i h hok hd
    have hBi := fun h => hA2 i h hok
    have hoi := hoo i
    have q3 := q1 i
    have hf1 := fun b h => hfinish i b h
    have hsn := hs3 i
    have hln := hlen i
    rw [← hrm, ← hrx, ← hry] at hAi
    rw [← hwm, ← hwx, ← hwy] at hBi
    obtain ⟨mm, hmm⟩ : ∃ x, x = (oneRt p i).m := ⟨_, rfl⟩
    obtain ⟨mx, hmx⟩ : ∃ x, x = wd (oneRt p i).n := ⟨_, rfl⟩
    obtain ⟨my, hmy⟩ : ∃ x, x = wd (oneRt p i).d := ⟨_, rfl⟩
    have hrd : (oneRt p i).rd = ⟨mm, mx, my⟩ := by rw [hmm, hmx, hmy]; rfl
    rw [← hmm, ← hmx, ← hmy] at hRi hNi
    generalize (oneRt p i).neg.m = nm at *
    generalize wd (oneRt p i).neg.n = nx at *
    generalize wd (oneRt p i).neg.d = ny at *
    generalize (Rt.whole (p.wants.getD i default).weight.toNat).m = vm at *
    generalize wd (Rt.whole (p.wants.getD i default).weight.toNat).n = vx at *
    generalize wd (Rt.whole (p.wants.getD i default).weight.toNat).d = vy at *
    generalize hr2m : (oneTo p (i + 1)).rest.m = r2m at *
    generalize hr2x : wd (oneTo p (i + 1)).rest.n = r2x at *
    generalize hr2y : wd (oneTo p (i + 1)).rest.d = r2y at *
    generalize hw2m : (oneTo p (i + 1)).ws.m = w2m at *
    generalize hw2x : wd (oneTo p (i + 1)).ws.n = w2x at *
    generalize hw2y : wd (oneTo p (i + 1)).ws.d = w2y at *
    generalize sumsOf (ag0 p) = sa at *
    generalize sumsOf (p.wants.getD i default).need = sn at *
    generalize hq : (subV (ag0 p) (p.wants.getD i default).need).2 = hh at *
    generalize hod : oneD p i = od at *
    obtain ⟨⟨fn, fd⟩, fok⟩ := od
    dsimp only at hRi hNi hAi hDi hoi
    have en : o.nth wants i = p.wants.getD i default := by rw [ho, real_nth, hwants]
    have en0 : o.nth ags 0 = ag0 p := by rw [ho, real_nth, hags]; rfl
    rw [← en] at hSi hHi hWi
    rw [← en0] at hHi hSa
    rw [← hwants] at hWi hAi hBi q3 hi
    obtain ⟨dl', hdl'⟩ : ∃ x, x = dl ++ [(⟨mm, mx, my⟩ : Rd)] := ⟨_, rfl⟩
    have hdl2 : dl' = (oneTo p (i + 1)).dl.map Rt.rd := by rw [hdl', hsn, List.map_append, ← hdl, List.map_singleton, hrd]
    have hdll : dl.length = i := by rw [hdl, List.length_map]; exact hln
    rw [← ho] at hSi hHi hDi hSa
    simp only [← ho] at hRi hNi hWi hAi hBi
    cbv
    repeat' (first | (refine Br.mk (fun hb => ?_) (fun hb => ?_) <;> ((try rw [ho] at hb); (try dsimp only [Ar.real, IX.vo] at hb); (try simp only [QN12] at hb); (try simp only [QBo, beq_iff_eq, beq_eq_false_iff_ne, ne_eq] at hb))) | (refine StopN.mk ?_; cbv) | (first | refine CallN.pure hP hSi fn122 rfl rfl rfl ?_ | refine CallN.pure hP hSa fn122 rfl rfl rfl ?_ | refine CallN.pure hP hDi fn33 rfl rfl rfl ?_ | refine CallN.pure hP hHi fn146 rfl rfl rfl ?_ | refine CallI.pure hP (hRi ‹_›) fn80 rfl rfl rfl ?_ | refine CallN.pure hP (hNi ‹_›) fn147 rfl rfl rfl ?_ | refine CallN.pure hP (hWi ‹_›) fn77 rfl rfl rfl ?_ | refine CallN.pure hP (hAi ‹_› ‹_›) fn79 rfl rfl rfl ?_ | refine CallN.pure hP (hBi ‹_›) fn79 rfl rfl rfl ?_); cbv | ((first | refine CallI.pure hP (x_Delta _ _) fn33 (by first | rfl | (rw [ho]; done) | (rw [ho]; rfl)) (by rfl) (by first | rfl | (rw [ho]; done) | (rw [ho]; rfl)) ?_ | refine CallN.pure hP (x_Delta _ _) fn33 (by first | rfl | (rw [ho]; done) | (rw [ho]; rfl)) (by rfl) (by first | rfl | (rw [ho]; done) | (rw [ho]; rfl)) ?_); (try rw [← ho]); generalize hr : deltaR _ _ = r; (try rw [ho] at hr); (try dsimp only [Ar.real, IX.vo] at hr); (try simp only [QN12] at hr); cbv) | ((first | refine CallI.pure hP (x_Check _ ‹_›) fn121 (by first | rfl | (rw [ho]; done) | (rw [ho]; rfl)) (by rfl) (by first | rfl | (rw [ho]; done) | (rw [ho]; rfl)) ?_ | refine CallN.pure hP (x_Check _ ‹_›) fn121 (by first | rfl | (rw [ho]; done) | (rw [ho]; rfl)) (by rfl) (by first | rfl | (rw [ho]; done) | (rw [ho]; rfl)) ?_); (try rw [← ho]); generalize hr : checkR _ = r; (try rw [ho] at hr); (try dsimp only [Ar.real, IX.vo] at hr); (try simp only [QN12] at hr); cbv) | ((first | refine CallI.pure hP (x_sumsOf _ ‹_›) fn122 (by first | rfl | (rw [ho]; done) | (rw [ho]; rfl)) (by rfl) (by first | rfl | (rw [ho]; done) | (rw [ho]; rfl)) ?_ | refine CallN.pure hP (x_sumsOf _ ‹_›) fn122 (by first | rfl | (rw [ho]; done) | (rw [ho]; rfl)) (by rfl) (by first | rfl | (rw [ho]; done) | (rw [ho]; rfl)) ?_); (try rw [← ho]); generalize hr : sumsOf _ = r; (try rw [ho] at hr); (try dsimp only [Ar.real, IX.vo] at hr); (try simp only [QN12] at hr); cbv) | ((first | refine CallI.pure hP (x_vecHolds _ _ ‹_› ‹_›) fn146 (by first | rfl | (rw [ho]; done) | (rw [ho]; rfl)) (by rfl) (by first | rfl | (rw [ho]; done) | (rw [ho]; rfl)) ?_ | refine CallN.pure hP (x_vecHolds _ _ ‹_› ‹_›) fn146 (by first | rfl | (rw [ho]; done) | (rw [ho]; rfl)) (by rfl) (by first | rfl | (rw [ho]; done) | (rw [ho]; rfl)) ?_); (try rw [← ho]); generalize hr : subV _ _ = r; (try rw [ho] at hr); (try dsimp only [Ar.real, IX.vo] at hr); (try simp only [QN12] at hr); cbv) | (refine hK _ _ ?_) | (refine NeedT.mk ?_ ?_))
    any_goals (((try clear hR3); (try clear hR2); (try clear hR); (try clear hK); (try simp only [ncCast] at *); (try simp only [castI_eq] at *); (try rw [ho]); (try dsimp only [Ar.real, IX.vo, IX.val, BX.val, IX.toN]); (try simp only [QN12]); (try simp only [decide_eq_true_eq]); (all_goals (repeat rw [wrap_i64 (by omega) (by omega)])); (all_goals (first | omega | (simp only [Int.ofNat_eq_natCast]; omega)))); done)
    · obtain ⟨e1, e2, e3, e4, e5, e6, e7, e8⟩ := hf1 false (q3 (by assumption) hok (by rw [hoi, ‹fok = false›]; rfl))
      rw [← hdl] at e1; rw [← hrm] at e2; rw [← hrx] at e3; rw [← hry] at e4; rw [← hwm] at e5; rw [← hwx] at e6; rw [← hwy] at e7
      subst e1 e2 e3 e4 e5 e6 e7 e8
      exact FinX_AX ho (by rw [ho]) rfl
    · obtain ⟨e1, e2, e3, e4, e5, e6, e7, e8⟩ := hf1 false (q3 (by assumption) hok (by rw [hoi, ‹hh = false›, Bool.and_false]))
      rw [← hdl] at e1; rw [← hrm] at e2; rw [← hrx] at e3; rw [← hry] at e4; rw [← hwm] at e5; rw [← hwx] at e6; rw [← hwy] at e7
      subst e1 e2 e3 e4 e5 e6 e7 e8
      exact FinX_AX ho (by rw [ho]) rfl
    · have hil : i < wants.length := by assumption
      have hoki : oneOk p i = true := by rw [hoi, ‹fok = true›, ‹hh = true›]; rfl
      refine hR _ ⟨i + 1, rv + 1, dl', r2m, r2x, r2y, w2m, w2x, w2y⟩ (by show wants.length - (i + 1) < wants.length - i; omega) ⟨by show i + 1 ≤ p.wants.length; rw [← hwants]; omega, fun j hj => ?_, hdl2, hr2m.symm, hr2x.symm, hr2y.symm, hw2m.symm, hw2x.symm, hw2y.symm⟩ ?_
      · have hj' : j < i + 1 := hj
        rcases Nat.lt_or_ge j i with h5 | h5
        · exact hok j h5
        · obtain rfl : j = i := by omega
          exact hoki
      · refine ⟨(by cbv), by cbv; repeat' (first | trivial | exact EqX.rfl' | exact EqO.rfl' | apply And.intro | ((try clear hR3); (try clear hR2); (try clear hR); (try clear hK); (try simp only [ncCast] at *); (try simp only [castI_eq] at *); refine EqX.i ?_; (try rw [ho]); (try dsimp only [Ar.real, IX.vo, IX.val, BX.val, IX.toN]); (try simp only [QN12]); (repeat rw [wrap_i64 (by omega) (by omega)]); omega) | (refine EqO.snoc ho Rd.X _ _ _ _ rfl hdl' ?_; rw [ho]; rfl)), by cbv; repeat' (first | trivial | exact EqO.rfl' | apply And.intro | (refine EqO.snoc ho Rd.X _ _ _ _ rfl hdl' ?_; rw [ho]; rfl)), by cbv; repeat' (first | trivial | exact EqO.rfl' | apply And.intro | (refine EqO.snoc ho Rd.X _ _ _ _ rfl hdl' ?_; rw [ho]; rfl))⟩
    · have hil : i = p.wants.length := by rw [← hwants]; ((try clear hR3); (try clear hR2); (try clear hR); (try clear hK); (try simp only [ncCast] at *); (try simp only [castI_eq] at *)); omega
      obtain ⟨e1, e2, e3, e4, e5, e6, e7, e8⟩ := hf1 true (by rw [hil]; exact q2 (by rw [← hil]; exact hok))
      rw [← hdl] at e1; rw [← hrm] at e2; rw [← hrx] at e3; rw [← hry] at e4; rw [← hwm] at e5; rw [← hwx] at e6; rw [← hwy] at e7
      subst e1 e2 e3 e4 e5 e6 e7 e8
      exact FinX_AX ho (by rw [ho]) rfl
end Go.Proofs.Ytddgcegimmcbgaa.Sy
namespace Go.Proofs.Ytddgcegimmcbgaa.Sy
open Go Go.Sy Go.Proofs.Ytddgcegimmcbgaa
theorem gcd_one (n : Nat) : Nat.gcd n 1 = 1 := Nat.gcd_one_right n
theorem whole_eq (n : Nat) : Rt.whole n = ⟨false, n, 1⟩ := by
  unfold Rt.whole Rt.of Rt.low
  dsimp only
  rw [gcd_one, Nat.div_one, Nat.div_one]
  rfl
def wsum (p : Prof) : Nat → Nat
  | 0 => 0
  | i + 1 => wsum p i + (p.wants.getD i default).weight.toNat
theorem ws_eq (p : Prof) : ∀ i, (oneTo p i).ws = ⟨false, wsum p i, 1⟩
  | 0 => whole_eq 0
  | i + 1 => by
    simp only [oneTo, wsum]
    rw [ws_eq p i, whole_eq]
    unfold Rt.add Rt.low
    dsimp only
    rw [if_pos rfl]
    simp
theorem wsum_pos {p : Prof} {i : Nat} (h : 1 ≤ (p.wants.getD 0 default).weight) (hi : 0 < i) : 0 < wsum p i := by
  induction i with
  | zero => omega
  | succ i ih =>
    simp only [wsum]
    by_cases h0 : i = 0
    · subst h0
      omega
    · have := ih (by omega)
      omega
def floorT (p : Prof) (i : Int) : Fr × Bool :=
  if (oneR p).2 = true ∧ 0 ≤ i ∧ i < p.wants.length then
    (if (oneR p).1.rest.m = true then (⟨0, 1⟩, true) else ((Rt.whole (p.wants.getD i.toNat default).weight.toNat).mul (oneR p).1.rest |>.over (oneR p).1.ws).frac)
  else (⟨0, 0⟩, false)
theorem oneR_true {p : Prof} (h : (oneR p).2 = true) : checkR p = 0 ∧ p.ags.length = 1 ∧ (∀ j, j < p.wants.length → oneOk p j = true) ∧ (oneR p).1 = oneTo p p.wants.length := by
  unfold oneR at h ⊢
  by_cases h0 : checkR p = 0 ∧ p.ags.length = 1
  · rw [if_pos h0] at h ⊢
    cases hn : nextAt (fun i => !oneOk p i) 0 p.wants.length with
    | some j => rw [hn] at h; cases h
    | none =>
      unfold nextAt at hn
      rw [List.find?_range'_eq_none] at hn
      exact ⟨h0.1, h0.2, fun j hj => by simpa using hn j (Nat.zero_le _) (by omega), rfl⟩
  · rw [if_neg h0] at h
    cases h
theorem x_Floor (p : Prof) (hp : ProfOk p) (hwb : ∀ i, i64B (p.wants.getD i default).weight) (i : Int) : XC Try.prog 41 [.agg (Prof.X Ar.real p), xi i] [] (.tup [.agg [xi (floorT p i).1.num, xi (floorT p i).1.den], xb (floorT p i).2]) [] := by
  have hO := x_one p hp hwb
  have htrue := oneR_true (p := p)
  have hfin : checkR p = 0 → p.wants.length ≤ 32 ∧ ∀ i, i < p.wants.length → 1 ≤ (p.wants.getD i default).weight ∧ (p.wants.getD i default).weight ≤ 1000 := fun h => by
    have hf : fineR p = true := by
      unfold checkR at h
      split at h
      · assumption
      · cases h
    obtain ⟨f1, _, f3, _⟩ := fine_bare hf
    exact ⟨f1.2.2.2, fun i hi => (f3 i hi).2⟩
  have q0 : (oneR p).2 = false → floorT p i = (⟨0, 0⟩, false) := fun h => if_neg (by rw [h]; simp)
  have q1 : i < 0 → floorT p i = (⟨0, 0⟩, false) := fun h => if_neg (by omega)
  have q2 : (p.wants.length : Int) ≤ i → floorT p i = (⟨0, 0⟩, false) := fun h => if_neg (by omega)
  have q3 : (oneR p).2 = true → 0 ≤ i → i < p.wants.length → (oneR p).1.rest.m = true → floorT p i = (⟨0, 1⟩, true) := fun h h1 h2 h3 => by
    unfold floorT
    rw [if_pos ⟨h, h1, h2⟩, if_pos h3]
  have q4 : (oneR p).2 = true → 0 ≤ i → i < p.wants.length → (oneR p).1.rest.m = false → floorT p i = ((Rt.whole (p.wants.getD i.toNat default).weight.toNat).mul (oneR p).1.rest |>.over (oneR p).1.ws).frac := fun h h1 h2 h3 => by
    unfold floorT
    rw [if_pos ⟨h, h1, h2⟩, if_neg (by rw [h3]; decide)]
  have key : (oneR p).2 = true → 0 ≤ i → i < p.wants.length → XC Try.prog 77 [xi (p.wants.getD i.toNat default).weight] [] (Rt.whole (p.wants.getD i.toNat default).weight.toNat).X [] ∧
      XC Try.prog 92 [(Rt.whole (p.wants.getD i.toNat default).weight.toNat).X, (oneR p).1.rest.X] [] ((Rt.whole (p.wants.getD i.toNat default).weight.toNat).mul (oneR p).1.rest).X [] ∧
      XC Try.prog 94 [((Rt.whole (p.wants.getD i.toNat default).weight.toNat).mul (oneR p).1.rest).X, (oneR p).1.ws.X] [] ((Rt.whole (p.wants.getD i.toNat default).weight.toNat).mul (oneR p).1.rest |>.over (oneR p).1.ws).X [] ∧
      XC Try.prog 81 [((Rt.whole (p.wants.getD i.toNat default).weight.toNat).mul (oneR p).1.rest |>.over (oneR p).1.ws).X] [] (.tup [.agg [xi ((Rt.whole (p.wants.getD i.toNat default).weight.toNat).mul (oneR p).1.rest |>.over (oneR p).1.ws).frac.1.num, xi ((Rt.whole (p.wants.getD i.toNat default).weight.toNat).mul (oneR p).1.rest |>.over (oneR p).1.ws).frac.1.den], xb ((Rt.whole (p.wants.getD i.toNat default).weight.toNat).mul (oneR p).1.rest |>.over (oneR p).1.ws).frac.2]) [] := fun h h1 h2 => by
    obtain ⟨c1, c2, c3, c4⟩ := htrue h
    obtain ⟨f1, f2⟩ := hfin c1
    have hi1 : i.toNat < p.wants.length := by omega
    have hwi := f2 i.toNat hi1
    have hw0 := f2 0 (by omega)
    have hk := oneTo_ok (p := p) (fun j hj => by have := (f2 j hj).2; omega) p.wants.length (Nat.le_refl _) c3
    rw [c4]
    have hW := x_whole (p.wants.getD i.toNat default).weight.toNat (by omega)
    rw [show (((p.wants.getD i.toNat default).weight.toNat : Nat) : Int) = (p.wants.getD i.toNat default).weight by omega] at hW
    have hwk := whole_ok (n := (p.wants.getD i.toNat default).weight.toNat) (by omega)
    have hpos : 0 < (oneTo p p.wants.length).ws.n := by rw [ws_eq]; exact wsum_pos hw0.1 (by omega)
    have hM := x_rmul _ _ _ _ hwk hk.1 (by omega)
    have hV := x_over _ _ _ _ (hwk.mul hk.1) hk.2 hpos (by omega)
    have hF := x_frac _ _ ((hwk.mul hk.1).over hk.2 hpos) (by omega)
    exact ⟨hW, hM, hV, hF⟩
  clear htrue hfin
  generalize floorT p i = res at *
  generalize ((Rt.whole (p.wants.getD i.toNat default).weight.toNat).mul (oneR p).1.rest |>.over (oneR p).1.ws).frac = fr at *
  generalize ((Rt.whole (p.wants.getD i.toNat default).weight.toNat).mul (oneR p).1.rest |>.over (oneR p).1.ws) = r3 at *
  generalize ((Rt.whole (p.wants.getD i.toNat default).weight.toNat).mul (oneR p).1.rest) = r2 at *
  generalize (Rt.whole (p.wants.getD i.toNat default).weight.toNat) = r1 at *
  generalize oneR p = oo at *
  obtain ⟨⟨dl, rest, ws⟩, ok⟩ := oo
  obtain ⟨rm, rn, rd⟩ := rest
  obtain ⟨wm, wn, wdd⟩ := ws
  obtain ⟨m1, n1, d1⟩ := r1
  obtain ⟨m2, n2, d2⟩ := r2
  obtain ⟨m3, n3, d3⟩ := r3
  unfold Rt.X at key
  dsimp only at *
  generalize wd rn = rx at *
  generalize wd rd = ry at *
  generalize wd wn = wx at *
  generalize wd wdd = wy at *
  generalize wd n1 = x1 at *
  generalize wd d1 = y1 at *
  generalize wd n2 = x2 at *
  generalize wd d2 = y2 at *
  generalize wd n3 = x3 at *
  generalize wd d3 = y3 at *
  generalize dl.map Rt.rd = dr at *
  obtain ⟨ags, wants, lo⟩ := p
  obtain ⟨loa, lob, loc, lod⟩ := lo
  obtain ⟨pa, pw, hla, hwa⟩ := hp
  dsimp only at *
  (refine XC.of_body ([(6, [(6, 7), (6, 8), (6, 10), (9, 10), (6, 11), (9, 11)])]) Try.func41 rfl Try.ntmps41 mixed (T := [(2, ti2), (3, ti3), (4, ti4), (31, ti31), (42, ti42), (52, ti52), (57, ti57), (64, ti64), (75, ti75), (132, ti132), (142, ti142), (144, ti144), (156, ti156), (158, ti158)]) (.cons tok2 (.cons tok3 (.cons tok4 (.cons tok31 (.cons tok42 (.cons tok52 (.cons tok57 (.cons tok64 (.cons tok75 (.cons tok132 (.cons tok142 (.cons tok144 (.cons tok156 (.cons tok158 .nil)))))))))))))) (by kernel_rfl) (by simp) rfl rfl rfl rfl rfl ?_; rintro o ho P hP c K hK; have hm : P.follows .mixedOrders = true := hP ▸ mixed; have hT : TOk P [(2, ti2), (3, ti3), (4, ti4), (31, ti31), (42, ti42), (52, ti52), (57, ti57), (64, ti64), (75, ti75), (132, ti132), (142, ti142), (144, ti144), (156, ti156), (158, ti158)] := hP ▸ (.cons tok2 (.cons tok3 (.cons tok4 (.cons tok31 (.cons tok42 (.cons tok52 (.cons tok57 (.cons tok64 (.cons tok75 (.cons tok132 (.cons tok142 (.cons tok144 (.cons tok156 (.cons tok158 .nil)))))))))))))); (try rw [← ho]); cbv; (repeat (refine StopN.mk ?_; cbv)))
  have en : o.nth wants (o.toNat i) = wants.getD i.toNat default := by rw [ho, real_nth]; rfl
  simp only [← en, ← ho] at key
  rw [← ho] at hO
  have k1 := fun h h1 h2 => (key h h1 h2).1
  have k2 := fun h h1 h2 => (key h h1 h2).2.1
  have k3 := fun h h1 h2 => (key h h1 h2).2.2.1
  have k4 := fun h h1 h2 => (key h h1 h2).2.2.2
  clear key
  repeat' (first | (refine Br.mk (fun hb => ?_) (fun hb => ?_) <;> ((try rw [ho] at hb); (try dsimp only [Ar.real, IX.vo] at hb); (try simp only [QN12] at hb); (try simp only [QBo, beq_iff_eq, beq_eq_false_iff_ne, ne_eq] at hb))) | (refine StopN.mk ?_; cbv) | (first | refine CallI.pure hP hO fn89 rfl rfl rfl ?_ | refine CallN.pure hP (k1 ‹_› ‹_› ‹_›) fn77 rfl rfl rfl ?_ | refine CallN.pure hP (k2 ‹_› ‹_› ‹_›) fn92 rfl rfl rfl ?_ | refine CallN.pure hP (k3 ‹_› ‹_› ‹_›) fn94 rfl rfl rfl ?_ | refine CallN.pure hP (k4 ‹_› ‹_› ‹_›) fn81 rfl rfl rfl ?_); cbv | (refine hK _ _ ?_) | (refine NeedT.mk ?_ ?_))
  · rw [q0 hb]
    exact FinX_fr rfl rfl rfl
  · rw [q1 hb]
    exact FinX_fr rfl rfl rfl
  · rw [q2 hb]
    exact FinX_fr rfl rfl rfl
  · rw [q3 (by assumption) (by assumption) (by assumption) hb]
    exact FinX_fr rfl rfl rfl
  · ((try clear hR3); (try clear hR2); (try clear hR); (try clear hK); (try simp only [ncCast] at *); (try simp only [castI_eq] at *); (try rw [ho]); (try dsimp only [Ar.real, IX.vo, IX.val, BX.val, IX.toN]); (try simp only [QN12]); (try simp only [decide_eq_true_eq]); (all_goals (repeat rw [wrap_i64 (by omega) (by omega)])); (all_goals (first | omega | (simp only [Int.ofNat_eq_natCast]; omega))))
  · rw [q4 (by assumption) (by assumption) (by assumption) hb]
    exact FinX_fr rfl rfl rfl
structure Gt where
  pick : Int
  agent : Int
  frame : Int
  num : Int
  den : Int
  weight : Int
  off : List Part
  la : Bool
instance : Inhabited Gt := ⟨⟨0, 0, 0, 0, 0, 0, [], false⟩⟩
def Gt.X (o : Ar) (g : Gt) : List X := [xi g.pick, xi g.agent, xi g.frame, xi g.num, xi g.den, xi g.weight, .ro (SL o Part.X g.off), xb g.la]
def IV.X (o : Ar) (l : List Int) : List X := [.ro (SL o encI l)]
structure Res where
  gr : List Gt
  tasks : List (List Int)
  left : List (List Part)
def Res.X (o : Ar) (r : Res) : List X := [.ro (SL o Gt.X r.gr), .ro (SL o IV.X r.tasks), .ro (SL o PV.X r.left)]
def tOk (l : List Int) : Bool := decide (l.length = 1) && (decide (0 ≤ l.getD 0 0) && decide (l.getD 0 0 ≤ 4096))
def fitsR (p : Prof) (r : Res) : Bool := (nextAt (fun i => !tOk (r.tasks.getD i default)) 0 r.tasks.length).isNone && decide (r.tasks.length = p.wants.length)
theorem x_rfits (p : Prof) (hp : ProfOk p) (r : Res) (hr : r.tasks.length ≤ 1048576) (hrt : ∀ i, (r.tasks.getD i default).length ≤ 1048576) (dl : List Rd) (rm : Bool) (rx ry : List Nat) (wm : Bool) (wx wy : List Nat) : XC Try.prog 90 [.agg (AX Ar.real p dl rm rx ry wm wx wy), .agg (Res.X Ar.real r)] [] (xb (fitsR p r)) [] := by
  have q0 : ∀ i, i < r.tasks.length → tOk (r.tasks.getD i default) = false → fitsR p r = false := fun i hi h => by
    unfold fitsR
    rw [isNone_no (p := fun i => !tOk (r.tasks.getD i default)) hi (by simp only [h, Bool.not_false])]
    rfl
  have q1 : (∀ i, i < r.tasks.length → tOk (r.tasks.getD i default) = true) → fitsR p r = decide (r.tasks.length = p.wants.length) := fun h => by
    unfold fitsR
    rw [isNone_all fun i hi => by simp only [h i hi, Bool.not_true]]
    rfl
  have ht : ∀ i, tOk (r.tasks.getD i default) = true ↔ (r.tasks.getD i []).length = 1 ∧ 0 ≤ (r.tasks.getD i []).getD 0 (Int.ofNat 0) ∧ (r.tasks.getD i []).getD 0 (Int.ofNat 0) ≤ 4096 := fun i => by
    unfold tOk
    simp only [Bool.and_eq_true, decide_eq_true_eq]
    exact Iff.rfl
  generalize fitsR p r = res at *
  obtain ⟨gr, tasks, left⟩ := r
  obtain ⟨ags, wants, lo⟩ := p
  obtain ⟨loa, lob, loc, lod⟩ := lo
  obtain ⟨pa, pw, hla, hwa⟩ := hp
  dsimp only at *
  (refine XC.of_body ([]) Try.func90 rfl Try.ntmps90 mixed (T := [(2, ti2), (3, ti3), (34, ti34), (42, ti42), (52, ti52), (57, ti57), (75, ti75), (77, ti77), (78, ti78), (80, ti80), (132, ti132), (144, ti144), (156, ti156), (158, ti158)]) (.cons tok2 (.cons tok3 (.cons tok34 (.cons tok42 (.cons tok52 (.cons tok57 (.cons tok75 (.cons tok77 (.cons tok78 (.cons tok80 (.cons tok132 (.cons tok144 (.cons tok156 (.cons tok158 .nil)))))))))))))) (by kernel_rfl) (by simp) rfl rfl rfl rfl rfl ?_; rintro o ho P hP c K hK; have hm : P.follows .mixedOrders = true := hP ▸ mixed; have hT : TOk P [(2, ti2), (3, ti3), (34, ti34), (42, ti42), (52, ti52), (57, ti57), (75, ti75), (77, ti77), (78, ti78), (80, ti80), (132, ti132), (144, ti144), (156, ti156), (158, ti158)] := hP ▸ (.cons tok2 (.cons tok3 (.cons tok34 (.cons tok42 (.cons tok52 (.cons tok57 (.cons tok75 (.cons tok77 (.cons tok78 (.cons tok80 (.cons tok132 (.cons tok144 (.cons tok156 (.cons tok158 .nil)))))))))))))); (try rw [← ho]); cbv; (repeat (refine StopN.mk ?_; cbv)))
  refine LoopN.over (o := o) (D := []) ho hm hT (by kernel_rfl) (fun i : Nat => [(10, xn i)]) (fun _ => []) (fun _ => []) (fun i => i ≤ tasks.length ∧ ∀ j, j < i → tOk (tasks.getD j default) = true) (fun i => tasks.length - i) 0 ⟨Nat.zero_le _, fun j hj => absurd hj (Nat.not_lt_zero j)⟩ ?_ ?_
  · refine ⟨(by cbv), by cbv; repeat' (first | trivial | exact EqX.rfl' | exact EqO.rfl' | apply And.intro | ((try clear hR3); (try clear hR2); (try clear hR); (try clear hK); (try simp only [ncCast] at *); (try simp only [castI_eq] at *); refine EqX.i ?_; (try rw [ho]); (try dsimp only [Ar.real, IX.vo, IX.val, BX.val, IX.toN]); (try simp only [QN12]); (repeat rw [wrap_i64 (by omega) (by omega)]); omega)), by cbv; repeat' (first | trivial | exact EqO.rfl' | apply And.intro), by cbv; repeat' (first | trivial | exact EqO.rfl' | apply And.intro)⟩
  · rintro i ⟨hi, hok⟩ R hR
    have hti := ht i
    have hli := hrt i
    have q2 := q0 i
    have en : o.nth tasks i = tasks.getD i default := by rw [ho, real_nth]
    cbv
    repeat' (first | (refine Br.mk (fun hb => ?_) (fun hb => ?_) <;> ((try rw [ho] at hb); (try dsimp only [Ar.real, IX.vo] at hb); (try simp only [QN12] at hb); (try simp only [QBo, beq_iff_eq, beq_eq_false_iff_ne, ne_eq] at hb))) | (refine StopN.mk ?_; cbv) | (refine hK _ _ ?_) | (refine NeedT.mk ?_ ?_))
    any_goals (((try clear hR3); (try clear hR2); (try clear hR); (try clear hK); (try simp only [ncCast] at *); (try simp only [castI_eq] at *); (try rw [ho]); (try dsimp only [Ar.real, IX.vo, IX.val, BX.val, IX.toN]); (try simp only [QN12]); (try simp only [decide_eq_true_eq]); (all_goals (repeat rw [wrap_i64 (by omega) (by omega)])); (all_goals (first | omega | (simp only [Int.ofNat_eq_natCast]; omega)))); done)
    · rw [q2 (by ((try clear hR3); (try clear hR2); (try clear hR); (try clear hK); (try simp only [ncCast] at *); (try simp only [castI_eq] at *)); omega) (Bool.eq_false_iff.2 fun h => by
        have h5 := hti.1 h
        ((try clear hR3); (try clear hR2); (try clear hR); (try clear hK); (try simp only [ncCast] at *); (try simp only [castI_eq] at *))
        omega)]
      exact .b rfl
    · rw [q2 (by ((try clear hR3); (try clear hR2); (try clear hR); (try clear hK); (try simp only [ncCast] at *); (try simp only [castI_eq] at *)); omega) (Bool.eq_false_iff.2 fun h => by
        have h5 := hti.1 h
        ((try clear hR3); (try clear hR2); (try clear hR); (try clear hK); (try simp only [ncCast] at *); (try simp only [castI_eq] at *))
        omega)]
      exact .b rfl
    · rw [q2 (by ((try clear hR3); (try clear hR2); (try clear hR); (try clear hK); (try simp only [ncCast] at *); (try simp only [castI_eq] at *)); omega) (Bool.eq_false_iff.2 fun h => by
        have h5 := hti.1 h
        ((try clear hR3); (try clear hR2); (try clear hR); (try clear hK); (try simp only [ncCast] at *); (try simp only [castI_eq] at *))
        omega)]
      exact .b rfl
    · have h6 := hti.2 ⟨by ((try clear hR3); (try clear hR2); (try clear hR); (try clear hK); (try simp only [ncCast] at *); (try simp only [castI_eq] at *)); omega, by assumption, by assumption⟩
      refine hR _ (i + 1) (by show tasks.length - (i + 1) < tasks.length - i; ((try clear hR3); (try clear hR2); (try clear hR); (try clear hK); (try simp only [ncCast] at *); (try simp only [castI_eq] at *)); omega) ⟨by show i + 1 ≤ tasks.length; ((try clear hR3); (try clear hR2); (try clear hR); (try clear hK); (try simp only [ncCast] at *); (try simp only [castI_eq] at *)); omega, fun j hj => ?_⟩ ?_
      · have hj' : j < i + 1 := hj
        rcases Nat.lt_or_ge j i with h5 | h5
        · exact hok j h5
        · obtain rfl : j = i := by ((try clear hR3); (try clear hR2); (try clear hR); (try clear hK); (try simp only [ncCast] at *); (try simp only [castI_eq] at *)); omega
          exact h6
      · refine ⟨(by cbv), by cbv; repeat' (first | trivial | exact EqX.rfl' | exact EqO.rfl' | apply And.intro | ((try clear hR3); (try clear hR2); (try clear hR); (try clear hK); (try simp only [ncCast] at *); (try simp only [castI_eq] at *); refine EqX.i ?_; (try rw [ho]); (try dsimp only [Ar.real, IX.vo, IX.val, BX.val, IX.toN]); (try simp only [QN12]); (repeat rw [wrap_i64 (by omega) (by omega)]); omega)), by cbv; repeat' (first | trivial | exact EqO.rfl' | apply And.intro), by cbv; repeat' (first | trivial | exact EqO.rfl' | apply And.intro)⟩
    · obtain rfl : i = tasks.length := by ((try clear hR3); (try clear hR2); (try clear hR); (try clear hK); (try simp only [ncCast] at *); (try simp only [castI_eq] at *)); omega
      rw [q1 hok]
      refine .b ?_
      rw [ho]
      rfl
end Go.Proofs.Ytddgcegimmcbgaa.Sy
namespace Go.Proofs.Ytddgcegimmcbgaa.Sy
open Go Go.Sy Go.Proofs.Ytddgcegimmcbgaa
def tk (r : Res) (i : Nat) : Int := (r.tasks.getD i default).getD 0 0
def undA (p : Prof) (r : Res) (i : Nat) : Rt := ((oneRt p i).mul (Rt.whole (tk r i).toNat)).mul (oneTo p p.wants.length).ws
def undC (p : Prof) (i : Nat) : Rt := (oneTo p p.wants.length).rest.mul (Rt.whole (p.wants.getD i default).weight.toNat)
def underB (p : Prof) (r : Res) (i : Nat) : Bool := !(undA p r i).above (undC p i)
theorem oneTo_at (p : Prof) : ∀ n i, i < n → ((oneTo p n).dl.map Rt.rd).getD i default = (oneRt p i).rd
  | 0, i, h => by omega
  | n + 1, i, h => by
    have hl := oneTo_len p n
    simp only [oneTo]
    rw [List.map_append, List.getD_eq_getElem?_getD]
    by_cases e : i < n
    · rw [List.getElem?_append_left (by simp; omega), ← List.getD_eq_getElem?_getD]
      exact oneTo_at p n i e
    · obtain rfl : i = n := by omega
      rw [List.getElem?_append_right (by simp; omega)]
      simp [hl]
theorem checkR_fin {p : Prof} (h : checkR p = 0) : (1 ≤ p.wants.length ∧ p.wants.length ≤ 32) ∧ ∀ i, i < p.wants.length → 1 ≤ (p.wants.getD i default).weight ∧ (p.wants.getD i default).weight ≤ 1000 := by
  have hf : fineR p = true := by
    unfold checkR at h
    split at h
    · assumption
    · cases h
  obtain ⟨f1, _, f3, _⟩ := fine_bare hf
  exact ⟨f1.2.2, fun i hi => (f3 i hi).2⟩
theorem fitsR_at {p : Prof} {r : Res} (h : fitsR p r = true) : r.tasks.length = p.wants.length ∧ ∀ i, i < p.wants.length → (r.tasks.getD i default).length = 1 ∧ 0 ≤ tk r i ∧ tk r i ≤ 4096 := by
  unfold fitsR at h
  rw [Bool.and_eq_true, decide_eq_true_eq] at h
  refine ⟨h.2, fun i hi => ?_⟩
  have h1 := h.1
  unfold nextAt at h1
  rw [Option.isNone_iff_eq_none, List.find?_range'_eq_none] at h1
  have := h1 i (Nat.zero_le _) (by omega)
  simp only [Bool.not_eq_true', Bool.not_eq_false', Bool.not_eq_false, Bool.not_not] at this
  unfold tOk at this
  simp only [Bool.and_eq_true, decide_eq_true_eq] at this
  exact this
@[reducible] def UO (o : Ar) (p : Prof) (dl : List Rd) (rm : Bool) (rx ry : List Nat) (wm : Bool) (wx wy : List Nat) (r : Res) : List OX := [.var (AX o p dl rm rx ry wm wx wy) 158, .var [.ro (SL o Gt.X r.gr), .ro (SL o IV.X r.tasks), .ro (SL o PV.X r.left)] 80]
theorem x_under1 (o : Ar) (ho : o = Ar.real) (p : Prof) (hp : ProfOk p) (r : Res) (h1 : (oneR p).2 = true) (h2 : fitsR p r = true) (i : Nat) (hi : i < p.wants.length) :
    XC Try.prog 91 [xn i, .ptr (.out 0) 0, .ptr (.out 1) 0] (UO o p ((oneR p).1.dl.map Rt.rd) (oneR p).1.rest.m (wd (oneR p).1.rest.n) (wd (oneR p).1.rest.d) (oneR p).1.ws.m (wd (oneR p).1.ws.n) (wd (oneR p).1.ws.d) r) (xb (underB p r i)) (UO o p ((oneR p).1.dl.map Rt.rd) (oneR p).1.rest.m (wd (oneR p).1.rest.n) (wd (oneR p).1.rest.d) (oneR p).1.ws.m (wd (oneR p).1.ws.n) (wd (oneR p).1.ws.d) r) := by
  obtain ⟨c1, c2, c3, c4⟩ := oneR_true h1
  obtain ⟨⟨f0, f1⟩, f2⟩ := checkR_fin c1
  obtain ⟨t1, t2⟩ := fitsR_at h2
  obtain ⟨t3, t4, t5⟩ := t2 i hi
  have hwi := f2 i hi
  have hk := oneTo_ok (p := p) (fun j hj => by have := (f2 j hj).2; omega) p.wants.length (Nat.le_refl _) c3
  have hoki := c3 i hi
  unfold oneOk at hoki
  rw [Bool.and_eq_true] at hoki
  have hd := oneRt_ok hoki.1
  have hat := oneTo_at p p.wants.length i hi
  have hdl : i < ((oneTo p p.wants.length).dl.map Rt.rd).length := by rw [List.length_map, oneTo_len]; exact hi
  have kt := whole_ok (n := (tk r i).toNat) (by omega)
  have kw := whole_ok (n := (p.wants.getD i default).weight.toNat) (by omega)
  have hW1 := x_whole (tk r i).toNat (by omega)
  rw [show (((tk r i).toNat : Nat) : Int) = tk r i by omega] at hW1
  have hW2 := x_whole (p.wants.getD i default).weight.toNat (by omega)
  rw [show (((p.wants.getD i default).weight.toNat : Nat) : Int) = (p.wants.getD i default).weight by omega] at hW2
  have hM1 := x_rmul _ _ _ _ hd kt (by omega)
  have hM2 := x_rmul _ _ _ _ (hd.mul kt) hk.2 (by omega)
  have hM3 := x_rmul _ _ _ _ hk.1 kw (by omega)
  have hAb := x_above _ _ _ _ ((hd.mul kt).mul hk.2) (hk.1.mul kw) (by omega)
  have e1 : (undA p r i).above (undC p i) = (((oneRt p i).mul (Rt.whole (tk r i).toNat)).mul (oneTo p p.wants.length).ws).above ((oneTo p p.wants.length).rest.mul (Rt.whole (p.wants.getD i default).weight.toNat)) := rfl
  unfold underB
  rw [e1, c4]
  clear e1 hd hk kt kw c3
  generalize (((oneRt p i).mul (Rt.whole (tk r i).toNat)).mul (oneTo p p.wants.length).ws).above ((oneTo p p.wants.length).rest.mul (Rt.whole (p.wants.getD i default).weight.toNat)) = bb at *
  generalize (((oneRt p i).mul (Rt.whole (tk r i).toNat)).mul (oneTo p p.wants.length).ws) = r3 at *
  generalize ((oneRt p i).mul (Rt.whole (tk r i).toNat)) = r2 at *
  generalize ((oneTo p p.wants.length).rest.mul (Rt.whole (p.wants.getD i default).weight.toNat)) = r5 at *
  generalize Rt.whole (tk r i).toNat = r1 at *
  generalize Rt.whole (p.wants.getD i default).weight.toNat = r4 at *
  generalize (oneTo p p.wants.length).dl.map Rt.rd = dr at *
  unfold Rt.rd at hat
  generalize oneRt p i = r0 at *
  generalize (oneTo p p.wants.length).rest = rr at *
  generalize (oneTo p p.wants.length).ws = wr at *
  obtain ⟨rm, rn, rd⟩ := rr
  obtain ⟨wm, wn, wdd⟩ := wr
  obtain ⟨m0, n0, d0⟩ := r0
  obtain ⟨m1, n1, d1⟩ := r1
  obtain ⟨m2, n2, d2⟩ := r2
  obtain ⟨m3, n3, d3⟩ := r3
  obtain ⟨m4, n4, d4⟩ := r4
  obtain ⟨m5, n5, d5⟩ := r5
  unfold Rt.X at *
  dsimp only at *
  generalize wd rn = rx at *
  generalize wd rd = ry at *
  generalize wd wn = wx at *
  generalize wd wdd = wy at *
  generalize wd n0 = x0 at *
  generalize wd d0 = y0 at *
  generalize wd n1 = x1 at *
  generalize wd d1 = y1 at *
  generalize wd n2 = x2 at *
  generalize wd d2 = y2 at *
  generalize wd n3 = x3 at *
  generalize wd d3 = y3 at *
  generalize wd n4 = x4 at *
  generalize wd d4 = y4 at *
  generalize wd n5 = x5 at *
  generalize wd d5 = y5 at *
  obtain ⟨gr, tasks, left⟩ := r
  obtain ⟨ags, wants, lo⟩ := p
  obtain ⟨loa, lob, loc, lod⟩ := lo
  obtain ⟨pa, pw, hla, hwa⟩ := hp
  unfold tk at *
  dsimp only at *
  (refine XC.of_body ([(1, [(0, 12), (1, 12), (3, 12), (4, 12), (12, 14), (13, 14), (12, 15), (13, 15), (0, 17), (1, 17), (3, 17), (4, 17), (5, 17), (6, 17), (8, 17), (9, 17), (10, 17), (11, 17), (12, 17), (13, 17), (14, 17), (15, 17), (16, 17)]), (2, [(0, 10), (1, 10), (2, 10), (0, 11)])]) Try.func91 rfl Try.ntmps91 mixed (T := [(2, ti2), (4, ti4), (31, ti31), (34, ti34), (42, ti42), (52, ti52), (57, ti57), (75, ti75), (77, ti77), (78, ti78), (80, ti80), (132, ti132), (142, ti142), (144, ti144), (156, ti156), (158, ti158)]) (.cons tok2 (.cons tok4 (.cons tok31 (.cons tok34 (.cons tok42 (.cons tok52 (.cons tok57 (.cons tok75 (.cons tok77 (.cons tok78 (.cons tok80 (.cons tok132 (.cons tok142 (.cons tok144 (.cons tok156 (.cons tok158 .nil)))))))))))))))) (by kernel_rfl) (by simp) rfl rfl rfl rfl rfl ?_; rintro o2 ho2 P hP c K hK; have hm : P.follows .mixedOrders = true := hP ▸ mixed; have hT : TOk P [(2, ti2), (4, ti4), (31, ti31), (34, ti34), (42, ti42), (52, ti52), (57, ti57), (75, ti75), (77, ti77), (78, ti78), (80, ti80), (132, ti132), (142, ti142), (144, ti144), (156, ti156), (158, ti158)] := hP ▸ (.cons tok2 (.cons tok4 (.cons tok31 (.cons tok34 (.cons tok42 (.cons tok52 (.cons tok57 (.cons tok75 (.cons tok77 (.cons tok78 (.cons tok80 (.cons tok132 (.cons tok142 (.cons tok144 (.cons tok156 (.cons tok158 .nil)))))))))))))))); (try rw [← ho2]); have e2 : o = o2 := ho.trans ho2.symm; subst e2; cbv; (repeat (refine StopN.mk ?_; cbv)))
  have en : o.nth dr i = ⟨m0, x0, y0⟩ := by rw [ho, real_nth]; exact hat
  have en2 : o.nth (o.nth tasks i) 0 = (tasks.getD i default).getD 0 0 := by rw [ho, real_nth, real_nth]; rfl
  have en3 : o.nth wants i = wants.getD i default := by rw [ho, real_nth]
  rw [show m0 = (o.nth dr i).m by rw [en], show x0 = (o.nth dr i).x by rw [en], show y0 = (o.nth dr i).y by rw [en], ← ho] at hM1
  rw [← en2, ← ho] at hW1
  rw [← en3, ← ho] at hW2
  rw [← ho] at hM2 hM3 hAb
  repeat' (first | (refine Br.mk (fun hb => ?_) (fun hb => ?_) <;> ((try rw [ho] at hb); (try dsimp only [Ar.real, IX.vo] at hb); (try simp only [QN12] at hb); (try simp only [QBo, beq_iff_eq, beq_eq_false_iff_ne, ne_eq] at hb))) | (refine StopN.mk ?_; cbv) | (first | refine CallN.pure hP hW1 fn77 rfl rfl rfl ?_ | refine CallN.pure hP hW2 fn77 rfl rfl rfl ?_ | refine CallN.pure hP hM1 fn92 rfl rfl rfl ?_ | refine CallN.pure hP hM2 fn92 rfl rfl rfl ?_ | refine CallN.pure hP hM3 fn92 rfl rfl rfl ?_ | refine CallN.pure hP hAb fn93 rfl rfl rfl ?_); cbv | (refine hK _ _ ?_) | (refine NeedT.mk ?_ ?_))
  · ((try clear hR3); (try clear hR2); (try clear hR); (try clear hK); (try simp only [ncCast] at *); (try simp only [castI_eq] at *); (try rw [ho]); (try dsimp only [Ar.real, IX.vo, IX.val, BX.val, IX.toN]); (try simp only [QN12]); (try simp only [decide_eq_true_eq]); (all_goals (repeat rw [wrap_i64 (by omega) (by omega)])); (all_goals (first | omega | (simp only [Int.ofNat_eq_natCast]; omega))))
  · ((try clear hR3); (try clear hR2); (try clear hR); (try clear hK); (try simp only [ncCast] at *); (try simp only [castI_eq] at *); (try rw [ho]); (try dsimp only [Ar.real, IX.vo, IX.val, BX.val, IX.toN]); (try simp only [QN12]); (try simp only [decide_eq_true_eq]); (all_goals (repeat rw [wrap_i64 (by omega) (by omega)])); (all_goals (first | omega | (simp only [Int.ofNat_eq_natCast]; omega))))
  · have t6 : (tasks.getD i default).length = 1 := t3
    rw [ho]
    show decide ((0 : Int) ≤ 0 ∧ (0 : Int) < ((tasks.getD i default).length : Int)) = true
    rw [t6]
    rfl
  · ((try clear hR3); (try clear hR2); (try clear hR); (try clear hK); (try simp only [ncCast] at *); (try simp only [castI_eq] at *); (try rw [ho]); (try dsimp only [Ar.real, IX.vo, IX.val, BX.val, IX.toN]); (try simp only [QN12]); (try simp only [decide_eq_true_eq]); (all_goals (repeat rw [wrap_i64 (by omega) (by omega)])); (all_goals (first | omega | (simp only [Int.ofNat_eq_natCast]; omega))))
  · exact FinX_bOr (by rw [ho]; rfl) rfl
def undTo (p : Prof) (r : Res) : Nat → List Int
  | 0 => []
  | i + 1 => if underB p r i = true then undTo p r i ++ [(i : Int)] else undTo p r i
def undR (p : Prof) (r : Res) : List Int := if (oneR p).2 = true ∧ fitsR p r = true then undTo p r p.wants.length else []
theorem undTo_len (p : Prof) (r : Res) : ∀ i, (undTo p r i).length ≤ i
  | 0 => by simp [undTo]
  | i + 1 => by
    have := undTo_len p r i
    simp only [undTo]
    split
    · simp; omega
    · omega
theorem x_Under (p : Prof) (hp : ProfOk p) (hwb : ∀ i, i64B (p.wants.getD i default).weight) (r : Res) (hr : r.tasks.length ≤ 1048576) (hrt : ∀ i, (r.tasks.getD i default).length ≤ 1048576) : XC Try.prog 39 [.agg (Prof.X Ar.real p), .agg (Res.X Ar.real r)] [] (.ro (SL Ar.real encI (undR p r))) [] := by
  have hO := x_one p hp hwb
  have hF := fun dl rm rx ry wm wx wy => x_rfits p hp r hr hrt dl rm rx ry wm wx wy
  have hU := fun (o : Ar) (ho : o = Ar.real) h1 h2 i hi => x_under1 o ho p hp r h1 h2 i hi
  have hn := p.wants.length
  have h32 : (oneR p).2 = true → p.wants.length ≤ 32 := fun h => (checkR_fin (oneR_true h).1).1.2
  have q0 : (oneR p).2 = false → undR p r = [] := fun h => if_neg (by rw [h]; simp)
  have q1 : fitsR p r = false → undR p r = [] := fun h => if_neg (by rw [h]; simp)
  have q2 : (oneR p).2 = true → fitsR p r = true → undR p r = undTo p r p.wants.length := fun h h' => if_pos ⟨h, h'⟩
  have hM0 : undTo p r 0 = [] := rfl
  have hM1 : ∀ i, undTo p r (i + 1) = if underB p r i = true then undTo p r i ++ [(i : Int)] else undTo p r i := fun _ => rfl
  have hMl := undTo_len p r
  generalize undR p r = res at *
  generalize undTo p r = M at *
  generalize fitsR p r = fr at *
  generalize underB p r = uB at *
  generalize oneR p = oo at *
  obtain ⟨⟨dl, rest, ws⟩, ok⟩ := oo
  obtain ⟨rm, rn, rd⟩ := rest
  obtain ⟨wm, wn, wdd⟩ := ws
  dsimp only at *
  generalize wd rn = rx at *
  generalize wd rd = ry at *
  generalize wd wn = wx at *
  generalize wd wdd = wy at *
  generalize dl.map Rt.rd = dr at *
  have hF1 := hF dr rm rx ry wm wx wy
  clear hF
  obtain ⟨gr, tasks, left⟩ := r
  obtain ⟨ags, wants, lo⟩ := p
  obtain ⟨loa, lob, loc, lod⟩ := lo
  obtain ⟨pa, pw, hla, hwa⟩ := hp
  dsimp only at *
  (refine XC.of_body ([]) Try.func39 rfl Try.ntmps39 mixed (T := [(3, ti3), (4, ti4), (42, ti42), (43, ti43), (52, ti52), (57, ti57), (75, ti75), (77, ti77), (78, ti78), (80, ti80), (132, ti132), (144, ti144), (156, ti156), (158, ti158)]) (.cons tok3 (.cons tok4 (.cons tok42 (.cons tok43 (.cons tok52 (.cons tok57 (.cons tok75 (.cons tok77 (.cons tok78 (.cons tok80 (.cons tok132 (.cons tok144 (.cons tok156 (.cons tok158 .nil)))))))))))))) (by kernel_rfl) (by simp) rfl rfl rfl rfl rfl ?_; rintro o ho P hP c K hK; have hm : P.follows .mixedOrders = true := hP ▸ mixed; have hT : TOk P [(3, ti3), (4, ti4), (42, ti42), (43, ti43), (52, ti52), (57, ti57), (75, ti75), (77, ti77), (78, ti78), (80, ti80), (132, ti132), (144, ti144), (156, ti156), (158, ti158)] := hP ▸ (.cons tok3 (.cons tok4 (.cons tok42 (.cons tok43 (.cons tok52 (.cons tok57 (.cons tok75 (.cons tok77 (.cons tok78 (.cons tok80 (.cons tok132 (.cons tok144 (.cons tok156 (.cons tok158 .nil)))))))))))))); (try rw [← ho]); cbv; (repeat (refine StopN.mk ?_; cbv)))
  have hU1 := fun h1 h2 i hi => hU o ho h1 h2 i hi
  clear hU
  rw [← ho] at hO hF1
  repeat' (first | (refine Br.mk (fun hb => ?_) (fun hb => ?_) <;> ((try rw [ho] at hb); (try dsimp only [Ar.real, IX.vo] at hb); (try simp only [QN12] at hb); (try simp only [QBo, beq_iff_eq, beq_eq_false_iff_ne, ne_eq] at hb))) | (refine StopN.mk ?_; cbv) | (first | refine CallI.pure hP hO fn89 rfl rfl rfl ?_ | refine CallI.pure hP hF1 fn90 rfl rfl rfl ?_ | refine CallN.pure hP hF1 fn90 rfl rfl rfl ?_); cbv | (refine hK _ _ ?_) | (refine NeedT.mk ?_ ?_))
  · rw [q0 hb]
    exact .ro (rows_nil_SL Ar.real rfl encI)
  · rw [q1 hb]
    exact .ro (rows_nil_SL Ar.real rfl encI)
  have q3 := q2 (by assumption) (by assumption)
  have hU2 := hU1 (by assumption) (by assumption)
  have h32 := h32 (by assumption)
  clear q0 q1 q2 hU1
  refine LoopN.ghost 8 3 1 rfl ?_
  refine LoopN.over (o := o) (D := []) ho hm hT (by kernel_rfl) (fun s : StX => [(28, xn s.i), (8, .own (.loc 3) s.rv)]) (fun s => [(3, .row s.rv 3 1 (SL o encI s.out))]) (fun _ => []) (fun s => s.i ≤ wants.length ∧ s.out = M s.i) (fun s => wants.length - s.i) ⟨0, 0, []⟩ ⟨Nat.zero_le _, hM0.symm⟩ ?_ ?_
  · refine ⟨(by cbv), by cbv; repeat' (first | trivial | exact EqX.rfl' | exact EqO.rfl' | apply And.intro | ((try clear hR3); (try clear hR2); (try clear hR); (try clear hK); (try simp only [ncCast] at *); (try simp only [castI_eq] at *); refine EqX.i ?_; (try rw [ho]); (try dsimp only [Ar.real, IX.vo, IX.val, BX.val, IX.toN]); (try simp only [QN12]); (repeat rw [wrap_i64 (by omega) (by omega)]); omega) | exact EqO.row rfl (rows_nil_SL o ho encI)), by cbv; repeat' (first | trivial | exact EqO.rfl' | apply And.intro | exact EqO.row rfl (rows_nil_SL o ho encI)), by cbv; repeat' (first | trivial | exact EqO.rfl' | apply And.intro | exact EqO.row rfl (rows_nil_SL o ho encI))⟩
  · rintro ⟨i, rv, out⟩ ⟨hi, hout⟩ R hR
    dsimp only at hi hout
    have hUi := hU2 i
    have e1 := hM1 i
    have hol := hMl i
    rw [← hout] at e1 hol
    obtain ⟨out', hout'⟩ : ∃ q, q = M (i + 1) := ⟨_, rfl⟩
    rw [← hout'] at e1
    generalize uB i = b at *
    cbv
    repeat' (first | (refine Br.mk (fun hb => ?_) (fun hb => ?_) <;> ((try rw [ho] at hb); (try dsimp only [Ar.real, IX.vo] at hb); (try simp only [QN12] at hb); (try simp only [QBo, beq_iff_eq, beq_eq_false_iff_ne, ne_eq] at hb))) | (refine StopN.mk ?_; cbv) | (first | refine CallI.objs [.loc 2, .loc 1] hP (hUi ‹_›) fn91 rfl rfl rfl rfl (by rfl) rfl rfl rfl rfl (by rfl) ⟨⟨_, rfl, rfl⟩, ⟨_, rfl, rfl⟩, trivial⟩ ?_); cbv | (refine hK _ _ ?_) | (refine NeedT.mk ?_ ?_))
    any_goals (((try clear hR3); (try clear hR2); (try clear hR); (try clear hK); (try simp only [ncCast] at *); (try simp only [castI_eq] at *); (try rw [ho]); (try dsimp only [Ar.real, IX.vo, IX.val, BX.val, IX.toN]); (try simp only [QN12]); (try simp only [decide_eq_true_eq]); (all_goals (repeat rw [wrap_i64 (by omega) (by omega)])); (all_goals (first | omega | (simp only [Int.ofNat_eq_natCast]; omega)))); done)
    · have e2 := e1.trans (if_pos (by assumption))
      refine hR _ ⟨i + 1, rv + 1, out'⟩ (by dsimp only; omega) ⟨by dsimp only; omega, hout'⟩ ?_
      refine ⟨(by cbv), by cbv; repeat' (first | trivial | exact EqX.rfl' | exact EqO.rfl' | apply And.intro | ((try clear hR3); (try clear hR2); (try clear hR); (try clear hK); (try simp only [ncCast] at *); (try simp only [castI_eq] at *); refine EqX.i ?_; (try rw [ho]); (try dsimp only [Ar.real, IX.vo, IX.val, BX.val, IX.toN]); (try simp only [QN12]); (repeat rw [wrap_i64 (by omega) (by omega)]); omega) | exact EqO.snoc ho encI _ _ _ _ rfl e2 rfl), by cbv; repeat' (first | trivial | exact EqO.rfl' | apply And.intro | exact EqO.snoc ho encI _ _ _ _ rfl e2 rfl), by cbv; repeat' (first | trivial | exact EqO.rfl' | apply And.intro | exact EqO.snoc ho encI _ _ _ _ rfl e2 rfl)⟩
    · have e2 := e1.trans (if_neg (by rw [‹b = false›]; decide))
      refine hR _ ⟨i + 1, rv, out'⟩ (by dsimp only; omega) ⟨by dsimp only; omega, hout'⟩ ?_
      subst e2
      refine ⟨(by cbv), by cbv; repeat' (first | trivial | exact EqX.rfl' | exact EqO.rfl' | apply And.intro | ((try clear hR3); (try clear hR2); (try clear hR); (try clear hK); (try simp only [ncCast] at *); (try simp only [castI_eq] at *); refine EqX.i ?_; (try rw [ho]); (try dsimp only [Ar.real, IX.vo, IX.val, BX.val, IX.toN]); (try simp only [QN12]); (repeat rw [wrap_i64 (by omega) (by omega)]); omega)), by cbv; repeat' (first | trivial | exact EqO.rfl' | apply And.intro), by cbv; repeat' (first | trivial | exact EqO.rfl' | apply And.intro)⟩
    · obtain rfl : i = wants.length := by ((try clear hR3); (try clear hR2); (try clear hR); (try clear hK); (try simp only [ncCast] at *); (try simp only [castI_eq] at *)); omega
      rw [← q3] at hout
      subst hout
      exact .ro (by rw [ho])
end Go.Proofs.Ytddgcegimmcbgaa.Sy
namespace Go.Proofs.Ytddgcegimmcbgaa.Sy
open Go Go.Sy Go.Proofs.Ytddgcegimmcbgaa
theorem low_scale (m : Bool) (n d k : Nat) (hk : 0 < k) : Rt.low ⟨m, n * k, d * k⟩ = Rt.low ⟨m, n, d⟩ := by
  unfold Rt.low
  dsimp only
  rw [Nat.gcd_mul_right, Nat.mul_div_mul_right _ _ hk, Nat.mul_div_mul_right _ _ hk]
theorem by_gcd (n d : Nat) (hd : 0 < d) : ∃ a b g, 0 < g ∧ 0 < b ∧ n = a * g ∧ d = b * g ∧ n / Nat.gcd n d = a ∧ d / Nat.gcd n d = b := by
  have hg : 0 < Nat.gcd n d := Nat.gcd_pos_of_pos_right _ hd
  refine ⟨n / Nat.gcd n d, d / Nat.gcd n d, Nat.gcd n d, hg, Nat.div_pos (Nat.le_of_dvd hd (Nat.gcd_dvd_right _ _)) hg, (Nat.div_mul_cancel (Nat.gcd_dvd_left _ _)).symm, (Nat.div_mul_cancel (Nat.gcd_dvd_right _ _)).symm, rfl, rfl⟩
end Go.Proofs.Ytddgcegimmcbgaa.Sy
namespace Go.Proofs.Ytddgcegimmcbgaa.Sy
open Go Go.Sy Go.Proofs.Ytddgcegimmcbgaa
theorem x_res36' {P : Program} {f : FuncId} {args : List X} {O O' : List OX} {r r' : X} (h : XC P f args O r O') (hr : ∀ c, r.toD c = r'.toD c) : XC P f args O r' O' := by
  intro c h1 h2
  rw [← hr c]
  exact h c h1 h2
def wkA : List Part := [⟨0, 0, 9⟩, ⟨1, 0, 18⟩]
def wkB : List Want := [⟨1, [⟨0, 0, 1⟩, ⟨1, 0, 4⟩]⟩, ⟨1, [⟨0, 0, 3⟩, ⟨1, 0, 1⟩]⟩]
def wkP : Prof := ⟨[wkA], wkB, ⟨0, 0, 0, 0⟩⟩
def wkR : Res := ⟨[], [[1], [1]], []⟩
theorem getD_leP {α : Type} [Inhabited α] {l : List α} {Q : α → Prop} (h : ∀ x ∈ l, Q x) (hd : Q default) (k : Nat) : Q (l.getD k default) := by
  by_cases hk : k < l.length
  · rw [getD_el hk]
    exact h _ (List.getElem_mem hk)
  · rw [List.getD_eq_getElem?_getD, List.getElem?_eq_none (by omega)]
    exact hd
theorem wkP_ok : ProfOk wkP := ⟨by decide, by decide, getD_leP (Q := fun v : List Part => v.length ≤ 1048576) (l := [wkA]) (by decide) (by decide), getD_leP (Q := fun w : Want => w.need.length ≤ 1048576) (l := wkB) (by decide) (by decide)⟩
theorem wkP_w : ∀ i, i64B (wkP.wants.getD i default).weight := getD_leP (Q := fun w : Want => i64B w.weight) (l := wkB) (by unfold i64B; decide) (by unfold i64B; decide)
theorem wk_floor : floorT wkP 1 = (⟨2, 9⟩, true) := by decide +kernel
theorem wk_und : undR wkP wkR = [0] := by decide +kernel
theorem wk_sum : sumR [⟨1, 6⟩, ⟨1, 3⟩] = (⟨1, 2⟩, true) := by decide +kernel
theorem x_works36 : XC Try.prog 37 [] [] (xb true) [] := by
  have h1 : XC Try.prog 41 [.agg (Prof.X Ar.real wkP), xi 1] [] (.tup [.agg [.i .i64 (.lit 2), .i .i64 (.lit 9)], .b .t]) [] := x_res36' (x_Floor wkP wkP_ok wkP_w 1) fun c => by rw [wk_floor]; rfl
  have h2 : XC Try.prog 39 [.agg (Prof.X Ar.real wkP), .agg (Res.X Ar.real wkR)] [] (.ro (.lits [[.i .i64 (.lit 0)]])) [] := x_res36' (x_Under wkP wkP_ok wkP_w wkR (by decide) (getD_leP (Q := fun l : List Int => l.length ≤ 1048576) (l := [[1], [1]]) (by decide) (by decide))) fun c => by rw [wk_und]; rfl
  have h3 : XC Try.prog 31 [.ro (SL Ar.real Fr.X [⟨1, 6⟩, ⟨1, 3⟩])] [] (.tup [.agg [.i .i64 (.lit 1), .i .i64 (.lit 2)], .b .t]) [] := x_res36' (x_Sum [⟨1, 6⟩, ⟨1, 3⟩] (by decide) (getD_leP (Q := fun f : Fr => i64B f.num ∧ i64B f.den) (l := [⟨1, 6⟩, ⟨1, 3⟩]) (by unfold i64B; decide) (by unfold i64B; decide))) fun c => by rw [wk_sum]; rfl
  (refine XC.of_body ([]) Try.func37 rfl Try.ntmps37 mixed (T := [(2, ti2), (3, ti3), (31, ti31), (34, ti34), (42, ti42), (43, ti43), (52, ti52), (57, ti57), (60, ti60), (64, ti64), (75, ti75), (77, ti77), (78, ti78), (80, ti80), (123, ti123), (132, ti132)]) (.cons tok2 (.cons tok3 (.cons tok31 (.cons tok34 (.cons tok42 (.cons tok43 (.cons tok52 (.cons tok57 (.cons tok60 (.cons tok64 (.cons tok75 (.cons tok77 (.cons tok78 (.cons tok80 (.cons tok123 (.cons tok132 .nil)))))))))))))))) (by kernel_rfl) (by simp) rfl rfl rfl rfl rfl ?_; rintro o ho P hP c K hK; have hm : P.follows .mixedOrders = true := hP ▸ mixed; have hT : TOk P [(2, ti2), (3, ti3), (31, ti31), (34, ti34), (42, ti42), (43, ti43), (52, ti52), (57, ti57), (60, ti60), (64, ti64), (75, ti75), (77, ti77), (78, ti78), (80, ti80), (123, ti123), (132, ti132)] := hP ▸ (.cons tok2 (.cons tok3 (.cons tok31 (.cons tok34 (.cons tok42 (.cons tok43 (.cons tok52 (.cons tok57 (.cons tok60 (.cons tok64 (.cons tok75 (.cons tok77 (.cons tok78 (.cons tok80 (.cons tok123 (.cons tok132 .nil)))))))))))))))); (try rw [← ho]); cbv; (repeat (refine StopN.mk ?_; cbv)))
  repeat' (first | (refine NeedT.mk (by rw [ho]; rfl) ?_) | (refine StopN.mk ?_; cbv) | (first | refine CallI.pure hP h1 fn41 rfl rfl (by rfl) ?_ | refine CallI.pure hP h2 fn39 rfl rfl (by rfl) ?_ | refine CallI.pure hP h3 fn31 rfl rfl (by rfl) ?_); cbv)
  exact hK _ _ (.b rfl)
end Go.Proofs.Ytddgcegimmcbgaa.Sy

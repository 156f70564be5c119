/-
  Vectors, in Lean alone: sums slot by slot, as the document says, are those side by side. Plain theorems.
-/
import Derived.Test.YtlblpbahoblihaaGreatMf
set_option linter.unusedSectionVars false
set_option maxRecDepth 100000
set_option maxHeartbeats 8000000
set_option linter.unusedVariables false
set_option linter.unusedSimpArgs false
namespace Go.Proofs.YtlblpbahoblihaaGreat.Sy
open Go Go.Sy Go.Proofs.YtlblpbahoblihaaGreat
theorem VOk.ext : ∀ {u v : List Part}, VOk u → VOk v → (∀ k r, lk u k r = lk v k r) → u = v
  | [], [], _, _, _ => rfl
  | [], y :: v, _, hv, h => by
    have h1 := h y.kind y.role
    have h2 := (hv.ok y (by simp)).a0
    simp only [lk, and_self, if_true] at h1
    omega
  | x :: u, [], hu, _, h => by
    have h1 := h x.kind x.role
    have h2 := (hu.ok x (by simp)).a0
    simp only [lk, and_self, if_true] at h1
    omega
  | x :: u, y :: v, hu, hv, h => by
    have hx := hu.ok x (by simp)
    have hy := hv.ok y (by simp)
    have hxu := (List.pairwise_cons.1 hu.up).1
    have hyv := (List.pairwise_cons.1 hv.up).1
    have nx : ∀ k r, ¬ (x.kind = k ∧ x.role = r) → k < x.kind ∨ (k = x.kind ∧ r < x.role) → lk (x :: u) k r = 0 := fun k r hn hlt => by
      refine lk_no _ fun p hp hs => ?_
      rcases List.mem_cons.1 hp with rfl | hp
      · exact hn hs
      · have := hxu p hp
        unfold sl at this
        omega
    have ny : ∀ k r, ¬ (y.kind = k ∧ y.role = r) → k < y.kind ∨ (k = y.kind ∧ r < y.role) → lk (y :: v) k r = 0 := fun k r hn hlt => by
      refine lk_no _ fun p hp hs => ?_
      rcases List.mem_cons.1 hp with rfl | hp
      · exact hn hs
      · have := hyv p hp
        unfold sl at this
        omega
    have kx : lk (x :: u) x.kind x.role = x.amount := if_pos ⟨rfl, rfl⟩
    have ky : lk (y :: v) y.kind y.role = y.amount := if_pos ⟨rfl, rfl⟩
    have hs : x.kind = y.kind ∧ x.role = y.role := by
      apply Classical.byContradiction
      intro hn
      have a1 := h x.kind x.role
      have a2 := h y.kind y.role
      have b1 := hx.a0
      have b2 := hy.a0
      by_cases hlt : x.kind < y.kind ∨ (x.kind = y.kind ∧ x.role < y.role)
      · rw [kx, ny _ _ (by omega) (by omega)] at a1
        omega
      · rw [ky, nx _ _ (by omega) (by omega)] at a2
        omega
    have ha : x.amount = y.amount := by
      have a1 := h x.kind x.role
      rw [kx, hs.1, hs.2, ky] at a1
      exact a1
    have hxy : x = y := by
      obtain ⟨k, r, a⟩ := x
      obtain ⟨k', r', a'⟩ := y
      dsimp only at hs ha
      rw [hs.1, hs.2, ha]
    subst hxy
    have htl : u = v := VOk.ext hu.tail hv.tail fun k r => by
      by_cases e : x.kind = k ∧ x.role = r
      · rw [lk_no u (fun p hp hs => by have := hxu p hp; unfold sl at this; omega), lk_no v (fun p hp hs => by have := hyv p hp; unfold sl at this; omega)]
      · have := h k r
        rwa [lk_cons_ne e, lk_cons_ne e] at this
    rw [htl]
theorem mrg_lk : ∀ us vs : List Part, VOk us → VOk vs → (∀ l, mrg us vs = some l → ∀ k r, lk l k r = lk us k r + lk vs k r) ∧ (mrg us vs = none → ∃ k r, 9007199254740992 < lk us k r + lk vs k r)
  | [], vs, hu, hv => by
    rw [mrg]
    exact ⟨fun l h k r => by cases h; simp [lk], fun h => by cases h⟩
  | x :: us, [], hu, hv => by
    rw [mrg]
    exact ⟨fun l h k r => by cases h; simp [lk], fun h => by cases h⟩
  | x :: us, y :: vs, hu, hv => by
    have hxu := (List.pairwise_cons.1 hu.up).1
    have hyv := (List.pairwise_cons.1 hv.up).1
    rw [mrg]
    split
    · rename_i h1
      rw [slotCmp_lt] at h1
      obtain ⟨i1, i2⟩ := mrg_lk us (y :: vs) hu.tail hv
      have e0 : ∀ p ∈ y :: vs, ¬ (p.kind = x.kind ∧ p.role = x.role) := fun p hp hs => by
        rcases List.mem_cons.1 hp with rfl | hp
        · unfold sl at h1; omega
        · have := hyv p hp; unfold sl at h1 this; omega
      have e1 := lk_no _ e0
      have e2 : lk us x.kind x.role = 0 := lk_no _ fun p hp hs => by have := hxu p hp; unfold sl at this; omega
      refine ⟨fun l h k r => ?_, fun h => ?_⟩
      · cases hm : mrg us (y :: vs) with
        | none => rw [hm] at h; cases h
        | some m =>
          rw [hm] at h
          cases h
          have := i1 m hm k r
          by_cases e : x.kind = k ∧ x.role = r
          · obtain ⟨rfl, rfl⟩ := e
            rw [e1]
            simp [lk]
          · rw [lk_cons_ne e, lk_cons_ne e, this]
      · cases hm : mrg us (y :: vs) with
        | some m => rw [hm] at h; cases h
        | none =>
          obtain ⟨k, r, hkr⟩ := i2 hm
          refine ⟨k, r, ?_⟩
          by_cases e : x.kind = k ∧ x.role = r
          · obtain ⟨rfl, rfl⟩ := e
            rw [e1, e2] at hkr
            omega
          · rwa [lk_cons_ne e]
    · rename_i h1
      split
      · rename_i h2
        rw [slotCmp_gt] at h2
        obtain ⟨i1, i2⟩ := mrg_lk (x :: us) vs hu hv.tail
        have e0 : ∀ p ∈ x :: us, ¬ (p.kind = y.kind ∧ p.role = y.role) := fun p hp hs => by
          rcases List.mem_cons.1 hp with rfl | hp
          · unfold sl at h2; omega
          · have := hxu p hp; unfold sl at h2 this; omega
        have e1 := lk_no _ e0
        have e2 : lk vs y.kind y.role = 0 := lk_no _ fun p hp hs => by have := hyv p hp; unfold sl at this; omega
        refine ⟨fun l h k r => ?_, fun h => ?_⟩
        · cases hm : mrg (x :: us) vs with
          | none => rw [hm] at h; cases h
          | some m =>
            rw [hm] at h
            cases h
            have := i1 m hm k r
            by_cases e : y.kind = k ∧ y.role = r
            · obtain ⟨rfl, rfl⟩ := e
              rw [e1]
              simp [lk]
            · rw [lk_cons_ne e, this, lk_cons_ne (ys := vs) e]
        · cases hm : mrg (x :: us) vs with
          | some m => rw [hm] at h; cases h
          | none =>
            obtain ⟨k, r, hkr⟩ := i2 hm
            refine ⟨k, r, ?_⟩
            by_cases e : y.kind = k ∧ y.role = r
            · obtain ⟨rfl, rfl⟩ := e
              rw [e1, e2] at hkr
              omega
            · rwa [lk_cons_ne (ys := vs) e]
      · rename_i h2
        obtain ⟨c1, c2⟩ := slotCmp_eq h1 h2
        obtain ⟨i1, i2⟩ := mrg_lk us vs hu.tail hv.tail
        have e1 : lk us x.kind x.role = 0 := lk_no _ fun p hp hs => by have := hxu p hp; unfold sl at this; omega
        have e2 : lk vs x.kind x.role = 0 := lk_no _ fun p hp hs => by have := hyv p hp; unfold sl at this; omega
        split
        · rename_i h3
          obtain ⟨_, a4⟩ := qAdd_iff h3
          rw [a4]
          refine ⟨fun l h k r => ?_, fun h => ?_⟩
          · cases hm : mrg us vs with
            | none => rw [hm] at h; cases h
            | some m =>
              rw [hm] at h
              cases h
              have := i1 m hm k r
              by_cases e : x.kind = k ∧ x.role = r
              · obtain ⟨rfl, rfl⟩ := e
                simp only [lk, and_self, if_true]
                rw [if_pos ⟨c1.symm, c2.symm⟩]
              · rw [lk_cons_ne (y := ⟨x.kind, x.role, x.amount + y.amount⟩) e, this, lk_cons_ne e, lk_cons_ne (y := y) (by omega)]
          · cases hm : mrg us vs with
            | some m => rw [hm] at h; cases h
            | none =>
              obtain ⟨k, r, hkr⟩ := i2 hm
              refine ⟨k, r, ?_⟩
              by_cases e : x.kind = k ∧ x.role = r
              · obtain ⟨rfl, rfl⟩ := e
                rw [e1, e2] at hkr
                omega
              · rwa [lk_cons_ne e, lk_cons_ne (y := y) (by omega)]
        · rename_i h3
          refine ⟨fun l h => (by cases h), fun _ => ⟨x.kind, x.role, ?_⟩⟩
          have hx := hu.ok x (by simp)
          have hy := hv.ok y (by simp)
          have b1 := hx.a0
          have b2 := hy.a0
          have b3 := hx.a1
          have b4 := hy.a1
          simp only [lk, and_self, if_true]
          rw [if_pos ⟨c1.symm, c2.symm⟩]
          apply Classical.byContradiction
          intro hn
          apply h3
          unfold qAdd
          rw [if_pos (by omega)]
termination_by us vs => us.length + vs.length
def amts (l : List Part) (k r : Int) : List Int := (l.filter fun p => decide (p.kind = k) && decide (p.role = r)).map (·.amount)
theorem amts_app (a b : List Part) (k r : Int) : amts (a ++ b) k r = amts a k r ++ amts b k r := by
  unfold amts
  rw [List.filter_append, List.map_append]
theorem amts_no {k r : Int} {a : List Part} (h : ∀ p ∈ a, ¬ (p.kind = k ∧ p.role = r)) : amts a k r = [] := by
  unfold amts
  rw [List.map_eq_nil_iff, List.filter_eq_nil_iff]
  intro p hp h2
  rw [Bool.and_eq_true, decide_eq_true_eq, decide_eq_true_eq] at h2
  exact h p hp h2
theorem amts_ok {k r : Int} : ∀ {a : List Part}, VOk a → amts a k r = if lk a k r = 0 then [] else [lk a k r]
  | [], _ => rfl
  | x :: a, h => by
    have hx := h.ok x (by simp)
    have hxa := (List.pairwise_cons.1 h.up).1
    have b1 := hx.a0
    by_cases e : x.kind = k ∧ x.role = r
    · have h0 : amts a k r = [] := amts_no fun p hp hs => by have := hxa p hp; unfold sl at this; omega
      have h1 : lk (x :: a) k r = x.amount := if_pos e
      rw [h1, if_neg (by omega)]
      have h2 : amts (x :: a) k r = x.amount :: amts a k r := by
        unfold amts
        rw [List.filter_cons_of_pos (by rw [decide_eq_true e.1, decide_eq_true e.2]; rfl), List.map_cons]
      rw [h2, h0]
    · have h1 : lk (x :: a) k r = lk a k r := if_neg e
      have h2 : amts (x :: a) k r = amts a k r := by
        unfold amts
        rw [List.filter_cons_of_neg]
        rw [Bool.and_eq_true, decide_eq_true_eq, decide_eq_true_eq]
        exact e
      rw [h1, h2, amts_ok h.tail]
noncomputable def rOfS (l : List Part) (n : Nat) : Int × Bool := rSum 9007199254740992 (amts l (slotN n).1 (slotN n).2)
theorem rOfS_eq {a b : List Part} (ha : VOk a) (hb : VOk b) (n : Nat) : rOfS (a ++ b) n = if lk a (slotN n).1 (slotN n).2 + lk b (slotN n).1 (slotN n).2 ≤ 9007199254740992 then (lk a (slotN n).1 (slotN n).2 + lk b (slotN n).1 (slotN n).2, true) else (0, false) := by
  unfold rOfS
  rw [amts_app, amts_ok ha, amts_ok hb]
  have h1 := lk_bd ha.ok (slotN n).1 (slotN n).2
  have h2 := lk_bd hb.ok (slotN n).1 (slotN n).2
  generalize lk a (slotN n).1 (slotN n).2 = x at *
  generalize lk b (slotN n).1 (slotN n).2 = y at *
  by_cases hx : x = 0
  · by_cases hy : y = 0
    · rw [if_pos hx, if_pos hy, if_pos (by omega)]
      refine (if_pos ⟨by decide, fun i hi => absurd hi (Nat.not_lt_zero _)⟩).trans ?_
      subst hx hy
      rfl
    · rw [if_pos hx, if_neg hy, if_pos (by omega)]
      have h3 : rSumOk 9007199254740992 ([] ++ [y]) := ⟨by decide, fun i hi => by
        match i, hi with
        | 0, _ => exact ⟨h2.1, h2.2⟩⟩
      refine (if_pos h3).trans ?_
      show (9007199254740992 - (9007199254740992 - y), true) = _
      rw [show (9007199254740992 - (9007199254740992 - y)) = x + y by omega]
  · by_cases hy : y = 0
    · rw [if_neg hx, if_pos hy, if_pos (by omega)]
      have h3 : rSumOk 9007199254740992 ([x] ++ []) := ⟨by decide, fun i hi => by
        match i, hi with
        | 0, _ => exact ⟨h1.1, h1.2⟩⟩
      refine (if_pos h3).trans ?_
      show (9007199254740992 - (9007199254740992 - x), true) = _
      rw [show (9007199254740992 - (9007199254740992 - x)) = x + y by omega]
    · rw [if_neg hx, if_neg hy]
      by_cases hl : x + y ≤ 9007199254740992
      · rw [if_pos hl]
        have h3 : rSumOk 9007199254740992 ([x] ++ [y]) := ⟨by decide, fun i hi => by
          match i, hi with
          | 0, _ => exact ⟨h1.1, h1.2⟩
          | 1, _ => exact ⟨h2.1, by show y ≤ 9007199254740992 - x; omega⟩⟩
        refine (if_pos h3).trans ?_
        show (9007199254740992 - (9007199254740992 - x - y), true) = _
        rw [show (9007199254740992 - (9007199254740992 - x - y)) = x + y by omega]
      · rw [if_neg hl]
        refine if_neg fun h => ?_
        have h3 : y ≤ 9007199254740992 - x := (h.2 1 (show 1 < 2 by decide)).2
        omega
noncomputable def rOfTo (l : List Part) : Nat → List Part
  | 0 => []
  | n + 1 => rWith (rOfTo l n) (slotN n).1 (slotN n).2 (rOfS l n).1
def slR (p : Part) : Prop := (0 ≤ p.kind ∧ p.kind ≤ 3) ∧ 0 ≤ p.role ∧ p.role ≤ 32
open Classical in
noncomputable def rOf (l : List Part) : List Part × Bool := if (∀ p ∈ l, slR p) ∧ ∀ n, n < 132 → (rOfS l n).2 = true then (rOfTo l 132, true) else ([], false)
theorem rOfTo_len (l : List Part) : ∀ n, (rOfTo l n).length ≤ n
  | 0 => Nat.le_refl _
  | n + 1 => by
    have h1 := rOfTo_len l n
    have h2 := rWith_len (rOfTo l n) (slotN n).1 (slotN n).2 (rOfS l n).1
    simp only [rOfTo]
    omega
theorem slotN_inv {k r : Int} (hk : 0 ≤ k ∧ k < 4) (hr : 0 ≤ r ∧ r ≤ 32) : ∃ n, n < 132 ∧ (slotN n).1 = k ∧ (slotN n).2 = r := by
  obtain ⟨k', rfl⟩ : ∃ k' : Nat, k = k' := ⟨k.toNat, by omega⟩
  obtain ⟨r', rfl⟩ : ∃ r' : Nat, r = r' := ⟨r.toNat, by omega⟩
  refine ⟨33 * k' + r', by omega, ?_, ?_⟩
  · unfold slotN; dsimp only; omega
  · unfold slotN; dsimp only; omega
theorem lk_out {v : List Part} (h : VOk v) {k r : Int} (hn : ¬ ((0 ≤ k ∧ k < 4) ∧ 0 ≤ r ∧ r ≤ 32)) : lk v k r = 0 := lk_no v fun p hp hs => by
  have h9 := h.ok p hp
  have := h9.k0
  have := h9.k1
  have := h9.r0
  have := h9.r1
  omega
theorem lk_app {k r : Int} : ∀ (a b : List Part), (∀ p ∈ a, ¬ (p.kind = k ∧ p.role = r)) → lk (a ++ b) k r = lk b k r
  | [], _, _ => rfl
  | p :: a, b, h => by
    rw [List.cons_append, lk_cons_ne (h p (by simp))]
    exact lk_app a b fun q hq => h q (by simp [hq])
theorem lk_app' {k r : Int} : ∀ (a b : List Part), (∀ p ∈ b, ¬ (p.kind = k ∧ p.role = r)) → lk (a ++ b) k r = lk a k r
  | [], b, h => lk_no b h
  | p :: a, b, h => by
    rw [List.cons_append]
    simp only [lk]
    rw [lk_app' a b h]
theorem slotN_bd {n : Nat} (h : n < 132) : (0 ≤ (slotN n).1 ∧ (slotN n).1 < 4) ∧ (0 ≤ (slotN n).2 ∧ (slotN n).2 ≤ 32) ∧ (slotN n).1 * 33 + (slotN n).2 = n := by
  unfold slotN
  dsimp only
  omega
theorem rOfTo_ok {l : List Part} (hb : ∀ n, n < 132 → 0 ≤ (rOfS l n).1 ∧ (rOfS l n).1 ≤ 9007199254740992) : ∀ n, n ≤ 132 → VOk (rOfTo l n) ∧ (∀ p ∈ rOfTo l n, p.kind * 33 + p.role < n) ∧ ∀ m, m < n → lk (rOfTo l n) (slotN m).1 (slotN m).2 = (rOfS l m).1
  | 0, _ => ⟨VOk.nil, fun p hp => (by cases hp), fun m hm => absurd hm (Nat.not_lt_zero _)⟩
  | n + 1, hn => by
    obtain ⟨i1, i2, i3⟩ := rOfTo_ok hb n (by omega)
    have s0 := slotN_bd (n := n) (by omega)
    have b0 := hb n (by omega)
    have hno : ∀ p ∈ rOfTo l n, ¬ (p.kind = (slotN n).1 ∧ p.role = (slotN n).2) := fun p hp hs => by
      have := i2 p hp
      omega
    have e : rOfTo l (n + 1) = if (rOfS l n).1 = 0 then rOfTo l n else rOfTo l n ++ [⟨(slotN n).1, (slotN n).2, (rOfS l n).1⟩] := rfl
    rw [e]
    split
    · rename_i h0
      refine ⟨i1, fun p hp => by have := i2 p hp; omega, fun m hm => ?_⟩
      rcases Nat.lt_or_ge m n with h | h
      · exact i3 m h
      · obtain rfl : m = n := by omega
        rw [lk_no _ hno, h0]
    · rename_i h0
      refine ⟨⟨fun p hp => ?_, ?_⟩, fun p hp => ?_, fun m hm => ?_⟩
      · rcases List.mem_append.1 hp with hp | hp
        · exact i1.ok p hp
        · rw [List.mem_singleton.1 hp]
          exact ⟨s0.1.1, s0.1.2, s0.2.1.1, s0.2.1.2, by show 1 ≤ (rOfS l n).1; omega, b0.2⟩
      · refine List.pairwise_append.2 ⟨i1.up, List.pairwise_singleton _ _, fun p hp q hq => ?_⟩
        rw [List.mem_singleton.1 hq]
        have h1 := i2 p hp
        have h2 := (i1.ok p hp).r0
        have h3 := (i1.ok p hp).r1
        unfold sl
        dsimp only
        omega
      · rcases List.mem_append.1 hp with hp | hp
        · have := i2 p hp
          omega
        · rw [List.mem_singleton.1 hp]
          dsimp only
          omega
      · rcases Nat.lt_or_ge m n with h | h
        · rw [lk_app', i3 m h]
          intro p hp hs
          rw [List.mem_singleton.1 hp] at hs
          have s1 := slotN_bd (n := m) (by omega)
          dsimp only at hs
          omega
        · obtain rfl : m = n := by omega
          rw [lk_app _ _ hno]
          simp [lk]
theorem rOf_eq {a b : List Part} (ha : VOk a) (hb : VOk b) : rOf (a ++ b) = match mrg a b with | some l => (l, true) | none => ([], false) := by
  have hS := rOfS_eq ha hb
  have hsl : ∀ p ∈ a ++ b, slR p := fun p hp => by
    have h : POk p := (List.mem_append.1 hp).elim (ha.ok p) (hb.ok p)
    have := h.k0
    have := h.k1
    have := h.r0
    have := h.r1
    unfold slR
    omega
  obtain ⟨m1, m2⟩ := mrg_lk a b ha hb
  cases hm : mrg a b with
  | some l =>
    obtain ⟨ok, -⟩ := mrg_ok a b l ha hb hm
    have h1 := m1 l hm
    have hle : ∀ n, lk a (slotN n).1 (slotN n).2 + lk b (slotN n).1 (slotN n).2 ≤ 9007199254740992 := fun n => by
      rw [← h1]
      exact (lk_bd ok.ok _ _).2
    have hS' : ∀ n, rOfS (a ++ b) n = (lk l (slotN n).1 (slotN n).2, true) := fun n => by rw [hS, if_pos (hle n), h1]
    obtain ⟨i1, i2, i3⟩ := rOfTo_ok (l := a ++ b) (fun n _ => by rw [hS' n]; exact lk_bd ok.ok _ _) 132 (Nat.le_refl _)
    have hl : rOfTo (a ++ b) 132 = l := i1.ext ok fun k r => by
      by_cases hs : (0 ≤ k ∧ k < 4) ∧ 0 ≤ r ∧ r ≤ 32
      · obtain ⟨n, hn, rfl, rfl⟩ := slotN_inv hs.1 hs.2
        rw [i3 n hn, hS' n]
      · rw [lk_out i1 hs, lk_out ok hs]
    refine (if_pos ⟨hsl, fun n _ => by rw [hS' n]⟩).trans ?_
    rw [hl]
  | none =>
    obtain ⟨k, r, hkr⟩ := m2 hm
    refine if_neg fun h => ?_
    by_cases hs : (0 ≤ k ∧ k < 4) ∧ 0 ≤ r ∧ r ≤ 32
    · obtain ⟨n, hn, rfl, rfl⟩ := slotN_inv hs.1 hs.2
      have h2 := h.2 n hn
      rw [hS n, if_neg (by omega)] at h2
      cases h2
    · rw [lk_out ha hs, lk_out hb hs] at hkr
      omega
noncomputable def rAdd (a b : List Part) : List Part × Bool := if vecRight a = true ∧ vecRight b = true then rOf (a ++ b) else ([], false)
theorem rAdd_eq (a b : List Part) : rAdd a b = addV a b := by
  unfold rAdd addV
  split
  · rename_i h
    exact rOf_eq ((vecRight_iff a).1 h.1) ((vecRight_iff b).1 h.2)
  · rfl
end Go.Proofs.YtlblpbahoblihaaGreat.Sy
namespace Go.Proofs.YtlblpbahoblihaaGreat.Sy
open Go Go.Sy Go.Proofs.YtlblpbahoblihaaGreat
abbrev VB := List Part × Bool
def gStep (g : Int) (s : VB) (a : Int) (v : List Part) : VB := if s.2 = true ∧ a = g then addV s.1 v else s
def gO (g : Int) (s : VB) (l : List Ofr) : Nat → VB
  | 0 => s
  | i + 1 => gStep g (gO g s l i) (l.getD i default).agent (l.getD i default).vec
def gT (g : Int) (s : VB) (l : List Tsk) : Nat → VB
  | 0 => s
  | i + 1 => gStep g (gT g s l i) (l.getD i default).agent (l.getD i default).vec
def gAll (b : Bk) (a : Agt) : VB := gT a.id (gO a.id (a.free, true) b.of b.of.length) b.tk b.tk.length
def LdOk (b : Bk) (i : Nat) : Prop := (gAll b (b.ag.getD i default)).2 = true ∧ vEq (gAll b (b.ag.getD i default)).1 (b.ag.getD i default).total = true
theorem gStep_f {g : Int} {s : VB} (h : s.2 = false) (a : Int) (v : List Part) : gStep g s a v = s := if_neg fun h2 => by rw [h] at h2; cases h2.1
theorem gO_stay {g : Int} {s : VB} {l : List Ofr} {i : Nat} (h : (gO g s l i).2 = false) : ∀ j, i ≤ j → gO g s l j = gO g s l i
  | 0, hj => by obtain rfl : i = 0 := by omega
                rfl
  | j + 1, hj => by
    rcases Nat.lt_or_ge i (j + 1) with h1 | h1
    · have := gO_stay h j (by omega)
      show gStep g (gO g s l j) _ _ = _
      rw [this, gStep_f h]
    · obtain rfl : i = j + 1 := by omega
      rfl
theorem gT_stay {g : Int} {s : VB} {l : List Tsk} {i : Nat} (h : (gT g s l i).2 = false) : ∀ j, i ≤ j → gT g s l j = gT g s l i
  | 0, hj => by obtain rfl : i = 0 := by omega
                rfl
  | j + 1, hj => by
    rcases Nat.lt_or_ge i (j + 1) with h1 | h1
    · have := gT_stay h j (by omega)
      show gStep g (gT g s l j) _ _ = _
      rw [this, gStep_f h]
    · obtain rfl : i = j + 1 := by omega
      rfl
structure LdI (l : List Agt) (s : LM) (d : Nat → VB) : Prop where
  good : s.1 = true → ∀ i, i < l.length → (d i).2 = true ∧ getL s.2 (l.getD i default).id = (d i).1
  bad : s.1 = false → ∃ i, i < l.length ∧ (d i).2 = false
theorem LdI.step {l : List Agt} {s : LM} {d : Nat → VB} (h : LdI l s d) {a : Int} (v : List Part) (ha : ∃ i, i < l.length ∧ (l.getD i default).id = a) : LdI l (lmAdd s a v) (fun i => gStep (l.getD i default).id (d i) a v) := by
  obtain ⟨i0, hi0, he0⟩ := ha
  unfold lmAdd
  constructor
  · intro hg i hi
    dsimp only at hg ⊢
    rw [Bool.and_eq_true] at hg
    have h1 := h.good hg.1
    obtain ⟨e1, e2⟩ := h1 i hi
    unfold gStep getL
    rw [lkp_put]
    by_cases e : a = (l.getD i default).id
    · rw [if_pos ⟨e1, e⟩, if_pos (by rw [e])]
      subst e
      rw [← e2]
      exact ⟨hg.2, rfl⟩
    · rw [if_neg (fun h2 => e h2.2), if_neg (fun h2 => e (by simpa using h2))]
      exact ⟨e1, e2⟩
  · intro hg
    dsimp only at hg
    rw [Bool.and_eq_false_iff] at hg
    cases hs : s.1 with
    | false =>
      obtain ⟨i, hi, hd⟩ := h.bad hs
      exact ⟨i, hi, by rw [gStep_f hd]; exact hd⟩
    | true =>
      obtain ⟨e1, e2⟩ := h.good hs i0 hi0
      refine ⟨i0, hi0, ?_⟩
      unfold gStep
      rw [if_pos ⟨e1, he0.symm⟩, ← e2, he0]
      rcases hg with hg | hg
      · rw [hs] at hg; cases hg
      · exact hg
theorem LdI.os {l : List Agt} {s : LM} {d : Nat → VB} (h : LdI l s d) (of : List Ofr) (ha : ∀ j, j < of.length → ∃ i, i < l.length ∧ (l.getD i default).id = (of.getD j default).agent) : ∀ n, n ≤ of.length → LdI l (lmO s of n) (fun i => gO (l.getD i default).id (d i) of n)
  | 0, _ => h
  | n + 1, hn => (h.os of ha n (by omega)).step _ (ha n (by omega))
theorem LdI.ts {l : List Agt} {s : LM} {d : Nat → VB} (h : LdI l s d) (of : List Tsk) (ha : ∀ j, j < of.length → ∃ i, i < l.length ∧ (l.getD i default).id = (of.getD j default).agent) : ∀ n, n ≤ of.length → LdI l (lmT s of n) (fun i => gT (l.getD i default).id (d i) of n)
  | 0, _ => h
  | n + 1, hn => (h.ts of ha n (by omega)).step _ (ha n (by omega))
theorem addV_nil {v : List Part} (h : vecRight v = true) : addV [] v = (v, true) := by
  unfold addV
  rw [if_pos ⟨(vecRight_iff _).2 VOk.nil, h⟩, mrg_nil']
theorem ids_lt {l : List Agt} (h : ∀ i, i < l.length → AgtOk l i) : ∀ j, j < l.length → ∀ i, i < j → (l.getD i default).id < (l.getD j default).id
  | 0, _, i, hi => absurd hi (Nat.not_lt_zero _)
  | j + 1, hj, i, hi => by
    have h1 := (h (j + 1) hj).up (by omega)
    rw [Nat.add_sub_cancel] at h1
    rcases Nat.lt_or_ge i j with h2 | h2
    · exact Int.lt_trans (ids_lt h j (by omega) i h2) h1
    · obtain rfl : i = j := by omega
      exact h1
theorem lmA_at {l : List Agt} (h : ∀ i, i < l.length → AgtOk l i) : ∀ n, n ≤ l.length → (lmA l n).1 = true ∧ (∀ i, i < n → getL (lmA l n).2 (l.getD i default).id = (l.getD i default).free) ∧ ∀ i, n ≤ i → i < l.length → getL (lmA l n).2 (l.getD i default).id = []
  | 0, _ => ⟨rfl, fun i hi => absurd hi (Nat.not_lt_zero _), fun i _ _ => rfl⟩
  | n + 1, hn => by
    obtain ⟨a1, a2, a3⟩ := lmA_at h n (by omega)
    have hk := h n (by omega)
    have e0 := a3 n (Nat.le_refl _) (by omega)
    have e : lmA l (n + 1) = lmAdd (lmA l n) (l.getD n default).id (l.getD n default).free := rfl
    have ev : addV (getL (lmA l n).2 (l.getD n default).id) (l.getD n default).free = ((l.getD n default).free, true) := by
      rw [e0, addV_nil hk.fre]
    rw [e]
    unfold lmAdd
    rw [ev, a1]
    refine ⟨rfl, fun i hi => ?_, fun i hi hi' => ?_⟩
    · unfold getL
      dsimp only
      rw [lkp_put]
      rcases Nat.lt_or_ge i n with h1 | h1
      · have := ids_lt h n (by omega) i h1
        rw [if_neg (fun h2 => by have h3 : (l.getD n default).id = (l.getD i default).id := by simpa using h2
                                 omega)]
        exact a2 i h1
      · obtain rfl : i = n := by omega
        rw [if_pos rfl]
        rfl
    · unfold getL
      dsimp only
      rw [lkp_put]
      have := ids_lt h i hi' n (by omega)
      rw [if_neg (fun h2 => by have h3 : (l.getD n default).id = (l.getD i default).id := by simpa using h2
                               omega)]
      exact a3 i (by omega) hi'
theorem lmA_I {l : List Agt} (h : ∀ i, i < l.length → AgtOk l i) : LdI l (lmA l l.length) (fun i => ((l.getD i default).free, true)) := by
  obtain ⟨a1, a2, a3⟩ := lmA_at h l.length (Nat.le_refl _)
  exact ⟨fun _ i hi => ⟨rfl, a2 i hi⟩, fun h => by rw [a1] at h; cases h⟩
theorem atAgent_mem {l : List Agt} {g : Int} (h : 0 ≤ atAgent l g) : ∃ i, i < l.length ∧ (l.getD i default).id = g := by
  rcases ixR_spec (fun a : Agt => decide (a.id = g)) l with ⟨h1, -⟩ | ⟨i, hi, -, h2⟩
  · have h3 : atAgent l g = -1 := h1
    omega
  · exact ⟨i, hi, of_decide_eq_true h2⟩
open Classical in
theorem ledgerB_eq {b : Bk} (hA : agentsB b = true) (hO : offersB b = true) (hT : tasksB b = true) : ledgerB b = pB (∀ i, i < b.ag.length → LdOk b i) := by
  have hA' := (pB_iff.1 hA).1
  have hO' : ∀ j, j < b.of.length → ∃ i, i < b.ag.length ∧ (b.ag.getD i default).id = (b.of.getD j default).agent := fun j hj => atAgent_mem ((OfrOk_iff b j).1 (pB_iff.1 hO j hj)).1.2.1
  have hT' : ∀ j, j < b.tk.length → ∃ i, i < b.ag.length ∧ (b.ag.getD i default).id = (b.tk.getD j default).agent := fun j hj => atAgent_mem (by have h := ((pB_iff.1 hT).1 j hj).held; rw [held_own, Bool.and_eq_true, Bool.and_eq_true, decide_eq_true_eq, decide_eq_true_eq] at h; exact h.2.1)
  have hI : LdI b.ag (lmAll b) (fun i => gAll b (b.ag.getD i default)) := ((lmA_I hA').os b.of hO' b.of.length (Nat.le_refl _)).ts b.tk hT' b.tk.length (Nat.le_refl _)
  unfold ledgerB
  cases hs : (lmAll b).1 with
  | false =>
    obtain ⟨i, hi, hd⟩ := hI.bad hs
    symm
    refine pB_f fun h => ?_
    have := (h i hi).1
    rw [hd] at this
    cases this
  | true =>
    have hg := hI.good hs
    by_cases hq : ∀ i, i < b.ag.length → LdOk b i
    · rw [pB_t hq]
      have : ledBad (lmAll b) b.ag = -1 := ixR_none fun i hi => by
        rw [(hg i hi).2, (hq i hi).2]
        rfl
      rw [this]
      rfl
    · rw [pB_f hq]
      have : 0 ≤ ledBad (lmAll b) b.ag := by
        apply Classical.byContradiction
        intro hn
        apply hq
        intro i hi
        obtain ⟨g1, g2⟩ := hg i hi
        refine ⟨g1, ?_⟩
        have hno : (!vEq (getL (lmAll b).2 (b.ag.getD i default).id) (b.ag.getD i default).total) = false := by
          rcases ixR_spec (fun a : Agt => !vEq (getL (lmAll b).2 a.id) a.total) b.ag with ⟨-, h1⟩ | ⟨k, -, h1, -⟩
          · exact h1 i hi
          · have h3 : ledBad (lmAll b) b.ag = (k : Int) := h1
            omega
        rw [g2] at hno
        simpa using hno
      rw [decide_eq_true this]
      rfl
end Go.Proofs.YtlblpbahoblihaaGreat.Sy
namespace Go.Proofs.YtlblpbahoblihaaGreat.Sy
open Go Go.Sy Go.Proofs.YtlblpbahoblihaaGreat
def foldAPr_fst (e : Int × Int) := (by
  have h : PLift (e.fst = e.fst) := ⟨rfl⟩
  conv at h => arg 1; lhs; delta Prod.fst
  exact h)
theorem foldPr_fst (e : Int × Int) : type_of% (foldAPr_fst e).down := (foldAPr_fst e).down
def foldAPr_snd (e : Int × Int) := (by
  have h : PLift (e.snd = e.snd) := ⟨rfl⟩
  conv at h => arg 1; lhs; delta Prod.snd
  exact h)
theorem foldPr_snd (e : Int × Int) : type_of% (foldAPr_snd e).down := (foldAPr_snd e).down
theorem QR3 : type_of% (And.intro @foldPr_fst (And.intro @foldPr_snd (And.intro QP1 (QB7)))) := And.intro @foldPr_fst (And.intro @foldPr_snd (And.intro QP1 (QB7)))
theorem amts_take (l : List Part) (k r : Int) {i : Nat} (hi : i < l.length) : amts (l.take (i + 1)) k r = amts (l.take i) k r ++ (if (decide ((l.getD i default).kind = k) && decide ((l.getD i default).role = r)) = true then [(l.getD i default).amount] else []) := by
  rw [List.take_succ_eq_append_getElem hi, amts_app, getD_el hi]
  congr 1
  unfold amts
  cases h : (decide (l[i].kind = k) && decide (l[i].role = r)) <;> simp [List.filter, h]
theorem amts_len (l : List Part) (k r : Int) : (amts l k r).length ≤ l.length := by
  unfold amts
  rw [List.length_map]
  exact List.length_filter_le _ _
theorem slR_iff (p : Part) : slotRight p.kind p.role = true ↔ slR p := by
  unfold slotRight slR
  simp only [Bool.and_eq_true, decide_eq_true_eq]
  omega
theorem x_r05Of (l : List Part) (hl : l.length ≤ 1048576) : XC Tryz.prog 80 [.ro (SL Ar.real Part.X l)] [] (.tup [.ro (SL Ar.real Part.X (rOf l).1), xb (rOf l).2]) [] := by
  have hAll := x_r04All
  have hal := slotsTo_len 132
  have han : ∀ n, n < 132 → (slotsTo 132).getD n default = slotN n := fun n hn => by
    rw [getD_el (by rw [hal]; exact hn)]
    unfold slotsTo
    rw [List.getElem_map, List.getElem_range]
  have q0 : ∀ i, i < l.length → slotRight (l.getD i default).kind (l.getD i default).role = false → rOf l = ([], false) := fun i hi h => if_neg fun h2 => by
    have := (slR_iff _).2 (h2.1 _ (List.getElem_mem hi))
    rw [getD_el hi] at h
    rw [h] at this
    cases this
  have q1 : ∀ n, n < 132 → (rOfS l n).2 = false → rOf l = ([], false) := fun n hn h => if_neg fun h2 => by
    have := h2.2 n hn
    rw [h] at this
    cases this
  have q2 : (∀ i, i < l.length → slotRight (l.getD i default).kind (l.getD i default).role = true) → (∀ n, n < 132 → (rOfS l n).2 = true) → rOf l = (rOfTo l 132, true) := fun h h2 => if_pos ⟨fun p hp => by
    obtain ⟨i, hi, rfl⟩ := List.mem_iff_getElem.1 hp
    rw [← slR_iff, ← getD_el hi]
    exact h i hi, h2⟩
  have hM0 : rOfTo l 0 = [] := rfl
  have hM1 : ∀ n, rOfTo l (n + 1) = rWith (rOfTo l n) (slotN n).1 (slotN n).2 (rOfS l n).1 := fun _ => rfl
  have hMl := rOfTo_len l
  have hS : ∀ n, XC Tryz.prog 117 [il 9007199254740992, .ro (SL Ar.real encI (amts (l.take l.length) (slotN n).1 (slotN n).2))] [] (.tup [xi (rOfS l n).1, xb (rOfS l n).2]) [] := fun n => by
    rw [List.take_length]
    exact XC_at (x_r03Sum 9007199254740992 _ (by have := amts_len l (slotN n).1 (slotN n).2; omega) (Int.le_refl _)) (fun _ => rfl) (fun _ => rfl)
  have hT0 : ∀ n, amts (l.take 0) (slotN n).1 (slotN n).2 = [] := fun n => by rw [List.take_zero]; rfl
  have hT1 : ∀ n i, i < l.length → amts (l.take (i + 1)) (slotN n).1 (slotN n).2 = amts (l.take i) (slotN n).1 (slotN n).2 ++ (if (decide ((l.getD i default).kind = (slotN n).1) && decide ((l.getD i default).role = (slotN n).2)) = true then [(l.getD i default).amount] else []) := fun n i hi => amts_take l _ _ hi
  have hTl : ∀ n i, (amts (l.take i) (slotN n).1 (slotN n).2).length ≤ 1048576 := fun n i => by
    have := amts_len (l.take i) (slotN n).1 (slotN n).2
    rw [List.length_take] at this
    omega
  obtain ⟨T, hT⟩ : ∃ T : Nat → Nat → List Int, T = fun n i => amts (l.take i) (slotN n).1 (slotN n).2 := ⟨_, rfl⟩
  have hT' : ∀ n i, amts (l.take i) (slotN n).1 (slotN n).2 = T n i := fun n i => by rw [hT]
  simp only [hT'] at hS hT0 hT1 hTl
  clear hT hT'
  generalize rOf l = g at *
  generalize rOfS l = S at *
  generalize rOfTo l = M at *
  generalize slotsTo 132 = al at *
  (refine XC.of_body (dt80) Tryz.func80 rfl Tryz.ntmps80 mixed (T := tl80) tk80 (by kernel_rfl) (by simp) rfl rfl rfl rfl rfl ?_; rintro o ho P hP c K hK; have hm : P.follows .mixedOrders = true := hP ▸ mixed; have hT : TOk P tl80 := hP ▸ tk80; (try rw [← ho]); cbv; (repeat (refine StopN.mk ?_; cbv)))
  rw [← ho] at hAll
  refine LoopN.over (o := o) (D := dt80) ho hm hT (by kernel_rfl) (fun i : Nat => [(4, xn i)]) (fun _ => []) (fun _ => []) (fun i => i ≤ l.length ∧ ∀ j, j < i → slotRight (l.getD j default).kind (l.getD j default).role = true) (fun i => l.length - i) 0 ⟨Nat.zero_le _, fun j hj => absurd hj (Nat.not_lt_zero j)⟩ ?_ ?_
  · (refine ⟨?_, ?_, ?_, ?_⟩ <;> cbv <;> repeat' (first | trivial | exact EqX.rfl' | exact EqO.rfl' | apply And.intro | ((try clear hR3); (try clear hR2); (try clear hR); (try clear hK); (try simp only [ncCast] at *); (try simp only [castI_eq] at *); refine EqX.i ?_; (try rw [ho]); (try dsimp only [Ar.real, IX.vo, IX.val, BX.val, IX.toN]); (try simp only [QR3]); (repeat rw [wrap_i64 (by omega) (by omega)]); omega)))
  · rintro i ⟨hi, hok⟩ R hR
    have ei : o.nth l i = l.getD i default := by rw [ho, real_nth]
    have h1 := x_r05slot (o.nth l i).kind (o.nth l i).role (o.nth l i).amount
    have h2 := x_r04Right (o.nth l i).kind (o.nth l i).role
    have q := q0 i
    have ok1 := all_step (Q := fun j => slotRight (l.getD j default).kind (l.getD j default).role = true) hok
    (try dsimp only at ok1)
    rw [← ei] at q ok1
    generalize slotRight (o.nth l i).kind (o.nth l i).role = b at *
    cbv
    repeat' (first | (refine Br.mk (fun hb => ?_) (fun hb => ?_) <;> ((try rw [ho] at hb); (try dsimp only [Ar.real, IX.vo] at hb); (try simp only [QR3] at hb); (try simp only [QBo, beq_iff_eq, beq_eq_false_iff_ne, ne_eq] at hb))) | (refine StopN.mk ?_; cbv) | ((first | refine CallI.pure hP h1 fn77 rfl rfl rfl ?_ | refine CallI.pure hP h2 fn76 rfl rfl rfl ?_ | refine CallI.pure hP hAll fn116 rfl rfl rfl ?_); cbv) | ((first | refine CallI.pure hP (x_r03Sum _ _ ‹_› ‹_›) fn117 (by first | rfl | (rw [ho]; try rfl)) (by rfl) (by first | rfl | (rw [ho]; try rfl)) ?_ | refine CallN.pure hP (x_r03Sum _ _ ‹_› ‹_›) fn117 (by first | rfl | (rw [ho]; try rfl)) (by rfl) (by first | rfl | (rw [ho]; try rfl)) ?_); (try rw [← ho]); generalize hr : rSum _ _ = r; (try rw [ho] at hr); (try dsimp only [Ar.real, IX.vo] at hr); (try simp only [QR3] at hr); cbv) | (refine hK _ _ ?_) | (refine NeedT.mk ?_ ?_))
    any_goals (((try clear hR3); (try clear hR2); (try clear hR); (try clear hK); (try simp only [ncCast] at *); (try simp only [castI_eq] at *); (try rw [ho]); (try dsimp only [Ar.real, IX.vo, IX.val, BX.val, IX.toN]); (try simp only [QR3]); (try simp only [decide_eq_true_eq]); (all_goals (repeat rw [wrap_i64 (by omega) (by omega)])); (all_goals (first | omega | (simp only [Int.ofNat_eq_natCast]; omega)))); done)
    · rw [q (by ((try clear hR3); (try clear hR2); (try clear hR); (try clear hK); (try simp only [ncCast] at *); (try simp only [castI_eq] at *)); omega) (by assumption)]
      exact FinX_rb2 (rows_nil_SL Ar.real rfl Part.X) rfl
    · refine hR _ (i + 1) (by show l.length - (i + 1) < l.length - i; ((try clear hR3); (try clear hR2); (try clear hR); (try clear hK); (try simp only [ncCast] at *); (try simp only [castI_eq] at *)); omega) ⟨by show i + 1 ≤ l.length; ((try clear hR3); (try clear hR2); (try clear hR); (try clear hK); (try simp only [ncCast] at *); (try simp only [castI_eq] at *)); omega, ok1 (by assumption)⟩ ?_
      (refine ⟨?_, ?_, ?_, ?_⟩ <;> cbv <;> repeat' (first | trivial | exact EqX.rfl' | exact EqO.rfl' | apply And.intro | ((try clear hR3); (try clear hR2); (try clear hR); (try clear hK); (try simp only [ncCast] at *); (try simp only [castI_eq] at *); refine EqX.i ?_; (try rw [ho]); (try dsimp only [Ar.real, IX.vo, IX.val, BX.val, IX.toN]); (try simp only [QR3]); (repeat rw [wrap_i64 (by omega) (by omega)]); omega)))
    · obtain rfl : i = l.length := by ((try clear hR3); (try clear hR2); (try clear hR); (try clear hK); (try simp only [ncCast] at *); (try simp only [castI_eq] at *)); omega
      have q2 := q2 hok
      clear hR q ok1 h1 h2 ei q0
      refine LoopN.ghost 6 67 3 rfl ?_
      refine LoopN.over (o := o) (D := dt80) ho hm hT (by kernel_rfl) (fun a : StL Part => [(7, xn a.i), (6, .own (.loc 0) a.rv)]) (fun a => [(0, .row a.rv 67 3 (SL o Part.X a.out))]) (fun _ => []) (fun s => s.i ≤ 132 ∧ s.out = M s.i ∧ ∀ n, n < s.i → (S n).2 = true) (fun s => 132 - s.i) ⟨0, 0, []⟩ ⟨Nat.zero_le _, hM0.symm, fun n hn => absurd hn (Nat.not_lt_zero n)⟩ ?_ ?_
      · (refine ⟨?_, ?_, ?_, ?_⟩ <;> cbv <;> repeat' (first | trivial | exact EqX.rfl' | exact EqO.rfl' | apply And.intro | ((try clear hR3); (try clear hR2); (try clear hR); (try clear hK); (try simp only [ncCast] at *); (try simp only [castI_eq] at *); refine EqX.i ?_; (try rw [ho]); (try dsimp only [Ar.real, IX.vo, IX.val, BX.val, IX.toN]); (try simp only [QR3]); (repeat rw [wrap_i64 (by omega) (by omega)]); omega) | exact EqO.row rfl (rows_nil_SL o ho Part.X)))
      · rintro ⟨n, rv, out⟩ ⟨hn, hout, hok2⟩ R2 hR2
        dsimp only at hn hout hok2
        have hol := hMl n
        rw [← hout] at hol
        rcases Nat.lt_or_ge n 132 with hlt | hge
        · have en : o.nth al n = slotN n := by rw [ho, real_nth]; exact han n hlt
          have en2 : al.getD n default = slotN n := han n hlt
          have hSn := hS n
          have e1 := hM1 n
          rw [← hout] at e1
          have q1n := q1 n hlt
          have ok3 := all_step (Q := fun j => (S j).2 = true) hok2
          (try dsimp only at ok3)
          generalize S n = s at *
          obtain ⟨s1, s2⟩ := s
          dsimp only at hSn e1 q1n ok3
          have hW := x_r05with o ho out rv (o.nth al n).1 (o.nth al n).2 s1 (by omega)
          rw [← en] at e1
          generalize rWith out (o.nth al n).1 (o.nth al n).2 s1 = out' at *
          generalize rWv rv s1 = rv' at *
          have hT0n := hT0 n
          have hT1n := hT1 n
          have hTln := hTl n
          rw [← en2] at hT1n
          generalize T n = Tn at *
          cbv
          repeat' (first | (refine Br.mk (fun hb => ?_) (fun hb => ?_) <;> ((try rw [ho] at hb); (try dsimp only [Ar.real, IX.vo] at hb); (try simp only [QR3] at hb); (try simp only [QBo, beq_iff_eq, beq_eq_false_iff_ne, ne_eq] at hb))) | (refine StopN.mk ?_; cbv) | ((first | refine CallI.pure hP (x_r04Right _ _) fn76 (by first | rfl | (rw [ho]; try rfl)) (by rfl) (by first | rfl | (rw [ho]; try rfl)) ?_ | refine CallN.pure hP (x_r04Right _ _) fn76 (by first | rfl | (rw [ho]; try rfl)) (by rfl) (by first | rfl | (rw [ho]; try rfl)) ?_); (try rw [← ho]); generalize hr : slotRight _ _ = r; (try rw [ho] at hr); (try dsimp only [Ar.real, IX.vo] at hr); (try simp only [QR3] at hr); cbv) | ((first | refine CallI.pure hP (x_r05slot _ _ _) fn77 (by first | rfl | (rw [ho]; try rfl)) (by rfl) (by first | rfl | (rw [ho]; try rfl)) ?_ | refine CallN.pure hP (x_r05slot _ _ _) fn77 (by first | rfl | (rw [ho]; try rfl)) (by rfl) (by first | rfl | (rw [ho]; try rfl)) ?_); (try rw [← ho]); cbv) | ((first | refine CallI.pure hP (x_r03Sum _ _ ‹_› ‹_›) fn117 (by first | rfl | (rw [ho]; try rfl)) (by rfl) (by first | rfl | (rw [ho]; try rfl)) ?_ | refine CallN.pure hP (x_r03Sum _ _ ‹_› ‹_›) fn117 (by first | rfl | (rw [ho]; try rfl)) (by rfl) (by first | rfl | (rw [ho]; try rfl)) ?_); (try rw [← ho]); generalize hr : rSum _ _ = r; (try rw [ho] at hr); (try dsimp only [Ar.real, IX.vo] at hr); (try simp only [QR3] at hr); cbv) | (refine hK _ _ ?_) | (refine NeedT.mk ?_ ?_))
          any_goals (((try clear hR3); (try clear hR2); (try clear hR); (try clear hK); (try simp only [ncCast] at *); (try simp only [castI_eq] at *); (try rw [ho]); (try dsimp only [Ar.real, IX.vo, IX.val, BX.val, IX.toN]); (try simp only [QR3]); (try simp only [decide_eq_true_eq]); (all_goals (repeat rw [wrap_i64 (by omega) (by omega)])); (all_goals (first | omega | (simp only [Int.ofNat_eq_natCast]; omega)))); done)
          · refine LoopN.ghost 8 2 1 rfl ?_
            refine LoopN.over (o := o) (D := dt80) ho hm hT (by kernel_rfl) (fun a : StL Int => [(9, xn a.i), (8, .own (.loc 1) a.rv)]) (fun a => [(1, .row a.rv 2 1 (SL o encI a.out))]) (fun _ => []) (fun s => s.i ≤ l.length ∧ s.out = Tn s.i) (fun s => l.length - s.i) ⟨0, 0, []⟩ ⟨Nat.zero_le _, hT0n.symm⟩ ?_ ?_
            · (refine ⟨?_, ?_, ?_, ?_⟩ <;> cbv <;> repeat' (first | trivial | exact EqX.rfl' | exact EqO.rfl' | apply And.intro | ((try clear hR3); (try clear hR2); (try clear hR); (try clear hK); (try simp only [ncCast] at *); (try simp only [castI_eq] at *); refine EqX.i ?_; (try rw [ho]); (try dsimp only [Ar.real, IX.vo, IX.val, BX.val, IX.toN]); (try simp only [QR3]); (repeat rw [wrap_i64 (by omega) (by omega)]); omega) | exact EqO.row rfl (rows_nil_SL o ho encI)))
            · rintro ⟨i, rv2, out2⟩ ⟨hi, hout2⟩ R3 hR3
              dsimp only at hi hout2
              have ei : o.nth l i = l.getD i default := by rw [ho, real_nth]
              have h1 := x_r05slot (o.nth l i).kind (o.nth l i).role (o.nth l i).amount
              have hSo : l.length ≤ i → XC Tryz.prog 117 [il 9007199254740992, .ro (SL o encI out2)] [] (.tup [xi s1, xb s2]) [] := fun h => by
                obtain rfl : i = l.length := by omega
                rw [hout2, ho]
                exact hSn
              have t1 := hT1n i
              have t2 := hTln i
              rw [← hout2] at t1 t2
              generalize hz : Tn (i + 1) = z at *
              have t3 : i < l.length → (decide ((l.getD i default).kind = (al.getD n default).1) && decide ((l.getD i default).role = (al.getD n default).2)) = true → z = out2 ++ [(l.getD i default).amount] := fun h h' => by rw [t1 h, if_pos h']
              have t4 : i < l.length → (decide ((l.getD i default).kind = (al.getD n default).1) && decide ((l.getD i default).role = (al.getD n default).2)) = false → z = out2 := fun h h' => by rw [t1 h, if_neg (by rw [h']; decide), List.append_nil]
              clear t1
              cbv
              repeat' (first | (refine Br.mk (fun hb => ?_) (fun hb => ?_) <;> ((try rw [ho] at hb); (try dsimp only [Ar.real, IX.vo] at hb); (try simp only [QR3] at hb); (try simp only [QBo, beq_iff_eq, beq_eq_false_iff_ne, ne_eq] at hb))) | (refine StopN.mk ?_; cbv) | ((first | refine CallN.pure hP h1 fn77 rfl rfl rfl ?_ | refine CallI.pure hP (hSo ‹_›) fn117 rfl rfl rfl ?_ | refine FrzN.frz 1 [57] rfl (fun t ht => by rw [List.mem_singleton.1 ht]; rfl) (.done ?_) | (refine FrzN.done ?_; first | refine CallI.objs [.loc 0] hP hW fn118 rfl rfl rfl rfl (by rfl) rfl rfl rfl rfl (by rfl) ⟨⟨_, rfl, rfl⟩, trivial⟩ ?_)); cbv) | ((first | refine CallI.pure hP (x_r04Right _ _) fn76 (by first | rfl | (rw [ho]; try rfl)) (by rfl) (by first | rfl | (rw [ho]; try rfl)) ?_ | refine CallN.pure hP (x_r04Right _ _) fn76 (by first | rfl | (rw [ho]; try rfl)) (by rfl) (by first | rfl | (rw [ho]; try rfl)) ?_); (try rw [← ho]); generalize hr : slotRight _ _ = r; (try rw [ho] at hr); (try dsimp only [Ar.real, IX.vo] at hr); (try simp only [QR3] at hr); cbv) | (refine hK _ _ ?_) | (refine NeedT.mk ?_ ?_))
              any_goals (((try clear hR3); (try clear hR2); (try clear hR); (try clear hK); (try simp only [ncCast] at *); (try simp only [castI_eq] at *); (try rw [ho]); (try dsimp only [Ar.real, IX.vo, IX.val, BX.val, IX.toN]); (try simp only [QR3]); (try simp only [decide_eq_true_eq]); (all_goals (repeat rw [wrap_i64 (by omega) (by omega)])); (all_goals (first | omega | (simp only [Int.ofNat_eq_natCast]; omega)))); done)
              · have hs := t3 (by assumption) (by assumption)
                refine hR3 _ ⟨i + 1, rv2 + 1, z⟩ (by show l.length - (i + 1) < l.length - i; ((try clear hR3); (try clear hR2); (try clear hR); (try clear hK); (try simp only [ncCast] at *); (try simp only [castI_eq] at *)); omega) ⟨by show i + 1 ≤ l.length; ((try clear hR3); (try clear hR2); (try clear hR); (try clear hK); (try simp only [ncCast] at *); (try simp only [castI_eq] at *)); omega, hz.symm⟩ ?_
                (refine ⟨?_, ?_, ?_, ?_⟩ <;> cbv <;> repeat' (first | trivial | exact EqX.rfl' | exact EqO.rfl' | apply And.intro | ((try clear hR3); (try clear hR2); (try clear hR); (try clear hK); (try simp only [ncCast] at *); (try simp only [castI_eq] at *); refine EqX.i ?_; (try rw [ho]); (try dsimp only [Ar.real, IX.vo, IX.val, BX.val, IX.toN]); (try simp only [QR3]); (repeat rw [wrap_i64 (by omega) (by omega)]); omega) | (refine EqO.snoc ho encI out2 _ _ _ rfl hs ?_; rw [ho]; rfl)))
              · have hs := t4 (by assumption) (by assumption)
                refine hR3 _ ⟨i + 1, rv2, out2⟩ (by show l.length - (i + 1) < l.length - i; ((try clear hR3); (try clear hR2); (try clear hR); (try clear hK); (try simp only [ncCast] at *); (try simp only [castI_eq] at *)); omega) ⟨by show i + 1 ≤ l.length; ((try clear hR3); (try clear hR2); (try clear hR); (try clear hK); (try simp only [ncCast] at *); (try simp only [castI_eq] at *)); omega, by show out2 = Tn (i + 1); rw [hz, hs]⟩ ?_
                (refine ⟨?_, ?_, ?_, ?_⟩ <;> cbv <;> repeat' (first | trivial | exact EqX.rfl' | exact EqO.rfl' | apply And.intro | ((try clear hR3); (try clear hR2); (try clear hR); (try clear hK); (try simp only [ncCast] at *); (try simp only [castI_eq] at *); refine EqX.i ?_; (try rw [ho]); (try dsimp only [Ar.real, IX.vo, IX.val, BX.val, IX.toN]); (try simp only [QR3]); (repeat rw [wrap_i64 (by omega) (by omega)]); omega)))
              · rw [q1n (by assumption)]
                exact FinX_rb2 (rows_nil_SL Ar.real rfl Part.X) rfl
              · refine hR2 _ ⟨n + 1, rv', out'⟩ (by show 132 - (n + 1) < 132 - n; omega) ⟨by show n + 1 ≤ 132; omega, e1.symm, ok3 (by assumption)⟩ ?_
                (refine ⟨?_, ?_, ?_, ?_⟩ <;> cbv <;> repeat' (first | trivial | exact EqX.rfl' | exact EqO.rfl' | apply And.intro | ((try clear hR3); (try clear hR2); (try clear hR); (try clear hK); (try simp only [ncCast] at *); (try simp only [castI_eq] at *); refine EqX.i ?_; (try rw [ho]); (try dsimp only [Ar.real, IX.vo, IX.val, BX.val, IX.toN]); (try simp only [QR3]); (repeat rw [wrap_i64 (by omega) (by omega)]); omega)))
        · obtain rfl : n = 132 := by omega
          cbv
          repeat' (first | (refine Br.mk (fun hb => ?_) (fun hb => ?_) <;> ((try rw [ho] at hb); (try dsimp only [Ar.real, IX.vo] at hb); (try simp only [QR3] at hb); (try simp only [QBo, beq_iff_eq, beq_eq_false_iff_ne, ne_eq] at hb))) | (refine StopN.mk ?_; cbv) | ((first | refine CallI.pure hP (x_r04Right _ _) fn76 (by first | rfl | (rw [ho]; try rfl)) (by rfl) (by first | rfl | (rw [ho]; try rfl)) ?_ | refine CallN.pure hP (x_r04Right _ _) fn76 (by first | rfl | (rw [ho]; try rfl)) (by rfl) (by first | rfl | (rw [ho]; try rfl)) ?_); (try rw [← ho]); generalize hr : slotRight _ _ = r; (try rw [ho] at hr); (try dsimp only [Ar.real, IX.vo] at hr); (try simp only [QR3] at hr); cbv) | ((first | refine CallI.pure hP (x_r05slot _ _ _) fn77 (by first | rfl | (rw [ho]; try rfl)) (by rfl) (by first | rfl | (rw [ho]; try rfl)) ?_ | refine CallN.pure hP (x_r05slot _ _ _) fn77 (by first | rfl | (rw [ho]; try rfl)) (by rfl) (by first | rfl | (rw [ho]; try rfl)) ?_); (try rw [← ho]); cbv) | ((first | refine CallI.pure hP (x_r03Sum _ _ ‹_› ‹_›) fn117 (by first | rfl | (rw [ho]; try rfl)) (by rfl) (by first | rfl | (rw [ho]; try rfl)) ?_ | refine CallN.pure hP (x_r03Sum _ _ ‹_› ‹_›) fn117 (by first | rfl | (rw [ho]; try rfl)) (by rfl) (by first | rfl | (rw [ho]; try rfl)) ?_); (try rw [← ho]); generalize hr : rSum _ _ = r; (try rw [ho] at hr); (try dsimp only [Ar.real, IX.vo] at hr); (try simp only [QR3] at hr); cbv) | (refine hK _ _ ?_) | (refine NeedT.mk ?_ ?_))
          any_goals (((try clear hR3); (try clear hR2); (try clear hR); (try clear hK); (try simp only [ncCast] at *); (try simp only [castI_eq] at *); (try rw [ho]); (try dsimp only [Ar.real, IX.vo, IX.val, BX.val, IX.toN]); (try simp only [QR3]); (try simp only [decide_eq_true_eq]); (all_goals (repeat rw [wrap_i64 (by omega) (by omega)])); (all_goals (first | omega | (simp only [Int.ofNat_eq_natCast]; omega)))); done)
          rw [q2 hok2, ← hout]
          exact FinX_rb2 (by rw [ho]) rfl
theorem toDLr9 {c : Cx} {r s : RR} (h : r.rows = s.rows) : X.toDL c [.ro r] = X.toDL c [.ro s] := by simp only [X.toDL, X.toD, h]
theorem x_r05Add (a b : List Part) (ha : a.length ≤ 1048576) (hb' : b.length ≤ 1048576) : XC Tryz.prog 51 [.ro (SL Ar.real Part.X a), .ro (SL Ar.real Part.X b)] [] (.tup [.ro (SL Ar.real Part.X (addV a b).1), xb (addV a b).2]) [] := by
  have hxa := x_r05Right a ha
  have hxb := x_r05Right b hb'
  have e0 : ¬ (vecRight a = true ∧ vecRight b = true) → addV a b = ([], false) := fun h => if_neg h
  have hO : vecRight a = true → vecRight b = true → XC Tryz.prog 80 [.ro (SL Ar.real Part.X (a ++ b))] [] (.tup [.ro (SL Ar.real Part.X (addV a b).1), xb (addV a b).2]) [] := fun h1 h2 => by
    have l1 := ((vecRight_iff a).1 h1).len
    have l2 := ((vecRight_iff b).1 h2).len
    have h3 := x_r05Of (a ++ b) (by rw [List.length_append]; omega)
    rwa [show rOf (a ++ b) = addV a b by rw [← rAdd_eq]; exact (if_pos ⟨h1, h2⟩).symm] at h3
  generalize addV a b = q at *
  generalize vecRight a = va at *
  generalize vecRight b = vb at *
  (refine XC.of_body ([]) Tryz.func51 rfl Tryz.ntmps51 mixed (T := tl51) tk51 (by kernel_rfl) (by simp) rfl rfl rfl rfl rfl ?_; rintro o ho P hP c K hK; have hm : P.follows .mixedOrders = true := hP ▸ mixed; have hT : TOk P tl51 := hP ▸ tk51; (try rw [← ho]); cbv; (repeat (refine StopN.mk ?_; cbv)))
  rw [← ho] at hxa hxb
  have ra : (SL o Part.X a).rows = a.map fun x => X.toCL (Part.X Ar.real x) := rows_SL o ho Part.X a
  have rb : (SL o Part.X b).rows = b.map fun x => X.toCL (Part.X Ar.real x) := rows_SL o ho Part.X b
  have rab : (SL o Part.X (a ++ b)).rows = (SL o Part.X a).rows ++ (SL o Part.X b).rows := by rw [rows_SL o ho, ra, rb, List.map_append]
  repeat' (first | (refine Br.mk (fun hb => ?_) (fun hb => ?_) <;> ((try rw [ho] at hb); (try dsimp only [Ar.real, IX.vo] at hb); (try simp only [QR3] at hb); (try simp only [QBo, beq_iff_eq, beq_eq_false_iff_ne, ne_eq] at hb))) | (refine StopN.mk ?_; cbv) | ((first | refine CallI.pure hP hxa fn47 rfl rfl rfl ?_ | refine CallI.pure hP hxb fn47 rfl rfl rfl ?_); cbv) | (refine CallI.pure hP (x_r05Of _ ‹_›) fn80 (by first | rfl | (rw [ho]; try rfl)) (by rfl) (by first | rfl | (rw [ho]; try rfl)) ?_; (try rw [← ho]); generalize hr : rOf _ = r; (try rw [ho] at hr); (try dsimp only [Ar.real, IX.vo] at hr); (try simp only [QR3] at hr); cbv) | (refine hK _ _ ?_) | (refine NeedT.mk ?_ ?_))
  · rw [e0 fun h => absurd (h.1.symm.trans ‹va = false›) (by decide)]
    exact FinX_rb2 (rows_nil_SL Ar.real rfl Part.X) rfl
  · rw [e0 fun h => absurd (h.2.symm.trans ‹vb = false›) (by decide)]
    exact FinX_rb2 (rows_nil_SL Ar.real rfl Part.X) rfl
  · have hO := hO (by assumption) (by assumption)
    rw [← ho] at hO
    refine OpN.app0 ho hT rfl rfl (by rw [hP]; exact tok55.k) (by rw [hP]; exact tok67.sz) (fun h1 => ?_) (fun h1 => ?_)
    · have ra0 := List.length_eq_zero_iff.1 h1
      cbv
      refine OpN.app0 ho hT rfl rfl (by rw [hP]; exact tok55.k) (by rw [hP]; exact tok67.sz) (fun h2 => ?_) (fun h2 => ?_)
      · have rb0 := List.length_eq_zero_iff.1 h2
        have hE : (SL o Part.X (a ++ b)).rows = (RR.lits []).rows := by rw [rab, ra0, rb0]; rfl
        cbv
        refine CallI.pure hP hO fn80 rfl rfl (by first | exact toDLr9 hE | exact toDLr9 (Eq.symm hE)) ?_
        cbv
        repeat' (first | (refine Br.mk (fun hb => ?_) (fun hb => ?_) <;> ((try rw [ho] at hb); (try dsimp only [Ar.real, IX.vo] at hb); (try simp only [QR3] at hb); (try simp only [QBo, beq_iff_eq, beq_eq_false_iff_ne, ne_eq] at hb))) | (refine StopN.mk ?_; cbv) | (refine CallI.pure hP (x_r05Right _ ‹_›) fn47 (by first | rfl | (rw [ho]; try rfl)) (by rfl) (by first | rfl | (rw [ho]; try rfl)) ?_; (try rw [← ho]); generalize hr : vecRight _ = r; (try rw [ho] at hr); (try dsimp only [Ar.real, IX.vo] at hr); (try simp only [QR3] at hr); cbv) | (refine CallI.pure hP (x_r05Of _ ‹_›) fn80 (by first | rfl | (rw [ho]; try rfl)) (by rfl) (by first | rfl | (rw [ho]; try rfl)) ?_; (try rw [← ho]); generalize hr : rOf _ = r; (try rw [ho] at hr); (try dsimp only [Ar.real, IX.vo] at hr); (try simp only [QR3] at hr); cbv) | (refine hK _ _ ?_) | (refine NeedT.mk ?_ ?_))
        exact FinX_rb2 (by rw [ho]) rfl
      · have hl2 : 0 < b.length := by rw [rb, List.length_map] at h2; exact h2
        have hE : (SL o Part.X (a ++ b)).rows = ((RR.lits []).app (SL o Part.X b)).rows := by rw [rab, ra0]; rfl
        cbv
        repeat' (first | (refine Br.mk (fun hb => ?_) (fun hb => ?_) <;> ((try rw [ho] at hb); (try dsimp only [Ar.real, IX.vo] at hb); (try simp only [QR3] at hb); (try simp only [QBo, beq_iff_eq, beq_eq_false_iff_ne, ne_eq] at hb))) | (refine StopN.mk ?_; cbv) | (refine CallI.pure hP (x_r05Right _ ‹_›) fn47 (by first | rfl | (rw [ho]; try rfl)) (by rfl) (by first | rfl | (rw [ho]; try rfl)) ?_; (try rw [← ho]); generalize hr : vecRight _ = r; (try rw [ho] at hr); (try dsimp only [Ar.real, IX.vo] at hr); (try simp only [QR3] at hr); cbv) | (refine CallI.pure hP (x_r05Of _ ‹_›) fn80 (by first | rfl | (rw [ho]; try rfl)) (by rfl) (by first | rfl | (rw [ho]; try rfl)) ?_; (try rw [← ho]); generalize hr : rOf _ = r; (try rw [ho] at hr); (try dsimp only [Ar.real, IX.vo] at hr); (try simp only [QR3] at hr); cbv) | (refine hK _ _ ?_) | (refine NeedT.mk ?_ ?_) | (refine NeedP.mk (fits_Part o ho b) ?_))
        any_goals (((try clear hR3); (try clear hR2); (try clear hR); (try clear hK); (try simp only [ncCast] at *); (try simp only [castI_eq] at *); (try rw [ho]); (try dsimp only [Ar.real, IX.vo, IX.val, BX.val, IX.toN]); (try simp only [QR3]); (try simp only [decide_eq_true_eq]); (all_goals (repeat rw [wrap_i64 (by omega) (by omega)])); (all_goals (first | omega | (simp only [Int.ofNat_eq_natCast]; omega)))); done)
        refine FrzN.frz 0 [18] rfl (fun t ht => by rw [List.mem_singleton.1 ht]; rfl) (.done ?_)
        refine CallI.pure hP hO fn80 rfl rfl (by first | exact toDLr9 hE | exact toDLr9 (Eq.symm hE)) ?_
        cbv
        repeat' (first | (refine Br.mk (fun hb => ?_) (fun hb => ?_) <;> ((try rw [ho] at hb); (try dsimp only [Ar.real, IX.vo] at hb); (try simp only [QR3] at hb); (try simp only [QBo, beq_iff_eq, beq_eq_false_iff_ne, ne_eq] at hb))) | (refine StopN.mk ?_; cbv) | (refine CallI.pure hP (x_r05Right _ ‹_›) fn47 (by first | rfl | (rw [ho]; try rfl)) (by rfl) (by first | rfl | (rw [ho]; try rfl)) ?_; (try rw [← ho]); generalize hr : vecRight _ = r; (try rw [ho] at hr); (try dsimp only [Ar.real, IX.vo] at hr); (try simp only [QR3] at hr); cbv) | (refine CallI.pure hP (x_r05Of _ ‹_›) fn80 (by first | rfl | (rw [ho]; try rfl)) (by rfl) (by first | rfl | (rw [ho]; try rfl)) ?_; (try rw [← ho]); generalize hr : rOf _ = r; (try rw [ho] at hr); (try dsimp only [Ar.real, IX.vo] at hr); (try simp only [QR3] at hr); cbv) | (refine hK _ _ ?_) | (refine NeedT.mk ?_ ?_))
        exact FinX_rb2 (by rw [ho]) rfl
    · have hl1 : 0 < a.length := by rw [ra, List.length_map] at h1; exact h1
      have hE : (SL o Part.X (a ++ b)).rows = (((RR.lits []).app (SL o Part.X a)).app (SL o Part.X b)).rows := by rw [rab]; rfl
      cbv
      repeat' (first | (refine Br.mk (fun hb => ?_) (fun hb => ?_) <;> ((try rw [ho] at hb); (try dsimp only [Ar.real, IX.vo] at hb); (try simp only [QR3] at hb); (try simp only [QBo, beq_iff_eq, beq_eq_false_iff_ne, ne_eq] at hb))) | (refine StopN.mk ?_; cbv) | (refine CallI.pure hP (x_r05Right _ ‹_›) fn47 (by first | rfl | (rw [ho]; try rfl)) (by rfl) (by first | rfl | (rw [ho]; try rfl)) ?_; (try rw [← ho]); generalize hr : vecRight _ = r; (try rw [ho] at hr); (try dsimp only [Ar.real, IX.vo] at hr); (try simp only [QR3] at hr); cbv) | (refine CallI.pure hP (x_r05Of _ ‹_›) fn80 (by first | rfl | (rw [ho]; try rfl)) (by rfl) (by first | rfl | (rw [ho]; try rfl)) ?_; (try rw [← ho]); generalize hr : rOf _ = r; (try rw [ho] at hr); (try dsimp only [Ar.real, IX.vo] at hr); (try simp only [QR3] at hr); cbv) | (refine hK _ _ ?_) | (refine NeedT.mk ?_ ?_) | (first | refine NeedP.mk (fits_Part o ho a) ?_ | refine NeedP.mk (fits_Part o ho b) ?_))
      any_goals (((try clear hR3); (try clear hR2); (try clear hR); (try clear hK); (try simp only [ncCast] at *); (try simp only [castI_eq] at *); (try rw [ho]); (try dsimp only [Ar.real, IX.vo, IX.val, BX.val, IX.toN]); (try simp only [QR3]); (try simp only [decide_eq_true_eq]); (all_goals (repeat rw [wrap_i64 (by omega) (by omega)])); (all_goals (first | omega | (simp only [Int.ofNat_eq_natCast]; omega)))); done)
      refine FrzN.frz 0 [18] rfl (fun t ht => by rw [List.mem_singleton.1 ht]; rfl) (.done ?_)
      refine CallI.pure hP hO fn80 rfl rfl (by first | exact toDLr9 hE | exact toDLr9 (Eq.symm hE)) ?_
      cbv
      repeat' (first | (refine Br.mk (fun hb => ?_) (fun hb => ?_) <;> ((try rw [ho] at hb); (try dsimp only [Ar.real, IX.vo] at hb); (try simp only [QR3] at hb); (try simp only [QBo, beq_iff_eq, beq_eq_false_iff_ne, ne_eq] at hb))) | (refine StopN.mk ?_; cbv) | (refine CallI.pure hP (x_r05Right _ ‹_›) fn47 (by first | rfl | (rw [ho]; try rfl)) (by rfl) (by first | rfl | (rw [ho]; try rfl)) ?_; (try rw [← ho]); generalize hr : vecRight _ = r; (try rw [ho] at hr); (try dsimp only [Ar.real, IX.vo] at hr); (try simp only [QR3] at hr); cbv) | (refine CallI.pure hP (x_r05Of _ ‹_›) fn80 (by first | rfl | (rw [ho]; try rfl)) (by rfl) (by first | rfl | (rw [ho]; try rfl)) ?_; (try rw [← ho]); generalize hr : rOf _ = r; (try rw [ho] at hr); (try dsimp only [Ar.real, IX.vo] at hr); (try simp only [QR3] at hr); cbv) | (refine hK _ _ ?_) | (refine NeedT.mk ?_ ?_))
      exact FinX_rb2 (by rw [ho]) rfl
end Go.Proofs.YtlblpbahoblihaaGreat.Sy
namespace Go.Proofs.YtlblpbahoblihaaGreat.Sy
open Go Go.Sy Go.Proofs.YtlblpbahoblihaaGreat
theorem x_r05Same (a b : List Part) (hab : a.length ≤ 1048576 ∧ b.length ≤ 1048576) : XC Tryz.prog 52 [.ro (SL Ar.real Part.X a), .ro (SL Ar.real Part.X b)] [] (xb (vEq a b)) [] := by
  obtain ⟨ha, hb'⟩ := hab
  (refine XC.of_body (dt52) Tryz.func52 rfl Tryz.ntmps52 mixed (T := tl52) tk52 (by kernel_rfl) (by simp) rfl rfl rfl rfl rfl ?_; rintro o ho P hP c K hK; have hm : P.follows .mixedOrders = true := hP ▸ mixed; have hT : TOk P tl52 := hP ▸ tk52; (try rw [← ho]); cbv; (repeat (refine StopN.mk ?_; cbv)))
  repeat' (first | (refine Br.mk (fun hb => ?_) (fun hb => ?_) <;> ((try rw [ho] at hb); (try dsimp only [Ar.real, IX.vo] at hb); (try simp only [QR3] at hb); (try simp only [QBo, beq_iff_eq, beq_eq_false_iff_ne, ne_eq] at hb))) | (refine StopN.mk ?_; cbv) | (refine hK _ _ ?_) | (refine NeedT.mk ?_ ?_))
  · refine .b ?_
    ((try clear hR3); (try clear hR2); (try clear hR); (try clear hK); (try simp only [ncCast] at *); (try simp only [castI_eq] at *); (try rw [ho]); (try dsimp only [Ar.real, IX.vo, IX.val, BX.val, IX.toN]); (try simp only [QR3]))
    have hne : a ≠ b := fun e => ‹¬ a.length = b.length› (by rw [e])
    simp only [vEq, decide_eq_false hne]
  refine LoopN.over (o := o) (D := dt52) ho hm hT (by kernel_rfl) (fun i : Nat => [(5, xn i)]) (fun _ => []) (fun _ => []) (fun i => i ≤ a.length ∧ ∀ j, j < i → a.getD j default = b.getD j default) (fun i => a.length - i) 0 ⟨Nat.zero_le _, fun j hj => by omega⟩ ?_ ?_
  · (refine ⟨?_, ?_, ?_, ?_⟩ <;> cbv <;> repeat' (first | trivial | exact EqX.rfl' | exact EqO.rfl' | apply And.intro | ((try clear hR3); (try clear hR2); (try clear hR); (try clear hK); (try simp only [ncCast] at *); (try simp only [castI_eq] at *); refine EqX.i ?_; (try rw [ho]); (try dsimp only [Ar.real, IX.vo, IX.val, BX.val, IX.toN]); (try simp only [QR3]); (repeat rw [wrap_i64 (by omega) (by omega)]); omega)))
  · rintro i ⟨hi, hj⟩ R hR
    cbv
    repeat' (first | (refine Br.mk (fun hb => ?_) (fun hb => ?_) <;> ((try rw [ho] at hb); (try dsimp only [Ar.real, IX.vo] at hb); (try simp only [QR3] at hb); (try simp only [QBo, beq_iff_eq, beq_eq_false_iff_ne, ne_eq] at hb))) | (refine StopN.mk ?_; cbv) | (refine hK _ _ ?_) | (refine NeedT.mk ?_ ?_))
    any_goals (((try clear hR3); (try clear hR2); (try clear hR); (try clear hK); (try simp only [ncCast] at *); (try simp only [castI_eq] at *); (try rw [ho]); (try dsimp only [Ar.real, IX.vo, IX.val, BX.val, IX.toN]); (try simp only [QR3]); (try simp only [decide_eq_true_eq]); (all_goals (repeat rw [wrap_i64 (by omega) (by omega)])); (all_goals (first | omega | (simp only [Int.ofNat_eq_natCast]; omega)))); done)
    · have hne : a ≠ b := fun e => by
        ((try clear hR3); (try clear hR2); (try clear hR); (try clear hK); (try simp only [ncCast] at *); (try simp only [castI_eq] at *))
        subst e
        simp at hb
      refine .b ?_
      ((try clear hR3); (try clear hR2); (try clear hR); (try clear hK); (try simp only [ncCast] at *); (try simp only [castI_eq] at *); (try rw [ho]); (try dsimp only [Ar.real, IX.vo, IX.val, BX.val, IX.toN]); (try simp only [QR3]))
      simp only [vEq, decide_eq_false hne]
    · have he : a.getD i default = b.getD i default := by
        ((try clear hR3); (try clear hR2); (try clear hR); (try clear hK); (try simp only [ncCast] at *); (try simp only [castI_eq] at *))
        simp only [Bool.and_eq_true, decide_eq_true_eq] at hb
        exact Part.ext9 hb.1 hb.2.1 hb.2.2
      refine hR _ (i + 1) (by omega) ⟨by omega, fun j h => ?_⟩ ?_
      · rcases Nat.lt_or_ge j i with h3 | h3
        · exact hj j h3
        · obtain rfl : j = i := by omega
          exact he
      · (refine ⟨?_, ?_, ?_, ?_⟩ <;> cbv <;> repeat' (first | trivial | exact EqX.rfl' | exact EqO.rfl' | apply And.intro | ((try clear hR3); (try clear hR2); (try clear hR); (try clear hK); (try simp only [ncCast] at *); (try simp only [castI_eq] at *); refine EqX.i ?_; (try rw [ho]); (try dsimp only [Ar.real, IX.vo, IX.val, BX.val, IX.toN]); (try simp only [QR3]); (repeat rw [wrap_i64 (by omega) (by omega)]); omega)))
    · have he : a = b := by
        apply List.ext_getElem ‹a.length = b.length›
        intro j g1 g2
        have := hj j (by omega)
        simpa [List.getD_eq_getElem?_getD, g1, g2] using this
      refine .b ?_
      ((try clear hR3); (try clear hR2); (try clear hR); (try clear hK); (try simp only [ncCast] at *); (try simp only [castI_eq] at *); (try rw [ho]); (try dsimp only [Ar.real, IX.vo, IX.val, BX.val, IX.toN]); (try simp only [QR3]))
      simp only [vEq, decide_eq_true he]
theorem gO_len {g : Int} {s : VB} (hs : s.1.length ≤ 1048576) (l : List Ofr) : ∀ k, (gO g s l k).1.length ≤ 1048576
  | 0 => hs
  | k + 1 => by
    show (gStep _ _ _ _).1.length ≤ _
    unfold gStep
    split
    · have := (addV_ok (gO g s l k).1 (l.getD k default).vec).len
      omega
    · exact gO_len hs l k
theorem gT_len {g : Int} {s : VB} (hs : s.1.length ≤ 1048576) (l : List Tsk) : ∀ k, (gT g s l k).1.length ≤ 1048576
  | 0 => hs
  | k + 1 => by
    show (gStep _ _ _ _).1.length ≤ _
    unfold gStep
    split
    · have := (addV_ok (gT g s l k).1 (l.getD k default).vec).len
      omega
    · exact gT_len hs l k
structure StG where
  k : Nat
  v : List Part
  ok : Bool
theorem x_r16ledger (b : Bk) (hbk : BkOk b) : XC Tryz.prog 26 [.agg (Bk.X Ar.real b)] [] (xb (pB (∀ i, i < b.ag.length → LdOk b i))) [] := by
  have n1 := hbk.n_ag
  have n2 := hbk.n_of
  have n3 := hbk.n_tk
  have l0 := hbk.a1
  have l1 := hbk.a2
  have l2 := hbk.o1
  have l3 := hbk.t1
  have q0 : ∀ i, i < b.ag.length → ¬ LdOk b i → pB (∀ i, i < b.ag.length → LdOk b i) = false := fun i hi h => pB_f fun h2 => h (h2 i hi)
  have q1 : (∀ i, i < b.ag.length → LdOk b i) → pB (∀ i, i < b.ag.length → LdOk b i) = true := fun h => pB_t h
  obtain ⟨GO, hGO⟩ : ∃ G : Nat → Nat → VB, G = fun i => gO (b.ag.getD i default).id ((b.ag.getD i default).free, true) b.of := ⟨_, rfl⟩
  obtain ⟨GT, hGT⟩ : ∃ G : Nat → Nat → VB, G = fun i => gT (b.ag.getD i default).id (GO i b.of.length) b.tk := ⟨_, rfl⟩
  have o0 : ∀ i, GO i 0 = ((b.ag.getD i default).free, true) := fun i => by rw [hGO]; rfl
  have o1 : ∀ i k, GO i (k + 1) = gStep (b.ag.getD i default).id (GO i k) (b.of.getD k default).agent (b.of.getD k default).vec := fun i k => by rw [hGO]; rfl
  have os : ∀ i k, k ≤ b.of.length → (GO i k).2 = false → GO i b.of.length = GO i k := fun i k hk h => by rw [hGO] at h ⊢; exact gO_stay h _ hk
  have ol : ∀ i k, (GO i k).1.length ≤ 1048576 := fun i k => by rw [hGO]; exact gO_len (l1 i) _ _
  have t0 : ∀ i, GT i 0 = GO i b.of.length := fun i => by rw [hGT]; rfl
  have t1 : ∀ i k, GT i (k + 1) = gStep (b.ag.getD i default).id (GT i k) (b.tk.getD k default).agent (b.tk.getD k default).vec := fun i k => by rw [hGT]; rfl
  have ts : ∀ i k, k ≤ b.tk.length → (GT i k).2 = false → GT i b.tk.length = GT i k := fun i k hk h => by rw [hGT] at h ⊢; exact gT_stay h _ hk
  have tl : ∀ i k, (GT i k).1.length ≤ 1048576 := fun i k => by rw [hGT]; exact gT_len (ol i _) _ _
  have k0 : ∀ i, LdOk b i ↔ (GT i b.tk.length).2 = true ∧ vEq (GT i b.tk.length).1 (b.ag.getD i default).total = true := fun i => by rw [hGT, hGO]; exact Iff.rfl
  clear hGT hGO
  generalize pB (∀ i, i < b.ag.length → LdOk b i) = r at *
  generalize LdOk b = Ok at *
  obtain ⟨⟨c1, c2, c3, c4, c5, ⟨c6, c7, c8, c9⟩⟩, now, last, fr, ag, of, tk, fl⟩ := b
  dsimp only at *
  clear hbk
  (refine XC.of_body (dt26) Tryz.func26 rfl Tryz.ntmps26 mixed (T := tl26) tk26 (by kernel_rfl) (by simp) rfl rfl rfl rfl rfl ?_; rintro o ho P hP c K hK; have hm : P.follows .mixedOrders = true := hP ▸ mixed; have hT : TOk P tl26 := hP ▸ tk26; (try rw [← ho]); cbv; (repeat (refine StopN.mk ?_; cbv)))
  refine LoopN.over (o := o) (D := dt26) ho hm hT (by kernel_rfl) (fun i : Nat => [(3, xn i)]) (fun _ => []) (fun _ => []) (fun i => i ≤ ag.length ∧ ∀ j, j < i → Ok j) (fun i => ag.length - i) 0 ⟨Nat.zero_le _, fun j hj => absurd hj (Nat.not_lt_zero j)⟩ ?_ ?_
  · (refine ⟨?_, ?_, ?_, ?_⟩ <;> cbv <;> repeat' (first | trivial | exact EqX.rfl' | exact EqO.rfl' | apply And.intro | ((try clear hR3); (try clear hR2); (try clear hR); (try clear hK); (try simp only [ncCast] at *); (try simp only [castI_eq] at *); refine EqX.i ?_; (try rw [ho]); (try dsimp only [Ar.real, IX.vo, IX.val, BX.val, IX.toN]); (try simp only [QR3]); (repeat rw [wrap_i64 (by omega) (by omega)]); omega)))
  · rintro i ⟨hi, hok⟩ R hR
    have ei : o.nth ag i = ag.getD i default := by rw [ho, real_nth]
    have q0i := q0 i
    have k0i := k0 i
    have hok' := all_step hok
    have o0i := o0 i
    have o1i := o1 i
    have osi := os i
    have oli := ol i
    have t0i := t0 i
    have t1i := t1 i
    have tsi := ts i
    have tli := tl i
    have l0i := l0 i
    generalize GO i = GOi at *
    generalize GT i = GTi at *
    clear q0 k0 o0 o1 os ol t0 t1 ts tl l0 l1
    obtain ⟨f0, hf0⟩ : ∃ f, f = (o.nth ag i).free := ⟨_, rfl⟩
    obtain ⟨b0, hb0⟩ : ∃ t, t = true := ⟨_, rfl⟩
    rw [← ei, ← hf0, ← hb0] at o0i
    cbv
    repeat' (first | (refine Br.mk (fun hb => ?_) (fun hb => ?_) <;> ((try rw [ho] at hb); (try dsimp only [Ar.real, IX.vo] at hb); (try simp only [QR3] at hb); (try simp only [QBo, beq_iff_eq, beq_eq_false_iff_ne, ne_eq] at hb))) | (refine StopN.mk ?_; cbv) | ((first | refine CallI.pure hP (x_r05Add _ _ ‹_› ‹_›) fn51 (by first | rfl | (rw [ho]; try rfl)) (by rfl) (by first | rfl | (rw [ho]; try rfl)) ?_ | refine CallN.pure hP (x_r05Add _ _ ‹_› ‹_›) fn51 (by first | rfl | (rw [ho]; try rfl)) (by rfl) (by first | rfl | (rw [ho]; try rfl)) ?_); (try rw [← ho]); generalize hr : addV _ _ = r; (try rw [ho] at hr); (try dsimp only [Ar.real, IX.vo] at hr); (try simp only [QR3] at hr); cbv) | ((first | refine CallI.pure hP (x_r05Same _ _ ‹_›) fn52 (by first | rfl | (rw [ho]; try rfl)) (by rfl) (by first | rfl | (rw [ho]; try rfl)) ?_ | refine CallN.pure hP (x_r05Same _ _ ‹_›) fn52 (by first | rfl | (rw [ho]; try rfl)) (by rfl) (by first | rfl | (rw [ho]; try rfl)) ?_); (try rw [← ho]); generalize hr : vEq _ _ = r; (try rw [ho] at hr); (try dsimp only [Ar.real, IX.vo] at hr); (try simp only [QR3] at hr); cbv) | (refine hK _ _ ?_) | (refine NeedT.mk ?_ ?_))
    any_goals (((try clear hR3); (try clear hR2); (try clear hR); (try clear hK); (try simp only [ncCast] at *); (try simp only [castI_eq] at *); (try rw [ho]); (try dsimp only [Ar.real, IX.vo, IX.val, BX.val, IX.toN]); (try simp only [QR3]); (try simp only [decide_eq_true_eq]); (all_goals (repeat rw [wrap_i64 (by omega) (by omega)])); (all_goals (first | omega | (simp only [Int.ofNat_eq_natCast]; omega)))); done)
    · have hlt : i < ag.length := by ((try clear hR3); (try clear hR2); (try clear hR); (try clear hK); (try simp only [ncCast] at *); (try simp only [castI_eq] at *)); omega
      refine LoopN.over (o := o) (D := dt26) ho hm hT (by kernel_rfl) (fun s : StG => [(6, xn s.k), (4, .ro (SL o Part.X s.v)), (5, xb s.ok)]) (fun _ => []) (fun _ => []) (fun s => s.k ≤ of.length ∧ (s.v, s.ok) = GOi s.k) (fun s => of.length - s.k) ⟨0, f0, b0⟩ ⟨Nat.zero_le _, o0i.symm⟩ ?_ ?_
      · (refine ⟨?_, ?_, ?_, ?_⟩ <;> cbv <;> repeat' (first | trivial | exact EqX.rfl' | exact EqO.rfl' | apply And.intro | ((try clear hR3); (try clear hR2); (try clear hR); (try clear hK); (try simp only [ncCast] at *); (try simp only [castI_eq] at *); refine EqX.i ?_; (try rw [ho]); (try dsimp only [Ar.real, IX.vo, IX.val, BX.val, IX.toN]); (try simp only [QR3]); (repeat rw [wrap_i64 (by omega) (by omega)]); omega) | (refine EqX.ro ?_; rw [hf0]) | (refine EqX.b ?_; rw [hb0]; rfl)))
      · rintro ⟨k, v, ok⟩ ⟨hk, hv⟩ R2 hR2
        dsimp only at hk hv
        have ek : o.nth of k = of.getD k default := by rw [ho, real_nth]
        have hlen := oli k
        have e1 := o1i k
        have hst := osi k hk
        rw [← hv] at hlen e1 hst
        have hA := x_r05Add v (of.getD k default).vec hlen (l2 k)
        have F1 : ok = true → (of.getD k default).agent = (ag.getD i default).id → addV v (of.getD k default).vec = GOi (k + 1) := fun h h' => by rw [e1]; exact (if_pos ⟨h, h'⟩).symm
        have F2 : ¬ (of.getD k default).agent = (ag.getD i default).id → (v, ok) = GOi (k + 1) := fun h => by rw [e1]; exact (if_neg fun h' => h h'.2).symm
        have F3 : of.length ≤ k → (v, ok) = GTi 0 := fun h => by
          obtain rfl : k = of.length := by omega
          rw [t0i, hv]
        have F4 : ok = false → (v, ok) = GTi 0 := fun h => by rw [t0i, hst h]
        generalize addV v (of.getD k default).vec = q at *
        obtain ⟨q1, q2⟩ := q
        dsimp only at hA
        rw [← ek, ← ho] at hA
        clear e1 hst
        cbv
        repeat' (first | (refine Br.mk (fun hb => ?_) (fun hb => ?_) <;> ((try rw [ho] at hb); (try dsimp only [Ar.real, IX.vo] at hb); (try simp only [QR3] at hb); (try simp only [QBo, beq_iff_eq, beq_eq_false_iff_ne, ne_eq] at hb))) | (refine StopN.mk ?_; cbv) | ((first | refine CallI.pure hP hA fn51 rfl rfl rfl ?_ | refine CallN.pure hP hA fn51 rfl rfl rfl ?_); cbv) | ((first | refine CallI.pure hP (x_r05Same _ _ ‹_›) fn52 (by first | rfl | (rw [ho]; try rfl)) (by rfl) (by first | rfl | (rw [ho]; try rfl)) ?_ | refine CallN.pure hP (x_r05Same _ _ ‹_›) fn52 (by first | rfl | (rw [ho]; try rfl)) (by rfl) (by first | rfl | (rw [ho]; try rfl)) ?_); (try rw [← ho]); generalize hr : vEq _ _ = r; (try rw [ho] at hr); (try dsimp only [Ar.real, IX.vo] at hr); (try simp only [QR3] at hr); cbv) | (refine hK _ _ ?_) | (refine NeedT.mk ?_ ?_))
        any_goals (((try clear hR3); (try clear hR2); (try clear hR); (try clear hK); (try simp only [ncCast] at *); (try simp only [castI_eq] at *); (try rw [ho]); (try dsimp only [Ar.real, IX.vo, IX.val, BX.val, IX.toN]); (try simp only [QR3]); (try simp only [decide_eq_true_eq]); (all_goals (repeat rw [wrap_i64 (by omega) (by omega)])); (all_goals (first | omega | (simp only [Int.ofNat_eq_natCast]; omega)))); done)
        · refine hR2 _ ⟨k + 1, q1, q2⟩ (by show of.length - (k + 1) < of.length - k; ((try clear hR3); (try clear hR2); (try clear hR); (try clear hK); (try simp only [ncCast] at *); (try simp only [castI_eq] at *)); omega) ⟨by show k + 1 ≤ of.length; ((try clear hR3); (try clear hR2); (try clear hR); (try clear hK); (try simp only [ncCast] at *); (try simp only [castI_eq] at *)); omega, F1 (by assumption) (by assumption)⟩ ?_
          (refine ⟨?_, ?_, ?_, ?_⟩ <;> cbv <;> repeat' (first | trivial | exact EqX.rfl' | exact EqO.rfl' | apply And.intro | ((try clear hR3); (try clear hR2); (try clear hR); (try clear hK); (try simp only [ncCast] at *); (try simp only [castI_eq] at *); refine EqX.i ?_; (try rw [ho]); (try dsimp only [Ar.real, IX.vo, IX.val, BX.val, IX.toN]); (try simp only [QR3]); (repeat rw [wrap_i64 (by omega) (by omega)]); omega)))
        · refine hR2 _ ⟨k + 1, v, ok⟩ (by show of.length - (k + 1) < of.length - k; ((try clear hR3); (try clear hR2); (try clear hR); (try clear hK); (try simp only [ncCast] at *); (try simp only [castI_eq] at *)); omega) ⟨by show k + 1 ≤ of.length; ((try clear hR3); (try clear hR2); (try clear hR); (try clear hK); (try simp only [ncCast] at *); (try simp only [castI_eq] at *)); omega, F2 (by assumption)⟩ ?_
          (refine ⟨?_, ?_, ?_, ?_⟩ <;> cbv <;> repeat' (first | trivial | exact EqX.rfl' | exact EqO.rfl' | apply And.intro | ((try clear hR3); (try clear hR2); (try clear hR); (try clear hK); (try simp only [ncCast] at *); (try simp only [castI_eq] at *); refine EqX.i ?_; (try rw [ho]); (try dsimp only [Ar.real, IX.vo, IX.val, BX.val, IX.toN]); (try simp only [QR3]); (repeat rw [wrap_i64 (by omega) (by omega)]); omega)))
        all_goals
          have hv2 : (v, ok) = GTi 0 := by first | exact F3 (by assumption) | exact F4 (by assumption)
          clear hR2 F1 F2 F3 F4 hA ek q1 q2
          refine LoopN.over (o := o) (D := dt26) ho hm hT (by kernel_rfl) (fun s : StG => [(7, xn s.k), (4, .ro (SL o Part.X s.v)), (5, xb s.ok)]) (fun _ => []) (fun _ => []) (fun s => s.k ≤ tk.length ∧ (s.v, s.ok) = GTi s.k) (fun s => tk.length - s.k) ⟨0, v, ok⟩ ⟨Nat.zero_le _, hv2⟩ ?_ ?_
          · (refine ⟨?_, ?_, ?_, ?_⟩ <;> cbv <;> repeat' (first | trivial | exact EqX.rfl' | exact EqO.rfl' | apply And.intro | ((try clear hR3); (try clear hR2); (try clear hR); (try clear hK); (try simp only [ncCast] at *); (try simp only [castI_eq] at *); refine EqX.i ?_; (try rw [ho]); (try dsimp only [Ar.real, IX.vo, IX.val, BX.val, IX.toN]); (try simp only [QR3]); (repeat rw [wrap_i64 (by omega) (by omega)]); omega)))
          · rintro ⟨k, v, ok⟩ ⟨hk, hv⟩ R2 hR2
            dsimp only at hk hv
            have ek : o.nth tk k = tk.getD k default := by rw [ho, real_nth]
            have hlen := tli k
            have e1 := t1i k
            have hst := tsi k hk
            rw [← hv] at hlen e1 hst
            have hA := x_r05Add v (tk.getD k default).vec hlen (l3 k)
            have hS := x_r05Same v (ag.getD i default).total ⟨hlen, l0i⟩
            have F1 : ok = true → (tk.getD k default).agent = (ag.getD i default).id → addV v (tk.getD k default).vec = GTi (k + 1) := fun h h' => by rw [e1]; exact (if_pos ⟨h, h'⟩).symm
            have F2 : ¬ (tk.getD k default).agent = (ag.getD i default).id → (v, ok) = GTi (k + 1) := fun h => by rw [e1]; exact (if_neg fun h' => h h'.2).symm
            have hend : tk.length ≤ k → (v, ok) = GTi tk.length := fun h => by
              obtain rfl : k = tk.length := by omega
              exact hv
            have F3 : ok = false → r = false := fun h => q0i hlt fun h2 => by
              have := (k0i.1 h2).1
              rw [hst h, h] at this
              cases this
            have F4 : tk.length ≤ k → vEq v (ag.getD i default).total = false → r = false := fun h h3 => q0i hlt fun h2 => by
              have := (k0i.1 h2).2
              rw [← hend h, h3] at this
              cases this
            have F5 : tk.length ≤ k → ok = true → vEq v (ag.getD i default).total = true → Ok i := fun h h3 h4 => k0i.2 (by rw [← hend h]; exact ⟨h3, h4⟩)
            generalize addV v (tk.getD k default).vec = q at *
            obtain ⟨q1, q2⟩ := q
            generalize vEq v (ag.getD i default).total = w at *
            dsimp only at hA
            rw [← ek, ← ho] at hA
            rw [← ei, ← ho] at hS
            clear e1 hst hend
            cbv
            repeat' (first | (refine Br.mk (fun hb => ?_) (fun hb => ?_) <;> ((try rw [ho] at hb); (try dsimp only [Ar.real, IX.vo] at hb); (try simp only [QR3] at hb); (try simp only [QBo, beq_iff_eq, beq_eq_false_iff_ne, ne_eq] at hb))) | (refine StopN.mk ?_; cbv) | ((first | refine CallI.pure hP hA fn51 rfl rfl rfl ?_ | refine CallI.pure hP hS fn52 rfl rfl rfl ?_); cbv) | (refine hK _ _ ?_) | (refine NeedT.mk ?_ ?_))
            any_goals (((try clear hR3); (try clear hR2); (try clear hR); (try clear hK); (try simp only [ncCast] at *); (try simp only [castI_eq] at *); (try rw [ho]); (try dsimp only [Ar.real, IX.vo, IX.val, BX.val, IX.toN]); (try simp only [QR3]); (try simp only [decide_eq_true_eq]); (all_goals (repeat rw [wrap_i64 (by omega) (by omega)])); (all_goals (first | omega | (simp only [Int.ofNat_eq_natCast]; omega)))); done)
            · refine hR2 _ ⟨k + 1, q1, q2⟩ (by show tk.length - (k + 1) < tk.length - k; ((try clear hR3); (try clear hR2); (try clear hR); (try clear hK); (try simp only [ncCast] at *); (try simp only [castI_eq] at *)); omega) ⟨by show k + 1 ≤ tk.length; ((try clear hR3); (try clear hR2); (try clear hR); (try clear hK); (try simp only [ncCast] at *); (try simp only [castI_eq] at *)); omega, F1 (by assumption) (by assumption)⟩ ?_
              (refine ⟨?_, ?_, ?_, ?_⟩ <;> cbv <;> repeat' (first | trivial | exact EqX.rfl' | exact EqO.rfl' | apply And.intro | ((try clear hR3); (try clear hR2); (try clear hR); (try clear hK); (try simp only [ncCast] at *); (try simp only [castI_eq] at *); refine EqX.i ?_; (try rw [ho]); (try dsimp only [Ar.real, IX.vo, IX.val, BX.val, IX.toN]); (try simp only [QR3]); (repeat rw [wrap_i64 (by omega) (by omega)]); omega)))
            · refine hR2 _ ⟨k + 1, v, ok⟩ (by show tk.length - (k + 1) < tk.length - k; ((try clear hR3); (try clear hR2); (try clear hR); (try clear hK); (try simp only [ncCast] at *); (try simp only [castI_eq] at *)); omega) ⟨by show k + 1 ≤ tk.length; ((try clear hR3); (try clear hR2); (try clear hR); (try clear hK); (try simp only [ncCast] at *); (try simp only [castI_eq] at *)); omega, F2 (by assumption)⟩ ?_
              (refine ⟨?_, ?_, ?_, ?_⟩ <;> cbv <;> repeat' (first | trivial | exact EqX.rfl' | exact EqO.rfl' | apply And.intro | ((try clear hR3); (try clear hR2); (try clear hR); (try clear hK); (try simp only [ncCast] at *); (try simp only [castI_eq] at *); refine EqX.i ?_; (try rw [ho]); (try dsimp only [Ar.real, IX.vo, IX.val, BX.val, IX.toN]); (try simp only [QR3]); (repeat rw [wrap_i64 (by omega) (by omega)]); omega)))
            · rw [F3 (by assumption)]
              exact .b rfl
            · exact absurd (‹ok = true›.symm.trans ‹ok = false›) (by decide)
            · exact absurd (‹ok = true›.symm.trans ‹ok = false›) (by decide)
            · rw [F3 (by assumption)]
              exact .b rfl
            · rw [F4 (by assumption) (by assumption)]
              exact .b rfl
            · have hk5 := F5 (by assumption) (by assumption) (by assumption)
              refine hR _ (i + 1) (by show ag.length - (i + 1) < ag.length - i; omega) ⟨by show i + 1 ≤ ag.length; omega, hok' hk5⟩ ?_
              (refine ⟨?_, ?_, ?_, ?_⟩ <;> cbv <;> repeat' (first | trivial | exact EqX.rfl' | exact EqO.rfl' | apply And.intro | ((try clear hR3); (try clear hR2); (try clear hR); (try clear hK); (try simp only [ncCast] at *); (try simp only [castI_eq] at *); refine EqX.i ?_; (try rw [ho]); (try dsimp only [Ar.real, IX.vo, IX.val, BX.val, IX.toN]); (try simp only [QR3]); (repeat rw [wrap_i64 (by omega) (by omega)]); omega)))
    · obtain rfl : i = ag.length := by ((try clear hR3); (try clear hR2); (try clear hR); (try clear hK); (try simp only [ncCast] at *); (try simp only [castI_eq] at *)); omega
      rw [q1 hok]
      exact .b rfl
end Go.Proofs.YtlblpbahoblihaaGreat.Sy
namespace Go.Proofs.YtlblpbahoblihaaGreat.Sy
open Go Go.Sy Go.Proofs.YtlblpbahoblihaaGreat
theorem x_r16Rule (b : Bk) (hbk : BkOk b) : XC Tryz.prog 5 [.agg (Bk.X Ar.real b)] [] (xi (ruleP b)) [] := by
  have h1 := x_r13Right b.cfg
  have h2 := x_r16frames b hbk
  have h3 := x_r16agents b hbk
  have hs0 : setB b = (cfgB b.cfg && (decide (0 ≤ b.now) && (decide (b.now ≤ b.cfg.hor) && (decide (0 ≤ b.last) && decide (b.last ≤ b.cfg.ids))))) := rfl
  have h4 := fun (e1 : setB b = true) (e3 : agentsB b = true) => x_r16most b hbk (pB_iff.1 e3).1 (cfgB_iff.1 (setB_true e1).1).most
  have h5 := fun (e1 : setB b = true) => x_r16offers b hbk (by
    have h := setB_true e1
    have hc := cfgB_iff.1 h.1
    exact ⟨⟨h.2.1, Int.le_trans h.2.2.1 hc.hor.2⟩, hc.life⟩)
  have h6 := x_r16tasks b hbk
  have h7 := x_r16filters b hbk
  have h8 := x_r16ledger b hbk
  have hl := ledgerB_eq (b := b)
  have hr : ruleP b = if setB b = false then 1 else if framesB b = false then 2 else if agentsB b = false then 3 else if mostB b = false then 4 else if offersB b = false then 5 else if tasksB b = false then 6 else if filtersB b = false then 7 else if ledgerB b = false then 8 else 0 := rfl
  generalize setB b = s1 at *
  generalize framesB b = s2 at *
  generalize agentsB b = s3 at *
  generalize mostB b = s4 at *
  generalize offersB b = s5 at *
  generalize tasksB b = s6 at *
  generalize filtersB b = s7 at *
  generalize ledgerB b = s8 at *
  generalize pB (∀ i, i < b.ag.length → LdOk b i) = s9 at *
  generalize cfgB b.cfg = s0 at *
  generalize ruleP b = r at *
  obtain ⟨⟨k1, k2, k3, k4, k5, ⟨k6, k7, k8, k9⟩⟩, now, last, fr, ag, of, tk, fl⟩ := b
  clear hbk
  dsimp only at hs0
  have hS : s0 = true → 0 ≤ now → now ≤ k1 → 0 ≤ last → last ≤ k3 → s1 = true := fun a1 a2 a3 a4 a5 => by
    rw [hs0, a1, decide_eq_true a2, decide_eq_true a3, decide_eq_true a4, decide_eq_true a5]
    rfl
  have hX : s1 = false → r = 1 := fun h => by rw [hr, if_pos h]
  have N1 : s0 = false → r = 1 := fun h => hX (by rw [hs0, h]; rfl)
  have N2 : now < 0 → r = 1 := fun h => hX (by rw [hs0, decide_eq_false (p := 0 ≤ now) (by omega)]; simp)
  have N3 : k1 < now → r = 1 := fun h => hX (by rw [hs0, decide_eq_false (p := now ≤ k1) (by omega)]; simp)
  have N4 : last < 0 → r = 1 := fun h => hX (by rw [hs0, decide_eq_false (p := 0 ≤ last) (by omega)]; simp)
  have N5 : k3 < last → r = 1 := fun h => hX (by rw [hs0, decide_eq_false (p := last ≤ k3) (by omega)]; simp)
  have hr2 : s0 = true → 0 ≤ now → now ≤ k1 → 0 ≤ last → last ≤ k3 → r = if s2 = false then 2 else if s3 = false then 3 else if s4 = false then 4 else if s5 = false then 5 else if s6 = false then 6 else if s7 = false then 7 else if s8 = false then 8 else 0 := fun a1 a2 a3 a4 a5 => by
    rw [hr, if_neg (by rw [hS a1 a2 a3 a4 a5]; decide)]
  clear hr hX hs0
  (refine XC.of_body (dt5) Tryz.func5 rfl Tryz.ntmps5 mixed (T := tl5) tk5 (by kernel_rfl) (by simp) rfl rfl rfl rfl rfl ?_; rintro o ho P hP c K hK; have hm : P.follows .mixedOrders = true := hP ▸ mixed; have hT : TOk P tl5 := hP ▸ tk5; (try rw [← ho]); cbv; (repeat (refine StopN.mk ?_; cbv)))
  repeat' (first | (refine Br.mk (fun hb => ?_) (fun hb => ?_) <;> ((try rw [ho] at hb); (try dsimp only [Ar.real, IX.vo] at hb); (try simp only [QR3] at hb); (try simp only [QBo, beq_iff_eq, beq_eq_false_iff_ne, ne_eq] at hb))) | (refine StopN.mk ?_; cbv) | (first | refine NeedT.mk (by rw [ho]; rfl) ?_ | ((first | refine CallI.pure hP h1 fn19 rfl rfl rfl ?_ | refine CallI.pure hP h2 fn20 rfl rfl (by rw [ho]; rfl) ?_ | refine CallN.pure hP h2 fn20 rfl rfl (by rw [ho]; rfl) ?_ | refine CallI.pure hP h3 fn21 rfl rfl (by rw [ho]; rfl) ?_ | refine CallN.pure hP h3 fn21 rfl rfl (by rw [ho]; rfl) ?_ | refine CallI.pure hP (h4 (hS ‹_› ‹_› ‹_› ‹_› ‹_›) ‹_›) fn22 rfl rfl (by rw [ho]; rfl) ?_ | refine CallN.pure hP (h4 (hS ‹_› ‹_› ‹_› ‹_› ‹_›) ‹_›) fn22 rfl rfl (by rw [ho]; rfl) ?_ | refine CallI.pure hP (h5 (hS ‹_› ‹_› ‹_› ‹_› ‹_›)) fn23 rfl rfl (by rw [ho]; rfl) ?_ | refine CallN.pure hP (h5 (hS ‹_› ‹_› ‹_› ‹_› ‹_›)) fn23 rfl rfl (by rw [ho]; rfl) ?_ | refine CallI.pure hP h6 fn24 rfl rfl (by rw [ho]; rfl) ?_ | refine CallN.pure hP h6 fn24 rfl rfl (by rw [ho]; rfl) ?_ | refine CallI.pure hP h7 fn25 rfl rfl (by rw [ho]; rfl) ?_ | refine CallN.pure hP h7 fn25 rfl rfl (by rw [ho]; rfl) ?_ | refine CallI.pure hP h8 fn26 rfl rfl (by rw [ho]; rfl) ?_ | refine CallN.pure hP h8 fn26 rfl rfl (by rw [ho]; rfl) ?_); cbv)) | (refine hK _ _ ?_) | (refine NeedT.mk ?_ ?_) | (refine LoopN.lay (o := o) (D := dt5) 3 ho hm hT (by kernel_rfl) ?_; cbv))
  all_goals try first
    | (rw [N1 (by assumption)]; exact .i rfl)
    | (rw [N2 (by assumption)]; exact .i rfl)
    | (rw [N3 (by assumption)]; exact .i rfl)
    | (rw [N4 (by assumption)]; exact .i rfl)
    | (rw [N5 (by assumption)]; exact .i rfl)
  all_goals
    refine .i ?_
    rw [hr2 (by assumption) (by assumption) (by assumption) (by assumption) (by assumption)]
    clear h1 h2 h3 h4 h5 h6 h7 h8 hK hr2 hS N1 N2 N3 N4 N5
    simp_all
    try rfl
end Go.Proofs.YtlblpbahoblihaaGreat.Sy

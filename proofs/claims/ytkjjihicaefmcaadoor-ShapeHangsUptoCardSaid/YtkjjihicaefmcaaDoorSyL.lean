/-
  What is compared cell by cell: '==' of structs and arrays, keys of maps. Plain theorems.
-/
import Derived.Test.YtkjjihicaefmcaaDoorSyDa
import Derived.Laws.StructEq
import Derived.ChangeKeysEq
import Derived.MapKept
set_option linter.unusedVariables false
set_option linter.unusedSimpArgs false
set_option linter.unusedSectionVars false
namespace Go.Sy
open Go Go.RowKit
inductive LK where
  | int | bool | str
  deriving DecidableEq
def leafEq : LK → Value → Value → Option Bool
  | .int, .int k a, .int k' b => if k = k' then some (a == b) else none
  | .bool, .bool a, .bool b => some (a == b)
  | .str, .string a, .string b => some (a.toList == b.toList)
  | _, _, _ => none
def eqC : List LK → List Value → List Value → Option Bool
  | [], [], [] => some true
  | k :: ks, x :: xs, y :: ys => match leafEq k x y, eqC ks xs ys with | some r, some s => some (r && s) | _, _ => none
  | _, _, _ => none
def aggOf (P : Program) (t : TypeId) : Bool := match P.underlying t with | some (.array _ _) | some (.struct _) => true | _ => false
def flatFs (P : Program) (F : TypeId → Option (List LK)) : List Field → Nat → Option (List LK)
  | [], _ => some []
  | f :: fs, off =>
    if f.name == "_" then none else
    match F f.type, flatFs P F fs (off + P.cellsOf f.type) with
    | some l, some ls => if f.offset = off ∧ P.cellsOf f.type = l.length ∧ (P.info? f.type).isSome = true then some (l ++ ls) else none
    | _, _ => none
def flat (P : Program) : Nat → TypeId → Option (List LK)
  | 0, _ => none
  | d + 1, t =>
    match P.underlying t with
    | some (.int _) => some [.int]
    | some .bool => some [.bool]
    | some .string => some [.str]
    | some (.array n e) => match flat P d e with | some l => if P.cellsOf e = l.length ∧ (P.info? e).isSome = true then some (List.replicate n l).flatten else none | none => none
    | some (.struct fs) => if P.stoodInHeld t then none else flatFs P (flat P d) fs.toList 0
    | _ => none
def mkV (agg : Bool) (cs : List Value) : Value := if agg then .agg cs.toArray else cs.headD undef
theorem eqC_split : ∀ {l1 l2 : List LK} {xs ys : List Value} {r : Bool}, eqC (l1 ++ l2) xs ys = some r →
    ∃ r1 r2, eqC l1 (xs.take l1.length) (ys.take l1.length) = some r1 ∧ eqC l2 (xs.drop l1.length) (ys.drop l1.length) = some r2 ∧ r = (r1 && r2)
  | [], l2, xs, ys, r, h => ⟨true, r, by simp [eqC], by simpa using h, by simp⟩
  | k :: l1, l2, [], ys, r, h => by simp [eqC] at h
  | k :: l1, l2, x :: xs, [], r, h => by simp [eqC] at h
  | k :: l1, l2, x :: xs, y :: ys, r, h => by
    simp only [List.cons_append, eqC] at h
    split at h
    · rename_i r0 s h1 h2
      cases h
      obtain ⟨r1, r2, e1, e2, rfl⟩ := eqC_split h2
      exact ⟨r0 && r1, r2, by simp [eqC, h1, e1], by simpa using e2, by simp [Bool.and_assoc]⟩
    · cases h
theorem eqC_len : ∀ {l : List LK} {xs ys : List Value} {r : Bool}, eqC l xs ys = some r → xs.length = l.length ∧ ys.length = l.length
  | [], [], [], _, _ => ⟨rfl, rfl⟩
  | [], x :: xs, ys, r, h => by cases ys <;> simp [eqC] at h
  | [], [], y :: ys, r, h => by simp [eqC] at h
  | k :: l1, [], ys, r, h => by simp [eqC] at h
  | k :: l1, x :: xs, [], r, h => by simp [eqC] at h
  | k :: l1, x :: xs, y :: ys, r, h => by
    simp only [eqC] at h
    split at h
    · rename_i r0 s h1 h2
      have := eqC_len h2
      simp [this.1, this.2]
    · cases h
section
variable {P : Program}
theorem aggOf_isAgg {t : TypeId} {d : TypeDesc} (h : P.underlying t = some d) (w : World) : (isAgg t).run P w = .ok (aggOf P t) w := by
  unfold isAgg aggOf
  simp only [Sem.run_bind, run_underlying h, Result.andThen_ok, h]
  cases d <;> rfl
theorem run_partF {t : TypeId} {d : TypeDesc} (h : P.underlying t = some d) (hi : (P.info? t).isSome = true) {cs : Array Value} {off : Nat} (h1 : aggOf P t = false → P.cellsOf t = 1) (hb : off + P.cellsOf t ≤ cs.size) (w : World) :
    (part t cs off).run P w = .ok (mkV (aggOf P t) ((cs.toList.drop off).take (P.cellsOf t))) w := by
  obtain ⟨i, hi⟩ := Option.isSome_iff_exists.1 hi
  unfold part
  simp only [Sem.run_bind, aggOf_isAgg h, Result.andThen_ok]
  cases ha : aggOf P t
  · have h1' := h1 ha
    have hlt : off < cs.size := by omega
    simp only [Bool.false_eq_true, if_false, mkV, h1', Array.getElem?_eq_getElem hlt, Sem.run_pure]
    have : (cs.toList.drop off).take 1 = [cs[off]] := by
      rw [List.drop_eq_getElem_cons (by simpa using hlt)]
      simp
    rw [this]
    rfl
  · simp only [if_true, Sem.run_bind, run_sizeOf w hi, Result.andThen_ok, Sem.run_pure, mkV]
    congr 2
    apply Array.ext'
    simp [List.take_drop]
theorem flat_under {d : Nat} {t : TypeId} {l : List LK} (h : flat P d t = some l) : ∃ k, P.underlying t = some k ∧ (aggOf P t = false → l.length = 1) := by
  cases d with
  | zero => simp [flat] at h
  | succ d =>
    simp only [flat] at h
    unfold aggOf
    split at h <;> simp_all <;> subst h <;> rfl
theorem run_leafEq (d : Nat) {t : TypeId} {x y : Value} {r : Bool} (k : LK) (hk : (k = .int ∧ ∃ j, P.underlying t = some (.int j)) ∨ (k = .bool ∧ P.underlying t = some .bool) ∨ (k = .str ∧ P.underlying t = some .string)) (h : leafEq k x y = some r) (w : World) :
    (Op.equalIn (d + 1) t x y).run P w = .ok r w := by
  rcases hk with ⟨rfl, j, hu⟩ | ⟨rfl, hu⟩ | ⟨rfl, hu⟩
  · unfold leafEq at h
    split at h <;> try (simp_all; done)
    split at h
    · rename_i e
      cases h
      subst e
      exact run_equalIn_int w d t _ _ _ _ hu
    · cases h
  · unfold leafEq at h
    split at h <;> try (simp_all; done)
    cases h
    exact run_equalIn_bool w d t _ _ hu
  · unfold leafEq at h
    split at h <;> try (simp_all; done)
    cases h
    exact run_equalIn_string w d t _ _ hu
theorem eqItems_flat (dd : Nat) {e : TypeId} {l : List LK} (hc : P.cellsOf e = l.length) (hi : (P.info? e).isSome = true) {kd : TypeDesc} (hu : P.underlying e = some kd) (h1 : aggOf P e = false → l.length = 1)
    (IH : ∀ xs ys r, eqC l xs ys = some r → ∀ w, (Op.equalIn dd e (mkV (aggOf P e) xs) (mkV (aggOf P e) ys)).run P w = .ok r w) (xs ys : Array Value) (w : World) :
    ∀ (m s : Nat) (r : Bool), eqC (List.replicate m l).flatten (xs.toList.drop (s * l.length)) (ys.toList.drop (s * l.length)) = some r → (Op.eqItems dd e (P.cellsOf e) xs ys (List.range' s m)).run P w = .ok r w
  | 0, s, r, h => by
    have := eqC_len h
    simp only [List.replicate_zero, List.flatten_nil, List.length_nil, List.length_eq_zero_iff] at this
    rw [this.1, this.2] at h
    simp [eqC] at h
    subst h
    simp [Op.eqItems]
  | m + 1, s, r, h => by
    rw [List.replicate_succ, List.flatten_cons] at h
    have hlen := eqC_len h
    simp only [List.length_drop, Array.length_toList, List.length_append] at hlen
    obtain ⟨r1, r2, e1, e2, rfl⟩ := eqC_split h
    have hrec := eqItems_flat dd hc hi hu h1 IH xs ys w m (s + 1) r2 (by simpa [List.drop_drop, Nat.succ_mul, Nat.add_comm] using e2)
    by_cases hl0 : l.length = 0
    · have hl : l = [] := List.length_eq_zero_iff.1 hl0
      subst hl
      have hag : aggOf P e = true := by
        cases ha : aggOf P e
        · have := h1 ha; simp at this
        · rfl
      have e0 : (part e xs (s * P.cellsOf e)).run P w = .ok (.agg #[]) w := by
        obtain ⟨i, hi⟩ := Option.isSome_iff_exists.1 hi
        unfold part
        simp only [Sem.run_bind, aggOf_isAgg hu, Result.andThen_ok, hag, if_true, run_sizeOf w hi, hc]
        simp
      have e0' : (part e ys (s * P.cellsOf e)).run P w = .ok (.agg #[]) w := by
        obtain ⟨i, hi⟩ := Option.isSome_iff_exists.1 hi
        unfold part
        simp only [Sem.run_bind, aggOf_isAgg hu, Result.andThen_ok, hag, if_true, run_sizeOf w hi, hc]
        simp
      have e3 := IH [] [] true rfl w
      rw [hag] at e3
      simp only [mkV, if_true] at e3
      rw [List.range'_succ]
      simp only [Op.eqItems, Sem.run_bind, e0, e0', Result.andThen_ok, e3]
      simp [eqC] at e1
      subst e1
      simpa using hrec
    · rw [List.range'_succ]
      have b1 : s * P.cellsOf e + P.cellsOf e ≤ xs.size := by rw [hc]; omega
      have b2 : s * P.cellsOf e + P.cellsOf e ≤ ys.size := by rw [hc]; omega
      have p1 := run_partF hu hi (cs := xs) (off := s * P.cellsOf e) (fun h => by rw [hc]; exact h1 h) b1 w
      have p2 := run_partF hu hi (cs := ys) (off := s * P.cellsOf e) (fun h => by rw [hc]; exact h1 h) b2 w
      rw [hc] at p1 p2
      have e3 := IH _ _ r1 e1 w
      simp only [Op.eqItems, Sem.run_bind, hc, p1, p2, Result.andThen_ok, e3]
      rw [hc] at hrec
      cases r1
      · simp
      · simpa using hrec
theorem eqFields_flat (d dd : Nat) (IH : ∀ t l, flat P d t = some l → ∀ xs ys r, eqC l xs ys = some r → ∀ w, (Op.equalIn dd t (mkV (aggOf P t) xs) (mkV (aggOf P t) ys)).run P w = .ok r w) (xs ys : Array Value) (w : World) :
    ∀ (fs : List Field) (off : Nat) (l : List LK) (r : Bool), flatFs P (flat P d) fs off = some l → eqC l (xs.toList.drop off) (ys.toList.drop off) = some r → (Op.eqFields dd xs ys fs).run P w = .ok r w
  | [], off, l, r, hf, h => by
    simp only [flatFs, Option.some.injEq] at hf
    subst hf
    have := eqC_len h
    simp only [List.length_nil, List.length_eq_zero_iff] at this
    rw [this.1, this.2] at h
    simp [eqC] at h
    subst h
    simp [Op.eqFields]
  | f :: fs, off, l, r, hf, h => by
    simp only [flatFs] at hf
    split at hf
    · cases hf
    · rename_i hn
      split at hf
      · rename_i l1 ls hl1 hls
        split at hf
        · rename_i hc
          obtain ⟨c1, c2, c3⟩ := hc
          cases hf
          have hlen := eqC_len h
          simp only [List.length_drop, Array.length_toList, List.length_append] at hlen
          obtain ⟨r1, r2, e1, e2, rfl⟩ := eqC_split h
          rw [c2] at hls
          have hrec := eqFields_flat d dd IH xs ys w fs _ ls r2 hls (by simpa [List.drop_drop, Nat.add_comm] using e2)
          have hn' : f.name ≠ "_" := by simpa using hn
          obtain ⟨kd, hu, h1⟩ := flat_under hl1
          have e3 := IH _ _ hl1 _ _ r1 e1 w
          by_cases hl0 : l1.length = 0
          · have hl : l1 = [] := List.length_eq_zero_iff.1 hl0
            subst hl
            have hag : aggOf P f.type = true := by
              cases ha : aggOf P f.type
              · have := h1 ha; simp at this
              · rfl
            have e0 : ∀ zs : Array Value, (part f.type zs f.offset).run P w = .ok (.agg #[]) w := fun zs => by
              obtain ⟨i, hi⟩ := Option.isSome_iff_exists.1 c3
              unfold part
              simp only [Sem.run_bind, aggOf_isAgg hu, Result.andThen_ok, hag, if_true, run_sizeOf w hi, c2]
              simp
              exact Nat.min_le_left _ _
            rw [hag] at e3
            simp only [mkV, if_true, List.length_nil, List.take_zero] at e3
            have er : r1 = true := by simpa [eqC] using e1.symm
            subst er
            rw [Op.eqFields]
            simp only [if_pos hn', Sem.run_bind, e0, Result.andThen_ok, e3]
            simpa using hrec
          · have p1 := run_partF hu c3 (cs := xs) (off := f.offset) (fun h => by rw [c2]; exact h1 h) (by omega) w
            have p2 := run_partF hu c3 (cs := ys) (off := f.offset) (fun h => by rw [c2]; exact h1 h) (by omega) w
            rw [c2, c1] at p1 p2
            rw [Op.eqFields]
            simp only [if_pos hn', Sem.run_bind, c1, p1, p2, Result.andThen_ok, e3]
            cases r1
            · simp
            · simpa using hrec
        · cases hf
      · cases hf
theorem equalIn_flat (k : Nat) : ∀ (d : Nat) (t : TypeId) (l : List LK), flat P d t = some l → ∀ xs ys r, eqC l xs ys = some r → ∀ w, (Op.equalIn (d + k) t (mkV (aggOf P t) xs) (mkV (aggOf P t) ys)).run P w = .ok r w
  | 0, t, l, h => by simp [flat] at h
  | d + 1, t, l, h => by
    intro xs ys r he w
    have IH := equalIn_flat k d
    rw [show d + 1 + k = (d + k) + 1 from by omega]
    simp only [flat] at h
    split at h
    · rename_i j hu
      cases h
      obtain ⟨x, rfl⟩ := List.length_eq_one_iff.1 (eqC_len he).1
      obtain ⟨y, rfl⟩ := List.length_eq_one_iff.1 (eqC_len he).2
      have ha : aggOf P t = false := by simp [aggOf, hu]
      simp only [eqC] at he
      split at he
      · rename_i r0 s h1 h2; cases h2; cases he
        rw [ha]; simpa [mkV] using run_leafEq (d + k) .int (.inl ⟨rfl, _, hu⟩) h1 w
      · cases he
    · rename_i hu
      cases h
      obtain ⟨x, rfl⟩ := List.length_eq_one_iff.1 (eqC_len he).1
      obtain ⟨y, rfl⟩ := List.length_eq_one_iff.1 (eqC_len he).2
      have ha : aggOf P t = false := by simp [aggOf, hu]
      simp only [eqC] at he
      split at he
      · rename_i r0 s h1 h2; cases h2; cases he
        rw [ha]; simpa [mkV] using run_leafEq (d + k) .bool (.inr (.inl ⟨rfl, hu⟩)) h1 w
      · cases he
    · rename_i hu
      cases h
      obtain ⟨x, rfl⟩ := List.length_eq_one_iff.1 (eqC_len he).1
      obtain ⟨y, rfl⟩ := List.length_eq_one_iff.1 (eqC_len he).2
      have ha : aggOf P t = false := by simp [aggOf, hu]
      simp only [eqC] at he
      split at he
      · rename_i r0 s h1 h2; cases h2; cases he
        rw [ha]; simpa [mkV] using run_leafEq (d + k) .str (.inr (.inr ⟨rfl, hu⟩)) h1 w
      · cases he
    · rename_i n e hu
      split at h
      · rename_i l0 hl0
        split at h
        · rename_i hc
          cases h
          have ha : aggOf P t = true := by simp [aggOf, hu]
          obtain ⟨i, hi⟩ := Option.isSome_iff_exists.1 hc.2
          obtain ⟨kd, hue, h1⟩ := flat_under hl0
          rw [ha]
          simp only [mkV, if_true]
          rw [run_equalIn_array w (d + k) _ _ hu hi, List.range_eq_range']
          exact eqItems_flat (d + k) hc.1 hc.2 hue h1 (IH e l0 hl0) _ _ w n 0 r (by simpa using he)
        · cases h
      · cases h
    · rename_i fs hu
      split at h
      · cases h
      · rename_i hst
        have ha : aggOf P t = true := by simp [aggOf, hu]
        have hfs : P.fieldsOf t = fs := by simp [Program.fieldsOf, hu]
        rw [ha]
        simp only [mkV, if_true]
        rw [run_equalIn_struct w (d + k) t _ _ (by rw [hfs]; exact hu) (by simpa using hst), hfs]
        exact eqFields_flat d (d + k) IH _ _ w fs.toList 0 l r h (by simpa using he)
    · cases h
end
end Go.Sy

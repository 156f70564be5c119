/-
  From a contract over reified states to a given statement: what the arguments read as is what the contract is told. Plain theorems.
-/
import Derived.Test.YtkjjihicaefmcaaDoorSyVa
import Derived.Test.YtkjjihicaefmcaaDoorRows
import Derived.WalkKit
import Derived.ProofKit
import Derived.OpenShut
import Derived.JoinedCond
import Derived.ReadAgain
import Derived.ChangeBears
set_option linter.unusedSectionVars false
set_option linter.unusedSimpArgs false
set_option linter.unusedVariables false
namespace Go.Sy
open Go Go.RowKit Go.Proofs.YtkjjihicaefmcaaDoor
inductive TD where
  | int (k : IntKind)
  | bool
  | str
  | slice (e : TD)
  | agg (l : List TD)
  | arr (n : Nat) (e : TD)
mutual
def TD.size : TD → Nat
  | .agg l => TD.sizeL l
  | .arr n e => n * TD.size e
  | _ => 1
def TD.sizeL : List TD → Nat
  | [] => 0
  | x :: l => TD.size x + TD.sizeL l
end
mutual
def tdB (P : Program) : TD → TypeId → Bool
  | .int k, t => match P.underlying t with | some (.int k') => decide (k' = k) | _ => false
  | .bool, t => match P.underlying t with | some .bool => true | _ => false
  | .str, t => match P.underlying t with | some .string => true | _ => false
  | .slice e, t => match P.underlying t with | some (.slice et) => tdB P e et && decide (P.cellsOf et = TD.size e) && decide (0 < TD.size e) | _ => false
  | .agg l, t => match P.underlying t with | some (.struct fs) => fieldsB P l fs.toList 0 (P.cellsOf t) | _ => false
  | .arr n e, t => match P.underlying t with | some (.array n' et) => decide (n' = n) && tdB P e et && decide (P.cellsOf et = TD.size e) && decide (P.cellsOf t = n * TD.size e) | _ => false
def fieldsB (P : Program) : List TD → List Field → Nat → Nat → Bool
  | [], [], off, tot => decide (off = tot)
  | x :: l, f :: fs, off, tot => decide (f.offset = off) && decide (P.cellsOf f.type = TD.size x) && tdB P x f.type && fieldsB P l fs (off + TD.size x) tot
  | _, _, _, _ => false
end
mutual
def TD.has (M : Nat) : TD → List C → Prop
  | .int k, cs => ∃ n, cs = [.v (.int k n)] ∧ (Lit.int k n).wf = true
  | .bool, cs => ∃ b, cs = [.v (.bool b)]
  | .str, cs => ∃ s : ByteArray, cs = [.v (.string s)] ∧ s.size ≤ M
  | .slice e, cs => ∃ rows : List (List C), cs = [roL rows] ∧ rows.length ≤ M ∧ ∀ row ∈ rows, TD.has M e row
  | .agg l, cs => TD.hasL M l cs
  | .arr n e, cs => ∃ rows : List (List C), rows.length = n ∧ cs = rows.flatten ∧ ∀ row ∈ rows, TD.has M e row
def TD.hasL (M : Nat) : List TD → List C → Prop
  | [], cs => cs = []
  | x :: l, cs => ∃ a b, cs = a ++ b ∧ TD.has M x a ∧ TD.hasL M l b
end
mutual
theorem has_len {M : Nat} : ∀ (x : TD) (cs : List C), x.has M cs → cs.length = x.size
  | .int k, cs, ⟨n, h, _⟩ => by subst h; rfl
  | .bool, cs, ⟨b, h⟩ => by subst h; rfl
  | .str, cs, ⟨s, h, _⟩ => by subst h; rfl
  | .slice e, cs, ⟨r, h, _⟩ => by subst h; rfl
  | .agg l, cs, h => hasL_len l cs h
  | .arr n e, cs, ⟨rows, h1, h2, h3⟩ => by
    subst h1 h2
    have : ∀ r ∈ rows, r.length = e.size := fun r hr => has_len e r (h3 r hr)
    clear h3
    induction rows with
    | nil => simp [TD.size]
    | cons r rows ih =>
      have ih' := ih (fun x hx => this x (List.mem_cons_of_mem _ hx))
      simp only [TD.size] at ih' ⊢
      simp only [List.flatten_cons, List.length_append, List.length_cons, ih', this r List.mem_cons_self, Nat.add_mul, Nat.one_mul]
      omega
theorem hasL_len {M : Nat} : ∀ (l : List TD) (cs : List C), TD.hasL M l cs → cs.length = TD.sizeL l
  | [], cs, h => by subst h; rfl
  | x :: l, cs, ⟨a, b, h, h1, h2⟩ => by subst h; simp [TD.sizeL, has_len x a h1, hasL_len l b h2]
end
def CRelL (w : World) (Z : Nat → Prop) (Cs : List C) (cs : List Value) : Prop := Cs.length = cs.length ∧ ∀ j, j < cs.length → CRel w Z (Cs.getD j default) (cs.getD j undef)
theorem CRelL.append {w : World} {Z : Nat → Prop} {A B : List C} {a b : List Value} (h1 : CRelL w Z A a) (h2 : CRelL w Z B b) : CRelL w Z (A ++ B) (a ++ b) := by
  obtain ⟨l1, r1⟩ := h1
  obtain ⟨l2, r2⟩ := h2
  refine ⟨by simp [l1, l2], fun j hj => ?_⟩
  rcases Nat.lt_or_ge j a.length with h | h
  · have h' : j < A.length := by omega
    have := r1 j h
    simpa [List.getD_eq_getElem?_getD, List.getElem?_append_left h, List.getElem?_append_left h'] using this
  · have h' : A.length ≤ j := by omega
    have hj' : j - a.length < b.length := by simp at hj; omega
    have := r2 _ hj'
    simpa [List.getD_eq_getElem?_getD, List.getElem?_append_right h, List.getElem?_append_right h', l1] using this
theorem bulk_mem {H : Type} {d : DataW H} : ∀ {l : List (DataW H)}, d ∈ l → Rows.uptoBulk d ≤ Rows.uptoBulkAll l
  | x :: r, h => by
    simp only [Rows.uptoBulkAll]
    rcases List.mem_cons.1 h with e | h
    · subst e; omega
    · have := bulk_mem h; omega
theorem bulk_one {H : Type} (d : DataW H) : 1 ≤ Rows.uptoBulk d := by
  cases d with
  | lit l => cases l <;> simp [Rows.uptoBulk]
  | nil => simp [Rows.uptoBulk]
  | ptr d => simp [Rows.uptoBulk]
  | slice elems spare => simp [Rows.uptoBulk]
  | agg parts => simp [Rows.uptoBulk]
  | iface t d => simp [Rows.uptoBulk]
  | map entries => simp [Rows.uptoBulk]
  | held h => simp [Rows.uptoBulk]
theorem bulk_len {H : Type} : ∀ (l : List (DataW H)), l.length ≤ Rows.uptoBulkAll l
  | [] => by simp [Rows.uptoBulkAll]
  | x :: r => by have := bulk_one x; have := bulk_len r; simp only [Rows.uptoBulkAll, List.length_cons]; omega
theorem cells_some {w : World} {base : Nat} {a : Addr} {n : Nat} {cs : List Value} (h : w.cells? base a n = some cs) : cs.length = n ∧ ∀ i, i < n → w.cell? (a.add i) = some (cs.getD i undef) := by
  unfold World.cells? at h
  split at h
  · have hl : cs.length = n := by simpa using mapM_some_length h
    refine ⟨hl, fun i hi => ?_⟩
    have := mapM_some_get h i i (by simp [hi])
    rw [this, List.getD_eq_getElem?_getD]
    cases hc : cs[i]? with
    | some x => rfl
    | none => rw [List.getElem?_eq_none_iff] at hc; omega
  · cases h
section
variable {H : Type} {enc : TypeId × Value → H} {P : Program} {w : World} {sp : Nat → Bool} {M : Nat}
theorem choose_rows {p : Nat → List C → Prop} : ∀ (n : Nat), (∀ i, i < n → ∃ r, p i r) → ∃ rows : List (List C), rows.length = n ∧ ∀ i, i < n → p i (rows.getD i [])
  | 0, _ => ⟨[], rfl, fun i hi => by omega⟩
  | n + 1, h => by
    obtain ⟨rows, h1, h2⟩ := choose_rows n (fun i hi => h i (by omega))
    obtain ⟨r, hr⟩ := h n (by omega)
    refine ⟨rows ++ [r], by simp [h1], fun i hi => ?_⟩
    rcases Nat.lt_or_ge i n with h3 | h3
    · have := h2 i h3
      simpa [List.getD_eq_getElem?_getD, List.getElem?_append_left (show i < rows.length by omega)] using this
    · obtain rfl : i = n := by omega
      simpa [List.getD_eq_getElem?_getD, h1] using hr
abbrev Zof (w : World) : Nat → Prop := fun b => b < w.heap.size
theorem cell_block {w : World} {a : Addr} {v : Value} (h : w.cell? a = some v) : a.block < w.heap.size := by
  rcases Nat.lt_or_ge a.block w.heap.size with h1 | h1
  · exact h1
  · unfold World.cell? at h
    rw [Array.getElem?_eq_none h1] at h
    cases h
theorem cell_spot {w : World} {a : Addr} {v : Value} (h : w.cell? a = some v) : a.spot = none := by
  unfold World.cell? at h
  split at h
  · split at h
    · cases h
    · rename_i hs; simpa using hs
  · cases h
theorem fields_has {r : TypeId → List Value → Option (DataW H × List MemPlace)} (hM : ∀ t cs x td, r t cs = some x → tdB P td t = true → Rows.uptoBulk x.1 ≤ M → ∃ Cs, td.has M Cs ∧ CRelL w (Zof w) Cs cs) (cs : List Value) (tot : Nat) (htot : cs.length = tot) :
    ∀ (l : List TD) (fs : List Field) (off : Nat) (xs : List (DataW H × List MemPlace)), fieldsB P l fs off tot = true → xs.length = fs.length → off ≤ tot → (∀ (i : Nat) (f : Field), fs[i]? = some f → r f.type ((cs.drop f.offset).take (P.cellsOf f.type)) = xs[i]?) → (∀ x ∈ xs, Rows.uptoBulk x.1 ≤ M) →
      ∃ Cs, TD.hasL M l Cs ∧ CRelL w (Zof w) Cs (cs.drop off)
  | [], [], off, xs, h, hl, ho, hx, hb => by
    simp only [fieldsB, decide_eq_true_eq] at h
    refine ⟨[], rfl, ?_⟩
    rw [List.drop_eq_nil_of_le (by omega)]
    exact ⟨rfl, fun j hj => by simp at hj⟩
  | x :: l, f :: fs, off, y :: xs, h, hl, ho, hx, hb => by
    simp only [fieldsB, Bool.and_eq_true, decide_eq_true_eq] at h
    obtain ⟨⟨⟨h1, h2⟩, h3⟩, h4⟩ := h
    have h5 := hx 0 f rfl
    simp only [List.getElem?_cons_zero] at h5
    obtain ⟨A, ha, hra⟩ := hM _ _ _ x h5 h3 (hb y List.mem_cons_self)
    have hA := has_len x A ha
    have hra1 := hra.1
    rw [h1, h2, List.length_take, List.length_drop] at hra1
    have hle : off + x.size ≤ tot := by omega
    obtain ⟨B, hbb, hrb⟩ := fields_has hM cs tot htot l fs (off + x.size) xs h4 (by simpa using hl) hle (fun i f' hf' => by have := hx (i + 1) f' (by simpa using hf'); simpa using this) (fun z hz => hb z (List.mem_cons_of_mem _ hz))
    refine ⟨A ++ B, ⟨A, B, rfl, ha, hbb⟩, ?_⟩
    have hsplit : cs.drop off = (cs.drop off).take x.size ++ cs.drop (off + x.size) := by
      rw [← List.drop_drop]; exact (List.take_append_drop _ _).symm
    rw [hsplit]
    rw [h1, h2] at hra
    exact hra.append hrb
  | [], _ :: _, off, xs, h, _, _, _, _ => by simp [fieldsB] at h
  | _ :: _, [], off, xs, h, _, _, _, _ => by simp [fieldsB] at h
  | _ :: _, _ :: _, off, [], h, hl, _, _, _ => by simp at hl
theorem trod_has (hMm : M ≤ maxLen) : ∀ (n : Nat) (t : TypeId) (cs : List Value) (x : DataW H × List MemPlace) (td : TD), DataW.trod enc P w 0 sp true n t cs = some x → tdB P td t = true → Rows.uptoBulk x.1 ≤ M → ∃ Cs, td.has M Cs ∧ CRelL w (Zof w) Cs cs := by
  intro n
  induction n with
  | zero => intro t cs x td h; simp [DataW.trod] at h
  | succ n ih =>
    intro t cs x td h htd hb
    have one : ∀ (c : Value), (CRelL w (Zof w) [.v c] [c]) := fun c => by
      refine ⟨rfl, fun j hj => ?_⟩
      have : j = 0 := by simpa using hj
      subst this
      exact .v c
    cases td with
    | int k =>
      simp only [tdB] at htd
      split at htd
      · rename_i k' hu
        simp only [decide_eq_true_eq] at htd
        subst htd
        obtain ⟨m, rfl, _, hw⟩ := DataW.trod_int hu h
        exact ⟨_, ⟨m, rfl, hw⟩, one _⟩
      · cases htd
    | bool =>
      simp only [tdB] at htd
      split at htd
      · rename_i hu
        obtain ⟨m, rfl, _⟩ := DataW.trod_bool hu h
        exact ⟨_, ⟨m, rfl⟩, one _⟩
      · cases htd
    | str =>
      simp only [tdB] at htd
      split at htd
      · rename_i hu
        obtain ⟨s, rfl, rfl, hs⟩ := DataW.trod_string hu h
        refine ⟨_, ⟨s, rfl, ?_⟩, one _⟩
        simp only [Rows.uptoBulk, Array.length_toList] at hb
        have : s.size = s.data.size := rfl
        omega
      · cases htd
    | slice e =>
      simp only [tdB] at htd
      split at htd
      · rename_i et hu
        simp only [Bool.and_eq_true, decide_eq_true_eq] at htd
        obtain ⟨⟨h1, h2⟩, h3⟩ := htd
        rcases DataW.trod_slice hu h with ⟨rfl, rfl⟩ | ⟨a, len, cap, elems, rest, m, hm, rfl, rfl, _, hlc, hcm, hlen, hel, _, _⟩
        · refine ⟨[roL []], ⟨[], rfl, by simp, fun r hr => by simp at hr⟩, rfl, fun j hj => ?_⟩
          have : j = 0 := by simpa using hj
          subst this
          exact crel_nil
        · obtain rfl : n = m := by omega
          have hbe : ∀ y ∈ elems, Rows.uptoBulk y.1 ≤ M := fun y hy => by
            have h5 := bulk_mem (List.mem_map.2 ⟨y, hy, rfl⟩ : y.1 ∈ elems.map (·.1))
            simp only [Rows.uptoBulk] at hb
            omega
          have hlM : len ≤ M := by
            have h5 := bulk_len (elems.map (·.1))
            rw [List.length_map, hlen] at h5
            simp only [Rows.uptoBulk] at hb
            omega
          have each : ∀ i, i < len → ∃ r : List C, e.has M r ∧ ∃ us : List Value, CRelL w (Zof w) r us ∧ us.length = e.size ∧ ∀ j, j < e.size → w.cell? ((a.add (i * e.size)).add j) = some (us.getD j undef) := fun i hi => by
            have h5 := hel i hi
            have hi' : i < elems.length := by omega
            rw [List.getElem?_eq_getElem hi', h2] at h5
            obtain ⟨us, h6, h7⟩ := Option.bind_eq_some_iff.1 h5
            obtain ⟨r, h8, h9⟩ := ih _ _ _ e h7 h1 (hbe _ (List.getElem_mem hi'))
            obtain ⟨h10, h11⟩ := cells_some h6
            exact ⟨r, h8, us, h9, h10, h11⟩
          obtain ⟨rows, hr1, hr2⟩ := choose_rows (p := fun i r => e.has M r ∧ ∃ us : List Value, CRelL w (Zof w) r us ∧ us.length = e.size ∧ ∀ j, j < e.size → w.cell? ((a.add (i * e.size)).add j) = some (us.getD j undef)) len each
          have huse : ∀ i, ∃ us : List Value, i < len → (CRelL w (Zof w) (rows.getD i []) us ∧ us.length = e.size ∧ ∀ j, j < e.size → w.cell? ((a.add (i * e.size)).add j) = some (us.getD j undef)) := fun i => by
            by_cases hi : i < len
            · obtain ⟨_, us, h⟩ := hr2 i hi
              exact ⟨us, fun _ => h⟩
            · exact ⟨[], fun h => (hi h).elim⟩
          let us : Nat → List Value := fun i => Classical.choose (huse i)
          have hus : ∀ i, i < len → (CRelL w (Zof w) (rows.getD i []) (us i) ∧ (us i).length = e.size ∧ ∀ j, j < e.size → w.cell? ((a.add (i * e.size)).add j) = some ((us i).getD j undef)) := fun i hi => Classical.choose_spec (huse i) hi
          have hsz : ∀ i, i < rows.length → (rows.getD i []).length = e.size := fun i hi => has_len e _ (hr2 i (by omega)).1
          refine ⟨[roL rows], ⟨rows, rfl, by omega, fun row hrow => ?_⟩, rfl, fun j hj => ?_⟩
          · obtain ⟨i, hi, rfl⟩ := List.getElem_of_mem hrow
            have := (hr2 i (by omega)).1
            simpa [List.getD_eq_getElem?_getD, hi] using this
          · have : j = 0 := by simpa using hj
            subst this
            show CRel w (Zof w) (roL rows) (.slice (some a) len cap)
            rw [← hr1]
            have hsp : 0 < rows.length → a.block < w.heap.size ∧ a.spot = none := fun h0 => by
              have h5 := (hus 0 (by omega)).2.2 0 h3
              have e0 : (a.add (0 * e.size)).add 0 = a := by simp [Addr.add]
              rw [e0] at h5
              exact ⟨cell_block h5, cell_spot h5⟩
            refine .ro (some a) cap e.size (fun i j => (us i).getD j undef) (by omega) (by omega) hsz (fun h0 => ⟨a, rfl, (hsp h0).1, (hsp h0).2⟩) (fun ad had i hi j hj => ?_) (fun i hi j hj => ?_)
            · cases had
              have h5 := (hus i (by omega)).2.2 j hj
              have hs := (hsp (by omega)).2
              rw [← h5]
              congr 1
              obtain ⟨b, off, spot⟩ := a
              simp only at hs
              subst hs
              rw [Addr.add_lit, Addr.add_lit, Nat.add_assoc]
            · exact (hus i (by omega)).1.2 j (by rw [(hus i (by omega)).2.1]; exact hj)
      · cases htd
    | agg l =>
      simp only [tdB] at htd
      split at htd
      · rename_i fs hu
        obtain ⟨xs, m, hm, rfl, hcl, hxl, hx⟩ := DataW.trod_struct hu h
        obtain rfl : n = m := by omega
        obtain ⟨Cs, h1, h2⟩ := fields_has (r := DataW.trod enc P w 0 sp true n) ih cs _ hcl l fs.toList 0 xs htd (by simpa using hxl) (Nat.zero_le _) (fun i f hf => hx i f (by simpa using hf)) (fun y hy => by
          have h5 := bulk_mem (List.mem_map.2 ⟨y, hy, rfl⟩ : y.1 ∈ xs.map (·.1))
          simp only [Rows.uptoBulk] at hb
          omega)
        exact ⟨Cs, h1, by simpa using h2⟩
      · cases htd
    | arr k e =>
      simp only [tdB] at htd
      split at htd
      · rename_i k' et hu
        simp only [Bool.and_eq_true, decide_eq_true_eq] at htd
        obtain ⟨⟨⟨rfl, h1⟩, h2⟩, h3⟩ := htd
        obtain ⟨xs, m, hm, rfl, hcl, hxl, hx⟩ := DataW.trod_array hu h
        obtain rfl : n = m := by omega
        have hbe : ∀ y ∈ xs, Rows.uptoBulk y.1 ≤ M := fun y hy => by
          have h5 := bulk_mem (List.mem_map.2 ⟨y, hy, rfl⟩ : y.1 ∈ xs.map (·.1))
          simp only [Rows.uptoBulk] at hb
          omega
        have each : ∀ i, i < k' → ∃ r : List C, e.has M r ∧ CRelL w (Zof w) r ((cs.drop (i * e.size)).take e.size) := fun i hi => by
          have h5 := hx i hi
          have hi' : i < xs.length := by omega
          rw [List.getElem?_eq_getElem hi', h2] at h5
          exact ih _ _ _ e h5 h1 (hbe _ (List.getElem_mem hi'))
        obtain ⟨rows, hr1, hr2⟩ := choose_rows k' each
        refine ⟨rows.flatten, ⟨rows, hr1, rfl, fun row hrow => ?_⟩, ?_⟩
        · obtain ⟨i, hi, rfl⟩ := List.getElem_of_mem hrow
          have := (hr2 i (by omega)).1
          simpa [List.getD_eq_getElem?_getD, hi] using this
        · have key : ∀ (m : Nat), m ≤ k' → CRelL w (Zof w) (rows.take m).flatten (cs.take (m * e.size)) := by
            intro m
            induction m with
            | zero => intro _; simp; exact ⟨rfl, fun j hj => by simp at hj⟩
            | succ m ihm =>
              intro hm
              have h6 := ihm (by omega)
              have h7 := (hr2 m (by omega)).2
              have e1 : (rows.take (m + 1)).flatten = (rows.take m).flatten ++ rows.getD m [] := by
                have hm' : m < rows.length := by omega
                rw [List.take_succ_eq_append_getElem hm', List.flatten_append]
                simp [List.getD_eq_getElem?_getD, hm']
              have e2 : cs.take ((m + 1) * e.size) = cs.take (m * e.size) ++ (cs.drop (m * e.size)).take e.size := by
                rw [Nat.add_mul, Nat.one_mul, List.take_add]
              rw [e1, e2]
              exact h6.append h7
          have h8 := key k' (Nat.le_refl _)
          rw [List.take_of_length_le (by omega), List.take_of_length_le (by omega)] at h8
          exact h8
      · cases htd
end
open Go.ChangeShapes Go.WideShapes Go.ChangeAt
def argD : TD → List C → D
  | .agg _, cs | .arr _ _, cs => .agg (cs.map D.c)
  | _, cs => D.c (cs.headD default)
def argsD : List TD → List (List C) → List D
  | t :: ts, c :: cs => argD t c :: argsD ts cs
  | _, _ => []
def hasAllT (M : Nat) : List TD → List (List C) → Prop
  | [], [] => True
  | t :: ts, c :: cs => t.has M c ∧ hasAllT M ts cs
  | _, _ => False
def tdsB (P : Program) : List TD → List TypeId → Bool
  | [], [] => true
  | x :: l, t :: ts => tdB P x t && tdsB P l ts
  | _, _ => false
section
variable {H : Type} {enc : TypeId × Value → H} {P : Program} {W W' : World}
theorem arg_rel {r : Reach} {b0 : Nat} {sp : Nat → Bool} {M : Nat} (hM : M ≤ maxLen) {t : TypeId} {td : TD} {v : Value} {d : DataW H} {ps : List MemPlace} (htd : tdB P td t = true) (hval : Value.okWide P W r b0 t v) (hd : DataW.Trod enc P W 0 sp true t v d ps) (hb : Rows.uptoBulk d ≤ M) (ρ : Env) :
    ∃ Cs, td.has M Cs ∧ Rel ρ W (Zof W) (argD td Cs) v := by
  obtain ⟨n, hn⟩ := hd
  obtain ⟨Cs, h1, h2⟩ := trod_has hM n t _ _ td hn htd hb
  refine ⟨Cs, h1, ?_⟩
  have agg : ∀ vs : Array Value, v = .agg vs → Rel ρ W (Zof W) (.agg (Cs.map D.c)) v := by
    rintro vs rfl
    simp only [Value.cells] at h2
    refine .agg (by have := h2.1; simp at this ⊢; exact this) (fun i hi => ?_)
    have h3 := h2.2 i (by simpa using hi)
    have hi' : i < Cs.length := by have := h2.1; simp at this; omega
    have e1 : (Cs.map D.c).getD i default = .c (Cs.getD i default) := by simp [List.getD_eq_getElem?_getD, hi']
    rw [e1]
    refine .c ?_
    have e2 : vs.getD i undef = vs.toList.getD i undef := by simp [Array.getD_eq_getD_getElem?, List.getD_eq_getElem?_getD]
    rw [e2]
    exact h3
  have one : v.cells.toList = [v] → Rel ρ W (Zof W) (D.c (Cs.headD default)) v := by
    intro e
    rw [e] at h2
    have h3 := h2.2 0 (by simp)
    have h4 : Cs.length = 1 := by have := h2.1; simpa using this
    obtain ⟨x, rfl⟩ := List.length_eq_one_iff.1 h4
    exact .c (by simpa using h3)
  cases td with
  | int k =>
    simp only [tdB] at htd
    split at htd
    · rename_i k' hu
      obtain ⟨n, rfl⟩ := okWide_int hu hval
      exact one rfl
    · cases htd
  | bool =>
    simp only [tdB] at htd
    split at htd
    · rename_i hu
      obtain ⟨n, rfl⟩ := okWide_bool hu hval
      exact one rfl
    · cases htd
  | str =>
    simp only [tdB] at htd
    split at htd
    · rename_i hu
      obtain ⟨n, rfl⟩ := okWide_string hu hval
      exact one rfl
    · cases htd
  | slice e =>
    simp only [tdB] at htd
    split at htd
    · rename_i et hu
      obtain ⟨a, l, c, rfl⟩ := okWide_slice hu hval
      exact one rfl
    · cases htd
  | agg l =>
    simp only [tdB] at htd
    split at htd
    · rename_i fs hu
      obtain ⟨cs, rfl, _⟩ := okWide_struct hu hval
      exact agg cs rfl
    · cases htd
  | arr n e =>
    simp only [tdB] at htd
    split at htd
    · rename_i n' et hu
      simp only [Value.okWide, hu] at hval
      obtain ⟨cs, rfl, _⟩ := hval
      exact agg cs rfl
    · cases htd
theorem args_rel {r : Reach} {b0 : Nat} {sp : Nat → Bool} {M : Nat} (hM : M ≤ maxLen) (ρ : Env) : ∀ {tds : List TD} {ts : List TypeId} {vs : List Value} {ds : List (DataW H)} {ps : List MemPlace}, tdsB P tds ts = true → (∀ (j : Nat) t v, ts[j]? = some t → vs[j]? = some v → Value.okWide P W r b0 t v) →
    DataW.TrodAll enc P W 0 sp true ts vs ds ps → Rows.uptoBulkAll ds ≤ M → ∃ css, hasAllT M tds css ∧ RelL ρ W (Zof W) (argsD tds css) vs
  | [], [], vs, ds, ps, _, _, h, _ => by
    obtain ⟨rfl, rfl, rfl⟩ := trodAll_nil h
    exact ⟨[], trivial, .nil⟩
  | x :: tds, t :: ts, vs, ds, ps, htd, hval, h, hb => by
    simp only [tdsB, Bool.and_eq_true] at htd
    obtain ⟨v, vs', d, ds', p, q, rfl, rfl, rfl, h1, h2⟩ := trodAll_cons h
    simp only [Rows.uptoBulkAll] at hb
    obtain ⟨c, h3, h4⟩ := arg_rel hM htd.1 (hval 0 t v rfl rfl) h1 (by omega) ρ
    obtain ⟨css, h5, h6⟩ := args_rel hM ρ htd.2 (fun j t v hj hv => hval (j + 1) t v (by simpa using hj) (by simpa using hv)) h2 (by omega)
    exact ⟨c :: css, ⟨h3, h5⟩, .cons h4 h6⟩
  | [], _ :: _, _, _, _, h, _, _, _ => by simp [tdsB] at h
  | _ :: _, [], _, _, _, h, _, _, _ => by simp [tdsB] at h
theorem trodAll_same {sp : Nat → Bool} : ∀ {ts : List TypeId} {vs : List Value} {ds : List (DataW H)} {ps : List MemPlace}, DataW.TrodAll enc P W 0 sp true ts vs ds ps → (∀ p ∈ ps, W.sameAt W' p) → DataW.TrodAll enc P W' 0 sp true ts vs ds ps
  | [], [], [], _, h, _ => h
  | _ :: _, _ :: _, _ :: _, _, ⟨p, q, ⟨n, h1⟩, h2, e⟩, hs => ⟨p, q, ⟨n, DataW.trod_carry n _ _ _ h1 (fun x hx => hs x (by rw [e]; exact List.mem_append_left _ hx))⟩, trodAll_same h2 (fun x hx => hs x (by rw [e]; exact List.mem_append_right _ hx)), e⟩
theorem post_same {f : Func} {s : ChangeSpec} {apart fresh handsOn again : Bool} {args : Array Value} {v : Value} {ds gs : List (DataW H)} {before pa pv : List MemPlace}
    (hW : DataW.Whole enc P f.params.toList s.vars apart W args.toList ds gs before)
    (hres : ∀ (b : Nat) (sp : Nat → Bool) (hd : Bool), DataW.TrodAll enc P W' b sp hd f.resultTypes.toList (v.resultList f.resultTypes.size) (s.fn H (ds ++ gs)).results [])
    (hargs : ∀ sp : Nat → Bool, (∀ p ∈ before, sp p.block = true) → DataW.TrodAll enc P W' 0 sp true f.params.toList args.toList (s.fn H (ds ++ gs)).args pa)
    (hvars : ∀ sp : Nat → Bool, (∀ p ∈ before, sp p.block = true) → DataW.TrodVars enc P W' sp s.vars (s.fn H (ds ++ gs)).vars pv)
    (hps : before = pa ++ pv) (hos : W'.os = W.os) (hout : W'.output = W.output) (hsame : ∀ b, b < W.heap.size → W'.heap[b]? = W.heap[b]?)
    (hok : ∀ (j : Nat) (t : TypeId) (r : Value), f.resultTypes[j]? = some t → (v.resultList f.resultTypes.size)[j]? = some r → Value.okWide P W' .any 0 t r) : s.post enc P f apart fresh handsOn again W args v W' := by
  have hlt : ∀ p ∈ before, p.block < W.heap.size := fun p hp => hW.lt p hp
  have hold : ∀ p ∈ before, (fun b => decide (b < W.heap.size)) p.block = true := fun p hp => by simpa using hlt p hp
  have hk : W.keptBut W' (· ∈ before) := ⟨hos, hout, fun i hi => by rw [hsame i hi]; exact (World.keptBut_refl W _).2.2 i hi⟩
  refine ⟨ds, gs, before, [], pa, pv, hW, hres _ _ _, hargs _ hold, hvars _ hold, World.keptBut_mono (fun p hp => ⟨hp, .inr (by rw [hps] at hp; simpa using hp)⟩) hk, fun _ => ?_⟩
  obtain ⟨_, _, _, _, _, hz, hn⟩ := hW
  refine ⟨hok, _, _, ([] ++ pa) ++ pv, ⟨[] ++ pa, pv, trodAll_append (hargs _ (fun _ _ => rfl)) (hres _ _ _), hvars _ (fun _ _ => rfl), rfl, fun b off hp => ?_, fun ha => ?_⟩, fun p hp _ => by rw [hps]; simpa using hp⟩
  · have hin : MemPlace.cell b off ∈ before := by rw [hps]; simpa using hp
    have : W'.frozen? ⟨b, off, none⟩ = W.frozen? ⟨b, off, none⟩ := by simp only [World.frozen?]; rw [hsame b (hlt _ hin)]
    rw [this]
    exact hz b off hin
  · have := hn ha
    rw [hps] at this
    simpa using this
theorem said_core {f : FuncId} {fn : Func} {s : ChangeSpec} {fresh handsOn again : Bool} {tds : List TD} {tb : TypeId} {M : Nat} (hM : M ≤ maxLen) (hl : laidOutB P = true) (hmr : mapsRowed P = true) (hsl : ((List.range P.types.size).all fun t => match P.underlying t with | some (.slice e) => decide (0 < P.cellsOf e) | _ => true) = true)
    (htd : tdsB P tds fn.params.toList = true) (hpt : fn.params.toList.all (fun t => decide (t < P.types.size)) = true) (hr : fn.resultTypes = #[tb]) (htb : P.underlying tb = some .bool) (hvars : s.vars = [])
    (hspec : ∀ ds : List (DataW H), ds.length = tds.length → s.fn H ds = { results := [.lit (.bool true)], args := ds })
    (walk : ∀ css, hasAllT M tds css → CRule P f (argsD tds css) [] (.bool true) {})
    (base : Nat) (args : Array Value) (ds gs : List (DataW H)) (before : List MemPlace) (hval : ∀ (j : Nat) t v, fn.params[j]? = some t → args[j]? = some v → Value.okWide P W .any base t v)
    (hW : DataW.Whole enc P fn.params.toList s.vars false W args.toList ds gs before) (hb : Rows.uptoBulkAll ds ≤ M) (hgl : ∀ g l, tabOf g = some l → Zof W g ∧ ∀ j, j < l.length → W.cell? ⟨g, j, none⟩ = some (l.getD j undef) := by intro g l h; cases h) :
    Calls P f args W fun e W' => ∃ v, e = .returned v ∧ s.post enc P fn false fresh handsOn again W args v W' := by
  have hW' := hW
  obtain ⟨p, q, hA, hV, rfl, hfz, hnd⟩ := hW
  rw [hvars] at hV
  obtain ⟨rfl, rfl⟩ := trodVars_none hV
  have hlen : ∀ {ts : List TypeId} {vs : List Value} {ds : List (DataW H)} {ps : List MemPlace} {tds : List TD}, tdsB P tds ts = true → DataW.TrodAll enc P W 0 (fun _ => true) true ts vs ds ps → ds.length = tds.length := by
    intro ts
    induction ts with
    | nil => intro vs ds ps tds h1 h2; cases tds with
      | nil => obtain ⟨_, rfl, _⟩ := trodAll_nil h2; rfl
      | cons => simp [tdsB] at h1
    | cons t ts ih => intro vs ds ps tds h1 h2; cases tds with
      | nil => simp [tdsB] at h1
      | cons x tds =>
        simp only [tdsB, Bool.and_eq_true] at h1
        obtain ⟨v, vs', d, ds', p, q, rfl, rfl, rfl, _, h4⟩ := trodAll_cons h2
        simp [ih h1.2 h4]
  have hdl := hlen htd hA
  let ρ : Env := { live := fun _ => False, blk := fun _ => 0, val := fun _ => undef, ver := fun _ => 0 }
  obtain ⟨css, h1, h2⟩ := args_rel hM ρ htd (fun j t v hj hv => hval j t v (by simpa using hj) (by simpa using hv)) hA hb
  have hm : HSat ⟨W, Zof W, hgl⟩ ρ (Zof W) (fun _ => none) W := ⟨rfl, rfl, rfl, Nat.le_refl _, fun _ h => h, fun _ h => h, fun _ _ => rfl, fun n o h => (by cases h), fun n o b h => (by cases h), fun n m o o' b h => (by cases h), ⟨0, fun n h => h.elim⟩⟩
  have hc := walk css h1 ⟨W, Zof W, hgl⟩ ρ (Zof W) (fun _ => none) W args.toList hm (fun x hx => by simp at hx) (fun n o hx => by simp at hx) h2
  simp only [Array.toArray_toList] at hc
  refine hc.mono fun en W' hen => ?_
  obtain ⟨v, ρ', Z', rfl, hrel, hm', hx, _⟩ := hen
  obtain rfl := hrel.inv_v
  have hs : s.fn H (ds ++ []) = { results := [.lit (.bool true)], args := ds } := by rw [List.append_nil]; exact hspec ds hdl
  refine ⟨_, rfl, post_same (pa := p) (pv := []) hW' ?_ (fun sp hsp => ?_) (fun _ _ => ?_) rfl hm'.os hm'.output (fun b hb => hm'.same b hb) ?_⟩
  · intro b sp hd
    rw [hs, hr]
    exact trodAll_cons_mk (shut_bool htb _) trodAll_mk0
  · rw [hs]
    have hT : ∀ t ∈ fn.params.toList, t < P.types.size := fun t ht => by simpa using List.all_eq_true.1 hpt t ht
    have h3 := DataW.TrodAll.respare (spare' := sp) (kids_rows hl hmr) (slices_full_of P hsl) hT hA (fun x hx => hsp x (by simpa using hx))
    refine trodAll_same h3 (fun x hx => ?_)
    have hxl := hW'.lt x (by simpa using hx)
    cases x with
    | cell b off =>
      simp only [World.sameAt, World.cell?]
      rw [hm'.same b hxl]
    | map b => exact hm'.same b hxl
  · rw [hs, hvars]; rfl
  · exact ok_one hr rfl (okWide_bool_mk htb _)
end
end Go.Sy

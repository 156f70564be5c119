/-
  The library's Compact of whole numbers, proved in the kit over worlds, as a contract over abstract states; what it gives of sorted numbers. Plain theorems.
-/
import Derived.Test.YtkjjihicaefmcaaDoorSySo
import Derived.Lib.SlicesCompact
set_option linter.unusedVariables false
set_option linter.unusedSimpArgs false
set_option linter.unusedSectionVars false
namespace Go.Sy
open Go Go.RowKit Go.Sort
def cpcI (l : List Int) : List Int := Lib.compact l
def CompactsI (P : Program) (f : FuncId) : Prop :=
  (∀ (A : Option Addr) (cap : Nat) (w : World), Calls P f #[.slice A 0 cap] w fun e w' => e = .returned (.slice A 0 cap) ∧ w' = w) ∧
  ∀ (blk off cap : Nat) (zs : List Int) (w : World), Holds (Value.int .i64) w blk off zs.toArray → zs.length ≤ 9223372036854775807 → zs.length ≤ cap →
    Calls P f #[.slice (some ⟨blk, off, none⟩) zs.length cap] w fun e w' => e = .returned (.slice (some ⟨blk, off, none⟩) (cpcI zs).length cap) ∧ ∃ q, w' = putRow (Value.int .i64) (Sort.ahead w q) blk off (cpcI zs ++ List.replicate (zs.length - (cpcI zs).length) 0).toArray
theorem cpcI_len (l : List Int) : (cpcI l).length ≤ l.length := by
  unfold cpcI Lib.compact Lib.compactUpTo
  rw [List.length_map]
  have := List.length_filter_le (Lib.keeps l.toArray) (List.range l.length)
  rwa [List.length_range] at this
theorem rule_cpcI {P : Program} {f : FuncId} (hC : CompactsI P f) (n ver E : Nat) (l : List Int) (hl : l.length ≤ 1048576) :
    CRule P f [.own n ver] [(n, .row ver E 1 (l.map fun x => [D.int x]))] (.own n (ver + 1)) { set := [(n, .row (ver + 1) E 1 ((cpcI l).map fun x => [D.int x]))] } := by
  intro K ρ Z H w vs hS hrd hf hargs
  obtain ⟨v, vs', rfl, hv, hnil⟩ := hargs.inv_cons
  obtain rfl := hnil.inv_nil
  have hH : H n = some (.row ver E 1 (l.map fun x => [D.int x])) := hrd (n, _) (by simp)
  obtain ⟨hlive, hver, hrows, xs, hown, hrel⟩ := hS.obj _ _ hH
  obtain ⟨_, hval⟩ := hv.inv_own
  have ev : v = ρ.val n := hval hver.symm
  have hxs := relL_ints hrel
  subst hxs
  obtain ⟨hlen, hcase⟩ := hown
  simp only [List.length_map] at hcase
  have hrows' : ∀ x ∈ (cpcI l).map fun x => [D.int x], x.length = 1 := fun x hx => by
    obtain ⟨y, _, rfl⟩ := List.mem_map.1 hx
    rfl
  have hcl := cpcI_len l
  have hfin : ∀ w' A m c, w'.os = w.os → w'.tape = w.tape → w'.output = w.output → w.heap.size ≤ w'.heap.size → (∀ b, b < w.heap.size → (ρ.val n).ownBlock ≠ some b → w'.heap[b]? = w.heap[b]?) →
      w'.ownsRow 0 E 1 (.slice A m c) (cpcI l).length ((cpcI l).map (Value.int .i64)) → (∀ b, (Value.slice A m c).ownBlock = some b → (ρ.val n).ownBlock = some b) →
      ∃ v ρ' Z', Ending.returned (.slice A m c) = .returned v ∧ Rel ρ' w' Z' (.own n (ver + 1)) v ∧ HSat K ρ' Z' (Eff.app { set := [(n, .row (ver + 1) E 1 ((cpcI l).map fun x => [D.int x]))] } H) w' ∧ Ext ρ Z w ρ' Z' w' ∧ (∀ n, ρ'.live n → ρ.live n ∨ ∃ o, (n, o) ∈ ([] : List (Nat × Ob))) := by
    intro w' A m c h1 h2 h3 h4 h5 h6 h7
    let ρ' : Env := { ρ with val := upd ρ.val n (.slice A m c), ver := upd ρ.ver n (ver + 1) }
    have hv1 : ρ'.val n = .slice A m c := upd_same _ _ _
    have hle : ρ.le ρ' := by
      refine ⟨fun _ h => h, fun _ _ => rfl, fun k _ => ?_, fun k _ he => ?_⟩
      · show ρ.ver k ≤ upd ρ.ver n (ver + 1) k
        by_cases ek : k = n
        · subst ek; rw [upd_same]; omega
        · rw [upd_ne _ _ _ _ ek]; exact Nat.le_refl _
      · have he' : upd ρ.ver n (ver + 1) k = ρ.ver k := he
        by_cases ek : k = n
        · subst ek; rw [upd_same] at he'; omega
        · exact upd_ne _ _ _ _ ek
    obtain ⟨hx, hm⟩ := hS.set (n := n) hH (ρ' := ρ') (w' := w') (o' := .row (ver + 1) E 1 ((cpcI l).map fun x => [D.int x])) hle (fun _ h => h) (fun k hk => ⟨upd_ne _ _ _ _ hk, upd_ne _ _ _ _ hk, rfl⟩) h1 h2 h3 h4 h5
      ⟨upd_same _ _ _, hrows', _, by rw [List.length_map, hv1]; exact h6, relL_ints' _⟩ (fun b hb => .inl (by
        simp only [Ob.blk, hv1] at hb
        exact h7 b hb))
    refine ⟨_, ρ', Z, rfl, .own A m c hlive ?_ (fun _ => hv1.symm), hm, hx, fun m hm => .inl hm⟩
    show ver + 1 ≤ upd ρ.ver n (ver + 1) n
    rw [upd_same]
    exact Nat.le_refl _
  rcases hcase with ⟨e0, hn0⟩ | ⟨g, cap, cur, e0, hg0, hheap, hncap, hcapm, hsz, htake⟩
  · have hl0 : l = [] := List.length_eq_zero_iff.1 hn0
    subst hl0
    have hc0 : cpcI [] = [] := List.length_eq_zero_iff.1 (Nat.le_zero.1 hcl)
    rw [ev, e0]
    refine (hC.1 none 0 w).mono fun en w' => ?_
    rintro ⟨rfl, rfl⟩
    exact hfin w' none 0 0 rfl rfl rfl (Nat.le_refl _) (fun _ _ _ => rfl) ⟨by rw [hc0]; rfl, .inl ⟨rfl, by rw [hc0]; rfl⟩⟩ (fun b hb => by cases hb)
  · rw [ev, e0]
    have hlt : g < w.heap.size := by
      rcases Nat.lt_or_ge g w.heap.size with h | h
      · exact h
      · rw [Array.getElem?_eq_none h] at hheap
        cases hheap
    have hle : l.length ≤ cur.size := by omega
    have hcell : ∀ j, j < l.length → cur[j]? = some (Value.int .i64 l[j]!) := fun j hj => by
      have h9 := congrArg (fun z => z[j]?) htake
      simp only [Nat.mul_one] at h9
      rw [List.getElem?_take, if_pos hj, Array.getElem?_toList, List.getElem?_map] at h9
      rw [h9]
      simp [hj]
    have hHolds : Holds (Value.int .i64) w g 0 l.toArray := fun j hj => by
      have hj' : j < l.length := by simpa using hj
      refine ⟨?_, ?_⟩
      · simp only [World.cell?, hheap, Nat.zero_add]
        rw [hcell j hj']
        simp
      · simp [World.frozen?, hheap]
    refine (hC.2 g 0 cap l w hHolds (by omega) hncap).mono fun en w' => ?_
    rintro ⟨rfl, q, rfl⟩
    have hdl : (cpcI l ++ List.replicate (l.length - (cpcI l).length) 0).length = l.length := by
      rw [List.length_append, List.length_replicate]
      omega
    have htk := putCells_take (Value.int .i64) (cpcI l ++ List.replicate (l.length - (cpcI l).length) 0) cur (by rw [hdl]; exact hle)
    refine hfin _ _ _ _ rfl rfl rfl (by simp [putRow, mapBlock, Sort.ahead]) (fun b hb hne => ?_) ⟨by simp, .inr ⟨g, cap, putCells (Value.int .i64) 0 (cpcI l ++ List.replicate (l.length - (cpcI l).length) 0).toArray cur, rfl, Nat.zero_le _, ?_, by omega, hcapm, by rw [putCells_size]; exact hsz, ?_⟩⟩ (fun b hb => by rw [e0]; exact hb)
    · rw [e0] at hne
      have hbg : g ≠ b := fun h => hne (by rw [h]; rfl)
      show (w.heap.modify g _)[b]? = _
      rw [Array.getElem?_modify, if_neg hbg]
    · show (w.heap.modify g _)[g]? = _
      rw [Array.getElem?_modify, if_pos rfl, hheap]
      rfl
    · rw [Nat.mul_one]
      have h9 := congrArg (List.take (cpcI l).length) htk
      rw [List.take_take, hdl, Nat.min_eq_left hcl, List.map_append, List.take_left' (by simp)] at h9
      exact h9
theorem XC.cpcI {P : Program} {f : FuncId} (hC : CompactsI P f) (o : Ar) (ho : o = Ar.real) (ver E : Nat) (l : List Int) (hl : l.length ≤ 1048576) :
    XC P f [.own (.out 0) ver] [.row ver E 1 (SL o encI l)] (.own (.out 0) (ver + 1)) [.row (ver + 1) E 1 (SL o encI (cpcI l))] := by
  intro c h1 h2
  match hc : c.ons, h2 with
  | [n], _ =>
    have e : ∀ v l, OX.toOb c (.row v E 1 (SL o encI l)) = .row v E 1 (l.map fun x => [D.int x]) := fun v l => by
      simp only [OX.toOb, rows_SL o ho, List.map_map]
      rfl
    have h3 := rule_cpcI hC n ver E l hl
    simp only [List.map_cons, List.map_nil, e, hc, List.zip_cons_cons, List.zip_nil_right]
    have e2 : X.toDL c [.own (.out 0) ver] = [.own n ver] := by
      simp only [X.toDL, X.toD, Nm.at, hc]
      rfl
    have e3 : X.toD c (.own (.out 0) (ver + 1)) = .own n (ver + 1) := by
      simp only [X.toD, Nm.at, hc]
      rfl
    rw [e2, e3]
    exact h3
theorem sortI_up (l : List Int) : (sortI l).Pairwise (· ≤ ·) := by
  have h := List.pairwise_mergeSort (le := fun x y : Int => decide (x ≤ y)) (by simp; intro a b c; omega) (by simp; intro a b; omega) l
  unfold sortI
  exact h.imp fun h => of_decide_eq_true h
theorem sortI_mem (l : List Int) (x : Int) : x ∈ sortI l ↔ x ∈ l := by
  unfold sortI
  exact (List.mergeSort_perm l _).mem_iff
theorem keeps_iff (l : List Int) {j : Nat} (hj : j < l.length) : Lib.keeps l.toArray j = true ↔ j = 0 ∨ l.getD j 0 ≠ l.getD (j - 1) 0 := by
  unfold Lib.keeps
  have h1 : l.toArray[j]! = l.getD j 0 := by simp [hj, getElem!_pos]
  have h2 : l.toArray[j - 1]! = l.getD (j - 1) 0 := by
    have : j - 1 < l.length := by omega
    simp [this, getElem!_pos]
  rw [decide_eq_true_eq, h1, h2]
theorem up_at {l : List Int} (h : l.Pairwise (· ≤ ·)) {i j : Nat} (hij : i ≤ j) (hj : j < l.length) : l.getD i 0 ≤ l.getD j 0 := by
  have hi : i < l.length := by omega
  rw [List.getD_eq_getElem?_getD, List.getD_eq_getElem?_getD, List.getElem?_eq_getElem hi, List.getElem?_eq_getElem hj]
  rcases Nat.lt_or_ge i j with h1 | h1
  · exact List.pairwise_iff_getElem.1 h i j hi hj h1
  · obtain rfl : i = j := by omega
    exact Int.le_refl _
theorem cpcI_up {l : List Int} (h : l.Pairwise (· ≤ ·)) : (cpcI l).Pairwise (· < ·) := by
  unfold cpcI Lib.compact Lib.compactUpTo
  rw [List.pairwise_map, List.pairwise_filter]
  refine List.pairwise_lt_range.imp_of_mem fun {i j} hi hj hij ki kj => ?_
  rw [List.mem_range] at hi hj
  have h1 : l.toArray[i]! = l.getD i 0 := by simp [hi, getElem!_pos]
  have h2 : l.toArray[j]! = l.getD j 0 := by simp [hj, getElem!_pos]
  rw [h1, h2]
  rcases (keeps_iff l hj).1 kj with h3 | h3
  · omega
  · have a1 := up_at h (i := i) (j := j - 1) (by omega) (by omega)
    have a2 := up_at h (i := j - 1) (j := j) (by omega) hj
    omega
theorem cpcI_mem (l : List Int) (x : Int) : x ∈ cpcI l ↔ x ∈ l := by
  unfold cpcI Lib.compact Lib.compactUpTo
  simp only [List.mem_map, List.mem_filter, List.mem_range]
  constructor
  · rintro ⟨j, ⟨hj, _⟩, rfl⟩
    have h2 : l.toArray[j]! = l[j] := by simp [hj, getElem!_pos]
    rw [h2]
    exact List.getElem_mem hj
  · intro hx
    obtain ⟨i, hi, rfl⟩ := List.mem_iff_getElem.1 hx
    have key : ∀ n i, i ≤ n → ∀ hi : i < l.length, ∃ a, (a < l.length ∧ Lib.keeps l.toArray a = true) ∧ l.toArray[a]! = l[i] := by
      intro n
      induction n with
      | zero =>
        intro i h0 hi
        obtain rfl : i = 0 := by omega
        exact ⟨0, ⟨hi, (keeps_iff l hi).2 (.inl rfl)⟩, by simp [hi, getElem!_pos]⟩
      | succ n ih =>
        intro i h0 hi
        by_cases hk : Lib.keeps l.toArray i = true
        · exact ⟨i, ⟨hi, hk⟩, by simp [hi, getElem!_pos]⟩
        · have hk' := fun h => hk ((keeps_iff l hi).2 h)
          have hi0 : i ≠ 0 := fun h => hk' (.inl h)
          have he : l.getD i 0 = l.getD (i - 1) 0 := Classical.byContradiction fun h => hk' (.inr h)
          obtain ⟨a, ha, e⟩ := ih (i - 1) (by omega) (by omega)
          refine ⟨a, ha, e.trans ?_⟩
          rw [List.getD_eq_getElem?_getD, List.getD_eq_getElem?_getD, List.getElem?_eq_getElem hi, List.getElem?_eq_getElem (by omega : i - 1 < l.length)] at he
          exact he.symm
    exact key i i (Nat.le_refl _) hi
end Go.Sy

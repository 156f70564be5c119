/-
  The library's sort of whole numbers, proved in the kit over worlds, as a contract over abstract states. Plain theorems.
-/
import Derived.Test.YtkjjihicaefmcaaDoorSyZg
import Derived.Test.YtkjjihicaefmcaaDoorSyVa
import Derived.Sort.Grow
set_option linter.unusedVariables false
set_option linter.unusedSimpArgs false
set_option linter.unusedSectionVars false
namespace Go.Sy
open Go Go.RowKit Go.Sort
theorem relL_ints {ρ : Env} {w : World} {Z : Nat → Prop} : ∀ {l : List Int} {xs : List Value}, RelL ρ w Z (l.map fun x => [D.int x]).flatten xs → xs = l.map (Value.int .i64)
  | [], xs, h => h.inv_nil
  | x :: l, xs, h => by
    obtain ⟨v, vs, rfl, h1, h2⟩ := RelL.inv_cons (d := D.int x) (l := (l.map fun x => [D.int x]).flatten) h
    rw [relL_ints h2, h1.inv_v]
    rfl
theorem relL_ints' {ρ : Env} {w : World} {Z : Nat → Prop} : ∀ (l : List Int), RelL ρ w Z (l.map fun x => [D.int x]).flatten (l.map (Value.int .i64))
  | [] => .nil
  | x :: l => RelL.cons (.c (.v _)) (relL_ints' l)
theorem putCells_take (enc : Int → Value) (l : List Int) (cur : Array Value) (h : l.length ≤ cur.size) : (putCells enc 0 l.toArray cur).toList.take l.length = l.map enc := by
  apply List.ext_getElem
  · simp [putCells]
    omega
  · intro i h1 h2
    have hi : i < l.length := by simpa using h2
    simp [putCells, hi, getElem!_pos]
theorem putCells_size (enc : Int → Value) (l : List Int) (cur : Array Value) : (putCells enc 0 l.toArray cur).size = cur.size := by simp [putCells]
def sortI (l : List Int) : List Int := l.mergeSort fun x y => decide (x ≤ y)
theorem sortI_len (l : List Int) : (sortI l).length = l.length := by unfold sortI; simp
def SortsI (P : Program) (f : FuncId) : Prop :=
  (∀ w, Calls P f #[.slice none 0 0] w fun e w' => e = .returned (.tuple #[]) ∧ w' = w) ∧
  ∀ (blk off cap : Nat) (zs : List Int) (w : World), Holds (Value.int .i64) w blk off zs.toArray → blk < w.heap.size → zs.length < 4611686018427387904 →
    Calls P f #[.slice (some ⟨blk, off, none⟩) zs.length cap] w fun e w' => e = .returned (.tuple #[]) ∧ ∃ n os, w' = grow (putRow (Value.int .i64) (Sort.ahead w n) blk off (sortI zs).toArray) os
theorem rule_sortI {P : Program} {f : FuncId} (hC : SortsI P f) (n ver E : Nat) (l : List Int) (hl : l.length ≤ 1048576) :
    CRule P f [.own n ver] [(n, .row ver E 1 (l.map fun x => [D.int x]))] (.tup []) { set := [(n, .row ver E 1 ((sortI l).map fun x => [D.int x]))] } := by
  intro K ρ Z H w vs hS hrd hf hargs
  obtain ⟨v, vs', rfl, hv, hnil⟩ := hargs.inv_cons
  obtain rfl := hnil.inv_nil
  have hH : H n = some (.row ver E 1 (l.map fun x => [D.int x])) := hrd (n, _) (by simp)
  obtain ⟨hlive, hver, hrows, xs, hown, hrel⟩ := hS.obj _ _ hH
  obtain ⟨_, hval⟩ := hv.inv_own
  have ev : v = ρ.val n := hval hver.symm
  have hxs := relL_ints hrel
  subst hxs
  obtain ⟨hlen, hcase⟩ := hown
  simp only [List.length_map] at hcase
  have hrows' : ∀ x ∈ (sortI l).map fun x => [D.int x], x.length = 1 := fun x hx => by
    obtain ⟨y, _, rfl⟩ := List.mem_map.1 hx
    rfl
  have hfin : ∀ w', w'.os = w.os → w'.tape = w.tape → w'.output = w.output → w.heap.size ≤ w'.heap.size → (∀ b, b < w.heap.size → (ρ.val n).ownBlock ≠ some b → w'.heap[b]? = w.heap[b]?) →
      w'.ownsRow 0 E 1 (ρ.val n) (sortI l).length ((sortI l).map (Value.int .i64)) →
      ∃ v ρ' Z', Ending.returned (.tuple #[]) = .returned v ∧ Rel ρ' w' Z' (.tup []) v ∧ HSat K ρ' Z' (Eff.app { set := [(n, .row ver E 1 ((sortI l).map fun x => [D.int x]))] } H) w' ∧ Ext ρ Z w ρ' Z' w' ∧ (∀ n, ρ'.live n → ρ.live n ∨ ∃ o, (n, o) ∈ ([] : List (Nat × Ob))) := by
    intro w' h1 h2 h3 h4 h5 h6
    obtain ⟨hx, hm⟩ := hS.set (n := n) hH (ρ' := ρ) (w' := w') (o' := .row ver E 1 ((sortI l).map fun x => [D.int x])) (.refl ρ) (fun _ h => h) (fun _ _ => ⟨rfl, rfl, rfl⟩) h1 h2 h3 h4 h5
      ⟨hver, hrows', _, by rw [List.length_map]; exact h6, relL_ints' _⟩ (fun b hb => .inl hb)
    refine ⟨_, ρ, Z, rfl, Rel.mk_tup .nil, ?_, hx, fun m hm => .inl hm⟩
    exact hm
  rcases hcase with ⟨e0, hn0⟩ | ⟨g, cap, cur, e0, hg0, hheap, hncap, hcapm, hsz, htake⟩
  · have hl0 : l = [] := List.length_eq_zero_iff.1 hn0
    subst hl0
    rw [ev, e0]
    refine (hC.1 w).mono fun en w' => ?_
    rintro ⟨rfl, rfl⟩
    exact hfin w' rfl rfl rfl (Nat.le_refl _) (fun _ _ _ => rfl) ⟨by simp [sortI_len], .inl ⟨e0, by rw [sortI_len]; rfl⟩⟩
  · rw [ev, e0]
    have hlt : g < w.heap.size := by
      rcases Nat.lt_or_ge g w.heap.size with h | h
      · exact h
      · rw [Array.getElem?_eq_none h] at hheap
        cases hheap
    have hle : l.length ≤ cur.size := by omega
    have hcell : ∀ j, j < l.length → cur[j]? = some (Value.int .i64 l[j]!) := fun j hj => by
      have h9 := congrArg (fun z => z[j]?) htake
      simp only [Nat.mul_one] at h9
      rw [List.getElem?_take, if_pos hj, Array.getElem?_toList, List.getElem?_map] at h9
      rw [h9]
      simp [hj]
    have hHolds : Holds (Value.int .i64) w g 0 l.toArray := fun j hj => by
      have hj' : j < l.length := by simpa using hj
      refine ⟨?_, ?_⟩
      · simp only [World.cell?, hheap, Nat.zero_add]
        rw [hcell j hj']
        simp
      · simp [World.frozen?, hheap]
    refine (hC.2 g 0 cap l w hHolds hlt (by omega)).mono fun en w' => ?_
    rintro ⟨rfl, m, os, rfl⟩
    have hsl := sortI_len l
    refine hfin _ rfl rfl rfl (by simp [grow, putRow, mapBlock, Sort.ahead]) (fun b hb hne => ?_) ⟨by simp, .inr ⟨g, cap, putCells (Value.int .i64) 0 (sortI l).toArray cur, by rw [hsl]; exact e0, Nat.zero_le _, ?_, by rw [hsl]; exact hncap, hcapm, by rw [putCells_size]; exact hsz, ?_⟩⟩
    · rw [e0] at hne
      have hbg : g ≠ b := fun h => hne (by rw [h]; rfl)
      show (w.heap.modify g (onCells (putCells (Value.int .i64) 0 (sortI l).toArray)) ++ os)[b]? = _
      rw [Array.getElem?_append_left (by rw [Array.size_modify]; exact hb), Array.getElem?_modify, if_neg hbg]
    · show (w.heap.modify g (onCells (putCells (Value.int .i64) 0 (sortI l).toArray)) ++ os)[g]? = _
      rw [Array.getElem?_append_left (by rw [Array.size_modify]; exact hlt), Array.getElem?_modify, if_pos rfl, hheap]
      rfl
    · rw [Nat.mul_one]
      exact putCells_take _ _ _ (by rw [hsl]; exact hle)
theorem XC.sortI {P : Program} {f : FuncId} (hC : SortsI P f) (o : Ar) (ho : o = Ar.real) (ver E : Nat) (l : List Int) (hl : l.length ≤ 1048576) :
    XC P f [.own (.out 0) ver] [.row ver E 1 (SL o encI l)] (.tup []) [.row ver E 1 (SL o encI (sortI l))] := by
  intro c h1 h2
  match hc : c.ons, h2 with
  | [n], _ =>
    have e : ∀ l, OX.toOb c (.row ver E 1 (SL o encI l)) = .row ver E 1 (l.map fun x => [D.int x]) := fun l => by
      simp only [OX.toOb, rows_SL o ho, List.map_map]
      rfl
    have h3 := rule_sortI hC n ver E l hl
    simp only [List.map_cons, List.map_nil, e, hc, List.zip_cons_cons, List.zip_nil_right]
    have e2 : X.toDL c [.own (.out 0) ver] = [.own n ver] := by
      simp only [X.toDL, X.toD, Nm.at, hc]
      rfl
    rw [e2]
    exact h3
end Go.Sy

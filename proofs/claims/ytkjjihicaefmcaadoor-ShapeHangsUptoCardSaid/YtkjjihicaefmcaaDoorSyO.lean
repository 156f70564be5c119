/-
  Rows' elements, arrays, '==' of structs, append to a literal. Plain theorems.
-/
import Derived.Test.YtkjjihicaefmcaaDoorSyN
set_option linter.unusedVariables false
set_option linter.unusedSectionVars false
set_option linter.unusedSimpArgs false
namespace Go.Sy
open Go Go.RowKit
section
variable {P : Program} {o : Oper}
theorem row_block {ρ : Env} {w : World} {Z : Nat → Prop} {n ver E sz i : Nat} {l : List (List D)} (h : (Ob.row ver E sz l).at_ ρ w Z n) (hi : i < l.length) : ∃ g cap cur xs, ρ.val n = .slice (some ⟨g, 0, none⟩) l.length cap ∧ w.heap[g]? = some (.cells cur E (0, 0)) ∧
    cur.size = cap * sz ∧ l.length ≤ cap ∧ cap ≤ maxLen ∧ cur.toList.take (l.length * sz) = xs ∧ RelL ρ w Z l.flatten xs ∧ xs.length = l.length * sz ∧ ρ.ver n = ver ∧ (∀ x ∈ l, x.length = sz) := by
  obtain ⟨hver, hrows, xs, hown, hrel⟩ := h
  obtain ⟨hxl, h2⟩ := hown
  rcases h2 with ⟨_, e0⟩ | ⟨g, cap, cur, e0, _, hg, hnc, hcm, hcs, htake⟩
  · omega
  · exact ⟨g, cap, cur, xs, e0, hg, hcs, hnc, hcm, htake, hrel, hxl, hver, hrows⟩
theorem row_cells {ρ : Env} {w : World} {Z : Nat → Prop} {sz i : Nat} {l : List (List D)} {xs : List Value} (hrows : ∀ x ∈ l, x.length = sz) (hrel : RelL ρ w Z l.flatten xs) (hi : i < l.length) (j : Nat) (hj : j < sz) :
    i * sz + j < xs.length ∧ Rel ρ w Z ((l.getD i []).getD j default) (xs.getD (i * sz + j) undef) := by
  have h0 : 0 < sz := by omega
  have hfl := flatten_len l hrows
  have hlt : i * sz + j < l.length * sz := by
    have : i * sz + sz ≤ l.length * sz := by rw [← Nat.succ_mul]; exact Nat.mul_le_mul_right _ hi
    omega
  have hlen := hrel.len
  refine ⟨by omega, ?_⟩
  have := hrel.at_ (i * sz + j) (by omega)
  rw [List.getD_eq_getElem?_getD, flatten_get h0 l hrows, Nat.mul_comm i sz, Nat.mul_add_div h0, Nat.div_eq_of_lt hj, Nat.add_zero, Nat.mul_add_mod, Nat.mod_eq_of_lt hj] at this
  rw [Nat.mul_comm i sz]
  simpa [List.getD_eq_getElem?_getD, hi] using this
theorem rule_load_rptr {x : Operand} {t n ver sz i off E sz' : Nat} {l : List (List D)} {d : D} (ho : o.op = .load t x) (hs : tySz P t = some sz') (hi : i < l.length) (hd : loadD (tyK P t) sz' (l.getD i []) off = some d) :
    ORule P o [(x, .rptr n ver sz i off)] [(n, .row ver E sz l)] d .none :=
  .stay fun ρ w Z a hp hr => by
    have hx : Rel ρ w Z (.rptr n ver sz i off) (a.eval x) := hp (x, .rptr n ver sz i off) (by simp)
    obtain ⟨hl, hobj⟩ := hr (n, .row ver E sz l) (by simp)
    obtain ⟨g, cap, cur, xs, hval, hg, hcs, hnc, hcm, htake, hrel, hxl, hver, hrows⟩ := row_block hobj hi
    have hget : (l.getD i []).length = sz := by
      have : l.getD i [] = l[i] := by simp [List.getD_eq_getElem?_getD, hi]
      rw [this]; exact hrows _ (List.getElem_mem hi)
    generalize hv : a.eval x = v at hx
    cases hx with
    | rptr p hl' hle hvv =>
      have e := hvv hver.symm
      simp only at hval
      rw [hval] at e
      simp only [inRow, Value.pointer.injEq] at e
      obtain ⟨u, h1, h2⟩ := run_load (P := P) (ρ := ρ) (Z := Z) (w := w) (cs := l.getD i []) (off := off) (b := g) (o' := i * sz) (t := t) (sz := sz') (d := d) (fun j => xs.getD (i * sz + j) undef) (fun j hj => by
        rw [hget] at hj
        obtain ⟨hlt, _⟩ := row_cells hrows hrel hi j hj
        rw [cell_of hg]
        have hc : cur.toList[i * sz + j]? = xs[i * sz + j]? := by rw [← htake, List.getElem?_take, if_pos (by omega)]
        simp only [Array.getElem?_toList] at hc
        rw [hc]
        simp [List.getD_eq_getElem?_getD, hlt]) (fun j hj => by
        rw [hget] at hj
        exact (row_cells hrows hrel hi j hj).2) hs hd
      refine ⟨u, ?_, h2⟩
      rw [← e] at h1
      simp [execOp, ho, hv, h1]
theorem flatten_set {α : Type} {sz : Nat} (h0 : 0 < sz) {l : List (List α)} (hrows : ∀ x ∈ l, x.length = sz) {i off : Nat} (hi : i < l.length) {cs : List α} (hle : off + cs.length ≤ sz) :
    (l.set i ((l.getD i []).take off ++ cs ++ (l.getD i []).drop (off + cs.length))).flatten = l.flatten.take (i * sz + off) ++ cs ++ l.flatten.drop (i * sz + off + cs.length) := by
  have hget : l.getD i [] = l[i] := by simp [List.getD_eq_getElem?_getD, hi]
  have hlen : l[i].length = sz := hrows _ (List.getElem_mem hi)
  have hsplit : l = l.take i ++ l[i] :: l.drop (i + 1) := by
    rw [← List.drop_eq_getElem_cons hi, List.take_append_drop]
  have hpre : (l.take i).flatten.length = i * sz := by
    rw [flatten_len _ (fun x hx => hrows x (List.mem_of_mem_take hx))]; rw [List.length_take, Nat.min_eq_left (by omega)]
  rw [hget]
  have e1 : (l.set i (l[i].take off ++ cs ++ l[i].drop (off + cs.length))).flatten = (l.take i).flatten ++ ((l[i].take off ++ cs ++ l[i].drop (off + cs.length)) ++ (l.drop (i + 1)).flatten) := by
    rw [List.set_eq_take_append_cons_drop, if_pos hi]
    simp
  have e2 : l.flatten = (l.take i).flatten ++ (l[i] ++ (l.drop (i + 1)).flatten) := by
    have := congrArg List.flatten hsplit
    rw [List.flatten_append, List.flatten_cons] at this
    exact this
  rw [e1]
  conv => rhs; rw [e2]
  rw [List.take_append, List.drop_append, hpre]
  have t1 : (l.take i).flatten.take (i * sz + off) = (l.take i).flatten := List.take_of_length_le (by omega)
  have t2 : (l.take i).flatten.drop (i * sz + off + cs.length) = [] := List.drop_of_length_le (by omega)
  rw [t1, t2, show i * sz + off - i * sz = off from by omega, show i * sz + off + cs.length - i * sz = off + cs.length from by omega]
  rw [List.take_append_of_le_length (by omega), List.drop_append_of_le_length (by omega)]
  simp
theorem rule_store_rptr {x y : Operand} {t n ver sz i off E sz' : Nat} {l : List (List D)} {cs : List D} {d : D} (ho : o.op = .store t x y) (hs : tySz P t = some sz') (hi : i < l.length) (hl : d.cells = some cs) (hsz : cs.length = sz') (h1 : cs.all D.one = true) (hle : off + sz' ≤ sz) (h0 : 0 < sz) :
    ORule P o [(x, .rptr n ver sz i off), (y, d)] [(n, .row ver E sz l)] .junk { set := [(n, .row ver E sz (l.set i (putD (l.getD i []) off cs)))] } := by
  intro K N ρ Z S a w Q K' hS hpre hrd hf hd hK
  have hx : Rel ρ w Z (.rptr n ver sz i off) (a.eval x) := by have := hS.ev x; rwa [hpre (x, .rptr n ver sz i off) (by simp)] at this
  have hy : Rel ρ w Z d (a.eval y) := by have := hS.ev y; rwa [hpre (y, d) (by simp)] at this
  have ho' := hrd (n, .row ver E sz l) (by simp)
  obtain ⟨hlive, hobj⟩ := hS.mem.obj _ _ ho'
  obtain ⟨g, cap, cur, xs, hval, hg, hcs, hnc, hcm, htake, hrel, hxl, hver, hrows⟩ := row_block hobj hi
  simp only at hval
  have hcl := rel_cells hy hl
  have hln := hcl.len
  simp only [Array.length_toList] at hln
  have hxv : a.eval x = .pointer (some ⟨g, i * sz + off, none⟩) := by
    generalize a.eval x = v at hx
    cases hx with
    | rptr p hl' hle' hvv =>
      have e := hvv hver.symm
      rw [hval] at e
      exact e
  have hb2 : i * sz + sz ≤ l.length * sz := by rw [← Nat.succ_mul]; exact Nat.mul_le_mul_right _ hi
  have hb3 : l.length * sz ≤ cap * sz := Nat.mul_le_mul_right _ hnc
  have hfit : i * sz + off + sz' ≤ cur.size := by omega
  have hst := run_storeVar_cells (P := P) (t := t) (sz := sz') (off := i * sz + off) (v := a.eval y) hs hg (by omega) hfit (hcl.one h1)
  have hrun : (execOp a.eval o).run P w = .ok .skip (w.setRow g (cur.toList.take (i * sz + off) ++ (a.eval y).cells.toList ++ cur.toList.drop (i * sz + off + (a.eval y).cells.toList.length)).toArray) := by
    simp [execOp, ho, hxv, Instr.storeAt, Instr.sureAddr, hst]
  have hgz : ¬ Z g := (hS.mem.own _ _ g ho' (by simp only [Ob.blk, hval, Value.ownBlock])).1
  have hZs : ∀ b, Z b → (w.setRow g (cur.toList.take (i * sz + off) ++ (a.eval y).cells.toList ++ cur.toList.drop (i * sz + off + (a.eval y).cells.toList.length)).toArray).heap[b]? = w.heap[b]? := fun b hz => setRow_other w _ b _ (fun e => hgz (e ▸ hz))
  have hget : (l.getD i []).length = sz := by
    have : l.getD i [] = l[i] := by simp [List.getD_eq_getElem?_getD, hi]
    rw [this]; exact hrows _ (List.getElem_mem hi)
  have hxn : xs = cur.toList.take (l.length * sz) := htake.symm
  have hyl : (a.eval y).cells.toList.length = sz' := by simp; omega
  obtain ⟨hxt, hm⟩ := hS.mem.set (n := n) ho' (ρ' := ρ) (w' := w.setRow g (cur.toList.take (i * sz + off) ++ (a.eval y).cells.toList ++ cur.toList.drop (i * sz + off + (a.eval y).cells.toList.length)).toArray)
    (o' := .row ver E sz (l.set i (putD (l.getD i []) off cs))) (.refl _) (fun _ h => h) (fun _ _ => ⟨rfl, rfl, rfl⟩) rfl rfl rfl (by simp [World.setRow])
    (fun b _ hne => setRow_other w _ b _ (fun e => hne (by simp only [Ob.blk, hval, Value.ownBlock, e])))
    ⟨hver, fun z hz => by
      rcases List.mem_or_eq_of_mem_set hz with hz | rfl
      · exact hrows z hz
      · simp only [putD, List.length_append, List.length_take, List.length_drop, hget]; omega,
     xs.take (i * sz + off) ++ (a.eval y).cells.toList ++ xs.drop (i * sz + off + (a.eval y).cells.toList.length), ⟨by
      simp only [List.length_append, List.length_take, List.length_drop, List.length_set]; omega, .inr ⟨g, cap, _, by rw [List.length_set]; exact hval, Nat.zero_le _, setRow_heap w _ _ _ _ _ hg, by rw [List.length_set]; exact hnc, hcm, by
        simp only [List.size_toArray, List.length_append, List.length_take, List.length_drop, Array.length_toList]; omega, by
        rw [List.length_set, hxn]
        simp only []
        rw [List.append_assoc, List.append_assoc, List.take_append, List.take_append]
        simp only [List.length_take, Array.length_toList]
        rw [Nat.min_eq_left (by omega), List.take_take, Nat.min_eq_right (by omega), List.take_take, Nat.min_eq_left (by omega)]
        congr 1
        rw [List.take_of_length_le (l := (a.eval y).cells.toList) (by omega)]
        congr 1
        rw [List.drop_take]
        congr 1
        omega⟩⟩, by
      have hput := hrel.put hcl (i * sz + off)
      have hfl : (l.set i (putD (l.getD i []) off cs)).flatten = putD l.flatten (i * sz + off) cs := by
        unfold putD
        exact flatten_set h0 hrows hi (by omega)
      rw [hfl]
      exact hput.mono hZs (fun _ h => h) (.refl _)⟩
    (fun b hb => .inl hb)
  unfold Oper.wp
  rw [hrun]
  exact hK ρ Z _ _ (hS.put hd hxt (.junk _) hm (fun k hk => .inl (hS.live k hk))) hxt
def fillA (sz : Nat) : List D → List (Nat × D) → Option (List D)
  | cs, [] => some cs
  | cs, (i, d) :: rest =>
    match d.cells with
    | some l => if l.length = sz ∧ i * sz + sz ≤ cs.length then fillA sz (putD cs (i * sz) l) rest else none
    | _ => none
theorem fillA_sound {ρ : Env} {w : World} {Z : Nat → Prop} {sz : Nat} (ev : Operand → Value) (dv : Operand → D) : ∀ (ps : List (Nat × Operand)) (cs cs' : List D) (cur : Array Value), RelL ρ w Z cs cur.toList →
    (∀ p ∈ ps, Rel ρ w Z (dv p.2) (ev p.2)) → fillA sz cs (ps.map fun p => (p.1, dv p.2)) = some cs' →
    ∃ r : Array Value, Instr.fill (fun i => some (i * sz, sz)) cur (ps.map fun p => (p.1, ev p.2)) = some r ∧ RelL ρ w Z cs' r.toList
  | [], cs, cs', cur, h, _, hf => by
    simp [fillA] at hf
    subst hf
    exact ⟨cur, rfl, h⟩
  | p :: ps, cs, cs', cur, h, hp, hf => by
    simp only [List.map_cons, fillA] at hf
    split at hf
    · rename_i l hc
      split at hf
      · rename_i hle
        obtain ⟨h1, h2⟩ := hle
        have hcl := rel_cells (hp p (by simp)) hc
        have hlen := hcl.len
        have hcs := h.len
        simp only [Array.length_toList] at hlen hcs
        have hput := h.put hcl (p.1 * sz)
        rw [← fold_put (off := p.1 * sz) (v := ev p.2) (cur := cur) (by omega)] at hput
        obtain ⟨r, r1, r2⟩ := fillA_sound ev dv ps _ cs' _ hput (fun q hq => hp q (List.mem_cons_of_mem _ hq)) hf
        refine ⟨r, ?_, r2⟩
        simp only [List.map_cons]
        unfold Instr.fill
        simp only []
        rw [if_neg (by simp; omega)]
        exact r1
      · cases hf
    · cases hf
theorem rule_build_arr {t m e sz : Nat} {parts : Array (Nat × Operand)} {z cs : List D} (env : Nat → D) (ho : o.op = .build t parts) (ht : tyK P t = .arr m e) (hs : tySz P e = some sz) (hz : tyZero P t = some z)
    (hf : fillA sz z (parts.toList.map fun p => (p.1, evE env p.2)) = some cs) : ORule P o (parts.toList.map fun p => (p.2, evE env p.2)) [] (.agg cs) .none :=
  .stay fun ρ w Z a hp _ => by
    obtain ⟨zv, hzr, hzl⟩ := tyZero_run hz w
    have hrz : RelL ρ w Z z zv.cells.toList := by rw [← hzl]; exact relL_ofV1 _
    obtain ⟨r, r1, r2⟩ := fillA_sound (ρ := ρ) (w := w) (Z := Z) (sz := sz) a.eval (evE env) parts.toList _ cs zv.cells hrz (fun p hp' => hp (p.2, evE env p.2) (List.mem_map.2 ⟨p, hp', rfl⟩)) hf
    refine ⟨.agg r, ?_, Rel.mk_agg r2⟩
    have e : (parts.map fun (i, x) => (i, a.eval x)).toList = parts.toList.map fun p => (p.1, a.eval p.2) := by simp
    simp only [execOp, ho, Sem.run_bind, Instr.build, hzr, run_underlying (tyK_arr ht), tySz_run hs, Result.andThen_ok, e, r1, Sem.run_pure]
def scalars : List D → Option (List Value)
  | [] => some []
  | .c (.v x) :: l => match scalars l with | some r => some (x :: r) | none => none
  | _ => none
theorem scalars_map : ∀ {l : List D} {vs : List Value}, scalars l = some vs → l = vs.map D.v
  | [], vs, h => by simp [scalars] at h; subst h; rfl
  | d :: l, vs, h => by
    unfold scalars at h
    split at h
    · simp_all
    · rename_i x l' e
      cases e
      split at h
      · rename_i r hr; cases h; rw [scalars_map hr]; rfl
      · cases h
    · cases h
theorem rel_scalars {ρ : Env} {w : World} {Z : Nat → Prop} {l : List D} {vs us : List Value} (h : RelL ρ w Z l us) (hs : scalars l = some vs) : us = vs := by
  rw [scalars_map hs] at h
  have hlen := h.len
  simp only [List.length_map] at hlen
  refine List.ext_getElem hlen.symm (fun i h1 h2 => ?_)
  have := h.at_ i h1
  simp only [List.getD_eq_getElem?_getD, List.getElem?_map, List.getElem?_eq_getElem h2, Option.map_some, Option.getD_some, List.getElem?_eq_getElem h1] at this
  exact this.inv_v
def tyF (P : Program) (t : TypeId) : Option (List LK) := if aggOf P t = true ∧ P.eqGuardType P.depth t = false then flat P 4 t else none
def eqA (P : Program) (t : TypeId) (a b : List D) : Option Bool :=
  match tyF P t, scalars a, scalars b with
  | some l, some xs, some ys => eqC l xs ys
  | _, _, _ => none
theorem rule_eq_agg {x y : Operand} {t t' : TypeId} {a b : List D} {op : BinOp} {r : Bool} (ho : o.op = .binOp op t x y t') (hop : op = .eql ∨ op = .neq) (h : eqA P t a b = some r) :
    ORule P o [(x, .agg a), (y, .agg b)] [] (.bool (if op = .eql then r else !r)) .none :=
  .stay fun ρ w Z ac hp _ => by
    obtain ⟨us, hx, hrx⟩ := (hp (x, .agg a) (by simp)).inv_agg
    obtain ⟨vs, hy, hry⟩ := (hp (y, .agg b) (by simp)).inv_agg
    simp only at hx hy
    unfold eqA at h
    split at h
    · rename_i l xs ys hl hxs hys
      unfold tyF at hl
      split at hl
      · rename_i hg
        have e1 := rel_scalars hrx hxs
        have e2 := rel_scalars hry hys
        have heq := equalIn_flat (P := P) 9996 4 t l hl _ _ _ h w
        rw [hg.1] at heq
        simp only [mkV, if_true] at heq
        have hus : us = xs.toArray := by rw [← e1]
        have hvs : vs = ys.toArray := by rw [← e2]
        have heq' : (Op.equal t (.agg us) (.agg vs)).run P w = .ok r w := by rw [hus, hvs]; exact heq
        refine ⟨.bool (if op = .eql then r else !r), ?_, .c (.v _)⟩
        rcases hop with rfl | rfl
        · simp [execOp, ho, hx, hy, eqGuard, binOp, hg.2, heq', program, Sem.run]
        · simp [execOp, ho, hx, hy, eqGuard, binOp, hg.2, heq', program, Sem.run]
      · cases hl
    · cases h
theorem rule_buildSlice0 {t e sz : Nat} {parts : Array (Nat × Operand)} {f : Nat → List C} (ho : o.op = .buildSlice t 0 parts) (hp : parts.toList = []) (ht : tyK P t = .slice e) (hs : tySz P e = some sz) : ORule P o [] [] (.lit 0 f) .none := by
  intro K N ρ Z S a w Q K' hS hpre hrd hf hd hK
  have hp' : parts = #[] := by cases parts; simp_all
  subst hp'
  have hrun : (execOp a.eval o).run P w = .ok (.value (.slice (some ⟨w.heap.size, 0, none⟩) 0 0)) (w.alloc (.cells #[] e)) := by
    simp [execOp, ho, Instr.buildSlice, run_underlying (tyK_slice ht), tySz_run hs, Instr.fill, newRow]
    congr 2
    apply Array.ext'
    simp
  obtain ⟨hxt, hm⟩ := hS.mem.newZ (w' := w.alloc (.cells #[] e)) (x := .cells #[] e) rfl rfl rfl rfl
  unfold Oper.wp
  rw [hrun]
  exact hK ρ _ _ _ (hS.put hd hxt (.lit _ (.ro (some _) 0 sz (fun _ _ => undef) (by simp [maxLen]) (Nat.le_refl _) (fun i h => by omega) (fun h => by omega) (fun ad e i h => by omega) (fun i h => by omega))) (by rw [app_none]; exact hm) (fun n hn => (live_none _ _).2 (hS.live n hn))) hxt
theorem rule_append_lit {s x : Operand} {t e sz by_ nm m k : Nat} {z : List D} {g f : Nat → List C} {dx : D} (ho : o.op = .call { callee := .builtin .append, args := #[s, x], argTypes := #[t, t] })
    (ht : tyK P t = .slice e) (hs : tySz P e = some sz) (hb : tyBytes P e = some by_) (hz : tyZero P e = some z) (hzl : z.length = sz) (h0 : 0 < sz) (hdx : dx.coe = .ro m g) (hg : ∀ i, i < m → (g i).length = sz) (h1 : ∀ i, i < m → ((g i).map D.c).all D.one = true)
    (hf : ∀ i, i < k → (f i).length = sz) (hf1 : ∀ i, i < k → ((f i).map D.c).all D.one = true) (hroom : (k + m) * by_ ≤ 140737488355328) (hby : 0 < by_) (hm : 0 < m) :
    ORule P o [(s, .lit k f), (x, dx)] [] (.own nm 1) { new := [(nm, .row 1 e sz (rowsOf k f ++ rowsOf m g))] } := by
  intro K N ρ Z S a w Q K' hS hpre hrd hfr hd hK
  have hsv : Rel ρ w Z (.lit k f) (a.eval s) := by have := hS.ev s; rwa [hpre (s, .lit k f) (by simp)] at this
  have hxv : Rel ρ w Z (.ro m g) (a.eval x) := by
    have h2 := hS.ev x
    rw [hpre (x, dx) (by simp)] at h2
    have h3 := h2.coe
    rw [hdx] at h3
    exact h3
  have hn : ¬ ρ.live nm := fun hl => hfr nm _ (List.mem_cons_self) (hS.live nm hl)
  have hne : ∀ q, ρ.live q → q ≠ nm := fun q hl e => hn (e ▸ hl)
  generalize hvs : a.eval s = vs at hsv
  generalize hvx : a.eval x = vx at hxv
  cases hsv with
  | lit A hA0 =>
  cases hxv with
  | c hxc =>
    obtain ⟨A1, c1, olds, e1, _, _, hA1, hol, hoc, hor, ho1⟩ := src_ro (ρ := ρ) hA0 hf h0 hf1
    obtain ⟨A2, c2, news, e2, _, _, hA2, hnl, hnc, hnr, hn1⟩ := src_ro (ρ := ρ) hxc hg h0 h1
    cases e1
    subst e2
    obtain ⟨ad, rfl⟩ := hA2 hm
    obtain ⟨i, zv, hi, hzv, his, hib, hzs⟩ := info_of hs hb hz hzl
    have hlen63 : k + m ≤ maxLen := by
      have : k + m ≤ (k + m) * by_ := Nat.le_mul_of_pos_right _ hby
      simp only [maxLen]; omega
    have hrun : (Builtin.append_ #[t, t] o.type #[.slice A k k, .slice (some ad) m c2]).run P w =
      .ok (.slice (some ⟨w.heap.size, 0, none⟩) (k + m) (grownCap w (k + m) k e)) (w.drew.alloc (.cells (olds.toArray ++ news.toArray ++ Builtin.zeroCells zv.cells (grownCap w (k + m) k e - (k + m))) e)) := by
      have h63 : ((k + m : Nat) : Int) ≤ 9223372036854775807 := by simp only [maxLen] at hlen63; omega
      cases A with
      | some b => exact run_append_grow (P := P) w t o.type e i zv (tyK_slice ht) hi hzv b k k olds (by rw [his]; exact hol) (hoc b rfl) ad m c2 news (by rw [his]; exact hnl) (hnc ad rfl) (by omega) h63 (by rw [hib]; exact growslice_fits (by omega) hroom)
      | none =>
        have hk0 : k = 0 := by
          rcases Nat.eq_zero_or_pos k with h | h
          · exact h
          · obtain ⟨a', ha'⟩ := hA1 h; cases ha'
        subst hk0
        have hol' : olds = [] := List.eq_nil_of_length_eq_zero (by simpa using hol)
        subst hol'
        have := run_append_nil (P := P) w t o.type e i zv (tyK_slice ht) hi hzv ad m c2 news (by rw [his]; exact hnl) (hnc ad rfl) hm (by omega) (by rw [hib]; simp only [Nat.zero_add] at hroom; omega)
        simpa using this
    have hge := grownCap_ge w (k + m) k e
    have hcm : grownCap w (k + m) k e ≤ maxLen := grownCap_le_maxLen w (k + m) k e hlen63
    obtain ⟨ρ', e1', e2', e3', hl, hxt, hmm⟩ := hS.mem.new (w' := w.drew.alloc (.cells (olds.toArray ++ news.toArray ++ Builtin.zeroCells zv.cells (grownCap w (k + m) k e - (k + m))) e)) (nm := nm) hn
      (o := .row 1 e sz (rowsOf k f ++ rowsOf m g)) (x := .cells (olds.toArray ++ news.toArray ++ Builtin.zeroCells zv.cells (grownCap w (k + m) k e - (k + m))) e) (vl := .slice (some ⟨w.heap.size, 0, none⟩) (k + m) (grownCap w (k + m) k e)) (vr := 1) rfl rfl rfl rfl
      ⟨upd_same _ _ _, fun y hy => by
          rcases List.mem_append.1 hy with hy | hy
          · obtain ⟨i, hi', rfl⟩ := List.mem_map.1 hy
            simp at hi'
            simp [hf i hi']
          · obtain ⟨i, hi', rfl⟩ := List.mem_map.1 hy
            simp at hi'
            simp [hg i hi'],
        olds ++ news, by
          simp only [upd_same, List.length_append, rowsOf_len]
          refine ⟨by rw [List.length_append, hol, hnl, Nat.add_mul], .inr ⟨w.heap.size, _, _, rfl, Nat.zero_le _, heap_alloc_new w.drew _, hge, hcm, ?_, ?_⟩⟩
          · simp only [Array.size_append, List.size_toArray, size_zeroCells, hzs, hol, hnl, ← Nat.add_mul]
            congr 1
            omega
          · have hlen : (olds ++ news).length = (k + m) * sz := by rw [List.length_append, hol, hnl, Nat.add_mul]
            simp only [Array.toList_append, List.append_assoc]
            rw [← List.append_assoc, ← hlen]
            exact List.take_left, by
          rw [List.flatten_append]
          exact (hor.append hnr).mono (fun b hz => heap_alloc_old w.drew _ (hS.mem.Zlt b hz)) (fun _ h => h)
            ⟨fun n hl => .inl hl, fun n hl => upd_ne _ _ _ _ (hne n hl), fun n hl => by show ρ.ver n ≤ upd ρ.ver nm 1 n; rw [upd_ne _ _ _ _ (hne n hl)]; exact Nat.le_refl _, fun n hl _ => upd_ne _ _ _ _ (hne n hl)⟩⟩
      (fun b hb => by simp only [Ob.blk, upd_same, Value.ownBlock, Option.some.injEq] at hb; exact hb.symm)
    have hexec : (execOp a.eval o).run P w = .ok (.value (.slice (some ⟨w.heap.size, 0, none⟩) (k + m) (grownCap w (k + m) k e))) (w.drew.alloc (.cells (olds.toArray ++ news.toArray ++ Builtin.zeroCells zv.cells (grownCap w (k + m) k e - (k + m))) e)) := by
      simp only [execOp, ho, resolve, List.map_toArray, List.map_cons, List.map_nil, hvs, hvx, Sem.run_bind, Sem.run_pure, Result.andThen_ok, invoke, builtin, hrun]
    unfold Oper.wp
    rw [hexec]
    refine hK ρ' Z _ _ (hS.put hd hxt (.own _ _ _ ((hl nm).2 (.inr rfl)) (by omega) (fun _ => e2'.symm)) hmm (fun q hq => ?_)) hxt
    rcases (hl q).1 hq with h | h
    · exact .inl (hS.live q h)
    · exact .inr ⟨_, by subst h; exact List.mem_cons_self⟩
end
end Go.Sy

/-
  append, slice literals, struct values. Plain theorems.
-/
import Derived.Test.YtkjjihicaefmcaaDoorSyD
import Derived.Maps.AppendAt
import Derived.Great.FillDense
set_option linter.unusedVariables false
set_option linter.unusedSectionVars false
set_option linter.unusedSimpArgs false
namespace Go.Sy
open Go Go.RowKit
theorem flatten_get {α : Type} {sz : Nat} (h0 : 0 < sz) : ∀ (l : List (List α)), (∀ x ∈ l, x.length = sz) → ∀ k, l.flatten[k]? = (l[k / sz]?).bind (·[k % sz]?)
  | [], _, k => by simp
  | x :: l, h, k => by
    have hx := h x (by simp)
    rw [List.flatten_cons]
    rcases Nat.lt_or_ge k sz with hk | hk
    · rw [List.getElem?_append_left (by omega), Nat.div_eq_of_lt hk, Nat.mod_eq_of_lt hk]
      rfl
    · rw [List.getElem?_append_right (by omega), hx, flatten_get h0 l (fun y hy => h y (List.mem_cons_of_mem _ hy))]
      obtain ⟨m, rfl⟩ : ∃ m, k = sz + m := ⟨k - sz, by omega⟩
      simp only [Nat.add_sub_cancel_left]
      rw [Nat.add_div_left _ h0, Nat.add_mod_left]
      rfl
theorem flatten_len {α : Type} {sz : Nat} : ∀ (l : List (List α)), (∀ x ∈ l, x.length = sz) → l.flatten.length = l.length * sz
  | [], _ => by simp
  | x :: l, h => by
    rw [List.flatten_cons, List.length_append, flatten_len l (fun y hy => h y (List.mem_cons_of_mem _ hy)), h x (by simp), List.length_cons, Nat.add_mul]
    omega
def rowsOf (m : Nat) (g : Nat → List C) : List (List D) := (List.range m).map fun i => (g i).map D.c
theorem rowsOf_len (m : Nat) (g : Nat → List C) : (rowsOf m g).length = m := by simp [rowsOf]
theorem rowsOf_get {m : Nat} {g : Nat → List C} {i : Nat} (h : i < m) : (rowsOf m g)[i]? = some ((g i).map D.c) := by simp [rowsOf, h]
theorem src_ro {ρ : Env} {w : World} {Z : Nat → Prop} {m : Nat} {g : Nat → List C} {v : Value} {sz : Nat} (h : CRel w Z (.ro m g) v) (hsz : ∀ i, i < m → (g i).length = sz) (h0 : 0 < sz) (h1 : ∀ i, i < m → ((g i).map D.c).all D.one = true) :
    ∃ A c news, v = .slice A m c ∧ m ≤ c ∧ m ≤ maxLen ∧ (0 < m → ∃ a, A = some a) ∧ news.length = m * sz ∧ (∀ a, A = some a → ∀ k u, news[k]? = some u → w.cell? (a.add k) = some u) ∧ RelL ρ w Z (rowsOf m g).flatten news ∧ (∀ u ∈ news, u.oneCell' = true) := by
  cases h with
  | ro A c sz' us hn hnc hs hA hc hr =>
    have hrows : ∀ x ∈ rowsOf m g, x.length = sz := fun x hx => by
      obtain ⟨i, hi, rfl⟩ := List.mem_map.1 hx
      simp at hi
      simp [hsz i hi]
    have hrel : RelL ρ w Z (rowsOf m g).flatten ((List.range (m * sz)).map fun k => us (k / sz) (k % sz)) := by
      refine ⟨by rw [flatten_len _ hrows, rowsOf_len]; simp, fun k hk => ?_⟩
      simp at hk
      have hdiv : k / sz < m := by rw [Nat.div_lt_iff_lt_mul h0]; exact hk
      have hmod : k % sz < sz := Nat.mod_lt _ h0
      have hsz' : sz' = sz := by rw [← hsz _ hdiv]; exact (hs _ hdiv).symm
      subst hsz'
      have h2 := hr _ hdiv _ hmod
      rw [List.getD_eq_getElem?_getD, flatten_get h0 _ hrows, rowsOf_get hdiv]
      have hgl : k % sz' < (g (k / sz')).length := by rw [hsz _ hdiv]; exact hmod
      simp only [List.getD_eq_getElem?_getD, List.getElem?_eq_getElem hgl, Option.getD_some] at h2
      simp [hk, hgl]
      exact .c h2
    refine ⟨A, c, _, rfl, hnc, hn, fun hm => (by obtain ⟨ad, e, _⟩ := hA hm; exact ⟨ad, e⟩), by simp, fun a ha k u hu => ?_, hrel, hrel.one ?_⟩
    · simp only [List.getElem?_map, Option.map_eq_some_iff] at hu
      obtain ⟨k', hk', rfl⟩ := hu
      obtain ⟨hlt, rfl⟩ := List.getElem?_eq_some_iff.1 hk'
      simp only [List.length_range] at hlt
      simp only [List.getElem_range]
      have hdiv : k / sz < m := by rw [Nat.div_lt_iff_lt_mul h0]; exact hlt
      have hsz' : sz' = sz := by rw [← hsz _ hdiv]; exact (hs _ hdiv).symm
      subst hsz'
      obtain ⟨ad, e, hz, hsp⟩ := hA (Nat.lt_of_le_of_lt (Nat.zero_le _) hdiv)
      rw [ha] at e
      cases e
      have := hc a ha _ hdiv _ (Nat.mod_lt k h0)
      rw [Nat.div_add_mod' k sz'] at this
      rw [← this]
      congr 1
      unfold Addr.add
      split
      · rename_i e0
        rw [e0, ← hsp]
        rfl
      · rfl
    · rw [List.all_eq_true]
      intro d hd
      obtain ⟨x, hx, hdx⟩ := List.mem_flatten.1 hd
      obtain ⟨i, hi, rfl⟩ := List.mem_map.1 hx
      simp at hi
      exact List.all_eq_true.1 (h1 i hi) d hdx
section
variable {P : Program} {o : Oper}
theorem info_of {e sz by_ : Nat} {z : List D} (hs : tySz P e = some sz) (hb : tyBytes P e = some by_) (hz : tyZero P e = some z) (hzl : z.length = sz) : ∃ i zv, P.info? e = some i ∧ i.zero = some zv ∧ i.size = sz ∧ i.bytes = by_ ∧ zv.cells.size = sz := by
  unfold tySz at hs
  unfold tyBytes at hb
  unfold tyZero at hz
  obtain ⟨i, hi, h1⟩ := Option.map_eq_some_iff.1 hs
  rw [hi] at hb hz
  simp only [Option.map_some, Option.some.injEq, Option.bind_some, Option.map_eq_some_iff] at hb hz
  obtain ⟨zv, h2, h3⟩ := hz
  refine ⟨i, zv, hi, h2, h1, hb, ?_⟩
  rw [← hzl, ← h3]
  simp
theorem append_core {s x : Operand} {t e sz by_ n ver m : Nat} {z : List D} {l : List (List D)} {g : Nat → List C} (ho : o.op = .call { callee := .builtin .append, args := #[s, x], argTypes := #[t, t] })
    (ht : tyK P t = .slice e) (hs : tySz P e = some sz) (hb : tyBytes P e = some by_) (hz : tyZero P e = some z) (hzl : z.length = sz) (h0 : 0 < sz) (hg : ∀ i, i < m → (g i).length = sz) (h1 : ∀ i, i < m → ((g i).map D.c).all D.one = true) (hroom : (l.length + m) * by_ ≤ 140737488355328) (hby : 0 < by_)
    {K : Ctx} {N : Nat} {ρ : Env} {Z : Nat → Prop} {S : G} {a : Act} {w : World} {Q : Exit → Act → World → Prop} {K' : Act → World → Prop} (hS : Sat K N ρ Z S a w) (ho' : S.H n = some (.row ver e sz l)) (ev : a.eval s = ρ.val n) (hxv : Rel ρ w Z (.ro m g) (a.eval x)) (hd : ∀ t, o.dst = some t → t < N)
    (hK : ∀ ρ' Z' a' w', Sat K N ρ' Z' (S.fin o.dst (.own n (ver + 1)) { set := [(n, .row (ver + 1) e sz (l ++ rowsOf m g))] }) a' w' → Ext ρ Z w ρ' Z' w' → K' a' w') : o.wp P a w K' Q := by
  obtain ⟨hlive, hver, hrows, xs, hown, hrel⟩ := hS.mem.obj _ _ ho'
  cases hxv with
  | c hxc =>
    obtain ⟨A, c, news, e1, hmc, hmm, hA, hnl, hnc, hnr, hn1⟩ := src_ro (ρ := ρ) hxc hg h0 h1
    obtain ⟨i, zv, hi, hzv, his, hib, hzs⟩ := info_of hs hb hz hzl
    have hlen63 : l.length + m ≤ maxLen := by
      have : l.length + m ≤ (l.length + m) * by_ := Nat.le_mul_of_pos_right _ hby
      simp only [maxLen]; omega
    have hrun : ∃ v' w', (Builtin.append_ #[t, t] o.type #[ρ.val n, .slice A m c]).run P w = .ok v' w' ∧ w'.ownsRow 0 e sz v' (l.length + m) (xs ++ news) ∧ w.grownBy w' (ρ.val n).ownBlock ∧ (v'.ownBlock = (ρ.val n).ownBlock ∨ v'.ownBlock = some w.heap.size) := by
      rcases Nat.eq_zero_or_pos m with hm0 | hm0
      · subst hm0
        have hnews : news = [] := List.eq_nil_of_length_eq_zero (by simpa using hnl)
        subst hnews
        refine ⟨ρ.val n, w, ?_, by simpa using hown, ⟨rfl, rfl, rfl, Nat.le_refl _, fun _ _ _ => rfl⟩, .inl rfl⟩
        have hfc : (Builtin.firstCells sz 0 (.slice A 0 c)).run P w = .ok #[] w := by
          cases A <;> simp [Builtin.firstCells, loadCells, loadCellsFrom]
        rcases hown.2 with ⟨e0, h00⟩ | ⟨g', cap, cur, e0, _, _, hnc', _⟩
        · rw [e0]
          simp [Builtin.append_, run_underlying (tyK_slice ht), tySz_run hs, Builtin.lenOf, hfc]
        · rw [e0]
          simp [Builtin.append_, run_underlying (tyK_slice ht), tySz_run hs, Builtin.lenOf, hfc, hnc', storeCells]
      · obtain ⟨ad, rfl⟩ := hA hm0
        obtain ⟨v', w', r1, r2, r3, _, r5⟩ := run_append_own_at (P := P) w 0 t o.type e i zv sz by_ (tyK_slice ht) hi hzv his hib hzs h0 (ρ.val n) l.length xs hown ad m c news hnl (hnc ad rfl) hn1 hlen63 hroom (Nat.zero_le _)
        exact ⟨v', w', r1, r2, r3, r5⟩
    obtain ⟨v', w', r1, r2, r3, r4⟩ := hrun
    let ρ' : Env := { ρ with val := upd ρ.val n v', ver := upd ρ.ver n (ver + 1) }
    have hver' : ρ.ver n = ver := hver
    have hle : ρ.le ρ' := by
      refine ⟨fun _ h => h, fun _ _ => rfl, fun k _ => ?_, fun k _ he => ?_⟩
      · show ρ.ver k ≤ upd ρ.ver n (ver + 1) k
        by_cases ek : k = n
        · subst ek; rw [upd_same]; omega
        · rw [upd_ne _ _ _ _ ek]; exact Nat.le_refl _
      · have he' : upd ρ.ver n (ver + 1) k = ρ.ver k := he
        by_cases ek : k = n
        · subst ek; rw [upd_same] at he'; omega
        · exact upd_ne _ _ _ _ ek
    have hold : ∀ b, b < w.heap.size → (Ob.row ver e sz l).blk ρ n ≠ some b → w'.heap[b]? = w.heap[b]? := fun b hb hne => r3.block b hb (fun h => hne h.symm)
    have hZs : ∀ b, Z b → w'.heap[b]? = w.heap[b]? := fun b hz' => hold b (hS.mem.Zlt b hz') (fun h => (hS.mem.own _ _ b ho' h).1 hz')
    obtain ⟨hxt, hm⟩ := hS.mem.set (n := n) ho' (ρ' := ρ') (w' := w') (o' := .row (ver + 1) e sz (l ++ rowsOf m g)) hle (fun _ h => h)
      (fun k hk => ⟨upd_ne _ _ _ _ hk, upd_ne _ _ _ _ hk, rfl⟩) r3.os r3.tape r3.output r3.size hold
      ⟨upd_same _ _ _, fun y hy => by
          rcases List.mem_append.1 hy with hy | hy
          · exact hrows y hy
          · obtain ⟨i, hi', rfl⟩ := List.mem_map.1 hy
            simp at hi'
            simp [hg i hi'],
        xs ++ news, by
          have : ρ'.val n = v' := upd_same _ _ _
          rw [this, List.length_append, rowsOf_len]
          exact r2, by
          rw [List.flatten_append]
          exact (hrel.append hnr).mono hZs (fun _ h => h) hle⟩
      (fun b hb => by
        have hb' : v'.ownBlock = some b := by
          have : ρ'.val n = v' := upd_same _ _ _
          simpa [Ob.blk, this] using hb
        rcases r4 with r4 | r4
        · exact .inl (by simp only [Ob.blk]; rw [← r4]; exact hb')
        · rw [r4] at hb'
          cases hb'
          right
          refine ⟨Nat.le_refl _, ?_⟩
          exact (r2.lt _ r4).2)
    have hexec : (execOp a.eval o).run P w = .ok (.value v') w' := by
      have ev' : a.eval s = ρ.val n := ev
      have e1' : a.eval x = .slice A m c := e1
      simp only [execOp, ho, resolve, List.map_toArray, List.map_cons, List.map_nil, ev', e1', Sem.run_bind, Sem.run_pure, Result.andThen_ok, invoke, builtin, r1]
    unfold Oper.wp
    rw [hexec]
    refine hK ρ' Z _ _ (hS.put hd hxt ?_ hm (fun k hk => .inl (hS.live k hk))) hxt
    obtain ⟨A', l', c', hv'⟩ : ∃ A' l' c', v' = .slice A' l' c' := by
      rcases r2.2 with ⟨e0, _⟩ | ⟨g', cap, cur, e0, _⟩
      · exact ⟨_, _, _, e0⟩
      · exact ⟨_, _, _, e0⟩
    subst hv'
    refine .own A' l' c' hlive ?_ (fun _ => (upd_same _ _ _).symm)
    show ver + 1 ≤ upd ρ.ver n (ver + 1) n
    rw [upd_same]
    exact Nat.le_refl _
theorem rule_append_own {s x : Operand} {t e sz by_ n ver m : Nat} {z : List D} {l : List (List D)} {g : Nat → List C} {dx : D} (ho : o.op = .call { callee := .builtin .append, args := #[s, x], argTypes := #[t, t] })
    (ht : tyK P t = .slice e) (hs : tySz P e = some sz) (hb : tyBytes P e = some by_) (hz : tyZero P e = some z) (hzl : z.length = sz) (h0 : 0 < sz) (hdx : dx.coe = .ro m g) (hg : ∀ i, i < m → (g i).length = sz) (h1 : ∀ i, i < m → ((g i).map D.c).all D.one = true) (hroom : (l.length + m) * by_ ≤ 140737488355328) (hby : 0 < by_) :
    ORule P o [(s, .own n ver), (x, dx)] [(n, .row ver e sz l)] (.own n (ver + 1)) { set := [(n, .row (ver + 1) e sz (l ++ rowsOf m g))] } := by
  intro K N ρ Z S a w Q K' hS hpre hrd hf hd hK
  have hsv : Rel ρ w Z (.own n ver) (a.eval s) := by have := hS.ev s; rwa [hpre (s, .own n ver) (by simp)] at this
  have hxv : Rel ρ w Z (.ro m g) (a.eval x) := by
    have h2 := hS.ev x
    rw [hpre (x, dx) (by simp)] at h2
    have h3 := h2.coe
    rw [hdx] at h3
    exact h3
  have ho' := hrd (n, .row ver e sz l) (by simp)
  obtain ⟨_, hval⟩ := hsv.inv_own
  exact append_core ho ht hs hb hz hzl h0 hg h1 hroom hby hS ho' (hval (hS.mem.obj _ _ ho').2.1.symm) hxv hd hK
theorem rule_append_nil {s x : Operand} {t e sz by_ nm m : Nat} {z : List D} {g : Nat → List C} {dx : D} (ho : o.op = .call { callee := .builtin .append, args := #[s, x], argTypes := #[t, t] })
    (ht : tyK P t = .slice e) (hs : tySz P e = some sz) (hb : tyBytes P e = some by_) (hz : tyZero P e = some z) (hzl : z.length = sz) (h0 : 0 < sz) (hdx : dx.coe = .ro m g) (hg : ∀ i, i < m → (g i).length = sz) (h1 : ∀ i, i < m → ((g i).map D.c).all D.one = true) (hroom : m * by_ ≤ 140737488355328) (hby : 0 < by_) :
    ORule P o [(s, .v (.slice none 0 0)), (x, dx)] [] (.own nm 1) { new := [(nm, .row 1 e sz (rowsOf m g))] } := by
  intro K N ρ Z S a w Q K' hS hpre hrd hf hd hK
  have hsv : Rel ρ w Z (.v (.slice none 0 0)) (a.eval s) := by have := hS.ev s; rwa [hpre (s, .v (.slice none 0 0)) (by simp)] at this
  have hn : ¬ ρ.live nm := fun hl => hf nm _ (List.mem_cons_self) (hS.live nm hl)
  have hne : ∀ k, ρ.live k → k ≠ nm := fun k hl e => hn (e ▸ hl)
  let ρ1 : Env := { live := fun k => ρ.live k ∨ k = nm, blk := ρ.blk, val := upd ρ.val nm (.slice none 0 0), ver := upd ρ.ver nm 0 }
  have hle : ρ.le ρ1 := ⟨fun k hl => .inl hl, fun _ _ => rfl, fun k hl => by show ρ.ver k ≤ upd ρ.ver nm 0 k; rw [upd_ne _ _ _ _ (hne k hl)]; exact Nat.le_refl _, fun k hl _ => upd_ne _ _ _ _ (hne k hl)⟩
  have hx1 : Ext ρ Z w ρ1 Z w := ⟨hle, fun _ h => h, fun _ _ => rfl⟩
  have hm := hS.mem
  have hkeep : ∀ (k : Nat) (ob : Ob), S.H k = some ob → ob.blk ρ1 k = ob.blk ρ k := fun k ob hk => by
    have e2 : ρ1.val k = ρ.val k := upd_ne _ _ _ _ (hne k (hm.obj k ob hk).1)
    cases ob <;> simp [Ob.blk, ρ1] <;> simp [upd_ne _ _ _ _ (hne k (hm.obj k _ hk).1)]
  have hS1 : Sat K N ρ1 Z ⟨S.env, upd S.H nm (some (.row 0 e sz [])), fun k => S.live k ∨ k = nm⟩ a w := by
    refine ⟨hS.tmps, hS.defers, fun k => (hS.env k).mono (fun _ _ => rfl) (fun _ h => h) hle, ⟨hm.os, hm.tape, hm.output, hm.size, hm.Zmono, hm.Zlt, hm.same, fun k ob hk => ?_, fun k ob b hk hb' => ?_, fun k k' ob ob' b h1 h2 b1 b2 => ?_, ?_⟩, fun k hk => ?_⟩
    · by_cases e' : k = nm
      · subst e'
        have hk' : some (Ob.row 0 e sz []) = some ob := by have h9 : upd S.H k (some (.row 0 e sz [])) k = some ob := hk; rwa [upd_same] at h9
        cases hk'
        refine ⟨.inr rfl, upd_same _ _ _, by simp, [], ?_, .nil⟩
        have : ρ1.val k = .slice none 0 0 := upd_same _ _ _
        rw [this]
        exact World.ownsRow_nil w 0 e sz
      · have hk' : S.H k = some ob := by have h9 : upd S.H nm (some (.row 0 e sz [])) k = some ob := hk; rwa [upd_ne _ _ _ _ e'] at h9
        obtain ⟨o1, o2⟩ := hm.obj k ob hk'
        exact ⟨.inl o1, Ob.at_mono o2 (fun _ _ => rfl) (fun _ _ => rfl) (fun _ h => h) hle rfl (upd_ne _ _ _ _ e') (upd_ne _ _ _ _ e')⟩
    · by_cases e' : k = nm
      · subst e'
        have hk' : some (Ob.row 0 e sz []) = some ob := by have h9 : upd S.H k (some (.row 0 e sz [])) k = some ob := hk; rwa [upd_same] at h9
        cases hk'
        have : ρ1.val k = .slice none 0 0 := upd_same _ _ _
        simp [Ob.blk, this, Value.ownBlock] at hb'
      · have hk' : S.H k = some ob := by have h9 : upd S.H nm (some (.row 0 e sz [])) k = some ob := hk; rwa [upd_ne _ _ _ _ e'] at h9
        rw [hkeep k ob hk'] at hb'
        exact hm.own k ob b hk' hb'
    · have nob : ∀ (k : Nat) (ob : Ob) (b : Nat), k = nm → upd S.H nm (some (.row 0 e sz [])) k = some ob → ob.blk ρ1 k = some b → False := fun k ob b e' hk hb' => by
        subst e'
        rw [upd_same] at hk
        cases hk
        have : ρ1.val k = .slice none 0 0 := upd_same _ _ _
        simp [Ob.blk, this, Value.ownBlock] at hb'
      by_cases e1 : k = nm
      · exact (nob k ob b e1 h1 b1).elim
      · by_cases e2 : k' = nm
        · exact (nob k' ob' b e2 h2 b2).elim
        · have h1' : S.H k = some ob := by have h9 : upd S.H nm (some (.row 0 e sz [])) k = some ob := h1; rwa [upd_ne _ _ _ _ e1] at h9
          have h2' : S.H k' = some ob' := by have h9 : upd S.H nm (some (.row 0 e sz [])) k' = some ob' := h2; rwa [upd_ne _ _ _ _ e2] at h9
          rw [hkeep k ob h1'] at b1
          rw [hkeep k' ob' h2'] at b2
          exact hm.inj k k' ob ob' b h1' h2' b1 b2
    · obtain ⟨nx, hnx⟩ := hm.bd
      refine ⟨max nx (nm + 1), fun k hk => ?_⟩
      rcases hk with hk | hk
      · have := hnx k hk; omega
      · omega
    · rcases hk with hk | hk
      · exact .inl (hS.live k hk)
      · exact .inr hk
  have hxv : Rel ρ1 w Z (.ro m g) (a.eval x) := by
    have h2 := hS1.ev x
    have h5 : evE S.env x = dx := hpre (x, dx) (by simp)
    have h6 : Rel ρ1 w Z dx (a.eval x) := by rw [← h5]; exact h2
    have h3 := h6.coe
    rw [hdx] at h3
    exact h3
  refine append_core (l := []) (ver := 0) (n := nm) ho ht hs hb hz hzl h0 hg h1 (by simpa using hroom) hby hS1 (upd_same _ _ _) (by rw [hsv.inv_v]; exact (upd_same _ _ _).symm) hxv hd (fun ρ' Z' a' w' hS' hx' => hK ρ' Z' a' w' (hS'.congr rfl ?_ ?_) (hx1.trans hx'))
  · show upd S.H nm (some (.row 1 e sz (rowsOf m g))) = upd (upd S.H nm (some (.row 0 e sz []))) nm (some (.row (0 + 1) e sz ([] ++ rowsOf m g)))
    funext k
    simp only [upd]
    split <;> rfl
  · intro k hk
    rcases hk with (hk | hk) | ⟨ob, hk⟩
    · exact .inl hk
    · exact .inr ⟨_, by subst hk; exact List.mem_cons_self⟩
    · simp at hk
theorem HSat.newZ {K : Ctx} {ρ : Env} {Z : Nat → Prop} {H : Heap} {w w' : World} (h : HSat K ρ Z H w) {x : Obj} (hw : w'.heap = w.heap.push x) (hos : w'.os = w.os) (htp : w'.tape = w.tape) (hout : w'.output = w.output) :
    Ext ρ Z w ρ (fun b => Z b ∨ b = w.heap.size) w' ∧ HSat K ρ (fun b => Z b ∨ b = w.heap.size) H w' := by
  have hold : ∀ b, b < w.heap.size → w'.heap[b]? = w.heap[b]? := fun b hb' => by rw [hw, Array.getElem?_push, if_neg (Nat.ne_of_lt hb')]
  have hsz : w'.heap.size = w.heap.size + 1 := by rw [hw]; simp
  refine ⟨⟨.refl _, fun b hb => .inl hb, fun b hb => hold b (h.Zlt b hb)⟩, ⟨hos.trans h.os, htp.trans h.tape, hout.trans h.output, by have := h.size; omega, fun b hb => .inl (h.Zmono b hb), fun b hb => ?_, fun b hb => (hold b (h.Zlt b (h.Zmono b hb))).trans (h.same b hb), fun n o ho => ?_, fun n o b ho hb => ?_, h.inj, h.bd⟩⟩
  · rcases hb with hb | hb
    · have := h.Zlt b hb; omega
    · omega
  · obtain ⟨h1, h2⟩ := h.obj n o ho
    exact ⟨h1, Ob.at_mono h2 (fun b hb => hold b (h.own n o b ho hb).2) (fun b hb => hold b (h.Zlt b hb)) (fun b hb => .inl hb) (.refl _) rfl rfl rfl⟩
  · have := h.own n o b ho hb
    refine ⟨fun hz => ?_, by omega⟩
    rcases hz with hz | hz
    · exact this.1 hz
    · omega
theorem rule_buildSlice {t e sz len : Nat} {parts : Array (Nat × Operand)} {z : List D} {f : Nat → List C} (env : Nat → D) (ho : o.op = .buildSlice t len parts) (ht : tyK P t = .slice e) (hs : tySz P e = some sz) (hz : tyZero P e = some z)
    (h0 : 0 < sz) (hlen : 0 < len) (hsmall : len * sz ≤ 16777216) (hidx : parts.toList.map (·.1) = List.range len) (hf : ∀ i x, parts.toList[i]? = some (i, x) → (evE env x).coe.cells = some ((f i).map D.c)) (hfl : ∀ i, i < len → (f i).length = sz) :
    ORule P o (parts.toList.map fun p => (p.2, evE env p.2)) [] (.lit len f) .none := by
  intro K N ρ Z S a w Q K' hS hpre hrd hf' hd hK
  have hplen : parts.toList.length = len := by have := congrArg List.length hidx; simpa using this
  let vs : List Value := parts.toList.map fun p => a.eval p.2
  have hvl : vs.length = len := by simp [vs, ← hplen]
  -- each part
  have hpart : ∀ i, i < len → ∃ p, parts.toList[i]? = some p ∧ p.1 = i ∧ vs[i]? = some (a.eval p.2) ∧ RelL ρ w Z ((f i).map D.c) (a.eval p.2).cells.toList := by
    intro i hi
    have hp : parts.toList[i]? = some (parts.toList[i]'(by omega)) := List.getElem?_eq_getElem (by omega)
    have hi1 : (parts.toList[i]'(by omega)).1 = i := by
      have h1 : (parts.toList.map (·.1))[i]? = (List.range len)[i]? := by rw [hidx]
      rw [List.getElem?_map, hp, List.getElem?_range hi] at h1
      simpa using h1
    refine ⟨_, hp, hi1, by simp [vs, hp], ?_⟩
    have hc := hf i (parts.toList[i]'(by omega)).2 (by rw [hp]; congr 1; exact Prod.ext hi1 rfl)
    have hr := hS.ev (parts.toList[i]'(by omega)).2
    have h2 := hpre ((parts.toList[i]'(by omega)).2, evE env (parts.toList[i]'(by omega)).2) (List.mem_map.2 ⟨_, List.getElem_mem _, rfl⟩)
    rw [h2] at hr
    exact rel_cells hr.coe hc
  have hvs : ∀ v ∈ vs, v.cells.size = sz := fun v hv => by
    obtain ⟨i, hi, rfl⟩ := List.getElem_of_mem hv
    obtain ⟨p, _, _, h3, h4⟩ := hpart i (by omega)
    have : vs[i] = a.eval p.2 := by rw [List.getElem?_eq_getElem hi] at h3; exact Option.some.inj h3
    rw [this]
    have := h4.len
    simp [hfl i (by omega)] at this
    exact this.symm
  obtain ⟨it, zv, hit, hzv, his⟩ : ∃ it zv, P.info? e = some it ∧ it.zero = some zv ∧ it.size = sz := by
    unfold tySz at hs
    unfold tyZero at hz
    obtain ⟨i, hi, h1⟩ := Option.map_eq_some_iff.1 hs
    rw [hi] at hz
    simp only [Option.bind_some, Option.map_eq_some_iff] at hz
    obtain ⟨zv, h2, _⟩ := hz
    exact ⟨i, zv, hi, h2, h1⟩
  have hpe : (parts.map fun (i, x) => (i, a.eval x)).toList = (vs.zipIdx 0).map fun x => (x.2, x.1) := by
    apply List.ext_getElem?
    intro i
    rcases Nat.lt_or_ge i len with hi | hi
    · obtain ⟨p, h1, h2, h3, _⟩ := hpart i hi
      have h1' : parts[i]? = some p := by simpa using h1
      simp [h1', h3, List.getElem?_zipIdx, h2]
    · rw [List.getElem?_eq_none (by simp; have := hplen; simp at this; omega), List.getElem?_eq_none (by simp; omega)]
  have hfill := Great.fill_whole h0 vs ((Array.range (len * sz)).map (zv.cells[· % zv.cells.size]!)) hvs (by simp [hvl])
  have hrun := run_buildSlice (P := P) w t e len (parts.map fun (i, x) => (i, a.eval x)) (vs.flatMap fun v => v.cells.toList).toArray it zv (tyK_slice ht) hit hzv (by rw [his]; omega) (by rw [his]; have := Nat.mul_pos hlen h0; omega)
    (by rw [his, hpe]; exact hfill)
  have hexec : (execOp a.eval o).run P w = .ok (.value (.slice (some ⟨w.heap.size, 0, none⟩) len len)) (w.alloc (.cells (vs.flatMap fun v => v.cells.toList).toArray e)) := by
    simp only [execOp, ho, Sem.run_bind, hrun, Result.andThen_ok, Sem.run_pure]
  obtain ⟨hx, hm⟩ := hS.mem.newZ (w' := w.alloc (.cells (vs.flatMap fun v => v.cells.toList).toArray e)) rfl rfl rfl rfl
  unfold Oper.wp
  rw [hexec]
  refine hK ρ _ _ _ (hS.put hd hx (.lit _ ?_) hm (fun n hn => (live_none _ _).2 (hS.live n hn))) hx
  have hflat : ∀ k, (vs.flatMap fun v => v.cells.toList)[k]? = ((vs.map fun v => v.cells.toList)[k / sz]?).bind (·[k % sz]?) := fun k => by
    rw [List.flatMap_def]
    exact flatten_get h0 _ (fun x hx => by obtain ⟨v, hv, rfl⟩ := List.mem_map.1 hx; simp [hvs v hv]) k
  refine .ro (some ⟨w.heap.size, 0, none⟩) len sz (fun i j => ((vs.map fun v => v.cells.toList).getD i []).getD j undef) ?_ (Nat.le_refl _) hfl (fun _ => ⟨_, rfl, .inr rfl, rfl⟩) (fun ad had i hi j hj => ?_) (fun i hi j hj => ?_)
  · have : len ≤ len * sz := Nat.le_mul_of_pos_right _ h0
    simp only [maxLen]; omega
  · cases had
    obtain ⟨p, h1, h2, h3, h4⟩ := hpart i hi
    have hc : (w.alloc (.cells (vs.flatMap fun v => v.cells.toList).toArray e)).heap[w.heap.size]? = some (.cells (vs.flatMap fun v => v.cells.toList).toArray e (0, 0)) := by
      show (w.heap.push _)[w.heap.size]? = _
      simp
    have hl4 := h4.len
    simp [hfl i hi] at hl4
    rw [cell_of hc, Nat.zero_add]
    have hd1 : (i * sz + j) / sz = i := by rw [Nat.add_comm, Nat.add_mul_div_right _ _ h0, Nat.div_eq_of_lt hj]; omega
    have hd2 : (i * sz + j) % sz = j := by rw [Nat.add_comm, Nat.add_mul_mod_self_right, Nat.mod_eq_of_lt hj]
    have hjc : j < (a.eval p.2).cells.size := by omega
    rw [List.getElem?_toArray, hflat, hd1, hd2]
    simp [List.getD_eq_getElem?_getD, List.getElem?_map, h3, hjc]
  · obtain ⟨p, h1, h2, h3, h4⟩ := hpart i hi
    have hl4 := h4.len
    simp [hfl i hi] at hl4
    have := h4.at_ j (by simp; omega)
    have hjf : j < (f i).length := by rw [hfl i hi]; exact hj
    have hjc : j < (a.eval p.2).cells.size := by omega
    simp [List.getD_eq_getElem?_getD, List.getElem?_map, hjf, hjc] at this
    simp [List.getD_eq_getElem?_getD, List.getElem?_map, h3, hjc, hjf]
    cases this with
    | c h => exact h.mono hx.same hx.mono
def plc (P : Program) : List (Nat × TypeId) → Option (List (Nat × Nat))
  | [] => some []
  | (o, t) :: l => match tySz P t, plc P l with | some s, some r => some ((o, s) :: r) | _, _ => none
def fillD (pl : List (Nat × Nat)) : List D → List (Nat × D) → Option (List D)
  | cs, [] => some cs
  | cs, (i, d) :: rest =>
    match pl[i]?, d.cells with
    | some (off, sz), some l => if l.length = sz ∧ off + sz ≤ cs.length then fillD pl (putD cs off l) rest else none
    | _, _ => none
theorem plc_mapM : ∀ (fs : List Field) (r : List (Nat × Nat)), plc P (fs.map fun f => (f.offset, f.type)) = some r → fs.mapM (fun f => (P.info? f.type).map fun i => (f.offset, i.size)) = some r
  | [], r, h => by simp [plc] at h; subst h; simp
  | f :: fs, r, h => by
    simp only [List.map_cons, plc] at h
    split at h
    · rename_i s r' h1 h2
      simp only [Option.some.injEq] at h
      subst h
      have ih := plc_mapM fs r' h2
      unfold tySz at h1
      obtain ⟨i, hi, hs⟩ := Option.map_eq_some_iff.1 h1
      subst hs
      simp [List.mapM_cons, hi, ih]
    · cases h
theorem fold_put {off : Nat} {v : Value} {cur : Array Value} (h : off + v.cells.size ≤ cur.size) :
    (v.cells.zipIdx.foldl (fun cs (c, j) => cs.setIfInBounds (off + j) c) cur).toList = cur.toList.take off ++ v.cells.toList ++ cur.toList.drop (off + v.cells.toList.length) := by
  have e : v.cells.zipIdx.foldl (fun cs (c, j) => cs.setIfInBounds (off + j) c) cur = (v.cells.toList.zipIdx 0).foldl (fun cs (x : Value × Nat) => cs.setIfInBounds (off + x.2) x.1) cur := by
    rw [← Array.foldl_toList]
    simp
  rw [e]
  obtain ⟨h1, h2⟩ := Great.foldl_set off v.cells.toList 0 cur
  apply List.ext_getElem?
  intro k
  have := h2 k
  rw [Array.getElem?_toList, this]
  simp only [Array.length_toList, Nat.add_zero]
  by_cases hk1 : k < off
  · rw [if_neg (by omega), List.append_assoc, List.getElem?_append_left (by simp; omega), List.getElem?_take, if_pos hk1]
    simp
  · by_cases hk2 : k < off + v.cells.size
    · rw [if_pos ⟨by omega, by omega, by omega⟩, List.append_assoc, List.getElem?_append_right (by simp; omega), List.getElem?_append_left (by simp; omega)]
      congr 1
      simp
      omega
    · rw [if_neg (by omega), List.getElem?_append_right (by simp; omega), List.getElem?_drop]
      have e2 : off + v.cells.size + (k - (cur.toList.take off ++ v.cells.toList).length) = k := by
        simp
        omega
      rw [e2]
      simp
theorem fillD_sound {ρ : Env} {w : World} {Z : Nat → Prop} {pl : List (Nat × Nat)} (ev : Operand → Value) (dv : Operand → D) : ∀ (ps : List (Nat × Operand)) (cs cs' : List D) (cur : Array Value), RelL ρ w Z cs cur.toList →
    (∀ p ∈ ps, Rel ρ w Z (dv p.2) (ev p.2)) → fillD pl cs (ps.map fun p => (p.1, dv p.2)) = some cs' →
    ∃ r : Array Value, Instr.fill (pl.toArray[·]?) cur (ps.map fun p => (p.1, ev p.2)) = some r ∧ RelL ρ w Z cs' r.toList
  | [], cs, cs', cur, h, _, hf => by
    simp [fillD] at hf
    subst hf
    exact ⟨cur, rfl, h⟩
  | p :: ps, cs, cs', cur, h, hp, hf => by
    simp only [List.map_cons, fillD] at hf
    split at hf
    · rename_i off sz l hpl hc
      split at hf
      · rename_i hle
        obtain ⟨h1, h2⟩ := hle
        have hcl := rel_cells (hp p (by simp)) hc
        have hlen := hcl.len
        have hcs := h.len
        simp only [Array.length_toList] at hlen hcs
        have hput := h.put hcl off
        rw [← fold_put (off := off) (v := ev p.2) (cur := cur) (by omega)] at hput
        obtain ⟨r, r1, r2⟩ := fillD_sound ev dv ps _ cs' _ hput (fun q hq => hp q (List.mem_cons_of_mem _ hq)) hf
        refine ⟨r, ?_, r2⟩
        simp only [List.map_cons]
        unfold Instr.fill
        have hpl' : pl.toArray[p.1]? = some (off, sz) := by simpa using hpl
        simp only [hpl']
        rw [if_neg (by simp; omega)]
        exact r1
      · cases hf
    · cases hf
theorem rule_build {t : TypeId} {parts : Array (Nat × Operand)} {fs : List (Nat × TypeId)} {pl : List (Nat × Nat)} {z cs : List D} (env : Nat → D) (ho : o.op = .build t parts) (ht : tyK P t = .struct fs) (hpl : plc P fs = some pl) (hz : tyZero P t = some z)
    (hf : fillD pl z (parts.toList.map fun p => (p.1, evE env p.2)) = some cs) : ORule P o (parts.toList.map fun p => (p.2, evE env p.2)) [] (.agg cs) .none :=
  .stay fun ρ w Z a hp _ => by
    obtain ⟨fl, hu, rfl⟩ := tyK_struct ht
    have hpl' := plc_mapM _ _ hpl
    unfold tyZero at hz
    cases hi : P.info? t with
    | none => simp [hi] at hz
    | some it =>
      rw [hi] at hz
      simp only [Option.bind_some, Option.map_eq_some_iff] at hz
      obtain ⟨zv, hzv, rfl⟩ := hz
      have hzr : RelL ρ w Z (zv.cells.toList.map D.v) zv.cells.toList := relL_ofV1 _
      obtain ⟨r, r1, r2⟩ := fillD_sound (ρ := ρ) (w := w) (Z := Z) (pl := pl) a.eval (evE env) parts.toList _ cs zv.cells hzr (fun p hp' => hp (p.2, evE env p.2) (List.mem_map.2 ⟨p, hp', rfl⟩)) hf
      have hb : P.built t (parts.map fun (i, x) => (i, a.eval x)).toList = some r := by
        unfold Program.built
        rw [hi, hu]
        simp only [hzv, hpl']
        rw [← r1]
        congr 1
        simp
      refine ⟨.agg r, ?_, Rel.mk_agg r2⟩
      simp only [execOp, ho, Sem.run_bind, run_build w t _ r hb, Result.andThen_ok, Sem.run_pure]
theorem rule_slice_ro {x : Operand} {lo hi : Option Operand} {t e n sz : Nat} {f : Nat → List C} {dx : D} {l h : Nat} (ho : o.op = .slice t x lo hi none) (ht : tyK P t = .slice e) (hs : tySz P e = some sz) (hdx : dx.coe = .ro n f)
    (pre : List (Operand × D)) (hpre : pre = (x, dx) :: ((lo.toList.map fun q => (q, D.int l)) ++ (hi.toList.map fun q => (q, D.int h)))) (hl0 : lo = none → l = 0) (hh0 : hi = none → h = n) (hlh : l ≤ h) (hhn : h ≤ n) (hfs : ∀ i, i < n → (f i).length = sz) :
    ORule P o pre [] (.ro (h - l) fun i => f (l + i)) .none := by
  subst hpre
  refine .stay fun ρ w Z a hp _ => ?_
  have hx : Rel ρ w Z (.ro n f) (a.eval x) := by
    have h2 := (hp (x, dx) (by simp)).coe
    simp only at h2
    rw [hdx] at h2
    exact h2
  have hlo : ∀ q, lo = some q → a.eval q = .int .i64 l := fun q hq => (hp (q, D.int l) (by simp [hq])).inv_v
  have hhi : ∀ q, hi = some q → a.eval q = .int .i64 h := fun q hq => (hp (q, D.int h) (by simp [hq])).inv_v
  generalize hv : a.eval x = v at hx
  cases hx with
  | c hx =>
    cases hx with
    | ro A c sz' us hn hnc hsz hA hc hr =>
      have hu := tyK_slice ht
      have hbounds : (Instr.sliceBounds true n c (lo.map a.eval) (hi.map a.eval) none).run P w = .ok (l, h, c) w := by
        have hb1 : ∀ q, lo = some q → (Instr.sliceBound (a.eval q) h .sliceB).run P w = .ok l w := fun q hq => by
          rw [hlo q hq]
          have : (0 : Int) ≤ l ∧ (l : Int) ≤ h := ⟨by omega, by omega⟩
          simp [Instr.sliceBound, asIntOf, hlh]
        have hb2 : ∀ q, hi = some q → (Instr.sliceBound (a.eval q) c .sliceAcap).run P w = .ok h w := fun q hq => by
          rw [hhi q hq]
          have h3 : h ≤ c := by omega
          simp [Instr.sliceBound, asIntOf, h3]
        cases hlq : lo with
        | none =>
          have := hl0 hlq
          subst this
          cases hhq : hi with
          | none => have := hh0 hhq; subst this; simp [Instr.sliceBounds]
          | some q => simp [Instr.sliceBounds, hb2 q hhq]
        | some ql =>
          cases hhq : hi with
          | none => have := hh0 hhq; subst this; simp [Instr.sliceBounds, hb1 ql hlq]
          | some q => simp [Instr.sliceBounds, hb2 q hhq, hb1 ql hlq]
      refine ⟨.slice (if c = l then A else A.map (·.add (l * sz))) (h - l) (c - l), ?_, .c ?_⟩
      · simp only [execOp, ho, hv, Option.map_none, Instr.sliceAt, Instr.slice, Sem.run_bind, run_underlying hu, Result.andThen_ok, hbounds, tySz_run hs, Sem.run_pure]
      · refine .ro _ (c - l) sz (fun i j => us (l + i) j) (by omega) (by omega) (fun i hi' => hfs _ (by omega)) (fun h0 => ?_) (fun ad had i hi' j hj => ?_) (fun i hi' j hj => ?_)
        · obtain ⟨ad, e, hz, hsp⟩ := hA (by omega)
          subst e
          have hne : ¬ c = l := by omega
          rw [if_neg hne]
          refine ⟨_, rfl, ?_, ?_⟩
          · unfold Addr.add; split <;> exact hz
          · unfold Addr.add; split
            · exact hsp
            · rfl
        · obtain ⟨ad', e, hz, hsp⟩ := hA (by omega)
          subst e
          have hne : ¬ c = l := by omega
          rw [if_neg hne] at had
          simp only [Option.map_some, Option.some.injEq] at had
          have hsz' : sz' = sz := by rw [← hfs (l + i) (by omega)]; exact (hsz _ (by omega)).symm
          subst hsz'
          have hc' := hc ad' rfl (l + i) (by omega) j hj
          rw [← hc', ← had]
          congr 1
          unfold Addr.add
          split
          · rename_i e0
            rw [Nat.add_mul, e0, Nat.zero_add]
          · simp only [Addr.mk.injEq, true_and, and_true]
            rw [Nat.add_mul]; omega
        · have hsz' : sz' = sz := by rw [← hfs (l + i) (by omega)]; exact (hsz _ (by omega)).symm
          subst hsz'
          exact hr _ (by omega) _ hj
end
end Go.Sy

/-
  Elements of arrays and fields of structs that are values; slices made of so many zeros; copies into a row. Plain theorems.
-/
import Derived.Test.YtkjjihicaefmcaaDoorSyO
import Derived.Laws.OwnMore
import Derived.Laws.MakeOwn
import Derived.Laws.CopyRow
set_option linter.unusedVariables false
set_option linter.unusedSimpArgs false
set_option linter.unusedSectionVars false
namespace Go.Sy
open Go Go.RowKit
variable {P : Program} {o : Oper}
theorem run_part {ρ : Env} {w : World} {Z : Nat → Prop} {l : List D} {vs : Array Value} {t sz off : Nat} {d : D} (hrel : RelL ρ w Z l vs.toList) (hs : tySz P t = some sz) (hd : loadD (tyK P t) sz l off = some d) :
    ∃ v, (part t vs off).run P w = .ok v w ∧ Rel ρ w Z d v := by
  have hlen := hrel.len
  simp only [Array.length_toList] at hlen
  unfold loadD at hd
  split at hd
  · rename_i hk
    split at hd
    · rename_i hle
      cases hd
      refine ⟨.agg (vs.extract off (off + sz)), by simp [part, tyK_isAgg hk, tySz_run hs], Rel.mk_agg ⟨by simp; omega, fun i hi => ?_⟩⟩
      simp only [Array.length_toList, Array.size_extract] at hi
      have := hrel.at_ (off + i) (by simp; omega)
      have e1 : (List.take sz (List.drop off l)).getD i default = l.getD (off + i) default := by
        have : i < sz := by omega
        simp [List.getD_eq_getElem?_getD, this]
      have h3 : off + i < vs.size := by omega
      have e2 : (vs.extract off (off + sz)).toList.getD i undef = vs.toList.getD (off + i) undef := by
        simp only [List.getD_eq_getElem?_getD, Array.getElem?_toList]
        rw [Array.getElem?_extract]
        rw [if_pos (by omega)]
      rw [e1, e2]
      exact this
    · cases hd
  · rename_i hk
    split at hd
    · rename_i hle
      cases hd
      have h3 : off < vs.size := by omega
      refine ⟨vs[off], by simp [part, tyK_isAgg hk, h3], ?_⟩
      have := hrel.at_ off (by simp; omega)
      simpa [List.getD_eq_getElem?_getD, h3] using this
    · cases hd
  · cases hd
theorem rule_index {x y : Operand} {t e m sz : Nat} {kd : IntKind} {i : Int} {l : List D} {d : D} (ho : o.op = .index t x y) (h : tyK P t = .arr m e) (hs : tySz P e = some sz) (h0 : 0 ≤ i) (h1 : i < m) (hd : loadD (tyK P e) sz l (i.toNat * sz) = some d) :
    ORule P o [(x, .agg l), (y, .v (.int kd i))] [] d .none :=
  .stay fun ρ w Z a hp _ => by
    obtain ⟨vs, hv, hrel⟩ := (hp (x, .agg l) (by simp)).inv_agg
    have hy := (hp (y, .v (.int kd i)) (by simp)).inv_v
    simp only at hv hy
    obtain ⟨v, r1, r2⟩ := run_part (P := P) hrel hs hd
    refine ⟨v, ?_, r2⟩
    simp [execOp, ho, hv, hy, Instr.index, asIntOf, run_underlying (tyK_arr h), h0, h1, tySz_run hs, r1]
theorem rule_field {x : Operand} {t f fo sz : Nat} {fs : List (Nat × TypeId)} {ft : TypeId} {l : List D} {d : D} (ho : o.op = .field t x f) (h : tyK P t = .struct fs) (hf : fs[f]? = some (fo, ft)) (hs : tySz P ft = some sz) (hd : loadD (tyK P ft) sz l fo = some d) :
    ORule P o [(x, .agg l)] [] d .none :=
  .stay fun ρ w Z a hp _ => by
    obtain ⟨vs, hv, hrel⟩ := (hp (x, .agg l) (by simp)).inv_agg
    simp only at hv
    obtain ⟨fl, fd, hu, hfd, rfl, rfl⟩ := TK_struct_field h hf
    obtain ⟨v, r1, r2⟩ := run_part (P := P) hrel hs hd
    refine ⟨v, ?_, r2⟩
    simp [execOp, ho, hv, Instr.field, run_underlying hu, hfd, asAgg, r1]
theorem rule_makeSlice {x y : Operand} {t e sz by_ nm n : Nat} {z : List D} (ho : o.op = .makeSlice t x y)
    (ht : tyK P t = .slice e) (hs : tySz P e = some sz) (hb : tyBytes P e = some by_) (hz : tyZero P e = some z) (hzl : z.length = sz) (h0 : 0 < sz) (hroom : n * by_ ≤ 140737488355328) (hby : 0 < by_) :
    ORule P o [(x, .int n), (y, .int n)] [] (.own nm 0) { new := [(nm, .row 0 e sz (List.replicate n z))] } := by
  intro K N ρ Z S a w Q K' hS hpre _ hf hd hK
  have hx : a.eval x = .int .i64 n := by have := hS.ev x; rw [hpre (x, .int n) (by simp)] at this; exact this.inv_v
  have hy : a.eval y = .int .i64 n := by have := hS.ev y; rw [hpre (y, .int n) (by simp)] at this; exact this.inv_v
  have hn : ¬ ρ.live nm := fun hl => hf nm _ (List.mem_cons_self) (hS.live nm hl)
  obtain ⟨i, hi, his⟩ : ∃ i, P.info? e = some i ∧ i.size = sz := by
    unfold tySz at hs
    obtain ⟨i, h1, h2⟩ := Option.map_eq_some_iff.1 hs
    exact ⟨i, h1, h2⟩
  have hib : i.bytes = by_ := by
    unfold tyBytes at hb
    rw [hi] at hb
    simpa using hb
  obtain ⟨zv, hzv, hzc⟩ : ∃ zv, i.zero = some zv ∧ zv.cells.toList.map D.v = z := by
    unfold tyZero at hz
    rw [hi] at hz
    simp only [Option.bind_some] at hz
    obtain ⟨zv, h1, h2⟩ := Option.map_eq_some_iff.1 hz
    exact ⟨zv, h1, h2⟩
  have hzs : zv.cells.size = sz := by rw [← hzl, ← hzc]; simp
  have hn63 : n ≤ maxLen := by
    have : n ≤ n * by_ := Nat.le_mul_of_pos_right _ hby
    simp only [maxLen]; omega
  have hmk := run_make (P := P) (w := w) t e i zv (tyK_slice ht) hi hzv .i64 .i64 n n (by omega) (Int.le_refl _) (by rw [hib, Int.mul_comm]; omega) (by simp only [maxLen] at hn63; omega)
  simp only [Int.toNat_natCast, his] at hmk
  have hml : (madeCells zv.cells (n * sz)).size = n * sz := size_madeCells _ _
  have hrows : ∀ r ∈ List.replicate n z, r.length = sz := fun r hr => by rw [(List.mem_replicate.1 hr).2]; exact hzl
  have hflat : ∀ (ρ : Env) (w : World) (Z : Nat → Prop), RelL ρ w Z (List.replicate n z).flatten (madeCells zv.cells (n * sz)).toList := by
    intro ρ w Z
    refine ⟨by rw [flatten_len _ hrows]; simp [hml], fun k hk => ?_⟩
    simp only [Array.length_toList, hml] at hk
    have hdiv : k / sz < n := by rw [Nat.div_lt_iff_lt_mul h0]; exact hk
    have hmod : k % sz < sz := Nat.mod_lt _ h0
    have h2 : zv.cells.size ≠ 0 := by omega
    have e1 : (List.replicate n z).flatten.getD k default = D.v (zv.cells.getD (k % sz) undef) := by
      rw [List.getD_eq_getElem?_getD, flatten_get h0 _ hrows, List.getElem?_replicate, if_pos hdiv]
      have h3 : k % sz < zv.cells.size := by omega
      simp only [Option.bind_some, ← hzc, List.getElem?_map, Array.getElem?_toList, Array.getElem?_eq_getElem h3, Option.map_some, Option.getD_some, Array.getD_eq_getD_getElem?]
    have e2 : (madeCells zv.cells (n * sz)).toList.getD k undef = zv.cells.getD (k % sz) undef := by
      have h3 : k % sz < zv.cells.size := by omega
      simp [List.getD_eq_getElem?_getD, madeCells, hk, hzs, Array.getD_eq_getD_getElem?, h3, hmod]
    rw [e1, e2]
    exact .c (.v _)
  obtain ⟨ρ', e1, e2, e3, hl, hxt, hm⟩ := hS.mem.new (w' := w.alloc (.cells (madeCells zv.cells (n * sz)) e)) (nm := nm) hn (o := .row 0 e sz (List.replicate n z)) (x := .cells (madeCells zv.cells (n * sz)) e (0, 0)) (vl := .slice (some ⟨w.heap.size, 0, none⟩) n n) (vr := 0) rfl rfl rfl rfl
    ⟨upd_same _ _ _, hrows, (madeCells zv.cells (n * sz)).toList, by
      simp only [upd_same, List.length_replicate]
      refine ⟨by simp [hml], .inr ⟨w.heap.size, n, madeCells zv.cells (n * sz), rfl, Nat.zero_le _, ?_, Nat.le_refl _, hn63, hml, ?_⟩⟩
      · show (w.heap.push _)[w.heap.size]? = _
        simp
      · rw [List.take_of_length_le (by simp [hml])], hflat _ _ _⟩
    (fun b hb => by simp only [Ob.blk, upd_same, Value.ownBlock, Option.some.injEq] at hb; exact hb.symm)
  have hrun : (execOp a.eval o).run P w = .ok (.value (.slice (some ⟨w.heap.size, 0, none⟩) n n)) (w.alloc (.cells (madeCells zv.cells (n * sz)) e)) := by simp [execOp, ho, hx, hy, hmk]
  unfold Oper.wp
  rw [hrun]
  refine hK ρ' Z _ _ (hS.put hd hxt (.own _ _ _ ((hl nm).2 (.inr rfl)) (Nat.zero_le _) (fun _ => e2.symm)) hm (fun k hk => ?_)) hxt
  rcases (hl k).1 hk with h | h
  · exact .inl (hS.live k h)
  · exact .inr ⟨_, by subst h; exact List.mem_cons_self⟩
theorem rule_copy {x y : Operand} {t t' e sz n ver m : Nat} {l : List (List D)} {g : Nat → List C} {dx : D} (ho : o.op = .call { callee := .builtin .copy, args := #[x, y], argTypes := #[t, t'] })
    (ht : tyK P t = .slice e) (hs : tySz P e = some sz) (h0 : 0 < sz) (hdx : dx.coe = .ro m g) (hg : ∀ i, i < m → (g i).length = sz) (h1 : ∀ i, i < m → ((g i).map D.c).all D.one = true) (hlm : l.length = m) :
    ORule P o [(x, .own n ver), (y, dx)] [(n, .row ver e sz l)] (.int m) { set := [(n, .row ver e sz (rowsOf m g))] } := by
  intro K N ρ Z S a w Q K' hS hpre hrd hf hd hK
  have hsv : Rel ρ w Z (.own n ver) (a.eval x) := by have := hS.ev x; rwa [hpre (x, .own n ver) (by simp)] at this
  have hxv : Rel ρ w Z (.ro m g) (a.eval y) := by
    have h2 := hS.ev y
    rw [hpre (y, dx) (by simp)] at h2
    have h3 := h2.coe
    rw [hdx] at h3
    exact h3
  have ho' := hrd (n, .row ver e sz l) (by simp)
  simp only at ho'
  obtain ⟨_, hval⟩ := hsv.inv_own
  obtain ⟨hlive, hver, hrows, xs, hown, hrel⟩ := hS.mem.obj _ _ ho'
  have hv := hval hver.symm
  cases hxv with
  | c hxc =>
    obtain ⟨A, c, news, e1, hmc, hmm, hA, hnl, hnc, hnr, hn1⟩ := src_ro (ρ := ρ) hxc hg h0 h1
    have hrows' : ∀ r ∈ rowsOf m g, r.length = sz := fun r hr => by
      obtain ⟨i, hi, rfl⟩ := List.mem_map.1 hr
      simp at hi
      simp [hg i hi]
    rcases hown.2 with ⟨e0, h00⟩ | ⟨gb, cap, cur, e0, _, hgb, hncap, hcm, hcs, htake⟩
    · have hm0 : m = 0 := by omega
      subst hm0
      have hfc : (Builtin.firstCells sz 0 (.slice A 0 c)).run P w = .ok #[] w := by
        cases A <;> simp [Builtin.firstCells, loadCells, loadCellsFrom]
      have hrun : (execOp a.eval o).run P w = .ok (.value (.int .i64 0)) w := by
        simp [execOp, ho, resolve, invoke, builtin, hv, e0, e1, Builtin.copy_, run_underlying (tyK_slice ht), Builtin.lenOf, tySz_run hs, hfc, goInt]
      have hl0 : l = [] := List.eq_nil_of_length_eq_zero hlm
      subst hl0
      unfold Oper.wp
      rw [hrun]
      have e9 : upd S.H n (some (.row ver e sz [])) = S.H := by funext k; unfold upd; split <;> simp_all
      refine hK ρ Z _ _ ((hS.put hd (.refl _ _ _) (.c (.v _)) (e := .none) (by rw [app_none]; exact hS.mem) (fun k hk => (live_none _ _).2 (hS.live k hk))).congr ?_ ?_ ?_) (.refl _ _ _)
      · rfl
      · show upd S.H n (some (.row ver e sz (rowsOf 0 g))) = S.H
        exact e9
      · intro k hk; exact .inl ((live_none _ _).1 hk)
    · have hlc : l.length * sz ≤ cap * sz := Nat.mul_le_mul_right _ hncap
      have hsrc : (Builtin.firstCells sz m (.slice A m c)).run P w = .ok news.toArray w := by
        rcases Nat.eq_zero_or_pos m with hm0 | hm0
        · subst hm0
          have : news = [] := List.eq_nil_of_length_eq_zero (by simpa using hnl)
          subst this
          cases A <;> simp [Builtin.firstCells, loadCells, loadCellsFrom]
        · obtain ⟨ad, rfl⟩ := hA hm0
          have := run_loadCells_list (P := P) (w := w) ad news (fun j v hj => hnc ad rfl j v hj)
          rw [hnl] at this
          simp [Builtin.firstCells, this]
      have hst := run_storeCells_at P gb 0 e news 0 cur w hgb (by rw [hnl, ← hlm]; omega) hn1
      have hrun : (execOp a.eval o).run P w = .ok (.value (.int .i64 m)) (w.setRow gb (cur.toList.take 0 ++ news ++ cur.toList.drop (0 + news.length)).toArray) := by
        simp only [Nat.zero_add] at hst
        simp [execOp, ho, resolve, invoke, builtin, hv, e0, e1, Builtin.copy_, run_underlying (tyK_slice ht), Builtin.lenOf, tySz_run hs, hlm, hsrc, hst, goInt]
      have hgz : ¬ Z gb := (hS.mem.own _ _ gb ho' (by simp only [Ob.blk, e0, Value.ownBlock])).1
      have hZs : ∀ b, Z b → (w.setRow gb (cur.toList.take 0 ++ news ++ cur.toList.drop (0 + news.length)).toArray).heap[b]? = w.heap[b]? := fun b hz => setRow_other w _ b _ (fun e => hgz (e ▸ hz))
      obtain ⟨hxt, hm⟩ := hS.mem.set (n := n) ho' (ρ' := ρ) (w' := w.setRow gb (cur.toList.take 0 ++ news ++ cur.toList.drop (0 + news.length)).toArray)
        (o' := .row ver e sz (rowsOf m g)) (.refl _) (fun _ h => h) (fun _ _ => ⟨rfl, rfl, rfl⟩) rfl rfl rfl (by simp [World.setRow])
        (fun b _ hne => setRow_other w _ b _ (fun e => hne (by simp only [Ob.blk, e0, Value.ownBlock, e])))
        ⟨hver, hrows', news, ⟨by rw [hnl, rowsOf_len], .inr ⟨gb, cap, _, by rw [rowsOf_len, ← hlm]; exact e0, Nat.zero_le _, setRow_heap w _ _ _ _ _ hgb, by rw [rowsOf_len, ← hlm]; exact hncap, hcm, by
            simp only [List.size_toArray, List.length_append, List.length_take, List.length_drop, Array.length_toList, hnl, ← hlm]; omega, by
            rw [rowsOf_len]
            simp [hnl]⟩⟩, hnr.mono hZs (fun _ h => h) (.refl _)⟩
        (fun b hb => .inl hb)
      unfold Oper.wp
      rw [hrun]
      exact hK ρ Z _ _ (hS.put hd hxt (.c (.v _)) hm (fun k hk => .inl (hS.live k hk))) hxt
end Go.Sy

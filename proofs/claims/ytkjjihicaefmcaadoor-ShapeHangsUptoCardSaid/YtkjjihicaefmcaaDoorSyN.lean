/-
  The operations on maps. Plain theorems.
-/
import Derived.Test.YtkjjihicaefmcaaDoorSyM
import Derived.Maps.RangeRun
set_option linter.unusedVariables false
set_option linter.unusedSectionVars false
set_option linter.unusedSimpArgs false
namespace Go.Sy
open Go Go.RowKit Go.MapKept
theorem HSat.setMap {K : Ctx} {ρ : Env} {Z : Nat → Prop} {H : Heap} {w : World} (h : HSat K ρ Z H w) {n ver ver' m : Nat} {ag : Bool} {es es' : List (List Int × D)} {ms ms' : Array MapEntry} {ck ck' : Nat}
    (ho : H n = some (.map ver ag m es)) (hh : w.heap[ρ.blk n]? = some (.map ms ck)) (hv0 : ver < ver') (hkeys : ms'.toList.map (·.key) = es'.map (fun x => kvs ag x.1)) (hlen : ∀ x ∈ es', x.1.length = m)
    (hrel : RelL ρ w Z (es'.map (·.2)) (ms'.toList.map (·.val))) (hb : ∀ e ∈ ms'.toList, e.born < ck') (hp : (ms'.toList.map (·.born)).Pairwise (· < ·)) :
    ∃ ρ' : Env, ρ'.val n = stampV ms' ck' ∧ ρ'.ver n = ver' ∧ (∀ k, ρ'.live k → ρ.live k) ∧ (∀ k, ρ.live k → ρ'.live k) ∧ Ext ρ Z w ρ' Z { w with heap := w.heap.setIfInBounds (ρ.blk n) (.map ms' ck') } ∧
      HSat K ρ' Z (upd H n (some (.map ver' ag m es'))) { w with heap := w.heap.setIfInBounds (ρ.blk n) (.map ms' ck') } := by
  obtain ⟨hlive, hver, _⟩ := h.obj _ _ ho
  let ρ' : Env := { ρ with val := upd ρ.val n (stampV ms' ck'), ver := upd ρ.ver n ver' }
  have hle : ρ.le ρ' := ⟨fun _ h => h, fun _ _ => rfl, fun k _ => by
      show ρ.ver k ≤ upd ρ.ver n ver' k
      by_cases e : k = n
      · subst e; rw [upd_same]; omega
      · rw [upd_ne _ _ _ _ e]; exact Nat.le_refl _, fun k _ e => by
      have e : upd ρ.ver n ver' k = ρ.ver k := e
      show upd ρ.val n _ k = ρ.val k
      by_cases e1 : k = n
      · subst e1; rw [upd_same] at e; omega
      · rw [upd_ne _ _ _ _ e1]⟩
  have hz : ∀ b, Z b → (w.heap.setIfInBounds (ρ.blk n) (.map ms' ck'))[b]? = w.heap[b]? := fun b hz => (heap_set hh).2 b (fun e => (h.own _ _ (ρ.blk n) ho rfl).1 (e ▸ hz))
  obtain ⟨hx, hm⟩ := h.set (n := n) ho (ρ' := ρ') (w' := { w with heap := w.heap.setIfInBounds (ρ.blk n) (.map ms' ck') }) (o' := .map ver' ag m es') hle (fun _ h => h)
    (fun k hk => ⟨upd_ne _ _ _ _ hk, upd_ne _ _ _ _ hk, rfl⟩) rfl rfl rfl (by simp) (fun b _ hne => (heap_set hh).2 b (fun e => hne (by rw [e]; rfl)))
    ⟨upd_same _ _ _, ms', ck', (heap_set hh).1, upd_same _ _ _, hkeys, hlen, hrel.mono hz (fun _ h => h) hle, hb, hp⟩ (fun b hb => .inl hb)
  exact ⟨ρ', upd_same _ _ _, upd_same _ _ _, fun _ h => h, fun _ h => h, hx, hm⟩
section
variable {P : Program} {o : Oper}
theorem map_obj {ρ : Env} {w : World} {Z : Nat → Prop} {n ver m : Nat} {ag : Bool} {es : List (List Int × D)} (h : (Ob.map ver ag m es).at_ ρ w Z n) : ∃ ms ck, w.heap[ρ.blk n]? = some (.map ms ck) ∧ ρ.ver n = ver ∧ ρ.val n = stampV ms ck ∧
    ms.toList.map (·.key) = es.map (fun x => kvs ag x.1) ∧ (∀ x ∈ es, x.1.length = m) ∧ RelL ρ w Z (es.map (·.2)) (ms.toList.map (·.val)) ∧ (∀ e ∈ ms.toList, e.born < ck) ∧ (ms.toList.map (·.born)).Pairwise (· < ·) ∧ ms.size = es.length := by
  obtain ⟨hv, ms, ck, h1, h0, h2, h3, h4, h5, h6⟩ := h
  refine ⟨ms, ck, h1, hv, h0, h2, h3, h4, h5, h6, ?_⟩
  have := congrArg List.length h2
  simpa using this
theorem rule_makeMap {t nm m : Nat} {ag : Bool} (r : Option Operand) (hr : r = none) (ho : o.op = .makeMap t r) : ORule P o [] [] (.mp nm) { new := [(nm, .map 0 ag m [])] } := by
  subst hr
  intro K N ρ Z S a w Q K' hS hpre _ hf hd hK
  have hn : ¬ ρ.live nm := fun hl => hf nm _ (List.mem_cons_self) (hS.live nm hl)
  obtain ⟨ρ', e1, e2, e3, hl, hx, hm⟩ := hS.mem.new (w' := w.alloc (.map #[] 0)) (nm := nm) hn (o := .map 0 ag m []) (x := .map #[] 0) (vl := stampV #[] 0) (vr := 0) rfl rfl rfl rfl
    ⟨upd_same _ _ _, #[], 0, by show (w.heap.push _)[upd ρ.blk nm w.heap.size nm]? = _; rw [upd_same]; simp, upd_same _ _ _, by simp, by simp, .nil, by simp, by simp⟩
    (fun b hb => by simp only [Ob.blk, upd_same, Option.some.injEq] at hb; exact hb.symm)
  have hrun : (execOp a.eval o).run P w = .ok (.value (.map (some w.heap.size))) (w.alloc (.map #[] 0)) := by simp [execOp, ho, Instr.makeMap, Result.andThen]
  unfold Oper.wp
  rw [hrun]
  refine hK ρ' Z _ _ (hS.put hd hx (by rw [← e1]; exact .mp ((hl nm).2 (.inr rfl))) hm (fun n hn' => ?_)) hx
  rcases (hl n).1 hn' with h | h
  · exact .inl (hS.live n h)
  · exact .inr ⟨_, by subst h; exact List.mem_cons_self⟩
def zeroD (P : Program) (t : TypeId) : Option D := (P.info? t).bind fun i => i.zero.bind fun z => match z, aggOf P t with
  | .agg cs, true => some (.agg (cs.toList.map D.v))
  | .agg _, false => none
  | z, false => some (D.v z)
  | _, true => none
theorem zeroD_run {t : TypeId} {d : D} (h : zeroD P t = some d) (w : World) : ∃ z, (zeroValue t).run P w = .ok z w ∧ ∀ (ρ : Env) (w' : World) (Z : Nat → Prop), Rel ρ w' Z d z := by
  unfold zeroD at h
  obtain ⟨i, hi, h⟩ := Option.bind_eq_some_iff.1 h
  obtain ⟨z, hz, h⟩ := Option.bind_eq_some_iff.1 h
  refine ⟨z, by simp [zeroValue, typeInfo, hi, hz], fun ρ w' Z => ?_⟩
  split at h
  · cases h; exact .mk_agg (relL_ofV1 _)
  · cases h
  · cases h; exact rel_ofV1 _
  · cases h
def keyN (P : Program) (t : TypeId) : Option (Bool × Nat) := match flat P 2 t with | some l => if l.all (· == .int) then some (aggOf P t, l.length) else none | none => none
theorem keyN_KL {t m : Nat} {ag : Bool} (h : keyN P t = some (ag, m)) : KL P t ag m := by
  unfold keyN at h
  split at h
  · rename_i l hl
    split at h
    · rename_i hall
      cases h
      refine ⟨hl.trans ?_, rfl⟩
      congr 1
      rw [List.eq_replicate_iff]
      refine ⟨rfl, fun x hx => ?_⟩
      have := List.all_eq_true.1 hall x hx
      simpa using this
    · cases h
  · cases h
theorem mget_rel {ρ : Env} {w : World} {Z : Nat → Prop} {es : List (List Int × D)} {ms : List MapEntry} (hrel : RelL ρ w Z (es.map (·.2)) (ms.map (·.val))) {k : List Int} :
    (mfind es k = none ∧ fnd es k ms = none ∧ mget es k = none) ∨ ∃ j d e, mfind es k = some j ∧ fnd es k ms = some (j, e.val) ∧ mget es k = some d ∧ es[j]? = some (k, d) ∧ ms[j]? = some e ∧ Rel ρ w Z d e.val := by
  cases hf : mfind es k with
  | none => exact .inl ⟨rfl, by simp [fnd, hf], (mfind_none hf).1⟩
  | some j =>
    obtain ⟨d, h1, h2, _⟩ := mfind_some hf
    have hlen := hrel.len
    simp only [List.length_map] at hlen
    obtain ⟨hj, hjd⟩ := List.getElem?_eq_some_iff.1 h1
    have hj' : j < ms.length := by omega
    refine .inr ⟨j, d, ms[j], rfl, by simp [fnd, hf, hj'], h2, h1, by simp [hj'], ?_⟩
    have := hrel.at_ j (by simpa using hj')
    simpa [List.getD_eq_getElem?_getD, hj, hj', hjd] using this
def lookD (ok : Bool) (r : Option D) (z : D) : D := match ok, r with | true, some d => .tup [d, .bool true] | true, none => .tup [z, .bool false] | false, some d => d | false, none => z
theorem rule_lookup {x y : Operand} {t kt et n ver m : Nat} {ag ok : Bool} {es : List (List Int × D)} {k : List Int} {dk z : D} (ho : o.op = .lookup t x y ok) (ht : tyK P t = .map kt et) (hk : KL P kt ag m) (hdk : keyD ag dk = some k) (hkm : k.length = m)
    (hz : zeroD P et = some z) :
    ORule P o [(x, .mp n), (y, dk)] [(n, .map ver ag m es)] (lookD ok (mget es k) z) .none :=
  .stay fun ρ w Z a hp hr => by
    obtain ⟨hx, hlive⟩ := (hp (x, .mp n) (by simp)).inv_mp
    have hy : Rel ρ w Z dk (a.eval y) := hp (y, dk) (by simp)
    obtain ⟨_, hobj⟩ := hr (n, .map ver ag m es) (by simp)
    obtain ⟨ms, ck, hh, _, _, hkeys, hlen, hrel, _, _, _⟩ := map_obj hobj
    have hyv := keyD_val hy hdk
    simp only at hx hh
    obtain ⟨zv, hzr, hzrel⟩ := zeroD_run hz w
    have hck := hk.check hkm ms.isEmpty w
    have hfd := hk.find hkm hkeys hlen w
    rcases mget_rel hrel (k := k) with ⟨_, f2, f3⟩ | ⟨j, d, e, _, f2, f3, _, _, f6⟩
    · refine ⟨if ok then .tuple #[zv, .bool false] else zv, ?_, ?_⟩
      · rw [f2] at hfd
        cases ok <;> simp [execOp, ho, hx, hyv, Instr.lookup, run_underlying (tyK_map ht), MapKept.run_getObj_map hh, hck, hfd, hzr]
      · rw [f3]
        cases ok
        · exact hzrel ρ w Z
        · exact .mk_tup (RelL.cons (hzrel ρ w Z) (RelL.cons (.c (.v _)) .nil))
    · refine ⟨if ok then .tuple #[e.val, .bool true] else e.val, ?_, ?_⟩
      · rw [f2] at hfd
        cases ok <;> simp [execOp, ho, hx, hyv, Instr.lookup, run_underlying (tyK_map ht), MapKept.run_getObj_map hh, hck, hfd]
      · rw [f3]
        cases ok
        · exact f6
        · exact .mk_tup (RelL.cons f6 (RelL.cons (.c (.v _)) .nil))
theorem rel_set {ρ : Env} {w : World} {Z : Nat → Prop} {l : List D} {vs : List Value} (h : RelL ρ w Z l vs) {d : D} {v : Value} (hd : Rel ρ w Z d v) (j : Nat) : RelL ρ w Z (l.set j d) (vs.set j v) := by
  refine ⟨by simp [h.len], fun i hi => ?_⟩
  simp only [List.length_set] at hi
  have hl : i < l.length := by rw [h.len]; exact hi
  by_cases e : j = i
  · subst e
    simpa [List.getD_eq_getElem?_getD, hi, hl] using hd
  · simpa [List.getD_eq_getElem?_getD, List.getElem?_set_ne e] using h.at_ i hi
theorem rel_erase {ρ : Env} {w : World} {Z : Nat → Prop} : ∀ {l : List D} {vs : List Value} (_ : RelL ρ w Z l vs) (j : Nat), RelL ρ w Z (l.eraseIdx j) (vs.eraseIdx j)
  | [], vs, h, j => by rw [h.inv_nil]; exact .nil
  | d :: l, vs, h, j => by
    obtain ⟨v, vs', rfl, h1, h2⟩ := h.inv_cons
    cases j with
    | zero => exact h2
    | succ j => exact .cons h1 (rel_erase h2 j)
theorem map_erase {α β : Type} (f : α → β) : ∀ (l : List α) (j : Nat), (l.eraseIdx j).map f = (l.map f).eraseIdx j
  | [], _ => by simp
  | a :: l, 0 => by simp
  | a :: l, j + 1 => by simp [map_erase f l j]
theorem modify_list {α : Type} (f : α → α) (l : List α) (j : Nat) (e : α) (h : l[j]? = some e) : l.modify j f = l.set j (f e) := by
  apply List.ext_getElem?
  intro i
  rw [List.getElem?_modify]
  obtain ⟨hj, he⟩ := List.getElem?_eq_some_iff.1 h
  by_cases hi : j = i
  · subst hi
    simp [hj, he]
  · simp [hi, List.getElem?_set_ne hi]
theorem put_core {ρ : Env} {w : World} {Z : Nat → Prop} {es : List (List Int × D)} {ms : Array MapEntry} {ck m : Nat} {ag : Bool} {k : List Int} (hkeys : ms.toList.map (·.key) = es.map (fun x => kvs ag x.1)) (hlen : ∀ x ∈ es, x.1.length = m)
    (hrel : RelL ρ w Z (es.map (·.2)) (ms.toList.map (·.val))) (hb : ∀ e ∈ ms.toList, e.born < ck) (hp : (ms.toList.map (·.born)).Pairwise (· < ·)) (hk : k.length = m) {d : D} {v : Value} (hd : Rel ρ w Z d v) :
    (mfind es k = none → ((ms.push ⟨kvs ag k, v, ck⟩).toList.map (·.key) = (mput es k d).map (fun x => kvs ag x.1)) ∧ (∀ x ∈ mput es k d, x.1.length = m) ∧ RelL ρ w Z ((mput es k d).map (·.2)) ((ms.push ⟨kvs ag k, v, ck⟩).toList.map (·.val)) ∧
      (∀ e ∈ (ms.push ⟨kvs ag k, v, ck⟩).toList, e.born < ck + 1) ∧ ((ms.push ⟨kvs ag k, v, ck⟩).toList.map (·.born)).Pairwise (· < ·)) ∧
    (∀ j, mfind es k = some j → ∀ f : MapEntry → MapEntry, (∀ e, ms[j]? = some e → f e = ⟨e.key, v, e.born⟩) → ((ms.modify j f).toList.map (·.key) = (mput es k d).map (fun x => kvs ag x.1)) ∧ (∀ x ∈ mput es k d, x.1.length = m) ∧
      RelL ρ w Z ((mput es k d).map (·.2)) ((ms.modify j f).toList.map (·.val)) ∧ (∀ e ∈ (ms.modify j f).toList, e.born < ck) ∧ ((ms.modify j f).toList.map (·.born)).Pairwise (· < ·)) := by
  constructor
  · intro hf
    obtain ⟨_, h2, _⟩ := mfind_none hf
    rw [h2]
    simp only [Array.toList_push, List.map_append, List.map_cons, List.map_nil]
    refine ⟨by rw [hkeys], fun x hx => ?_, hrel.append (.cons hd .nil), fun e he => ?_, ?_⟩
    · rcases List.mem_append.1 hx with hx | hx
      · exact hlen x hx
      · simp at hx; subst hx; exact hk
    · rcases List.mem_append.1 he with he | he
      · have := hb e he; omega
      · simp at he; subst he; simp
    · rw [List.pairwise_append]
      refine ⟨hp, by simp, fun x hx y hy => ?_⟩
      simp at hy; subst hy
      obtain ⟨e, he, rfl⟩ := List.mem_map.1 hx
      exact hb e he
  · intro j hf f hfe
    obtain ⟨d0, h1, _, h3, _⟩ := mfind_some hf
    obtain ⟨hj, hjd⟩ := List.getElem?_eq_some_iff.1 h1
    have hsz : ms.size = es.length := by have := congrArg List.length hkeys; simpa using this
    have hj' : j < ms.size := by omega
    have he : ms.toList[j]? = some ms[j] := by simp [hj']
    have hm : (ms.modify j f).toList = ms.toList.set j ⟨ms[j].key, v, ms[j].born⟩ := by
      rw [Array.toList_modify, modify_list f _ j _ he, hfe _ (by simp [hj'])]
    have hborn : (ms.modify j f).toList.map (·.born) = ms.toList.map (·.born) := by
      rw [hm, List.map_set]
      apply List.ext_getElem?
      intro i
      by_cases e : j = i
      · subst e; simp [hj']
      · rw [List.getElem?_set_ne e]
    rw [h3, hm]
    simp only [List.map_set]
    refine ⟨?_, fun x hx => ?_, rel_set hrel hd j, fun e he' => ?_, ?_⟩
    · rw [hkeys]
      have hkj : ms[j].key = kvs ag k := by
        have := congrArg (·[j]?) hkeys
        simpa [hj', hj, hjd] using this
      rw [hkj]
    · rcases List.mem_or_eq_of_mem_set hx with hx | rfl
      · exact hlen x hx
      · exact hk
    · rcases List.mem_or_eq_of_mem_set he' with he' | rfl
      · exact hb e he'
      · exact hb ms[j] (by simp)
    · have := hborn
      rw [hm, List.map_set] at this
      rw [this]; exact hp
theorem set_loc {ag : Bool} {es : List (List Int × D)} {ms : List MapEntry} (hkeys : ms.map (·.key) = es.map (fun x => kvs ag x.1)) {k : List Int} {j : Nat} (hf : mfind es k = some j) : ∃ e, ms[j]? = some e ∧ e.key = kvs ag k := by
  obtain ⟨d0, h1, _⟩ := mfind_some hf
  obtain ⟨hj, hjd⟩ := List.getElem?_eq_some_iff.1 h1
  have hsz : ms.length = es.length := by have := congrArg List.length hkeys; simpa using this
  have hj' : j < ms.length := by omega
  refine ⟨ms[j], by simp [hj'], ?_⟩
  have := congrArg (·[j]?) hkeys
  simpa [hj', hj, hjd] using this
theorem rule_mapUpdate {x y z : Operand} {t kt et n ver m : Nat} {ag : Bool} {es : List (List Int × D)} {k : List Int} {dk dv : D} (ho : o.op = .mapUpdate t x y z) (ht : tyK P t = .map kt et) (hk : KL P kt ag m) (hdk : keyD ag dk = some k) (hkm : k.length = m) :
    ORule P o [(x, .mp n), (y, dk), (z, dv)] [(n, .map ver ag m es)] .junk { set := [(n, .map (ver + 1) ag m (mput es k dv))] } := by
  intro K N ρ Z S a w Q K' hS hpre hrd hf hd hK
  have hx : Rel ρ w Z (.mp n) (a.eval x) := by have := hS.ev x; rwa [hpre (x, .mp n) (by simp)] at this
  have hy : Rel ρ w Z dk (a.eval y) := by have := hS.ev y; rwa [hpre (y, dk) (by simp)] at this
  have hz : Rel ρ w Z dv (a.eval z) := by have := hS.ev z; rwa [hpre (z, dv) (by simp)] at this
  have ho' := hrd (n, .map ver ag m es) (by simp)
  obtain ⟨hlive, hobj⟩ := hS.mem.obj _ _ ho'
  obtain ⟨ms, ck, hh, _, _, hkeys, hlen, hrel, hb, hp, hsz⟩ := map_obj hobj
  obtain ⟨hxv, _⟩ := hx.inv_mp
  have hyv := keyD_val hy hdk
  simp only at hh
  have hck := hk.check hkm false w
  have hfd := hk.find hkm hkeys hlen w
  obtain ⟨c1, c2⟩ := put_core hkeys hlen hrel hb hp hkm hz
  have fin : ∀ ms' ck', (ms'.toList.map (·.key) = (mput es k dv).map (fun x => kvs ag x.1)) ∧ (∀ x ∈ mput es k dv, x.1.length = m) ∧ RelL ρ w Z ((mput es k dv).map (·.2)) (ms'.toList.map (·.val)) ∧
      (∀ e ∈ ms'.toList, e.born < ck') ∧ (ms'.toList.map (·.born)).Pairwise (· < ·) → (execOp a.eval o).run P w = .ok .skip { w with heap := w.heap.setIfInBounds (ρ.blk n) (.map ms' ck') } → o.wp P a w K' Q := by
    rintro ms' ck' ⟨d1, d2, d3, d4, d5⟩ hrun
    obtain ⟨ρ', e1, e2, l1, l2, hxt, hm⟩ := hS.mem.setMap ho' hh (Nat.lt_succ_self ver) d1 d2 d3 d4 d5
    unfold Oper.wp
    rw [hrun]
    exact hK ρ' Z _ _ (hS.put hd hxt (.junk _) hm (fun n hn => .inl (hS.live n (l1 n hn)))) hxt
  cases hfind : mfind es k with
  | none =>
    have hfn : fnd es k ms.toList = none := by simp [fnd, hfind]
    rw [hfn] at hfd
    refine fin _ _ (c1 hfind) ?_
    simp [execOp, ho, hxv, hyv, Instr.mapUpdate, run_underlying (tyK_map ht), MapKept.run_getObj_map hh, hck, hfd, MapKept.run_setObj_map _ hh]
  | some j =>
    obtain ⟨e, he, hek⟩ := set_loc hkeys hfind
    have he' : ms[j]? = some e := by simpa using he
    have hfn : fnd es k ms.toList = some (j, e.val) := by simp [fnd, hfind, he']
    rw [hfn] at hfd
    refine fin (ms.modify j fun e => { e with key := kvs ag k, val := a.eval z }) ck (c2 j hfind _ (fun e' h' => by rw [he'] at h'; cases h'; rw [hek])) ?_
    simp [execOp, ho, hxv, hyv, Instr.mapUpdate, run_underlying (tyK_map ht), MapKept.run_getObj_map hh, hck, hfd, he', hek, stays_kvs, MapKept.run_setObj_map _ hh]
theorem rule_delete {x y : Operand} {t t' kt et n ver m : Nat} {ag : Bool} {es : List (List Int × D)} {k : List Int} {dk : D} (ho : o.op = .call { callee := .builtin .delete, args := #[x, y], argTypes := #[t, t'] }) (ht : tyK P t = .map kt et) (hk : KL P kt ag m) (hdk : keyD ag dk = some k) (hkm : k.length = m) :
    ORule P o [(x, .mp n), (y, dk)] [(n, .map ver ag m es)] (.tup []) { set := [(n, .map (ver + 1) ag m (mdel es k))] } := by
  intro K N ρ Z S a w Q K' hS hpre hrd hf hd hK
  have hx : Rel ρ w Z (.mp n) (a.eval x) := by have := hS.ev x; rwa [hpre (x, .mp n) (by simp)] at this
  have hy : Rel ρ w Z dk (a.eval y) := by have := hS.ev y; rwa [hpre (y, dk) (by simp)] at this
  have ho' := hrd (n, .map ver ag m es) (by simp)
  obtain ⟨hlive, hobj⟩ := hS.mem.obj _ _ ho'
  obtain ⟨ms, ck, hh, _, _, hkeys, hlen, hrel, hb, hp, hsz⟩ := map_obj hobj
  obtain ⟨hxv, _⟩ := hx.inv_mp
  have hyv := keyD_val hy hdk
  simp only at hh
  have hck := hk.check hkm ms.isEmpty w
  have hfd := hk.find hkm hkeys hlen w
  have fin : ∀ ms', (ms'.toList.map (·.key) = (mdel es k).map (fun x => kvs ag x.1)) ∧ (∀ x ∈ mdel es k, x.1.length = m) ∧ RelL ρ w Z ((mdel es k).map (·.2)) (ms'.toList.map (·.val)) ∧
      (∀ e ∈ ms'.toList, e.born < ck) ∧ (ms'.toList.map (·.born)).Pairwise (· < ·) → (execOp a.eval o).run P w = .ok (.value (.tuple #[])) { w with heap := w.heap.setIfInBounds (ρ.blk n) (.map ms' ck) } → o.wp P a w K' Q := by
    rintro ms' ⟨d1, d2, d3, d4, d5⟩ hrun
    obtain ⟨ρ', e1, e2, l1, l2, hxt, hm⟩ := hS.mem.setMap ho' hh (Nat.lt_succ_self ver) d1 d2 d3 d4 d5
    unfold Oper.wp
    rw [hrun]
    exact hK ρ' Z _ _ (hS.put hd hxt (.mk_tup .nil) hm (fun n hn => .inl (hS.live n (l1 n hn)))) hxt
  cases hfind : mfind es k with
  | none =>
    have hfn : fnd es k ms.toList = none := by simp [fnd, hfind]
    rw [hfn] at hfd
    have hmd := (mfind_none hfind).2.2.1
    refine fin ms ⟨by rw [hmd]; exact hkeys, by rw [hmd]; exact hlen, by rw [hmd]; exact hrel, hb, hp⟩ ?_
    simp [execOp, ho, hxv, hyv, resolve, invoke, builtin, Builtin.delete_, run_underlying (tyK_map ht), MapKept.run_getObj_map hh, hck, hfd, MapKept.run_setObj_map _ hh]
  | some j =>
    obtain ⟨e, he, hek⟩ := set_loc hkeys hfind
    have he' : ms[j]? = some e := by simpa using he
    have hfn : fnd es k ms.toList = some (j, e.val) := by simp [fnd, hfind, he']
    rw [hfn] at hfd
    obtain ⟨_, _, _, _, hmd, _⟩ := mfind_some hfind
    have hj : j < ms.size := (Array.getElem?_eq_some_iff.1 he').1
    have hl : (ms.eraseIdxIfInBounds j).toList = ms.toList.eraseIdx j := by simp [Array.eraseIdxIfInBounds, hj]
    refine fin (ms.eraseIdxIfInBounds j) ?_ ?_
    · rw [hl, hmd]
      refine ⟨?_, fun x hx => hlen x (List.mem_of_mem_eraseIdx hx), ?_, fun e he => hb e (List.mem_of_mem_eraseIdx he), ?_⟩
      · rw [map_erase, hkeys, map_erase]
      · rw [map_erase, map_erase]; exact rel_erase hrel j
      · rw [map_erase]; exact hp.sublist (List.eraseIdx_sublist _ _)
    · simp [execOp, ho, hxv, hyv, resolve, invoke, builtin, Builtin.delete_, run_underlying (tyK_map ht), MapKept.run_getObj_map hh, hck, hfd, MapKept.run_setObj_map _ hh]
theorem rule_len_map {x : Operand} {t kt et n ver m : Nat} {ag : Bool} {es : List (List Int × D)} (ho : o.op = .call { callee := .builtin .len, args := #[x], argTypes := #[t] }) (ht : tyK P t = .map kt et) : ORule P o [(x, .mp n)] [(n, .map ver ag m es)] (.int es.length) .none :=
  .stay fun ρ w Z a hp hr => by
    obtain ⟨hx, hlive⟩ := (hp (x, .mp n) (by simp)).inv_mp
    obtain ⟨_, hobj⟩ := hr (n, .map ver ag m es) (by simp)
    obtain ⟨ms, ck, hh, _, _, hkeys, hlen, hrel, _, _, hsz⟩ := map_obj hobj
    simp only at hx hh
    exact ⟨.int .i64 es.length, by simp [execOp, ho, hx, resolve, invoke, builtin, Builtin.len_, run_underlying (tyK_map ht), MapKept.run_getObj_map hh, goInt, hsz], .c (.v _)⟩
theorem rule_mapEntry {x y : Operand} {t kt et n ver m : Nat} {ag : Bool} {es : List (List Int × D)} {k : List Int} {dk z : D} (ho : o.op = .mapEntry t x y) (ht : tyK P t = .map kt et) (hk : KL P kt ag m) (hdk : keyD ag dk = some k) (hkm : k.length = m) (hz : zeroD P et = some z) :
    ORule P o [(x, .mp n), (y, dk)] [(n, .map ver ag m es)] (.tup [(mget es k).getD z, .st n (ver + 1) (mplace es k)]) { set := [(n, .map (ver + 1) ag m (mput es k ((mget es k).getD z)))] } := by
  intro K N ρ Z S a w Q K' hS hpre hrd hf hd hK
  have hx : Rel ρ w Z (.mp n) (a.eval x) := by have := hS.ev x; rwa [hpre (x, .mp n) (by simp)] at this
  have hy : Rel ρ w Z dk (a.eval y) := by have := hS.ev y; rwa [hpre (y, dk) (by simp)] at this
  have ho' := hrd (n, .map ver ag m es) (by simp)
  obtain ⟨hlive, hobj⟩ := hS.mem.obj _ _ ho'
  obtain ⟨ms, ck, hh, _, _, hkeys, hlen, hrel, hb, hp, hsz⟩ := map_obj hobj
  obtain ⟨hxv, _⟩ := hx.inv_mp
  have hyv := keyD_val hy hdk
  simp only at hh
  have hck := hk.check hkm false w
  have hfd := hk.find hkm hkeys hlen w
  obtain ⟨zv, hzr, hzrel⟩ := zeroD_run hz w
  have fin : ∀ ms' ck' (u : Value) (b : Nat), Rel ρ w Z ((mget es k).getD z) u → b = bornOf (stampV ms' ck') (mplace es k) → (ms'.toList.map (·.key) = (mput es k ((mget es k).getD z)).map (fun x => kvs ag x.1)) ∧ (∀ x ∈ mput es k ((mget es k).getD z), x.1.length = m) ∧ RelL ρ w Z ((mput es k ((mget es k).getD z)).map (·.2)) (ms'.toList.map (·.val)) ∧
      (∀ e ∈ ms'.toList, e.born < ck') ∧ (ms'.toList.map (·.born)).Pairwise (· < ·) → (execOp a.eval o).run P w = .ok (.value (.tuple #[u, .int .i64 b])) { w with heap := w.heap.setIfInBounds (ρ.blk n) (.map ms' ck') } → o.wp P a w K' Q := by
    rintro ms' ck' u b hu hbn ⟨d1, d2, d3, d4, d5⟩ hrun
    obtain ⟨ρ', e1, e2, l1, l2, hxt, hm⟩ := hS.mem.setMap ho' hh (Nat.lt_succ_self ver) d1 d2 d3 d4 d5
    unfold Oper.wp
    rw [hrun]
    simp only at e1 e2 hlive
    refine hK ρ' Z _ _ (hS.put hd hxt (.mk_tup (.cons (hu.mono hxt.same hxt.mono hxt.le) (.cons (.st _ (l2 n hlive) (by omega) (fun _ => ?_)) .nil))) hm (fun n hn => .inl (hS.live n (l1 n hn)))) hxt
    rw [e1, hbn]
  cases hfind : mfind es k with
  | none =>
    have hfn : fnd es k ms.toList = none := by simp [fnd, hfind]
    rw [hfn] at hfd
    obtain ⟨g1, _, _, g4⟩ := mfind_none hfind
    obtain ⟨c1, _⟩ := put_core hkeys hlen hrel hb hp hkm (d := (mget es k).getD z) (v := zv) (by rw [g1]; exact hzrel _ _ _)
    refine fin (ms.push ⟨kvs ag k, zv, ck⟩) (ck + 1) zv ck (by rw [g1]; exact hzrel _ _ _) ?_ (c1 hfind) ?_
    · rw [g4, ← hsz, bornOf_stampV _ _ _ (by simp)]; simp
    · simp [execOp, ho, hxv, hyv, Instr.mapEntry, run_underlying (tyK_map ht), MapKept.run_getObj_map hh, hck, hfd, hzr, MapKept.run_setObj_map _ hh, goInt]
  | some j =>
    obtain ⟨e, he, hek⟩ := set_loc hkeys hfind
    have he' : ms[j]? = some e := by simpa using he
    have hj : j < ms.size := (Array.getElem?_eq_some_iff.1 he').1
    have hfn : fnd es k ms.toList = some (j, e.val) := by simp [fnd, hfind, he']
    rw [hfn] at hfd
    obtain ⟨d, g0, g1, _, _, g4⟩ := mfind_some hfind
    have hde : Rel ρ w Z d e.val := by
      have hl : j < es.length := (List.getElem?_eq_some_iff.1 g0).1
      have := hrel.at_ j (by simpa using hj)
      have g0' : es[j] = (k, d) := (List.getElem?_eq_some_iff.1 g0).2
      have he2 : ms[j] = e := (Array.getElem?_eq_some_iff.1 he').2
      simpa [List.getD_eq_getElem?_getD, hj, hl, g0', he2] using this
    obtain ⟨_, c2⟩ := put_core hkeys hlen hrel hb hp hkm (d := (mget es k).getD z) (v := e.val) (by rw [g1]; exact hde)
    refine fin (ms.modify j fun e => { e with key := kvs ag k }) ck e.val e.born (by rw [g1]; exact hde) ?_ (c2 j hfind _ (fun e' h' => by rw [he'] at h'; cases h'; rw [hek])) ?_
    · rw [g4, bornOf_stampV _ _ _ (by simpa using hj)]
      have he2 : ms[j] = e := (Array.getElem?_eq_some_iff.1 he').2
      simp [Array.getElem_modify, he2]
    · simp [execOp, ho, hxv, hyv, Instr.mapEntry, run_underlying (tyK_map ht), MapKept.run_getObj_map hh, hck, hfd, he', hek, stays_kvs, MapKept.run_setObj_map _ hh, goInt]
theorem findIdx_born : ∀ (ms : List MapEntry) (j : Nat) (hj : j < ms.length), (ms.map (·.born)).Pairwise (· < ·) → ms.findIdx? (fun e => (e.born : Int) == (ms[j].born : Int)) = some j
  | [], j, hj, _ => by simp at hj
  | e :: ms, 0, _, _ => by simp [List.findIdx?_cons]
  | e :: ms, j + 1, hj, hp => by
    simp only [List.map_cons, List.pairwise_cons] at hp
    have hj' : j < ms.length := by simpa using hj
    have hlt := hp.1 ms[j].born (List.mem_map.2 ⟨_, List.getElem_mem hj', rfl⟩)
    rw [List.findIdx?_cons]
    simp only [List.getElem_cons_succ]
    have hne : ((e.born : Int) == (ms[j].born : Int)) = false := by simp; omega
    rw [hne]
    simp only [Bool.false_eq_true, if_false]
    rw [findIdx_born ms j hj' hp.2]
    rfl
theorem rule_entryStore {x y z : Operand} {t n ver m i : Nat} {ag : Bool} {es : List (List Int × D)} {k : List Int} {d0 dv : D} (ho : o.op = .entryStore t x y z) (hi : es[i]? = some (k, d0)) :
    ORule P o [(x, .mp n), (y, .st n ver i), (z, dv)] [(n, .map ver ag m es)] .junk { set := [(n, .map (ver + 1) ag m (es.set i (k, dv)))] } := by
  intro K N ρ Z S a w Q K' hS hpre hrd hf hd hK
  have hx : Rel ρ w Z (.mp n) (a.eval x) := by have := hS.ev x; rwa [hpre (x, .mp n) (by simp)] at this
  have hy : Rel ρ w Z (.st n ver i) (a.eval y) := by have := hS.ev y; rwa [hpre (y, .st n ver i) (by simp)] at this
  have hz : Rel ρ w Z dv (a.eval z) := by have := hS.ev z; rwa [hpre (z, dv) (by simp)] at this
  have ho' := hrd (n, .map ver ag m es) (by simp)
  obtain ⟨hlive, hobj⟩ := hS.mem.obj _ _ ho'
  obtain ⟨ms, ck, hh, hver, hval, hkeys, hlen, hrel, hb, hp, hsz⟩ := map_obj hobj
  obtain ⟨hxv, _⟩ := hx.inv_mp
  simp only at hh hver hval
  have hil : i < es.length := (List.getElem?_eq_some_iff.1 hi).1
  have hik : es[i] = (k, d0) := (List.getElem?_eq_some_iff.1 hi).2
  have hj : i < ms.size := by omega
  have hyv : a.eval y = .int .i64 (ms[i].born : Int) := by
    generalize a.eval y = v at hy
    cases hy with
    | st x h hle hv =>
      have := hv hver.symm
      rw [hval, bornOf_stampV _ _ _ hj] at this
      rw [this]
  have hfi : ms.findIdx? (fun e => (e.born : Int) == (ms[i].born : Int)) = some i := by
    rw [show ms.findIdx? (fun e => (e.born : Int) == (ms[i].born : Int)) = ms.toList.findIdx? (fun e => (e.born : Int) == (ms[i].born : Int)) from by cases ms; simp]
    exact findIdx_born ms.toList i (by simpa using hj) hp
  have he : ms.toList[i]? = some ms[i] := by simp [hj]
  have hkey : ms[i].key = kvs ag k := by
    have := congrArg (·[i]?) hkeys
    simpa [hj, hil, hik] using this
  have hl : (ms.modify i fun e => { e with val := a.eval z }).toList = ms.toList.set i ⟨ms[i].key, a.eval z, ms[i].born⟩ := by
    rw [Array.toList_modify, modify_list _ _ i _ he]
  have hborn : (ms.toList.set i ⟨ms[i].key, a.eval z, ms[i].born⟩).map (·.born) = ms.toList.map (·.born) := by
    rw [List.map_set]
    apply List.ext_getElem?
    intro q
    by_cases e : i = q
    · subst e; simp [hj]
    · rw [List.getElem?_set_ne e]
  obtain ⟨ρ', e1, e2, l1, l2, hxt, hm⟩ := hS.mem.setMap (ms' := ms.modify i fun e => { e with val := a.eval z }) (ck' := ck) (es' := es.set i (k, dv)) ho' hh (Nat.lt_succ_self ver)
    (by rw [hl, List.map_set, List.map_set, hkeys, hkey]) (fun x hx => by
      rcases List.mem_or_eq_of_mem_set hx with hx | rfl
      · exact hlen x hx
      · exact hlen (k, d0) (by rw [← hik]; exact List.getElem_mem hil)) (by rw [hl, List.map_set, List.map_set]; exact rel_set hrel hz i) (fun e he' => by
      rw [hl] at he'
      rcases List.mem_or_eq_of_mem_set he' with he' | rfl
      · exact hb e he'
      · exact hb ms[i] (by simp)) (by rw [hl, hborn]; exact hp)
  have hrun : (execOp a.eval o).run P w = .ok .skip { w with heap := w.heap.setIfInBounds (ρ.blk n) (.map (ms.modify i fun e => { e with val := a.eval z }) ck) } := by
    simp [execOp, ho, hxv, hyv, Instr.entryStore, MapKept.run_getObj_map hh, asInt, asIntOf, hfi, MapKept.run_setObj_map _ hh]
  unfold Oper.wp
  rw [hrun]
  exact hK ρ' Z _ _ (hS.put hd hxt (.junk _) hm (fun n hn => .inl (hS.live n (l1 n hn)))) hxt
theorem rule_range {x : Operand} {t kt et n nm ver m : Nat} {ag : Bool} {es : List (List Int × D)} (ho : o.op = .range t x) (ht : tyK P t = .map kt et) :
    ORule P o [(x, .mp n)] [(n, .map ver ag m es)] (.ptr nm 0) { new := [(nm, .iter n ver [])] } := by
  intro K N ρ Z S a w Q K' hS hpre hrd hf hd hK
  have hx : Rel ρ w Z (.mp n) (a.eval x) := by have := hS.ev x; rwa [hpre (x, .mp n) (by simp)] at this
  have ho' := hrd (n, .map ver ag m es) (by simp)
  obtain ⟨hlive, hobj⟩ := hS.mem.obj _ _ ho'
  obtain ⟨ms, ck, hh, hver, hval, _⟩ := map_obj hobj
  obtain ⟨hxv, _⟩ := hx.inv_mp
  simp only at hh hver hval
  have hn : ¬ ρ.live nm := fun hl => hf nm _ (List.mem_cons_self) (hS.live nm hl)
  have hne : n ≠ nm := fun e => hn (e ▸ hlive)
  obtain ⟨ρ', e1, e2, e3, hl, hxt, hm⟩ := hS.mem.new (w' := w.alloc (.mapIter (some (ρ.blk n)) ck #[] ck)) (nm := nm) hn (o := .iter n ver []) (x := .mapIter (some (ρ.blk n)) ck #[] ck) (vl := undef) (vr := 0) rfl rfl rfl rfl
    ⟨.inl hlive, by simp only [upd_ne _ _ _ _ hne]; omega, ck, #[], ck, by show (w.heap.push _)[upd ρ.blk nm w.heap.size nm]? = _; simp only [upd_same, upd_ne _ _ _ _ hne]; simp, fun _ => by simp only [upd_ne _ _ _ _ hne, hval, clockOf_stampV, List.map_nil, and_self]⟩
    (fun b hb => by simp only [Ob.blk, upd_same, Option.some.injEq] at hb; exact hb.symm)
  have hrun : (execOp a.eval o).run P w = .ok (.value (.pointer (some ⟨w.heap.size, 0, none⟩))) (w.alloc (.mapIter (some (ρ.blk n)) ck #[] ck)) := by
    simp [execOp, ho, hxv, Instr.range, run_underlying (tyK_map ht), MapKept.run_getObj_map hh, Result.andThen]
  unfold Oper.wp
  rw [hrun]
  refine hK ρ' Z _ _ (hS.put hd hxt (by rw [← e1]; exact .ptr ((hl nm).2 (.inr rfl))) hm (fun n hn' => ?_)) hxt
  rcases (hl n).1 hn' with h | h
  · exact .inl (hS.live n h)
  · exact .inr ⟨_, by subst h; exact List.mem_cons_self⟩
def keyOut (ag : Bool) (k : List Int) : D := if ag then .agg (k.map fun a => .v (.int .i64 a)) else .v (.int .i64 (k.headD 0))
theorem keyOut_rel {ρ : Env} {w : World} {Z : Nat → Prop} (ag : Bool) (k : List Int) : Rel ρ w Z (keyOut ag k) (kvs ag k) := by
  cases ag
  · exact .c (.v _)
  · have := relL_ofV1 (ρ := ρ) (w := w) (Z := Z) (k.map (.int .i64))
    rw [List.map_map] at this
    exact .mk_agg this
def rowOut (ag : Bool) (x : List Int × D) : D := .tup [.bool true, keyOut ag x.1, x.2]
theorem next_wp {x : Operand} {n q ver m : Nat} {ag : Bool} {es : List (List Int × D)} {seen : List Nat} (ho : o.op = .next x false) {K : Ctx} {N : Nat} {ρ : Env} {Z : Nat → Prop} {S : G} {a : Act} {w : World} {Q : Exit → Act → World → Prop} {K' : Act → World → Prop}
    (hS : Sat K N ρ Z S a w) (hx : evE S.env x = .ptr q 0) (hq : S.H q = some (.iter n ver seen)) (hn : S.H n = some (.map ver ag m es)) (hseen : ∀ i ∈ seen, i < es.length) (hd : ∀ t, o.dst = some t → t < N)
    (h0 : (∀ i, i < es.length → i ∈ seen) → ∀ ρ' Z' a' w', Sat K N ρ' Z' (S.fin o.dst (.tup [.bool false]) .none) a' w' → Ext ρ Z w ρ' Z' w' → K' a' w')
    (h1 : ∀ i y, es[i]? = some y → i ∉ seen → ∀ ρ' Z' a' w', Sat K N ρ' Z' (S.fin o.dst (rowOut ag y) { set := [(q, .iter n ver (seen ++ [i]))] }) a' w' → Ext ρ Z w ρ' Z' w' → K' a' w') : o.wp P a w K' Q := by
  have hxr : Rel ρ w Z (.ptr q 0) (a.eval x) := by have := hS.ev x; rwa [hx] at this
  obtain ⟨hxv, hql⟩ := hxr.inv_ptr
  obtain ⟨_, hobj⟩ := hS.mem.obj _ _ hn
  obtain ⟨ms, ck, hh, hver, hval, hkeys, hlen, hrel, hb, hp, hsz⟩ := map_obj hobj
  obtain ⟨_, hit⟩ := hS.mem.obj _ _ hq
  obtain ⟨hnl, hvle, since, sn, stepped, hr, hcur⟩ := hit
  obtain ⟨rfl, rfl, rfl⟩ := hcur hver.symm
  rw [hval, clockOf_stampV] at hr
  have hin : ∀ i, i < ms.size → (((seen.map (bornOf (stampV ms ck))).toArray).contains ((ms[i]?.map (·.born)).getD 0) = true ↔ i ∈ seen) := by
    intro i hi
    simp only [List.contains_toArray, List.contains_iff_mem, List.mem_map]
    simp only [Array.getElem?_eq_getElem hi, Option.map_some, Option.getD_some]
    constructor
    · rintro ⟨j, hj, e⟩
      have hjl := hseen j hj
      rw [bornOf_stampV _ _ _ (by omega)] at e
      have hij : j = i := by
        rcases Nat.lt_trichotomy j i with h | h | h
        · have := (List.pairwise_iff_getElem.1 hp) j i (by simp; omega) (by simp; omega) h
          simp at this; omega
        · exact h
        · have := (List.pairwise_iff_getElem.1 hp) i j (by simp; omega) (by simp; omega) h
          simp at this; omega
      rw [← hij]; exact hj
    · intro hs
      exact ⟨i, hs, bornOf_stampV _ _ _ hi⟩
  have hold : ∀ e ∈ ms.toList, e.born < ck := hb
  rcases run_next_at (P := P) w o.type (ρ.blk q) (ρ.blk n) ck ck _ ms ck hr hh hold (Nat.le_refl _) with ⟨hz, hrun⟩ | ⟨e, he, w1, hw1, hrun⟩
  · have hall : ∀ i, i < es.length → i ∈ seen := by
      intro i hi
      have hi' : i < ms.size := by omega
      refine Classical.byContradiction fun hns => ?_
      have hmem : ms[i] ∈ (leftOf ms ((seen.map (bornOf (stampV ms ck))).toArray)).toList := by
        unfold leftOf
        simp only [Array.mem_toList_iff, Array.mem_filter, Array.getElem_mem, true_and]
        have := hin i hi'
        simp only [Array.getElem?_eq_getElem hi', Option.map_some, Option.getD_some] at this
        cases hc : ((seen.map (bornOf (stampV ms ck))).toArray).contains ms[i].born
        · rfl
        · exact (hns (this.1 hc)).elim
      have : (leftOf ms ((seen.map (bornOf (stampV ms ck))).toArray)).toList.length = 0 := by simpa using hz
      rw [List.length_eq_zero_iff] at this
      rw [this] at hmem
      cases hmem
    have hrun' : (execOp a.eval o).run P w = .ok (.value (.tuple #[.bool false])) w := by simp [execOp, ho, hxv, hrun]
    unfold Oper.wp
    rw [hrun']
    exact h0 hall ρ Z _ w (hS.put hd (.refl _ _ _) (.mk_tup (.cons (.c (.v _)) .nil)) (by rw [app_none]; exact hS.mem) (fun n hn => (live_none _ _).2 (hS.live n hn))) (.refl _ _ _)
  · unfold leftOf at he
    simp only [Array.mem_toList_iff, Array.mem_filter] at he
    obtain ⟨hem, hec⟩ := he
    obtain ⟨i, hi, rfl⟩ := Array.getElem_of_mem hem
    have hns : i ∉ seen := fun hs => by
      have := (hin i hi).2 hs
      simp only [Array.getElem?_eq_getElem hi, Option.map_some, Option.getD_some] at this
      rw [this] at hec
      cases hec
    have hil : i < es.length := by omega
    have hkey : ms[i].key = kvs ag es[i].1 := by
      have := congrArg (·[i]?) hkeys
      simpa [hi, hil] using this
    have hvr : Rel ρ w Z es[i].2 ms[i].val := by
      have := hrel.at_ i (by simpa using hi)
      simpa [List.getD_eq_getElem?_getD, hi, hil] using this
    have hw1h : w1.heap = w.heap ∧ w1.os = w.os ∧ w1.tape = w.tape ∧ w1.output = w.output := by rcases hw1 with rfl | rfl <;> exact ⟨rfl, rfl, rfl, rfl⟩
    have hqn : ρ.blk n ≠ ρ.blk q := fun e => by
      have := hS.mem.inj n q _ _ _ hn hq rfl (by show some (ρ.blk q) = _; rw [← e])
      subst this
      rw [hn] at hq; cases hq
    let w' : World := ChangeMaps.setBlock w1 (ρ.blk q) (.mapIter (some (ρ.blk n)) ck ((seen.map (bornOf (stampV ms ck))).toArray.push ms[i].born) ck)
    have hw'o : ∀ b, b ≠ ρ.blk q → w'.heap[b]? = w.heap[b]? := fun b hb' => by
      show (w1.heap.setIfInBounds _ _)[b]? = _
      rw [hw1h.1, Array.getElem?_setIfInBounds_ne (Ne.symm hb')]
    have hw's : w'.heap[ρ.blk q]? = some (.mapIter (some (ρ.blk n)) ck ((seen.map (bornOf (stampV ms ck))).toArray.push ms[i].born) ck) := by
      show (w1.heap.setIfInBounds _ _)[_]? = _
      rw [hw1h.1]
      exact (heap_set hr).1
    obtain ⟨hxt, hm⟩ := hS.mem.set (n := q) hq (ρ' := ρ) (w' := w') (o' := .iter n ver (seen ++ [i])) (.refl _) (fun _ h => h) (fun _ _ => ⟨rfl, rfl, rfl⟩) hw1h.2.1 hw1h.2.2.1 hw1h.2.2.2 (by show _ ≤ (w1.heap.setIfInBounds _ _).size; rw [hw1h.1]; simp)
      (fun b _ hne => hw'o b (fun e => hne (by rw [e]; rfl))) ⟨hnl, hvle, ck, _, ck, hw's, fun _ => by rw [hval, clockOf_stampV]; refine ⟨rfl, rfl, ?_⟩; simp [bornOf_stampV _ _ _ hi]⟩ (fun b hb' => .inl hb')
    have hrun' : (execOp a.eval o).run P w = .ok (.value (.tuple #[.bool true, ms[i].key, ms[i].val])) w' := by simp only [execOp, ho, hxv, Sem.run_bind, hrun, Result.andThen_ok, Sem.run_pure]; rfl
    unfold Oper.wp
    rw [hrun']
    refine h1 i es[i] (by simp [hil]) hns ρ Z _ w' (hS.put hd hxt (.mk_tup (.cons (.c (.v _)) (.cons (by rw [hkey]; exact keyOut_rel _ _) (.cons (hvr.mono hxt.same hxt.mono hxt.le) .nil)))) hm (fun n hn => .inl (hS.live n hn))) hxt
theorem rule_entry {x : Operand} {n q ver m i : Nat} {ag : Bool} {es : List (List Int × D)} {seen : List Nat} {y : List Int × D} (ho : o.op = .entry x) (hi : es[i]? = some y) :
    ORule P o [(x, .ptr q 0)] [(q, .iter n ver (seen ++ [i])), (n, .map ver ag m es)] (.tup [keyOut ag y.1, y.2]) .none :=
  .stay fun ρ w Z a hp hr => by
    obtain ⟨hxv, hlive⟩ := (hp (x, .ptr q 0) (by simp)).inv_ptr
    obtain ⟨_, hit⟩ := hr (q, .iter n ver (seen ++ [i])) (by simp)
    obtain ⟨_, hobj⟩ := hr (n, .map ver ag m es) (by simp)
    obtain ⟨ms, ck, hh, hver, hval, hkeys, hlen, hrel, hb, hp', hsz⟩ := map_obj hobj
    obtain ⟨hnl, hvle, since, sn, stepped, hri, hcur⟩ := hit
    simp only at hh hver hval hri hcur hxv
    obtain ⟨rfl, rfl, rfl⟩ := hcur hver.symm
    have hil : i < es.length := (List.getElem?_eq_some_iff.1 hi).1
    have hiy : es[i] = y := (List.getElem?_eq_some_iff.1 hi).2
    have hims : i < ms.size := by omega
    have hsn : (List.map (bornOf (ρ.val n)) (seen ++ [i])).toArray = ((seen.map (bornOf (stampV ms ck))).toArray.push ms[i].born) := by
      rw [hval]; simp [bornOf_stampV _ _ _ hims]
    rw [hsn, hval, clockOf_stampV] at hri
    have hkey : ms[i].key = kvs ag y.1 := by
      have := congrArg (·[i]?) hkeys
      simpa [hims, hil, hiy] using this
    have hvr : Rel ρ w Z y.2 ms[i].val := by
      have := hrel.at_ i (by simpa using hims)
      simpa [List.getD_eq_getElem?_getD, hims, hil, hiy] using this
    have hrun := run_entry_at (P := P) w (ρ.blk q) (ρ.blk n) ck _ ms ck ms[i] hri hh (by simp) (hp'.imp (fun h => Nat.ne_of_lt h))
    refine ⟨.tuple #[ms[i].key, ms[i].val], by simp [execOp, ho, hxv, hrun], .mk_tup (.cons (by rw [hkey]; exact keyOut_rel _ _) (.cons hvr .nil))⟩
end
end Go.Sy

/-
  Operations that make or write memory. Plain theorems.
-/
import Derived.Test.YtkjjihicaefmcaaDoorSyC
import Derived.Laws.OwnMore
set_option linter.unusedVariables false
set_option linter.unusedSimpArgs false
set_option linter.unusedSectionVars false
namespace Go.Sy
open Go Go.RowKit
theorem HSat.new {K : Ctx} {ρ : Env} {Z : Nat → Prop} {H : Heap} {w w' : World} (h : HSat K ρ Z H w) {nm : Nat} (hn : ¬ ρ.live nm) {o : Ob} {x : Obj} {vl : Value} {vr : Nat}
    (hw : w'.heap = w.heap.push x) (hos : w'.os = w.os) (htp : w'.tape = w.tape) (hout : w'.output = w.output)
    (hat : o.at_ { live := fun n => ρ.live n ∨ n = nm, blk := upd ρ.blk nm w.heap.size, val := upd ρ.val nm vl, ver := upd ρ.ver nm vr } w' Z nm)
    (hb : ∀ b, o.blk { live := fun n => ρ.live n ∨ n = nm, blk := upd ρ.blk nm w.heap.size, val := upd ρ.val nm vl, ver := upd ρ.ver nm vr } nm = some b → b = w.heap.size) :
    ∃ ρ' : Env, ρ'.blk nm = w.heap.size ∧ ρ'.val nm = vl ∧ ρ'.ver nm = vr ∧ (∀ n, ρ'.live n ↔ ρ.live n ∨ n = nm) ∧ Ext ρ Z w ρ' Z w' ∧ HSat K ρ' Z (upd H nm (some o)) w' := by
  have hold : ∀ b, b < w.heap.size → w'.heap[b]? = w.heap[b]? := fun b hb' => by rw [hw, Array.getElem?_push, if_neg (Nat.ne_of_lt hb')]
  have hsz : w'.heap.size = w.heap.size + 1 := by rw [hw]; simp
  let ρ' : Env := { live := fun n => ρ.live n ∨ n = nm, blk := upd ρ.blk nm w.heap.size, val := upd ρ.val nm vl, ver := upd ρ.ver nm vr }
  have hne : ∀ n, ρ.live n → n ≠ nm := fun n hl e => hn (e ▸ hl)
  have hle : ρ.le ρ' := ⟨fun n hl => .inl hl, fun n hl => upd_ne _ _ _ _ (hne n hl), fun n hl => by show ρ.ver n ≤ upd ρ.ver nm vr n; rw [upd_ne _ _ _ _ (hne n hl)]; exact Nat.le_refl _, fun n hl _ => upd_ne _ _ _ _ (hne n hl)⟩
  have hx : Ext ρ Z w ρ' Z w' := ⟨hle, fun _ hz => hz, fun b hz => hold b (h.Zlt b hz)⟩
  have hkeep : ∀ n o, H n = some o → o.blk ρ' n = o.blk ρ n := fun n o ho => by
    have hl := (h.obj n o ho).1
    have e1 : ρ'.blk n = ρ.blk n := hle.blk n hl
    have e2 : ρ'.val n = ρ.val n := upd_ne _ _ _ _ (hne n hl)
    cases o <;> simp [Ob.blk, e1, e2]
  refine ⟨ρ', upd_same _ _ _, upd_same _ _ _, upd_same _ _ _, fun n => Iff.rfl, hx, ⟨hos.trans h.os, htp.trans h.tape, hout.trans h.output, by have := h.size; omega, h.Zmono, fun b hz => by have := h.Zlt b hz; omega,
    fun b hz => (hold b (h.Zlt b (h.Zmono b hz))).trans (h.same b hz), ?_, ?_, ?_, ?_⟩⟩
  case refine_4 =>
    obtain ⟨nx, hnx⟩ := h.bd
    refine ⟨max nx (nm + 1), fun n hl => ?_⟩
    rcases hl with hl | hl
    · have := hnx n hl; omega
    · omega
  · intro n o' ho'
    by_cases e : n = nm
    · subst e
      rw [upd_same] at ho'
      cases ho'
      exact ⟨.inr rfl, hat⟩
    · rw [upd_ne _ _ _ _ e] at ho'
      obtain ⟨h1, h2⟩ := h.obj n o' ho'
      exact ⟨.inl h1, Ob.at_mono h2 (fun b hb' => hold b (h.own n o' b ho' hb').2) hx.same hx.mono hle (hle.blk n h1) (upd_ne _ _ _ _ e) (upd_ne _ _ _ _ e)⟩
  · intro n o' b ho' hb'
    by_cases e : n = nm
    · subst e
      rw [upd_same] at ho'
      cases ho'
      have := hb b hb'
      subst this
      exact ⟨fun hz => by have := h.Zlt _ hz; omega, by omega⟩
    · rw [upd_ne _ _ _ _ e] at ho'
      rw [hkeep n o' ho'] at hb'
      have := h.own n o' b ho' hb'
      exact ⟨this.1, by omega⟩
  · intro n m o1 o2 b h1 h2 b1 b2
    by_cases e1 : n = nm <;> by_cases e2 : m = nm
    · omega
    · subst e1
      rw [upd_same] at h1
      cases h1
      rw [upd_ne _ _ _ _ e2] at h2
      rw [hkeep m o2 h2] at b2
      have := (h.own m o2 b h2 b2).2
      have := hb b b1
      omega
    · subst e2
      rw [upd_same] at h2
      cases h2
      rw [upd_ne _ _ _ _ e1] at h1
      rw [hkeep n o1 h1] at b1
      have := (h.own n o1 b h1 b1).2
      have := hb b b2
      omega
    · rw [upd_ne _ _ _ _ e1] at h1
      rw [upd_ne _ _ _ _ e2] at h2
      rw [hkeep n o1 h1] at b1
      rw [hkeep m o2 h2] at b2
      exact h.inj n m o1 o2 b h1 h2 b1 b2
theorem HSat.set {K : Ctx} {ρ ρ' : Env} {Z : Nat → Prop} {H : Heap} {w w' : World} (h : HSat K ρ Z H w) {n : Nat} {o o' : Ob} (ho : H n = some o)
    (hle : ρ.le ρ') (hlv : ∀ m, ρ'.live m → ρ.live m) (hoth : ∀ m, m ≠ n → ρ'.val m = ρ.val m ∧ ρ'.ver m = ρ.ver m ∧ ρ'.blk m = ρ.blk m)
    (hos : w'.os = w.os) (htp : w'.tape = w.tape) (hout : w'.output = w.output) (hsz : w.heap.size ≤ w'.heap.size)
    (hold : ∀ b, b < w.heap.size → o.blk ρ n ≠ some b → w'.heap[b]? = w.heap[b]?)
    (hat : o'.at_ ρ' w' Z n) (hb : ∀ b, o'.blk ρ' n = some b → o.blk ρ n = some b ∨ (w.heap.size ≤ b ∧ b < w'.heap.size)) :
    Ext ρ Z w ρ' Z w' ∧ HSat K ρ' Z (upd H n (some o')) w' := by
  have hz : ∀ b, Z b → w'.heap[b]? = w.heap[b]? := fun b hz => hold b (h.Zlt b hz) (fun e => (h.own n o b ho e).1 hz)
  have hx : Ext ρ Z w ρ' Z w' := ⟨hle, fun _ hz => hz, hz⟩
  have hkeep : ∀ (m : Nat) (o1 : Ob), m ≠ n → o1.blk ρ' m = o1.blk ρ m := fun m o1 hm => by
    obtain ⟨e1, _, e2⟩ := hoth m hm
    cases o1 <;> simp [Ob.blk, e1, e2]
  refine ⟨hx, ⟨hos.trans h.os, htp.trans h.tape, hout.trans h.output, Nat.le_trans h.size hsz, h.Zmono, fun b hb' => Nat.lt_of_lt_of_le (h.Zlt b hb') hsz, fun b hb' => (hz b (h.Zmono b hb')).trans (h.same b hb'), ?_, ?_, ?_, ?_⟩⟩
  case refine_4 => obtain ⟨nx, hnx⟩ := h.bd; exact ⟨nx, fun n hl => hnx n (hlv n hl)⟩
  · intro m o1 h1
    by_cases e : m = n
    · subst e
      rw [upd_same] at h1
      cases h1
      exact ⟨hle.live _ (h.obj _ _ ho).1, hat⟩
    · rw [upd_ne _ _ _ _ e] at h1
      obtain ⟨h2, h3⟩ := h.obj m o1 h1
      obtain ⟨e1, e2, e3⟩ := hoth m e
      exact ⟨hle.live _ h2, Ob.at_mono h3 (fun b hb' => hold b (h.own m o1 b h1 hb').2 (fun eb => e (h.inj m n o1 o b h1 ho hb' eb))) hx.same hx.mono hle e3 e1 e2⟩
  · intro m o1 b h1 hb1
    by_cases e : m = n
    · subst e
      rw [upd_same] at h1
      cases h1
      rcases hb b hb1 with h2 | h2
      · have := h.own _ _ b ho h2
        exact ⟨this.1, by omega⟩
      · exact ⟨fun hz' => by have := h.Zlt _ hz'; omega, h2.2⟩
    · rw [upd_ne _ _ _ _ e] at h1
      rw [hkeep m o1 e] at hb1
      have := h.own m o1 b h1 hb1
      exact ⟨this.1, by omega⟩
  · have cross : ∀ (m : Nat) (o1 : Ob) (b : Nat), m ≠ n → H m = some o1 → o1.blk ρ m = some b → o'.blk ρ' n = some b → False := fun m o1 b hm h1 hb1 hb2 => by
      rcases hb b hb2 with h2 | h2
      · exact hm (h.inj m n o1 o b h1 ho hb1 h2)
      · have := (h.own m o1 b h1 hb1).2
        omega
    intro m1 m2 o1 o2 b h1 h2 b1 b2
    by_cases e1 : m1 = n <;> by_cases e2 : m2 = n
    · omega
    · subst e1
      rw [upd_same] at h1
      cases h1
      rw [upd_ne _ _ _ _ e2] at h2
      rw [hkeep m2 o2 e2] at b2
      exact (cross m2 o2 b e2 h2 b2 b1).elim
    · subst e2
      rw [upd_same] at h2
      cases h2
      rw [upd_ne _ _ _ _ e1] at h1
      rw [hkeep m1 o1 e1] at b1
      exact (cross m1 o1 b e1 h1 b1 b2).elim
    · rw [upd_ne _ _ _ _ e1] at h1
      rw [upd_ne _ _ _ _ e2] at h2
      rw [hkeep m1 o1 e1] at b1
      rw [hkeep m2 o2 e2] at b2
      exact h.inj m1 m2 o1 o2 b h1 h2 b1 b2
section
variable {P : Program} {o : Oper}
theorem ORule.newVar {pre : List (Operand × D)} {nm : Nat} {cs : List D} {T : TypeId}
    (h : ∀ (ρ : Env) (w : World) (Z : Nat → Prop) (a : Act), (∀ x ∈ pre, Rel ρ w Z x.2 (a.eval x.1)) →
      ∃ vs : Array Value, (execOp a.eval o).run P w = .ok (.value (.pointer (some ⟨w.heap.size, 0, none⟩))) (w.alloc (.cells vs T)) ∧ RelL ρ w Z cs vs.toList) :
    ORule P o pre [] (.ptr nm 0) { new := [(nm, .var cs T)] } := by
  intro K N ρ Z S a w Q K' hS hpre _ hf hd hK
  obtain ⟨vs, h1, h2⟩ := h ρ w Z a (fun x hx => by rw [← hpre x hx]; exact hS.ev x.1)
  have hn : ¬ ρ.live nm := fun hl => hf nm _ (List.mem_cons_self) (hS.live nm hl)
  have hle : ρ.le { live := fun n => ρ.live n ∨ n = nm, blk := upd ρ.blk nm w.heap.size, val := upd ρ.val nm undef, ver := upd ρ.ver nm 0 } := by
    have hne : ∀ n, ρ.live n → n ≠ nm := fun n hl e => hn (e ▸ hl)
    exact ⟨fun n hl => .inl hl, fun n hl => upd_ne _ _ _ _ (hne n hl), fun n hl => by show ρ.ver n ≤ upd ρ.ver nm 0 n; rw [upd_ne _ _ _ _ (hne n hl)]; exact Nat.le_refl _, fun n hl _ => upd_ne _ _ _ _ (hne n hl)⟩
  obtain ⟨ρ', e1, e2, e3, hl, hx, hm⟩ := hS.mem.new (w' := w.alloc (.cells vs T)) (nm := nm) hn (o := .var cs T) (x := .cells vs T) (vl := undef) (vr := 0) rfl rfl rfl rfl
    ⟨vs, by show (w.heap.push _)[upd ρ.blk nm w.heap.size nm]? = _; rw [upd_same]; simp, h2.mono (fun b hz => by show (w.heap.push _)[b]? = _; rw [Array.getElem?_push, if_neg (Nat.ne_of_lt (hS.mem.Zlt b hz))]) (fun _ hz => hz) hle⟩
    (fun b hb => by simp only [Ob.blk, upd_same, Option.some.injEq] at hb; exact hb.symm)
  unfold Oper.wp
  rw [h1]
  refine hK ρ' Z _ _ (hS.put hd hx (by rw [← e1]; exact .ptr ((hl nm).2 (.inr rfl))) hm (fun n hn' => ?_)) hx
  rcases (hl n).1 hn' with h | h
  · exact .inl (hS.live n h)
  · exact .inr ⟨_, by subst h; exact List.mem_cons_self⟩
theorem rule_alloc {t nm : Nat} {z : List D} (ho : o.op = .alloc t) (hz : tyZero P t = some z) : ORule P o [] [] (.ptr nm 0) { new := [(nm, .var z t)] } :=
  .newVar fun ρ w Z a _ => by
    obtain ⟨v, h1, h2⟩ := tyZero_run hz w
    refine ⟨v.cells, by simp [execOp, ho, Instr.alloc, h1, newVar, newRow], by rw [← h2]; exact relL_ofV1 _⟩
theorem rule_box {x : Operand} {t nm : Nat} {d : D} {l : List D} (ho : o.op = .box t x) (hl : d.cells = some l) : ORule P o [(x, d)] [] (.ptr nm 0) { new := [(nm, .var l t)] } :=
  .newVar fun ρ w Z a hp => ⟨(a.eval x).cells, by simp [execOp, ho, Instr.box, newVar, newRow], rel_cells (hp (x, d) (by simp)) hl⟩
end
def D.one : D → Bool
  | .junk | .agg _ | .tup _ => false
  | .c (.v x) => x.oneCell'
  | _ => true
theorem Rel.one {ρ : Env} {w : World} {Z : Nat → Prop} {d : D} {v : Value} (h : Rel ρ w Z d v) (h1 : d.one = true) : v.oneCell' = true := by
  cases h <;> first | rfl | (simp [D.one] at h1; done) | skip
  case c x h => cases h <;> first | rfl | exact h1
theorem RelL.one {ρ : Env} {w : World} {Z : Nat → Prop} {l : List D} {vs : List Value} (h : RelL ρ w Z l vs) (h1 : l.all D.one = true) : ∀ v ∈ vs, v.oneCell' = true := by
  intro v hv
  obtain ⟨i, hi, rfl⟩ := List.getElem_of_mem hv
  have := h.at_ i hi
  have hi' : i < l.length := by rw [h.len]; exact hi
  simp only [List.getD_eq_getElem?_getD, List.getElem?_eq_getElem hi, List.getElem?_eq_getElem hi', Option.getD_some] at this
  exact this.one (List.all_eq_true.1 h1 _ (List.getElem_mem hi'))
theorem RelL.take {ρ : Env} {w : World} {Z : Nat → Prop} {l : List D} {vs : List Value} (h : RelL ρ w Z l vs) (k : Nat) : RelL ρ w Z (l.take k) (vs.take k) := by
  refine ⟨by simp [h.len], fun i hi => ?_⟩
  simp only [List.length_take] at hi
  have := h.at_ i (by omega)
  simpa [List.getD_eq_getElem?_getD, List.getElem?_take, show i < k by omega] using this
theorem RelL.drop {ρ : Env} {w : World} {Z : Nat → Prop} {l : List D} {vs : List Value} (h : RelL ρ w Z l vs) (k : Nat) : RelL ρ w Z (l.drop k) (vs.drop k) := by
  refine ⟨by simp [h.len], fun i hi => ?_⟩
  simp only [List.length_drop] at hi
  have := h.at_ (k + i) (by omega)
  simpa [List.getD_eq_getElem?_getD, List.getElem?_drop] using this
def putD (cs : List D) (off : Nat) (l : List D) : List D := cs.take off ++ l ++ cs.drop (off + l.length)
theorem RelL.put {ρ : Env} {w : World} {Z : Nat → Prop} {l l' : List D} {vs us : List Value} (h : RelL ρ w Z l vs) (h' : RelL ρ w Z l' us) (off : Nat) : RelL ρ w Z (putD l off l') (vs.take off ++ us ++ vs.drop (off + us.length)) := by
  unfold putD
  rw [h'.len]
  exact ((h.take off).append h').append (h.drop _)
section
variable {P : Program} {o : Oper}
theorem run_storeVar_cells {t sz g off T : Nat} {cur : Array Value} {v : Value} {w : World} (hs : tySz P t = some sz) (hg : w.heap[g]? = some (.cells cur T (0, 0))) (hv : v.cells.size = sz) (hle : off + sz ≤ cur.size) (h1 : ∀ u ∈ v.cells.toList, u.oneCell' = true) :
    (storeVar t ⟨g, off, none⟩ v).run P w = .ok () (w.setRow g (cur.toList.take off ++ v.cells.toList ++ cur.toList.drop (off + v.cells.toList.length)).toArray) := by
  have := run_storeCells_at (P := P) g off T v.cells.toList 0 cur w hg (by simp; omega) h1
  simp only [Nat.add_zero] at this
  simp only [storeVar, Sem.run_bind, tySz_run hs, Result.andThen_ok, hv, ne_eq, not_true_eq_false, if_false]
  exact this
theorem rule_store_ptr {x y : Operand} {t n off sz : Nat} {cs l : List D} {T : TypeId} {d : D} (ho : o.op = .store t x y) (hs : tySz P t = some sz) (hl : d.cells = some l) (hsz : l.length = sz) (h1 : l.all D.one = true) (hle : off + sz ≤ cs.length) :
    ORule P o [(x, .ptr n off), (y, d)] [(n, .var cs T)] .junk { set := [(n, .var (putD cs off l) T)] } := by
  intro K N ρ Z S a w Q K' hS hpre hrd hf hd hK
  have hx : Rel ρ w Z (.ptr n off) (a.eval x) := by have := hS.ev x; rwa [hpre (x, .ptr n off) (by simp)] at this
  have hy : Rel ρ w Z d (a.eval y) := by have := hS.ev y; rwa [hpre (y, d) (by simp)] at this
  have ho' := hrd (n, .var cs T) (by simp)
  obtain ⟨hlive, vs, hh, hrel⟩ := hS.mem.obj _ _ ho'
  obtain ⟨hv, _⟩ := hx.inv_ptr
  have hcl := rel_cells hy hl
  have hlen := hrel.len
  have hln := hcl.len
  simp only [Array.length_toList] at hlen hln
  have hst := run_storeVar_cells (P := P) (t := t) (sz := sz) (off := off) (v := a.eval y) hs hh (by omega) (by omega) (hcl.one h1)
  obtain ⟨hxt, hm⟩ := hS.mem.set (n := n) ho' (ρ' := ρ) (w' := w.setRow (ρ.blk n) (vs.toList.take off ++ (a.eval y).cells.toList ++ vs.toList.drop (off + (a.eval y).cells.toList.length)).toArray)
    (o' := .var (putD cs off l) T) (.refl _) (fun _ h => h) (fun _ _ => ⟨rfl, rfl, rfl⟩) rfl rfl rfl (by simp [World.setRow])
    (fun b hb hne => setRow_other w _ b _ (fun e => hne (by rw [e]; rfl)))
    ⟨_, setRow_heap w _ _ _ _ _ hh, by
      have := hrel.put hcl off
      exact this.mono (fun b hz => setRow_other w _ b _ (fun e => (hS.mem.own _ _ (ρ.blk n) ho' rfl).1 (e ▸ hz))) (fun _ h => h) (.refl _)⟩
    (fun b hb => .inl hb)
  unfold Oper.wp
  have hrun : (execOp a.eval o).run P w = .ok .skip (w.setRow (ρ.blk n) (vs.toList.take off ++ (a.eval y).cells.toList ++ vs.toList.drop (off + (a.eval y).cells.toList.length)).toArray) := by
    simp [execOp, ho, hv, Instr.storeAt, Instr.sureAddr, hst]
  rw [hrun]
  exact hK ρ Z _ _ (hS.put hd hxt (.junk _) hm (fun n hn => .inl (hS.live n hn))) hxt
end
end Go.Sy

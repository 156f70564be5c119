/-
  The operations, one by one: the first part (no calls, no maps). Plain theorems.
-/
import Derived.Test.YtkjjihicaefmcaaDoorSyB
import Derived.Laws.Tables
import Derived.Laws.IdiomCopy
import Derived.Great.BuildSlice
import Derived.Laws.Bits
set_option linter.unusedVariables false
set_option linter.unusedSimpArgs false
set_option linter.unusedSectionVars false
namespace Go.Sy
open Go Go.RowKit
inductive TK where
  | int (k : IntKind) | bool | str | slice (e : TypeId) | arr (n : Nat) (e : TypeId) | struct (fs : List (Nat × TypeId)) | ptr (e : TypeId) | map (k v : TypeId) | plain | none
def tyK (P : Program) (t : TypeId) : TK :=
  match P.underlying t with
  | some (.int k) => .int k
  | some .bool => .bool
  | some .string => .str
  | some (.slice e) => .slice e
  | some (.array n e) => .arr n e
  | some (.struct fs) => .struct (fs.toList.map fun f => (f.offset, f.type))
  | some (.pointer e) => .ptr e
  | some (.map k e) => .map k e
  | some _ => .plain
  | Option.none => .none
def tySz (P : Program) (t : TypeId) : Option Nat := (P.info? t).map (·.size)
def tyBytes (P : Program) (t : TypeId) : Option Nat := (P.info? t).map (·.bytes)
def tyZero (P : Program) (t : TypeId) : Option (List D) := (P.info? t).bind fun i => i.zero.map fun z => z.cells.toList.map D.v
def TK.isAgg : TK → Option Bool
  | .struct _ | .arr _ _ => some true
  | .none => Option.none
  | _ => some false
section
variable {P : Program}
theorem tyK_slice {t e : TypeId} (h : tyK P t = .slice e) : P.underlying t = some (.slice e) := by
  unfold tyK at h; split at h <;> simp_all
theorem tyK_arr {t e : TypeId} {n : Nat} (h : tyK P t = .arr n e) : P.underlying t = some (.array n e) := by
  unfold tyK at h; split at h <;> simp_all
theorem tyK_struct {t : TypeId} {fs : List (Nat × TypeId)} (h : tyK P t = .struct fs) : ∃ l : Array Field, P.underlying t = some (.struct l) ∧ l.toList.map (fun f => (f.offset, f.type)) = fs := by
  unfold tyK at h; split at h <;> simp_all
theorem tyK_int {t : TypeId} {k : IntKind} (h : tyK P t = .int k) : P.underlying t = some (.int k) := by
  unfold tyK at h; split at h <;> simp_all
theorem tyK_str {t : TypeId} (h : tyK P t = .str) : P.underlying t = some .string := by
  unfold tyK at h; split at h <;> simp_all
theorem tyK_map {t k e : TypeId} (h : tyK P t = .map k e) : P.underlying t = some (.map k e) := by
  unfold tyK at h; split at h <;> simp_all
theorem tyK_isAgg {t : TypeId} {b : Bool} (h : (tyK P t).isAgg = some b) (w : World) : (isAgg t).run P w = .ok b w := by
  unfold tyK at h
  unfold isAgg
  cases hu : P.underlying t with
  | none => simp [hu, TK.isAgg] at h
  | some d =>
    rw [hu] at h
    cases d <;> simp [TK.isAgg] at h <;> subst h <;> simp [run_underlying hu]
theorem tySz_run {t : TypeId} {n : Nat} (h : tySz P t = some n) (w : World) : (sizeOf t).run P w = .ok n w := by
  unfold tySz at h
  obtain ⟨i, hi, hs⟩ := Option.map_eq_some_iff.1 h
  simp [sizeOf, typeInfo, hi, hs]
theorem tyZero_run {t : TypeId} {l : List D} (h : tyZero P t = some l) (w : World) : ∃ z : Value, (zeroValue t).run P w = .ok z w ∧ z.cells.toList.map D.v = l := by
  unfold tyZero at h
  cases hi : P.info? t with
  | none => simp [hi] at h
  | some i =>
    cases hz : i.zero with
    | none => simp [hi, hz] at h
    | some z =>
      refine ⟨z, by simp [zeroValue, typeInfo, hi, hz], by simpa [hi, hz] using h⟩
end
theorem relL_ofV1 {ρ : Env} {w : World} {Z : Nat → Prop} (vs : List Value) : RelL ρ w Z (vs.map D.v) vs := by
  refine ⟨by simp, fun i hi => ?_⟩
  have : (vs.map D.v).getD i default = D.v (vs.getD i undef) := by simp [List.getD_eq_getElem?_getD, hi]
  rw [this]
  exact rel_ofV1 _
def D.cells : D → Option (List D)
  | .agg l => some l
  | .c (.v x) => if x.oneCell' then some [.c (.v x)] else none
  | .tup _ => none
  | .junk => none
  | d => some [d]
theorem rel_cells {ρ : Env} {w : World} {Z : Nat → Prop} {d : D} {v : Value} {l : List D} (h : Rel ρ w Z d v) (hl : d.cells = some l) : RelL ρ w Z l v.cells.toList := by
  cases h with
  | junk v => simp [D.cells] at hl
  | agg h1 h3 =>
    simp only [D.cells, Option.some.injEq] at hl
    subst hl
    obtain ⟨vs, e, hr⟩ := (Rel.agg h1 h3).inv_agg
    cases e
    exact hr
  | tup h1 h3 => simp [D.cells] at hl
  | @c x v h =>
    cases h with
    | v x =>
      simp only [D.cells] at hl
      split at hl
      · rename_i h1
        simp only [Option.some.injEq] at hl
        subst hl
        cases v <;> first | (simp [Value.oneCell'] at h1; done) | exact RelL.cons (.c (.v _)) .nil
      · cases hl
    | ro A c sz us hn hnc hsz hA hc hr =>
      simp only [D.cells, Option.some.injEq] at hl
      subst hl
      exact RelL.cons (.c (.ro A c sz us hn hnc hsz hA hc hr)) .nil
  | ptr h => simp only [D.cells, Option.some.injEq] at hl; subst hl; exact RelL.cons (.ptr h) .nil
  | rp b o us hz hc hr => simp only [D.cells, Option.some.injEq] at hl; subst hl; exact RelL.cons (.rp b o us hz hc hr) .nil
  | rptr p h hle hv => simp only [D.cells, Option.some.injEq] at hl; subst hl; exact RelL.cons (.rptr p h hle hv) .nil
  | own A l c h hle hv => simp only [D.cells, Option.some.injEq] at hl; subst hl; exact RelL.cons (.own A l c h hle hv) .nil
  | lit A h => simp only [D.cells, Option.some.injEq] at hl; subst hl; exact RelL.cons (.lit A h) .nil
  | mp h => simp only [D.cells, Option.some.injEq] at hl; subst hl; exact RelL.cons (.mp h) .nil
  | st x h hle hv => simp only [D.cells, Option.some.injEq] at hl; subst hl; exact RelL.cons (.st x h hle hv) .nil
  | fn h1 h2 h3 h4 => simp only [D.cells, Option.some.injEq] at hl; subst hl; exact RelL.cons (.fn h1 h2 h3 h4) .nil
section
variable {P : Program} {o : Oper}
theorem rule_move {x : Operand} {d : D} (ho : o.op = .move x ∨ o.op = .assign x) : ORule P o [(x, d)] [] d .none :=
  .stay fun ρ w Z a hp _ => ⟨a.eval x, by rcases ho with ho | ho <;> simp [execOp, ho], hp (x, d) (by simp)⟩
theorem rule_pick {c x y : Operand} {t : Bool} {dx dy : D} (ho : o.op = .pick c x y) : ORule P o [(c, .bool t), (x, dx), (y, dy)] [] (if t then dx else dy) .none :=
  .stay fun ρ w Z a hp _ => by
    have hc := (hp (c, .bool t) (by simp)).inv_v
    refine ⟨if t then a.eval x else a.eval y, by cases t <;> simp [execOp, ho, hc, asBool], ?_⟩
    cases t
    · exact hp (y, dy) (by simp)
    · exact hp (x, dx) (by simp)
theorem rule_extract {x : Operand} {i : Nat} {l : List D} (ho : o.op = .extract x i) (hi : i < l.length) : ORule P o [(x, .tup l)] [] (l.getD i default) .none :=
  .stay fun ρ w Z a hp _ => by
    obtain ⟨vs, e, hr⟩ := (hp (x, .tup l) (by simp)).inv_tup
    have hlt : i < vs.size := by have := hr.len; simp at this; omega
    refine ⟨vs.getD i undef, by simp at e; simp [execOp, ho, e, Instr.extract, hlt], by simpa using hr.at_ i (by simpa using hlt)⟩
theorem rule_makeFunc {f : Fn} {first caps : Array Operand} (env : Nat → D) (ho : o.op = .makeFunc f first caps) :
    ORule P o ((first ++ caps).toList.map fun x => (x, evE env x)) [] (.fn f (first.toList.map (evE env)) (caps.toList.map (evE env))) .none :=
  .stay fun ρ w Z a hp _ => by
    refine ⟨_, by simp only [execOp, ho, Instr.makeFunc]; rfl, .fn (by simp) (by simp) (fun i hi => ?_) (fun i hi => ?_)⟩
    · simp at hi
      have := hp (first[i], evE env first[i]) (by simp; exact .inl ⟨first[i], by simp, rfl, rfl⟩)
      simpa [List.getD_eq_getElem?_getD, Array.getD_eq_getD_getElem?, hi] using this
    · simp at hi
      have := hp (caps[i], evE env caps[i]) (by simp; exact .inr ⟨caps[i], by simp, rfl, rfl⟩)
      simpa [List.getD_eq_getElem?_getD, Array.getD_eq_getD_getElem?, hi] using this
theorem rule_nilCheck {x : Operand} {d : D} (ho : o.op = .nilCheck x) (hd : match d with | .ptr .. | .rp .. => True | _ => False) : ORule P o [(x, d)] [] d .none :=
  .stay fun ρ w Z a hp _ => by
    have h : Rel ρ w Z d (a.eval x) := hp (x, d) (by simp)
    refine ⟨a.eval x, ?_, h⟩
    generalize hv : a.eval x = v at h
    cases h <;> first | (simp [execOp, ho, hv]; done) | simp at hd
theorem cell_of {w : World} {b : Nat} {vs : Array Value} {T : TypeId} {fr : Nat × Nat} (h : w.heap[b]? = some (.cells vs T fr)) (k : Nat) : w.cell? ⟨b, k, none⟩ = vs[k]? := by
  simp [World.cell?, h]
def loadD (k : TK) (sz : Nat) (cs : List D) (off : Nat) : Option D :=
  match k.isAgg with
  | some true => if off + sz ≤ cs.length then some (.agg ((cs.drop off).take sz)) else none
  | some false => if off < cs.length then some (cs.getD off default) else none
  | none => none
theorem run_load {ρ : Env} {w : World} {Z : Nat → Prop} {cs : List D} {off b o' t sz : Nat} {d : D} (us : Nat → Value) (hc : ∀ j, j < cs.length → w.cell? ⟨b, o' + j, none⟩ = some (us j)) (hr : ∀ j, j < cs.length → Rel ρ w Z (cs.getD j default) (us j))
    (hs : tySz P t = some sz) (hd : loadD (tyK P t) sz cs off = some d) :
    ∃ v, (Instr.loadAt t (.pointer (some ⟨b, o' + off, none⟩))).run P w = .ok v w ∧ Rel ρ w Z d v := by
  unfold loadD at hd
  split at hd
  · rename_i hk
    split at hd
    · rename_i hle
      cases hd
      have hl := run_loadCells_list (P := P) (w := w) ⟨b, o' + off, none⟩ ((List.range sz).map fun j => us (off + j)) (fun j v hj => by
        simp only [List.getElem?_map, Option.map_eq_some_iff] at hj
        obtain ⟨m, hm, rfl⟩ := hj
        obtain ⟨hlt, rfl⟩ := List.getElem?_eq_some_iff.1 hm
        simp only [List.length_range] at hlt
        simp only [List.getElem_range]
        rw [Addr.add_lit, Nat.add_assoc]
        exact hc _ (by omega))
      refine ⟨_, by simp [Instr.loadAt, Instr.sureAddr, loadVar, tyK_isAgg hk, tySz_run hs]; simp at hl; rw [hl]; rfl, Rel.mk_agg ⟨by simp; omega, fun i hi => ?_⟩⟩
      have := hr (off + i) (by simp at hi; omega)
      simp at hi
      simpa [List.getD_eq_getElem?_getD, hi] using this
    · cases hd
  · rename_i hk
    split at hd
    · rename_i hle
      cases hd
      refine ⟨us off, ?_, hr _ hle⟩
      have := hc off hle
      simp [Instr.loadAt, Instr.sureAddr, loadVar, tyK_isAgg hk, load, Sem.run, this]
    · cases hd
  · cases hd
theorem rule_load_ptr {x : Operand} {t n off sz : Nat} {cs : List D} {T : TypeId} {d : D} (ho : o.op = .load t x) (hs : tySz P t = some sz) (hd : loadD (tyK P t) sz cs off = some d) :
    ORule P o [(x, .ptr n off)] [(n, .var cs T)] d .none :=
  .stay fun ρ w Z a hp hr => by
    obtain ⟨hv, hlive⟩ := (hp (x, .ptr n off) (by simp)).inv_ptr
    obtain ⟨_, vs, hh, hrel⟩ := hr (n, .var cs T) (by simp)
    have hlen := hrel.len
    simp at hlen
    have hcells : ∀ j, j < cs.length → w.cell? ⟨ρ.blk n, 0 + j, none⟩ = some (vs.getD j undef) := fun j hj => by
      have hj' : j < vs.size := by omega
      rw [cell_of hh]
      simp [hj']
    obtain ⟨v, h1, h2⟩ := run_load (P := P) (ρ := ρ) (Z := Z) (o' := 0) (b := ρ.blk n) (w := w) (fun j => vs.getD j undef) (cs := cs) (off := off) (t := t) hcells
      (fun j hj => by simpa using hrel.at_ j (by simpa [hlen] using hj)) hs hd
    simp at hv
    refine ⟨v, ?_, h2⟩
    simp at h1
    simp [execOp, ho, hv, h1]
theorem rule_load_rp {x : Operand} {t off sz : Nat} {cs : List C} {d : D} (ho : o.op = .load t x) (hs : tySz P t = some sz) (hd : loadD (tyK P t) sz (cs.map D.c) off = some d) :
    ORule P o [(x, .rp cs off)] [] d .none :=
  .stay fun ρ w Z a hp hr => by
    have h : Rel ρ w Z (.rp cs off) (a.eval x) := hp (x, .rp cs off) (by simp)
    generalize hv : a.eval x = v0 at h
    cases h with
    | rp b o' us hz hc hr =>
      obtain ⟨v, h1, h2⟩ := run_load (P := P) (ρ := ρ) (Z := Z) (o' := o') (b := b) (w := w) us (cs := cs.map D.c) (off := off) (t := t) (fun j hj => hc j (by simpa using hj))
        (fun j hj => by have := hr j (by simpa using hj); simp at hj; simpa [List.getD_eq_getElem?_getD, hj] using Rel.c (ρ := ρ) this) hs hd
      exact ⟨v, by simp [execOp, ho, hv, h1], h2⟩
theorem TK_struct_field {t f off : Nat} {fs : List (Nat × TypeId)} {ft : TypeId} (h : tyK P t = .struct fs) (hf : fs[f]? = some (off, ft)) : ∃ (l : Array Field) (fd : Field), P.underlying t = some (.struct l) ∧ l[f]? = some fd ∧ fd.offset = off ∧ fd.type = ft := by
  obtain ⟨l, hu, rfl⟩ := tyK_struct h
  simp only [List.getElem?_map, Option.map_eq_some_iff] at hf
  obtain ⟨fd, h1, h2⟩ := hf
  exact ⟨l, fd, hu, by simpa using h1, by simp at h2; exact h2.1, by simp at h2; exact h2.2⟩
theorem run_fieldAt {t f fo sz : Nat} {fs : List (Nat × TypeId)} {ft : TypeId} {b k : Nat} (w : World) (h : tyK P t = .struct fs) (hf : fs[f]? = some (fo, ft)) (hs : tySz P ft = some sz) (h0 : sz ≠ 0) :
    (Instr.fieldAt t (.pointer (some ⟨b, k, none⟩)) f).run P w = .ok (.pointer (some ⟨b, k + fo, none⟩)) w := by
  obtain ⟨l, fd, hu, h1, rfl, rfl⟩ := TK_struct_field h hf
  simp [Instr.fieldAt, run_underlying hu, h1, Instr.sureAddr, fieldPlace, tySz_run hs, h0, Addr.add_lit]
theorem rule_fieldAddr {x : Operand} {t f fo n off sz : Nat} {fs : List (Nat × TypeId)} {ft : TypeId} (ho : o.op = .fieldAddr t x f) (h : tyK P t = .struct fs) (hf : fs[f]? = some (fo, ft)) (hs : tySz P ft = some sz) (h0 : sz ≠ 0) :
    ORule P o [(x, .ptr n off)] [] (.ptr n (off + fo)) .none :=
  .stay fun ρ w Z a hp _ => by
    obtain ⟨hv, hl⟩ := (hp (x, .ptr n off) (by simp)).inv_ptr
    simp at hv
    exact ⟨_, by simp [execOp, ho, hv, run_fieldAt w h hf hs h0], .ptr hl⟩
theorem rule_fieldAddr_rp {x : Operand} {t f fo off sz : Nat} {cs : List C} {fs : List (Nat × TypeId)} {ft : TypeId} (ho : o.op = .fieldAddr t x f) (h : tyK P t = .struct fs) (hf : fs[f]? = some (fo, ft)) (hs : tySz P ft = some sz) (h0 : sz ≠ 0) :
    ORule P o [(x, .rp cs off)] [] (.rp cs (off + fo)) .none :=
  .stay fun ρ w Z a hp _ => by
    have hr : Rel ρ w Z (.rp cs off) (a.eval x) := hp (x, .rp cs off) (by simp)
    generalize hv : a.eval x = v at hr
    cases hr with
    | rp b o' us hz hc hr => exact ⟨_, by simp [execOp, ho, hv, run_fieldAt w h hf hs h0]; rfl, by rw [Nat.add_assoc]; exact .rp b o' us hz hc hr⟩
theorem rule_fieldAddr_rptr {x : Operand} {t f fo n ver z i off sz E : Nat} {l : List (List D)} {fs : List (Nat × TypeId)} {ft : TypeId} (ho : o.op = .fieldAddr t x f) (h : tyK P t = .struct fs) (hf : fs[f]? = some (fo, ft)) (hs : tySz P ft = some sz) (h0 : sz ≠ 0) (hi : i < l.length) :
    ORule P o [(x, .rptr n ver z i off)] [(n, .row ver E z l)] (.rptr n ver z i (off + fo)) .none :=
  .stay fun ρ w Z a hp hrd => by
    have hr : Rel ρ w Z (.rptr n ver z i off) (a.eval x) := hp (x, .rptr n ver z i off) (by simp)
    obtain ⟨hl, hver, _, xs, hown, _⟩ := hrd (n, .row ver E z l) (by simp)
    generalize hv : a.eval x = v at hr
    cases hr with
    | rptr p hl hle hval =>
      have e := hval hver.symm
      rcases hown.2 with ⟨e0, h0'⟩ | ⟨g, cap, cur, e1, _⟩
      · omega
      · simp only at e1
        rw [e1] at e
        simp only [inRow] at e
        cases e
        exact ⟨_, by simp [execOp, ho, hv, run_fieldAt w h hf hs h0]; rfl, .rptr _ hl hle (fun _ => by rw [e1, Nat.add_assoc]; rfl)⟩
theorem run_indexAt_arr {t e n sz : Nat} {b k : Nat} {kd : IntKind} {i : Int} (w : World) (h : tyK P t = .arr n e) (hs : tySz P e = some sz) (h0 : 0 ≤ i) (h1 : i < n) :
    (Instr.indexAt t (.pointer (some ⟨b, k, none⟩)) (.int kd i)).run P w = .ok (.pointer (some ⟨b, k + i.toNat * sz, none⟩)) w := by
  have hu := tyK_arr h
  simp [Instr.indexAt, run_underlying hu, Instr.sureAddr, asIntOf, h0, h1, tySz_run hs, Addr.add_lit]
theorem rule_indexAddr_arr {x y : Operand} {t e m n off sz : Nat} {kd : IntKind} {i : Int} (ho : o.op = .indexAddr t x y) (h : tyK P t = .arr m e) (hs : tySz P e = some sz) (h0 : 0 ≤ i) (h1 : i < m) :
    ORule P o [(x, .ptr n off), (y, .v (.int kd i))] [] (.ptr n (off + i.toNat * sz)) .none :=
  .stay fun ρ w Z a hp _ => by
    obtain ⟨hv, hl⟩ := (hp (x, .ptr n off) (by simp)).inv_ptr
    have hy := (hp (y, .v (.int kd i)) (by simp)).inv_v
    simp at hv hy
    exact ⟨_, by simp [execOp, ho, hv, hy, run_indexAt_arr w h hs h0 h1], .ptr hl⟩
theorem rule_indexAddr_arr_rp {x y : Operand} {t e m off sz : Nat} {cs : List C} {kd : IntKind} {i : Int} (ho : o.op = .indexAddr t x y) (h : tyK P t = .arr m e) (hs : tySz P e = some sz) (h0 : 0 ≤ i) (h1 : i < m) :
    ORule P o [(x, .rp cs off), (y, .v (.int kd i))] [] (.rp cs (off + i.toNat * sz)) .none :=
  .stay fun ρ w Z a hp _ => by
    have hr : Rel ρ w Z (.rp cs off) (a.eval x) := hp (x, .rp cs off) (by simp)
    have hy := (hp (y, .v (.int kd i)) (by simp)).inv_v
    simp at hy
    generalize hv : a.eval x = v at hr
    cases hr with
    | rp b o' us hz hc hr => exact ⟨_, by simp [execOp, ho, hv, hy, run_indexAt_arr w h hs h0 h1]; rfl, by rw [Nat.add_assoc]; exact .rp b o' us hz hc hr⟩
theorem rule_indexAddr_ro {x y : Operand} {t e n sz : Nat} {f : Nat → List C} {dx : D} {kd : IntKind} {i : Int} (ho : o.op = .indexAddr t x y) (h : tyK P t = .slice e) (hs : tySz P e = some sz) (h0 : 0 ≤ i) (h1 : i < n) (hf : (f i.toNat).length = sz) (hdx : dx.coe = .ro n f) :
    ORule P o [(x, dx), (y, .v (.int kd i))] [] (.rp (f i.toNat) 0) .none :=
  .stay fun ρ w Z a hp _ => by
    have hr : Rel ρ w Z (.ro n f) (a.eval x) := by
      have h2 := (hp (x, dx) (by simp)).coe
      simp only at h2
      rw [hdx] at h2
      exact h2
    have hy := (hp (y, .v (.int kd i)) (by simp)).inv_v
    simp at hy
    generalize hv : a.eval x = v at hr
    cases hr with
    | c hr =>
      cases hr with
      | ro A c sz' us hn hnc hsz hA hc hr =>
        have hi : i.toNat < n := by omega
        obtain ⟨ad, rfl, hz, hsp⟩ := hA (by omega)
        obtain rfl : sz' = sz := by rw [← hf]; exact (hsz _ hi).symm
        have hu := tyK_slice h
        have had : ad.add (i.toNat * sz') = ⟨ad.block, ad.off + i.toNat * sz', none⟩ := by
          unfold Addr.add
          split
          · rename_i e0
            rw [e0, ← hsp]
            rfl
          · rfl
        refine ⟨.pointer (some ⟨ad.block, ad.off + i.toNat * sz', none⟩), by simp [execOp, ho, hv, hy, Instr.indexAt, run_underlying hu, asIntOf, h0, h1, tySz_run hs, had], ?_⟩
        refine .rp ad.block (ad.off + i.toNat * sz') (fun j => us i.toNat j) hz (fun j hj => ?_) (fun j hj => hr _ hi j (by omega))
        rw [Nat.add_assoc]
        exact hc ad rfl _ hi j (by omega)
theorem rule_indexAddr_own {x y : Operand} {t e n ver sz E : Nat} {l : List (List D)} {kd : IntKind} {i : Int} (ho : o.op = .indexAddr t x y) (h : tyK P t = .slice e) (hs : tySz P e = some sz) (h0 : 0 ≤ i) (h1 : i < l.length) :
    ORule P o [(x, .own n ver), (y, .v (.int kd i))] [(n, .row ver E sz l)] (.rptr n ver sz i.toNat 0) .none :=
  .stay fun ρ w Z a hp hrd => by
    have hr : Rel ρ w Z (.own n ver) (a.eval x) := hp (x, .own n ver) (by simp)
    have hy := (hp (y, .v (.int kd i)) (by simp)).inv_v
    obtain ⟨hl, hver, _, xs, hown, _⟩ := hrd (n, .row ver E sz l) (by simp)
    simp only at hy hver
    obtain ⟨_, hval⟩ := hr.inv_own
    have e := hval hver.symm
    rcases hown.2 with ⟨e0, h0'⟩ | ⟨g, cap, cur, e1, _⟩
    · omega
    · simp only at e1
      rw [e1] at e
      have hu := tyK_slice h
      refine ⟨.pointer (some ⟨g, i.toNat * sz, none⟩), by simp [execOp, ho, e, hy, Instr.indexAt, run_underlying hu, asIntOf, h0, h1, tySz_run hs, Addr.add_lit], ?_⟩
      exact .rptr _ hl (by omega) (fun _ => by rw [e1]; rfl)
def binV (op : BinOp) (a b : Value) : Option Value :=
  match a, b with
  | .int k x, .int k' y =>
    if k = k' then
      match op with
      | .add => some (.int k (k.wrap (x + y)))
      | .sub => some (.int k (k.wrap (x - y)))
      | .mul => some (.int k (k.wrap (x * y)))
      | .and => some (.int k (k.wrap (BitVec.ofInt k.bits x &&& BitVec.ofInt k.bits y).toNat))
      | .or => some (.int k (k.wrap (BitVec.ofInt k.bits x ||| BitVec.ofInt k.bits y).toNat))
      | .xor => some (.int k (k.wrap (BitVec.ofInt k.bits x ^^^ BitVec.ofInt k.bits y).toNat))
      | .eql => some (.bool (x == y))
      | .neq => some (.bool (x != y))
      | .lss => some (.bool (decide (x < y)))
      | .leq => some (.bool (decide (x ≤ y)))
      | .gtr => some (.bool (decide (y < x)))
      | .geq => some (.bool (decide (y ≤ x)))
      | _ => none
    else none
  | .bool x, .bool y =>
    match op with
    | .eql => some (.bool (x == y))
    | .neq => some (.bool (x != y))
    | _ => none
  | .string x, .string y =>
    match op with
    | .eql => some (.bool (x.toList == y.toList))
    | .neq => some (.bool !(x.toList == y.toList))
    | _ => none
  | _, _ => none
theorem run_equal_bool {t : TypeId} {a b : Bool} (hu : P.underlying t = some .bool) (w : World) : (Op.equal t (.bool a) (.bool b)).run P w = .ok (a == b) w := by
  unfold Op.equal
  rw [show Op.maxDepth = 9999 + 1 from rfl, Op.equalIn]
  simp [run_underlying hu]
theorem run_binV {op : BinOp} {t : TypeId} {a b r : Value} (xo yo : Operand) (hk : op = .eql ∨ op = .neq → match a, b with | .bool _, .bool _ => tyK P t = .bool | _, _ => True) (h : binV op a b = some r) (w : World) :
    (do eqGuard op t xo yo a b; binOp op t a b : Sem Value).run P w = .ok r w := by
  have hb : ∀ {t}, tyK P t = TK.bool → P.underlying t = some .bool := by intro t h; unfold tyK at h; split at h <;> simp_all
  unfold binV at h
  split at h
  · rename_i k x k' y
    split at h
    · rename_i hkk
      subst hkk
      cases op <;> simp at h <;> subst h <;> simp [eqGuard, binOp, Op.intArith, Op.intCmp, Op.intBits]
    · cases h
  · rename_i x y
    cases op <;> simp at h <;> subst h
    · have hu := hb (hk (.inl rfl)); simp [eqGuard, binOp, run_equal_bool hu]
    · have hu := hb (hk (.inr rfl)); simp [eqGuard, binOp, run_equal_bool hu]
      cases x <;> cases y <;> rfl
  · cases op <;> simp at h <;> subst h <;> simp [eqGuard, binOp, Op.stringOp]
  · cases h
theorem rule_bin {x y : Operand} {op : BinOp} {t t' : TypeId} {a b r : Value} (ho : o.op = .binOp op t x y t') (hk : op = .eql ∨ op = .neq → match a, b with | .bool _, .bool _ => tyK P t = .bool | _, _ => True) (h : binV op a b = some r) :
    ORule P o [(x, .v a), (y, .v b)] [] (.v r) .none :=
  .stay fun ρ w Z ac hp _ => by
    have hx := (hp (x, .v a) (by simp)).inv_v
    have hy := (hp (y, .v b) (by simp)).inv_v
    simp at hx hy
    have := run_binV (P := P) (t := t) x y hk h w
    refine ⟨r, ?_, .c (.v _)⟩
    simp only [execOp, ho, hx, hy]
    rw [Sem.run_bind, this]
    rfl
theorem run_equal_nil {t e : TypeId} {A : Addr} {n c : Nat} (h : tyK P t = .slice e) (w : World) : (Op.equal t (.slice (some A) n c) (.slice none 0 0)).run P w = .ok false w := by
  unfold Op.equal
  rw [show Op.maxDepth = 9999 + 1 from rfl, Op.equalIn]
  simp [run_underlying (tyK_slice h)]
theorem rule_nil_ro {x y : Operand} {op : BinOp} {t t' e n : TypeId} {f : Nat → List C} (ho : o.op = .binOp op t x y t') (hop : op = .eql ∨ op = .neq) (h : tyK P t = .slice e) (hn : 0 < n) :
    ORule P o [(x, .c (.ro n f)), (y, .v (.slice none 0 0))] [] (.bool (decide (op = .neq))) .none :=
  .stay fun ρ w Z a hp _ => by
    have hr : Rel ρ w Z (.c (.ro n f)) (a.eval x) := hp (x, .c (.ro n f)) (by simp)
    have hy := (hp (y, .v (.slice none 0 0)) (by simp)).inv_v
    simp at hy
    generalize hv : a.eval x = v at hr
    cases hr with
    | c hr =>
      cases hr with
      | ro A c sz' us hm hnc hsz hA hc hr =>
        obtain ⟨ad, rfl, hz, hsp⟩ := hA hn
        have heq := run_equal_nil (A := ad) (n := n) (c := c) h w
        rcases hop with rfl | rfl
        · exact ⟨_, by simp [execOp, ho, hv, hy, eqGuard, binOp, heq], .c (.v _)⟩
        · exact ⟨_, by simp [execOp, ho, hv, hy, eqGuard, binOp, heq], .c (.v _)⟩
theorem rule_div {x y : Operand} {op : BinOp} {t t' : TypeId} {k : IntKind} {a b : Int} (ho : o.op = .binOp op t x y t') (hop : op = .quo ∨ op = .rem) (h : b ≠ 0) :
    ORule P o [(x, .v (.int k a)), (y, .v (.int k b))] [] (.v (.int k (if op = .quo then k.wrap (a.tdiv b) else a.tmod b))) .none :=
  .stay fun ρ w Z ac hp _ => by
    have hx := (hp (x, .v (.int k a)) (by simp)).inv_v
    have hy := (hp (y, .v (.int k b)) (by simp)).inv_v
    simp at hx hy
    refine ⟨_, ?_, .c (.v _)⟩
    rcases hop with rfl | rfl <;> simp [execOp, ho, hx, hy, eqGuard, binOp, Op.intDiv, h]
theorem rule_shift {x y : Operand} {op : BinOp} {t t' : TypeId} {k k' : IntKind} {a b : Int} (ho : o.op = .binOp op t x y t') (hop : op = .shl ∨ op = .shr) (h : 0 ≤ b) :
    ORule P o [(x, .v (.int k a)), (y, .v (.int k' b))] [] (.v (.int k (if op = .shl then k.wrap (a * 2 ^ (min b.toNat k.bits)) else a.fdiv (2 ^ (min b.toNat k.bits))))) .none :=
  .stay fun ρ w Z ac hp _ => by
    have hx := (hp (x, .v (.int k a)) (by simp)).inv_v
    have hy := (hp (y, .v (.int k' b)) (by simp)).inv_v
    simp at hx hy
    refine ⟨_, ?_, .c (.v _)⟩
    have h' : ¬ b < 0 := by omega
    rcases hop with rfl | rfl <;> simp [execOp, ho, hx, hy, eqGuard, binOp, Op.shift, h']
theorem rule_not {x : Operand} {t : TypeId} {b : Bool} (ho : o.op = .unOp .not t x) : ORule P o [(x, .bool b)] [] (.bool !b) .none :=
  .stay fun ρ w Z ac hp _ => by
    have hx := (hp (x, .bool b) (by simp)).inv_v
    simp at hx
    exact ⟨_, by simp [execOp, ho, hx, Op.unary], .c (.v _)⟩
theorem rule_neg {x : Operand} {t : TypeId} {k : IntKind} {n : Int} (ho : o.op = .unOp .neg t x) : ORule P o [(x, .v (.int k n))] [] (.v (.int k (k.wrap (0 - n)))) .none :=
  .stay fun ρ w Z ac hp _ => by
    have hx := (hp (x, .v (.int k n)) (by simp)).inv_v
    simp at hx
    exact ⟨_, by simp [execOp, ho, hx, Op.unary, Op.intArith], .c (.v _)⟩
theorem rule_convert_int {x : Operand} {s t : TypeId} {k k0 k' : IntKind} {n : Int} (ho : o.op = .convert s t x) (hs : tyK P s = .int k) (ht : tyK P t = .int k') : ORule P o [(x, .v (.int k0 n))] [] (.v (.int k' (k'.wrap n))) .none :=
  .stay fun ρ w Z ac hp _ => by
    have hx := (hp (x, .v (.int k0 n)) (by simp)).inv_v
    simp at hx
    exact ⟨_, by simp [execOp, ho, hx, convert, run_underlying (tyK_int hs), run_underlying (tyK_int ht), Conv.intToInt], .c (.v _)⟩
theorem rule_len_ro {x : Operand} {t e n : Nat} {f : Nat → List C} {dx : D} (hdx : dx.coe = .ro n f) (ho : o.op = .call { callee := .builtin .len, args := #[x], argTypes := #[t] }) (ht : tyK P t = .slice e) : ORule P o [(x, dx)] [] (.int n) .none :=
  .stay fun ρ w Z ac hp _ => by
    have hr : Rel ρ w Z (.ro n f) (ac.eval x) := by
      have h2 := (hp (x, dx) (by simp)).coe
      simp only at h2
      rw [hdx] at h2
      exact h2
    generalize hv : ac.eval x = v at hr
    cases hr with
    | c hr =>
      cases hr
      exact ⟨_, by simp [execOp, ho, hv, resolve, invoke, builtin, Builtin.len_, run_underlying (tyK_slice ht), goInt], .c (.v _)⟩
theorem rule_len_own {x : Operand} {t e n ver E sz : Nat} {l : List (List D)} (ho : o.op = .call { callee := .builtin .len, args := #[x], argTypes := #[t] }) (ht : tyK P t = .slice e) : ORule P o [(x, .own n ver)] [(n, .row ver E sz l)] (.int l.length) .none :=
  .stay fun ρ w Z ac hp hrd => by
    have hr : Rel ρ w Z (.own n ver) (ac.eval x) := hp (x, .own n ver) (by simp)
    obtain ⟨hl, hver, _, xs, hown, _⟩ := hrd (n, .row ver E sz l) (by simp)
    obtain ⟨_, hval⟩ := hr.inv_own
    have e := hval hver.symm
    refine ⟨.int .i64 l.length, ?_, .c (.v _)⟩
    rcases hown.2 with ⟨e1, h0⟩ | ⟨g, cap, cur, e1, _⟩
    · simp only at e1
      rw [e1] at e
      rw [h0]
      simp [execOp, ho, e, resolve, invoke, builtin, Builtin.len_, run_underlying (tyK_slice ht), goInt]
    · simp only at e1
      rw [e1] at e
      simp [execOp, ho, e, resolve, invoke, builtin, Builtin.len_, run_underlying (tyK_slice ht), goInt]
theorem rule_len_str {x : Operand} {t : Nat} {s : ByteArray} (ho : o.op = .call { callee := .builtin .len, args := #[x], argTypes := #[t] }) (ht : tyK P t = .str) : ORule P o [(x, .v (.string s))] [] (.int s.size) .none :=
  .stay fun ρ w Z ac hp _ => by
    have hx := (hp (x, .v (.string s)) (by simp)).inv_v
    simp at hx
    exact ⟨_, by simp [execOp, ho, hx, resolve, invoke, builtin, Builtin.len_, run_underlying (tyK_str ht), goInt], .c (.v _)⟩
theorem rule_max {x y : Operand} {t t' : Nat} {k : IntKind} {a b : Int} (ho : o.op = .call { callee := .builtin .max, args := #[x, y], argTypes := #[t, t'] }) : ORule P o [(x, .v (.int k a)), (y, .v (.int k b))] [] (.v (.int k (max a b))) .none :=
  .stay fun ρ w Z ac hp _ => by
    have hx := (hp (x, .v (.int k a)) (by simp)).inv_v
    have hy := (hp (y, .v (.int k b)) (by simp)).inv_v
    simp at hx hy
    refine ⟨.int k (max a b), ?_, .c (.v _)⟩
    simp [execOp, ho, hx, hy, resolve, invoke, builtin, Builtin.max_, Builtin.max2]
    split <;> omega
theorem rule_min {x y : Operand} {t t' : Nat} {k : IntKind} {a b : Int} (ho : o.op = .call { callee := .builtin .min, args := #[x, y], argTypes := #[t, t'] }) : ORule P o [(x, .v (.int k a)), (y, .v (.int k b))] [] (.v (.int k (min a b))) .none :=
  .stay fun ρ w Z ac hp _ => by
    have hx := (hp (x, .v (.int k a)) (by simp)).inv_v
    have hy := (hp (y, .v (.int k b)) (by simp)).inv_v
    simp at hx hy
    refine ⟨.int k (min a b), ?_, .c (.v _)⟩
    simp [execOp, ho, hx, hy, resolve, invoke, builtin, Builtin.min_, Builtin.min2]
    split <;> omega
end
end Go.Sy

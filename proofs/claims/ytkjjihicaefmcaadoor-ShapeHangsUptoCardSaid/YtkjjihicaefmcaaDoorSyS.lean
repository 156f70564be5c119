/-
  The operations on reified states do what they say. Plain theorems.
-/
import Derived.Test.YtkjjihicaefmcaaDoorSyR
set_option linter.unusedVariables false
set_option linter.unusedSectionVars false
set_option linter.unusedSimpArgs false
namespace Go.Sy
open Go Go.RowKit
theorem ev_at {c : Cx} {σ : Sx} {x : Operand} {y : X} (h : evX σ.E x = y) : evE (σ.toSt c).env x = y.toD c := by rw [ev_toSt, h]
theorem keyX_toD (c : Cx) {ag : Bool} {x : X} {ky : List IX} (h : keyX ag x = some ky) : keyD ag (x.toD c) = some (ky.map IX.val) := by
  unfold keyX at h
  split at h
  · cases h; rfl
  · rename_i l
    simp only [X.toD, keyD]
    induction l generalizing ky with
    | nil => simp only [List.foldr_nil, Option.some.injEq] at h; subst h; rfl
    | cons a l ih =>
      simp only [List.foldr_cons] at h
      split at h
      · rename_i e r hr
        cases h
        simp only [X.toDL, X.toD, intsD, ih hr, List.map_cons]
      · cases h
  · cases h
section
variable {P : Program} {T : List (TypeId × TI)} {c : Cx} {σ : Sx} {k : Kx} (hT : TOk P T) (hc : c.Ok σ)
include hT hc
theorem len_sound {x : Operand} {t : TypeId} (h : exBuiltin Ar.real T .len [x] [t] σ k) : stepBuiltin P .len [x] [t] (σ.toSt c) (KD c σ k) := by
  simp only [exBuiltin] at h
  split at h
  case h_2 => exact h.elim
  rename_i ti hti
  have hk := (hT.get hti).k
  simp only [stepBuiltin]
  rw [ev_toSt, ← toD_coe, hk]
  split at h
  · rename_i e r hk' hx
    rw [hk', hx]
    exact KD.pure hc _ h (by simp only [X.toD, lenI_real])
  · rename_i e n ver hk' hx
    rw [hk', hx]
    split at h
    · rename_i ver' E sz r hg
      obtain ⟨h1, h⟩ := h
      simp only [real_eqN, decide_eq_true_eq] at h1
      simp only [X.toD, toSt_get hc hg, OX.toOb]
      exact ⟨h1, KD.rd hc _ n h (by simp only [X.toD, lenI_real, List.length_map])⟩
    · exact h.elim
  · rename_i s hk' hx
    rw [hk', hx]
    exact KD.pure hc _ h rfl
  · rename_i n hk' hx
    rw [hk', hx]
    split at h
    · rename_i hg
      simp only [X.toD, toSt_get hc hg, OX.toOb, MX.es]
      exact KD.rd hc _ n h rfl
    · rename_i hg
      simp only [X.toD, toSt_get hc hg, OX.toOb, MX.es]
      exact KD.rd hc _ n h rfl
    · exact h.elim
  · exact h.elim
theorem del_sound {x y : Operand} {t t' : TypeId} (h : exBuiltin Ar.real T .delete [x, y] [t, t'] σ k) : stepBuiltin P .delete [x, y] [t, t'] (σ.toSt c) (KD c σ k) := by
  simp only [exBuiltin] at h
  split at h
  case h_2 => exact h.elim
  rename_i ti hti
  have hk := (hT.get hti).k
  simp only [stepBuiltin]
  rw [ev_toSt, ev_toSt, hk]
  split at h
  case h_2 => exact h.elim
  rename_i kt et n hk' hx
  rw [hk', hx]
  split at h
  case h_2 => exact h.elim
  rename_i ki ver ag m es hki hg
  split at h
  case h_2 => exact h.elim
  rename_i ky hky
  split at h
  case isFalse => exact h.elim
  rename_i hh
  have hkey := (hT.get hki).key _ hh.1
  simp only [X.toD, toSt_get hc hg, OX.toOb, keyX_toD c hky]
  exact ⟨⟨hkey, by simpa using hh.2.1, fun _ x hx => ok_nms c hh.2.2 x (mem_mdel hx) _⟩, KD.set hc (.tup []) n hg _ h rfl⟩
theorem max_sound {x y : Operand} {t t' : TypeId} (h : exBuiltin Ar.real T .max [x, y] [t, t'] σ k) : stepBuiltin P .max [x, y] [t, t'] (σ.toSt c) (KD c σ k) := by
  simp only [exBuiltin] at h
  split at h
  case h_2 => exact h.elim
  rename_i j a j' b hx hy
  split at h
  case isFalse => exact h.elim
  rename_i e
  simp only [stepBuiltin]
  rw [ev_at hx, ev_at hy]
  refine ⟨e, KD.pure hc _ h ?_⟩
  simp only [X.toD, D.c.injEq, C.v.injEq, Value.int.injEq, true_and]
  split
  · rfl
  · simp only [IX.val, vo_real]; rfl
theorem min_sound {x y : Operand} {t t' : TypeId} (h : exBuiltin Ar.real T .min [x, y] [t, t'] σ k) : stepBuiltin P .min [x, y] [t, t'] (σ.toSt c) (KD c σ k) := by
  simp only [exBuiltin] at h
  split at h
  case h_2 => exact h.elim
  rename_i j a j' b hx hy
  split at h
  case isFalse => exact h.elim
  rename_i e
  simp only [stepBuiltin]
  rw [ev_at hx, ev_at hy]
  refine ⟨e, KD.pure hc _ h ?_⟩
  simp only [X.toD, D.c.injEq, C.v.injEq, Value.int.injEq, true_and]
  split
  · rfl
  · simp only [IX.val, vo_real]; rfl
theorem room_real {a b : IX} {n m by_ : Nat} (ha : a.val = n) (hb : b.val = m) (h : Ar.real.le (Ar.real.mul (Ar.real.add (a.vo Ar.real) (b.vo Ar.real)) by_) 140737488355328 = true) : (n + m) * by_ ≤ 140737488355328 := by
  simp only [real_le, real_mul, real_add, vo_real, ha, hb, decide_eq_true_eq] at h
  have h1 : (((n + m) * by_ : Nat) : Int) ≤ 140737488355328 := by rw [Int.natCast_mul, Int.natCast_add]; exact h
  omega
theorem row_nms {b : Nat} (r : RR) : ∀ y ∈ r.rows.map (fun l => l.map D.c), D.nmsL b y := by
  intro y hy
  obtain ⟨l, _, rfl⟩ := List.mem_map.1 hy
  rw [nmsL_iff]
  intro d hd
  obtain ⟨x, _, rfl⟩ := List.mem_map.1 hd
  trivial
theorem app_sound {s x : Operand} {t t' : TypeId} (h : exBuiltin Ar.real T .append [s, x] [t, t'] σ k) : stepBuiltin P .append [s, x] [t, t'] (σ.toSt c) (KD c σ k) := by
  simp only [exBuiltin] at h
  split at h
  case h_2 => exact h.elim
  rename_i ti hti
  have hk := (hT.get hti).k
  split at h
  case h_2 => exact h.elim
  rename_i e q hk' hx
  split at h
  case h_2 => exact h.elim
  rename_i ei hei
  split at h
  case isFalse => exact h.elim
  rename_i hh
  obtain ⟨rfl, hz, h0, h1⟩ := hh
  have hi := hT.get hei
  obtain ⟨z, hze, hzl⟩ : ∃ z, ei.zero = some z ∧ z.length = ei.sz := by
    cases hz' : ei.zero with
    | none => rw [hz'] at hz; cases hz
    | some z => rw [hz'] at hz; exact ⟨z, rfl, by simpa using hz⟩
  obtain ⟨h, hfq⟩ := needFits_elim h
  have hqs : ∀ i, i < q.rows.length → ((fun i => q.rows.getD i []) i).length = ei.sz ∧ ((((fun i => q.rows.getD i []) i)).map D.c).all D.one = true := fun i hi => by
    have : q.rows.getD i [] = q.rows[i] := by simp [List.getD_eq_getElem?_getD, hi]
    simp only [this]
    exact hfq _ (List.getElem_mem hi)
  simp only [stepBuiltin]
  refine ⟨trivial, ?_⟩
  rw [hk, hk']
  simp only
  rw [hi.sz, hi.by_, hi.zero z hze c, ev_toSt, roL_coe c hx]
  refine ⟨⟨by rw [toDL_len]; exact hzl, h0, h1, fun i hi => (hqs i hi).1, fun i hi => (hqs i hi).2⟩, ?_⟩
  rw [ev_toSt]
  split at h
  · rename_i n ver hs
    rw [hs]
    split at h
    · rename_i ver' e' sz' r hg
      split at h
      case isFalse => exact h.elim
      rename_i he
      obtain ⟨rfl, rfl⟩ := he
      obtain ⟨h2, h3, h⟩ := h
      simp only [real_eqN, decide_eq_true_eq] at h2
      subst h2
      simp only [X.toD, toSt_get hc hg, OX.toOb]
      have hr := room_real hT hc (lenI_real r) (lenI_real q) h3
      refine ⟨⟨trivial, trivial, trivial, by simpa using hr, fun _ => row_nms hT hc r⟩, ?_⟩
      have h5 := KD.set hc (.own n (ver + 1)) n hg _ h rfl
      simp only [OX.toOb, appR_rows, List.map_append] at h5
      rw [rowsOf_roL]
      exact h5
    · exact h.elim
  · rename_i hs
    rw [hs]
    obtain ⟨h3, h⟩ := h
    have hr : q.rows.length * ei.by_ ≤ 140737488355328 := by
      simp only [real_le, real_mul, vo_real, lenI_real, decide_eq_true_eq] at h3
      have h1 : ((q.rows.length * ei.by_ : Nat) : Int) ≤ 140737488355328 := by rw [Int.natCast_mul]; exact h3
      omega
    simp only [X.toD]
    refine ⟨hr, ?_⟩
    have h5 := KD.new hc _ _ h rfl
    rw [rowsOf_roL, toSt_nx]
    exact h5
  · rename_i r hs
    rw [hs]
    obtain ⟨h, hfr⟩ := needFits_elim h
    obtain ⟨h2, h3, h⟩ := h
    have hrs : ∀ i, i < r.rows.length → ((fun i => r.rows.getD i []) i).length = ei.sz ∧ ((((fun i => r.rows.getD i []) i)).map D.c).all D.one = true := fun i hi => by
      have : r.rows.getD i [] = r.rows[i] := by simp [List.getD_eq_getElem?_getD, hi]
      simp only [this]
      exact hfr _ (List.getElem_mem hi)
    have hr := room_real hT hc (lenI_real r) (lenI_real q) h3
    simp only [real_lt, vo_real, lenI_real, decide_eq_true_eq] at h2
    simp only [X.toD]
    refine ⟨⟨hr, by omega, fun i hi => (hrs i hi).1, fun i hi => (hrs i hi).2⟩, ?_⟩
    have h5 := KD.new hc _ _ h rfl
    simp only [OX.toOb, appR_rows, List.map_append] at h5
    rw [rowsOf_roL, rowsOf_roL, toSt_nx]
    exact h5
  · exact h.elim
theorem copy_sound {x y : Operand} {t t' : TypeId} (h : exBuiltin Ar.real T .copy [x, y] [t, t'] σ k) : stepBuiltin P .copy [x, y] [t, t'] (σ.toSt c) (KD c σ k) := by
  simp only [exBuiltin] at h
  split at h
  case h_2 => exact h.elim
  rename_i ti hti
  have hk := (hT.get hti).k
  split at h
  case h_2 => exact h.elim
  rename_i e hk'
  split at h
  case h_2 => exact h.elim
  rename_i ei n ver q hei hx hy
  split at h
  case h_2 => exact h.elim
  rename_i ver' e' sz' r hg
  split at h
  case isFalse => exact h.elim
  rename_i he
  obtain ⟨rfl, rfl, h0⟩ := he
  obtain ⟨g, hfq⟩ := needFits_elim h
  obtain ⟨h2, h3, g⟩ := g
  clear h
  simp only [real_eqN, decide_eq_true_eq] at h2 h3
  subst h2
  have hi := hT.get hei
  have hqs : ∀ i, i < q.rows.length → ((fun i => q.rows.getD i []) i).length = ei.sz ∧ ((((fun i => q.rows.getD i []) i)).map D.c).all D.one = true := fun i hi => by
    have : q.rows.getD i [] = q.rows[i] := by simp [List.getD_eq_getElem?_getD, hi]
    simp only [this]
    exact hfq _ (List.getElem_mem hi)
  simp only [stepBuiltin]
  rw [hk, hk']
  simp only
  rw [hi.sz, ev_toSt, ev_toSt, hx, roL_coe c hy]
  simp only [X.toD, toSt_get hc hg, OX.toOb]
  refine ⟨⟨trivial, trivial, trivial, h0, ?_, fun i hi => (hqs i hi).1, fun i hi => (hqs i hi).2⟩, ?_⟩
  · rw [toN_real, toN_real, lenI_real, lenI_real] at h3
    rw [List.length_map]
    omega
  · have h5 := KD.set hc (.i .i64 (q.lenI Ar.real)) n hg _ g (d := D.int q.rows.length) (by simp only [X.toD, lenI_real])
    simp only [OX.toOb] at h5
    rw [rowsOf_roL]
    exact h5
theorem builtin_sound {b : Builtin} {xs : List Operand} {ts : List TypeId} (h : exBuiltin Ar.real T b xs ts σ k) : stepBuiltin P b xs ts (σ.toSt c) (KD c σ k) := by
  have h' := h
  unfold exBuiltin at h
  split at h
  · exact len_sound hT hc h'
  · exact del_sound hT hc h'
  · exact max_sound hT hc h'
  · exact min_sound hT hc h'
  · exact app_sound hT hc h'
  · exact copy_sound hT hc h'
  · exact h.elim
theorem pick_sound {q x y : Operand} (h : exOp Ar.real P c T (.pick q x y) σ k) : stepOp P (bare (.pick q x y)) (σ.toSt c) (KD c σ k) := by
  simp only [exOp] at h
  simp only [stepOp]
  split at h
  case h_2 => exact h.elim
  rename_i e he
  obtain ⟨h1, h2⟩ := brX_elim h
  rw [ev_at he]
  simp only [X.toD]
  exact ⟨fun ht => KD.pure hc _ (h1 ht) (ev_toSt _ _ _), fun ht => KD.pure hc _ (h2 ht) (ev_toSt _ _ _)⟩
theorem alloc_sound {t : TypeId} (h : exOp Ar.real P c T (.alloc t) σ k) : stepOp P (bare (.alloc t)) (σ.toSt c) (KD c σ k) := by
  simp only [exOp] at h
  simp only [stepOp]
  split at h
  case h_2 => exact h.elim
  rename_i ti hti
  split at h
  case h_2 => exact h.elim
  rename_i z hz
  rw [(hT.get hti).zero z hz c, toSt_nx]
  exact KD.new hc _ _ h rfl
theorem box_sound {t : TypeId} {x : Operand} (h : exOp Ar.real P c T (.box t x) σ k) : stepOp P (bare (.box t x)) (σ.toSt c) (KD c σ k) := by
  simp only [exOp] at h
  simp only [stepOp]
  split at h
  case h_2 => exact h.elim
  rename_i l hl
  rw [ev_toSt, cells_toD c hl, toSt_nx]
  exact KD.new hc _ _ h rfl
theorem selX_toD {cs : List X} {off m : Nat} {i : IX} {x : X} (h : selX Ar.real cs off m i = some x) (h0 : 0 ≤ i.val) (h1 : i.val < m) : off + i.val.toNat < cs.length ∧ (cs.getD (off + i.val.toNat) default).toD c = x.toD c ∧ (X.toCL cs).getD (off + i.val.toNat) default = x.toC := by
  unfold selX at h
  split at h
  case isFalse => cases h
  rename_i hle
  have hint : ∀ (l : List X) (r : List IX), intsX l = some r → ∀ j, j < l.length → ∃ e, r[j]? = some e ∧ l[j]? = some (.i .i64 e) := by
    intro l
    induction l with
    | nil => intro r _ j hj; simp at hj
    | cons a l ih =>
      intro r hr j hj
      unfold intsX at hr
      split at hr
      · rename_i he; cases he
      · rename_i e l' he
        cases he
        split at hr
        · rename_i r' hr'
          cases hr
          cases j with
          | zero => exact ⟨e, rfl, rfl⟩
          | succ j => simpa using ih r' hr' j (by simpa using hj)
        · cases hr
      · cases hr
  obtain ⟨r, hr, rfl⟩ := Option.map_eq_some_iff.1 h
  have hlen : ((cs.drop off).take m).length = m := by simp; omega
  obtain ⟨e, he1, he2⟩ := hint _ r hr i.val.toNat (by omega)
  have hlt : off + i.val.toNat < cs.length := by omega
  have hget : cs[off + i.val.toNat]? = some (.i .i64 e) := by
    rw [List.getElem?_take, if_pos (by omega), List.getElem?_drop] at he2
    exact he2
  refine ⟨hlt, ?_, ?_⟩
  · rw [List.getD_eq_getElem?_getD, hget]
    simp only [Option.getD_some, X.toD, val_s, real_sel, vo_real, List.getD_eq_getElem?_getD, List.getElem?_map, he1, Option.map_some]
  · rw [List.getD_eq_getElem?_getD, toCL_eq, List.getElem?_map, hget]
    simp only [Option.map_some, Option.getD_some, X.toC, val_s, real_sel, vo_real, List.getD_eq_getElem?_getD, List.getElem?_map, he1]
theorem toDL_toCL_get {cs : List X} {off sz : Nat} {k : TK} {x : X} (h : loadX k sz cs off = some x) (hcl : (((cs.drop off).take sz).all X.clean) = true) (h0 : 0 < sz) :
    loadD k sz ((X.toCL cs).map D.c) off = some (x.toD c) := by
  unfold loadX at h
  unfold loadD
  split at h
  · rename_i e
    simp only [e, List.length_map, toCL_len]
    split at h
    · rename_i hle
      cases h
      simp only [hle, if_true, X.toD]
      rw [clean_toDL c hcl, toCL_eq, toCL_eq, ← List.map_drop, ← List.map_take, ← List.map_drop, ← List.map_take]
    · cases h
  · rename_i e
    simp only [e, List.length_map, toCL_len]
    split at h
    · rename_i hle
      cases h
      rw [if_pos hle]
      have hx : cs.getD off default = cs[off] := by simp [List.getD_eq_getElem?_getD, hle]
      have hin : cs[off] ∈ (cs.drop off).take sz := by
        rw [List.mem_take_iff_getElem]
        exact ⟨0, by simp; omega, by simp⟩
      have hc1 := List.all_eq_true.1 hcl _ hin
      rw [hx, clean_toD c hc1]
      simp only [List.getD_eq_getElem?_getD, List.getElem?_map, toCL_eq, List.getElem?_eq_getElem hle, Option.map_some, Option.getD_some]
    · cases h
  · cases h
theorem load_sound {t : TypeId} {x : Operand} (h : exOp Ar.real P c T (.load t x) σ k) : stepOp P (bare (.load t x)) (σ.toSt c) (KD c σ k) := by
  simp only [exOp] at h
  simp only [stepOp]
  split at h
  case h_1 => exact h.elim
  rename_i ti hti
  have hi := hT.get hti
  rw [hi.sz]
  simp only
  rw [ev_toSt, hi.k]
  split at h
  · rename_i n off hx
    rw [hx]
    split at h
    · rename_i cs T' hg
      split at h
      · rename_i y hy
        simp only [X.toD, toSt_get hc hg, OX.toOb, loadX_toD c hy]
        exact KD.rd hc _ n h rfl
      · exact h.elim
    · exact h.elim
  · rename_i n off m i hx
    rw [hx]
    split at h
    · rename_i cs T' hg hk1 hs1
      split at h
      · rename_i y hy
        obtain ⟨h1, h⟩ := h
        simp only [real_inB, vo_real, decide_eq_true_eq] at h1
        obtain ⟨h2, h3, _⟩ := selX_toD hT hc hy h1.1 h1.2
        simp only [X.toD, toSt_get hc hg, OX.toOb, loadD, hk1, TK.isAgg, toDL_len, if_pos h2]
        refine KD.rd hc _ n h ?_
        rw [← h3]
        simp only [toDL_eq, List.getD_eq_getElem?_getD, List.getElem?_map, List.getElem?_eq_getElem h2, Option.map_some, Option.getD_some]
      · exact h.elim
    · exact h.elim
  · rename_i cs off m i hx
    rw [hx]
    split at h
    · rename_i hk1 hs1
      split at h
      · rename_i y hy
        obtain ⟨h1, h⟩ := h
        simp only [real_inB, vo_real, decide_eq_true_eq] at h1
        obtain ⟨h2, _, h3⟩ := selX_toD hT hc hy h1.1 h1.2
        simp only [X.toD, loadD, hk1, TK.isAgg, List.length_map, toCL_len, if_pos h2]
        refine KD.pure hc _ h ?_
        have hy' : y.clean = true := by
          unfold selX at hy
          split at hy
          · obtain ⟨r, _, rfl⟩ := Option.map_eq_some_iff.1 hy; rfl
          · cases hy
        rw [clean_toD c hy', ← h3]
        simp only [toCL_eq, List.getD_eq_getElem?_getD, List.getElem?_map, List.getElem?_eq_getElem h2, Option.map_some, Option.getD_some]
      · exact h.elim
    · exact h.elim
  · rename_i cs off hx
    rw [hx]
    split at h
    · rename_i y hy
      split at h
      · rename_i hcl
        simp only [X.toD, toDL_toCL_get hT hc hy hcl.1 hcl.2]
        exact KD.pure hc _ h rfl
      · exact h.elim
    · exact h.elim
  · rename_i n ver z i off hx
    rw [hx]
    split at h
    · rename_i ver' E z' r hg
      split at h
      case isFalse => exact h.elim
      rename_i hz
      obtain ⟨rfl, h0⟩ := hz
      obtain ⟨h1, h2, h⟩ := h
      simp only [real_eqN, decide_eq_true_eq] at h1
      subst h1
      simp only [real_inB, vo_real, toN_real, lenI_real, decide_eq_true_eq, Int.toNat_natCast] at h2
      obtain ⟨cs, h, hcs⟩ := getK_real r i h h2.1 (by omega)
      have hrow : (List.map (fun l => List.map D.c l) r.rows).getD i.val.toNat [] = (X.toCL cs).map D.c := by
        have h3 : i.val.toNat < r.rows.length := by omega
        rw [hcs]
        simp [List.getD_eq_getElem?_getD, h3]
      split at h
      · rename_i y hy
        split at h
        case isFalse => exact h.elim
        rename_i hcl
        simp only [X.toD, toSt_get hc hg, OX.toOb, hrow, toDL_toCL_get hT hc hy hcl h0]
        exact ⟨⟨trivial, trivial, by rw [List.length_map]; omega⟩, KD.rd hc _ n h rfl⟩
      · exact h.elim
    · exact h.elim
  · exact h.elim
theorem outy_nms {x : X} (h : x.outy σ.O.length = true) : D.nms (σ.toSt c).n0 (x.toD c) := by
  have key : ∀ i, i < σ.O.length → (Nm.out i).at c < c.n0 := fun i hi => by
    have hi' : i < c.ons.length := by rw [← hc.len]; exact hi
    have := hc.lt _ (List.getElem_mem hi')
    simp only [Nm.at, List.getD_eq_getElem?_getD, List.getElem?_eq_getElem hi', Option.getD_some]
    exact this
  unfold X.outy at h
  rw [Bool.or_eq_true] at h
  rcases h with h | h
  · exact noNm_nms c h _
  · split at h
    · exact key _ (of_decide_eq_true h)
    · exact key _ (of_decide_eq_true h)
    · exact key _ (of_decide_eq_true h)
    · cases h
theorem outyL_nms : ∀ {l : List X}, l.all (X.outy σ.O.length) = true → D.nmsL (σ.toSt c).n0 (X.toDL c l)
  | [], _ => trivial
  | x :: l, h => by
    simp only [List.all_cons, Bool.and_eq_true] at h
    exact ⟨outy_nms hT hc h.1, outyL_nms h.2⟩
theorem out_nms {n : Nm} {l cs : List X} (off : Nat) (h : outOk n ((l.all (X.outy σ.O.length)) && (cs.all (X.outy σ.O.length))) = true) (hn : n.at c < (σ.toSt c).n0) : D.nmsL (σ.toSt c).n0 (putD (X.toDL c cs) off (X.toDL c l)) := by
  cases n with
  | loc i =>
    have : c.n0 + i < c.n0 := hn
    omega
  | out i =>
    simp only [outOk, Bool.and_eq_true] at h
    rw [← putX_toD]
    refine outyL_nms hT hc ?_
    simp only [putX, List.all_append, Bool.and_eq_true, List.all_eq_true]
    simp only [List.all_eq_true] at h
    exact ⟨⟨fun x hx => h.2 x (List.mem_of_mem_take hx), fun x hx => h.1 x hx⟩, fun x hx => h.2 x (List.mem_of_mem_drop hx)⟩
theorem updXL_toD {i : IX} {y : IX} : ∀ (n : Nat) (l r : List X), updXL Ar.real i y n l = some r → X.toDL c r = if 0 ≤ i.val - n then (X.toDL c l).set (i.val - n).toNat (.c (.v (.int .i64 y.val))) else X.toDL c l
  | n, [], r, h => by simp [updXL] at h; subst h; simp [X.toDL]
  | n, a :: l, r, h => by
    unfold updXL at h
    split at h
    · rename_i e r' hr'
      cases h
      have ih := updXL_toD (n + 1) l r' hr'
      simp only [X.toDL, ih, X.toD, val_s, real_ite, vo_real]
      by_cases h1 : i.val = n
      · have h2 : (i.val - (n : Int)).toNat = 0 := by omega
        have h3 : ¬ (0 : Int) ≤ i.val - ((n + 1 : Nat) : Int) := by omega
        rw [if_pos h1, if_neg h3, if_pos (by omega), h2, List.set_cons_zero]
      · by_cases h2 : 0 ≤ i.val - (n : Int)
        · have h3 : (i.val - (n : Int)).toNat = (i.val - ((n + 1 : Nat) : Int)).toNat + 1 := by omega
          rw [if_neg h1, if_pos h2, if_pos (by omega), h3, List.set_cons_succ]
        · rw [if_neg h1, if_neg h2, if_neg (by omega)]
    · cases h
theorem putD_get (cs l : List D) (off j : Nat) (h : off + l.length ≤ cs.length) : (putD cs off l)[j]? = if j < off then cs[j]? else if j < off + l.length then l[j - off]? else cs[j]? := by
  unfold putD
  rw [List.getElem?_append, List.getElem?_append]
  simp only [List.length_append, List.length_take, List.getElem?_take, List.getElem?_drop]
  have e : min off cs.length = off := by omega
  rw [e]
  by_cases h1 : j < off
  · rw [if_pos (by omega), if_pos h1, if_pos h1, if_pos h1]
  · by_cases h2 : j < off + l.length
    · rw [if_pos h2, if_neg h1, if_neg h1, if_pos h2]
    · rw [if_neg h2, if_neg h1, if_neg h2]
      congr 1; omega
theorem store_sound {t : TypeId} {x y : Operand} (h : exOp Ar.real P c T (.store t x y) σ k) : stepOp P (bare (.store t x y)) (σ.toSt c) (KD c σ k) := by
  simp only [exOp] at h
  simp only [stepOp]
  split at h
  case h_1 => exact h.elim
  rename_i ti hti
  have hi := hT.get hti
  rw [hi.sz]
  simp only
  rw [ev_toSt]
  split at h
  · rename_i n off l hx hl
    rw [hx]
    split at h
    · rename_i cs T' hg
      split at h
      case isFalse => exact h.elim
      rename_i hh
      obtain ⟨h1, h2, h3, h4⟩ := hh
      simp only [X.toD, toSt_get hc hg, OX.toOb]
      rw [ev_toSt, cells_toD c hl]
      refine ⟨⟨by rw [toDL_len]; exact h1, all_one c h2, by rw [toDL_len]; exact h3, fun hn => out_nms hT hc off h4 hn⟩, ?_⟩
      have h5 := KD.set hc .junk n hg _ h rfl
      simp only [OX.toOb, putX_toD] at h5
      exact h5
    · exact h.elim
  · rename_i n off m i y' hx hl
    rw [hx]
    split at h
    · rename_i cs T' hg
      split at h
      case h_2 => exact h.elim
      rename_i l hu
      split at h
      case isFalse => exact h.elim
      rename_i hh
      obtain ⟨h1, h2, h4⟩ := hh
      obtain ⟨h3, h⟩ := h
      simp only [real_inB, vo_real, decide_eq_true_eq] at h3
      have hu' := updXL_toD hT hc 0 _ l hu
      have e0 : (i.val - ((0 : Nat) : Int)).toNat = i.val.toNat := by omega
      rw [if_pos (by omega), e0] at hu'
      have hlen : (X.toDL c ((cs.drop off).take m)).length = m := by rw [toDL_len]; simp; omega
      have hll : (X.toDL c l).length = m := by rw [hu', List.length_set, hlen]
      have key : putD (X.toDL c cs) off (X.toDL c l) = putD (X.toDL c cs) (off + i.val.toNat) [.c (.v (.int .i64 y'.val))] := by
        apply List.ext_getElem?
        intro j
        have hcl : (X.toDL c cs).length = cs.length := toDL_len c cs
        have hu2 : X.toDL c l = ((X.toDL c cs).drop off |>.take m).set i.val.toNat (.c (.v (.int .i64 y'.val))) := by
          rw [hu']; congr 1; rw [toDL_eq, toDL_eq, List.map_take, List.map_drop]
        rw [putD_get hT hc _ _ _ _ (by omega), putD_get hT hc _ _ _ _ (by simp only [List.length_cons, List.length_nil]; omega), hll]
        simp only [List.length_cons, List.length_nil]
        have hm : i.val.toNat < m := by omega
        by_cases h5 : j < off
        · rw [if_pos h5, if_pos (by omega)]
        · rw [if_neg h5]
          by_cases h6 : j < off + m
          · rw [if_pos h6, hu2, List.getElem?_set]
            simp only [List.length_take, List.length_drop]
            by_cases h7 : j = off + i.val.toNat
            · rw [if_pos (by omega), if_pos (by omega), if_neg (by omega), if_pos (by omega), show j - (off + i.val.toNat) = 0 by omega]
              rfl
            · rw [if_neg (by omega), List.getElem?_take, if_pos (by omega), List.getElem?_drop]
              have e9 : off + (j - off) = j := by omega
              rw [e9]
              by_cases h8 : j < off + i.val.toNat
              · rw [if_pos h8]
              · rw [if_neg h8, if_neg (by omega)]
          · rw [if_neg h6, if_neg (by omega), if_neg (by omega)]
      simp only [X.toD, toSt_get hc hg, OX.toOb]
      rw [ev_toSt, cells_toD c hl]
      refine ⟨⟨by rw [toDL_len]; exact h1.symm, rfl, by rw [toDL_len]; omega, fun hn => ?_⟩, ?_⟩
      · have := out_nms hT hc (n := n) (l := [.i .i64 y']) (cs := cs) (off + i.val.toNat) (by cases n with | loc i => rfl | out i => simpa [outOk, X.outy, X.noNm] using h4) hn
        exact this
      · have h5 := KD.set hc .junk n hg _ h rfl
        simp only [OX.toOb, putX_toD, key] at h5
        exact h5
    · exact h.elim
  · rename_i n ver z i off l hx hl
    rw [hx]
    split at h
    · rename_i ver' e z' r hg
      split at h
      case isFalse => exact h.elim
      rename_i hh
      obtain ⟨rfl, h1, h2, h3, h4⟩ := hh
      obtain ⟨h5, h6, h⟩ := h
      simp only [real_eqN, decide_eq_true_eq] at h5
      subst h5
      simp only [real_inB, vo_real, toN_real, lenI_real, decide_eq_true_eq, Int.toNat_natCast] at h6
      have hlt : i.val.toNat < r.rows.length := by omega
      have hcl : l.all X.clean = true ∧ l.all X.one = true := by
        simp only [List.all_eq_true, Bool.and_eq_true] at h2 ⊢
        exact ⟨fun x hx => (h2 x hx).1, fun x hx => (h2 x hx).2⟩
      simp only [X.toD, toSt_get hc hg, OX.toOb]
      rw [ev_toSt, cells_toD c hl]
      have hset : ∀ cs : List X, X.toCL cs = r.rows.getD i.val.toNat [] → (cs.length = z) → ∀ l', l' = putX cs off l → k .junk ([n], [n]) (σ.set n (.row ver e z (.set r i l'))) →
          KD c σ k .junk [n.at c] [(n.at c, .row ver e z ((r.rows.map fun l => l.map D.c).set i.val.toNat (putD ((r.rows.map fun l => l.map D.c).getD i.val.toNat []) off (X.toDL c l))))] [] := by
        rintro cs hcs hcz _ rfl hk
        have h7 := KD.set hc .junk n hg _ hk rfl
        simp only [OX.toOb, RR.rows, if_pos h6.1, List.map_set] at h7
        have e1 : (r.rows.map fun l => l.map D.c).getD i.val.toNat [] = (X.toCL cs).map D.c := by
          rw [hcs]; simp [List.getD_eq_getElem?_getD, hlt]
        have e2 : putD ((X.toCL cs).map D.c) off (X.toDL c l) = (X.toCL (putX cs off l)).map D.c := by
          rw [clean_toDL c hcl.1]
          simp only [putX, putD, toCL_eq, List.map_append, List.map_take, List.map_drop, List.length_map]
        rw [e1, e2]
        exact h7
      have hnm : ∀ w : List D, D.nmsL (σ.toSt c).n0 w → ∀ x ∈ (r.rows.map fun l => l.map D.c).set i.val.toNat w, D.nmsL (σ.toSt c).n0 x := by
        intro w hw x hx
        rcases List.mem_or_eq_of_mem_set hx with hx | rfl
        · exact row_nms hT hc r x hx
        · exact hw
      have hpn : D.nmsL (σ.toSt c).n0 (putD ((r.rows.map fun l => l.map D.c).getD i.val.toNat []) off (X.toDL c l)) := by
        rw [nmsL_iff]
        intro d hd
        have h8 : D.nmsL (σ.toSt c).n0 ((r.rows.map fun l => l.map D.c).getD i.val.toNat []) := by
          have h9 : i.val.toNat < (r.rows.map fun l => l.map D.c).length := by rw [List.length_map]; exact hlt
          rw [List.getD_eq_getElem?_getD, List.getElem?_eq_getElem h9, Option.getD_some]
          exact row_nms hT hc r _ (List.getElem_mem h9)
        have h8' := (nmsL_iff _ _).1 h8
        simp only [putD, List.mem_append] at hd
        rcases hd with (hd | hd) | hd
        · exact h8' d (List.mem_of_mem_take hd)
        · rw [clean_toDL c hcl.1] at hd
          obtain ⟨x, _, rfl⟩ := List.mem_map.1 hd
          trivial
        · exact h8' d (List.mem_of_mem_drop hd)
      refine ⟨⟨trivial, trivial, by rw [List.length_map]; exact hlt, by rw [toDL_len]; exact h1, all_one c hcl.2, h3, h4, fun _ => hnm _ hpn⟩, ?_⟩
      obtain ⟨cs, h, hcs⟩ := getK_real r i h h6.1 (by omega)
      split at h
      · rename_i hcz
        exact hset cs hcs hcz _ rfl h
      · exact h.elim
    · exact h.elim
  · exact h.elim
end
end Go.Sy

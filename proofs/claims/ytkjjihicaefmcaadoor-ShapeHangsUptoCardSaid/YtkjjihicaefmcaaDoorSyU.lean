/-
  The operations on reified states do what they say, second part. Plain theorems.
-/
import Derived.Test.YtkjjihicaefmcaaDoorSyS
set_option linter.unusedVariables false
set_option linter.unusedSimpArgs false
set_option linter.unusedSectionVars false
namespace Go.Sy
open Go Go.RowKit
theorem notX_toD (c : Cx) (e : BX) : (X.b (e.notX Ar.real)).toD c = .bool !e.val := by simp only [X.toD, notX_real]
theorem fillX_toD (c : Cx) (pl : List (Nat × Nat)) : ∀ (ps : List (Nat × X)) (cs r : List X), fillX pl cs ps = some r → fillD pl (X.toDL c cs) (ps.map fun p => (p.1, p.2.toD c)) = some (X.toDL c r)
  | [], cs, r, h => by simp only [fillX, Option.some.injEq] at h; subst h; rfl
  | (i, x) :: ps, cs, r, h => by
    simp only [fillX] at h
    simp only [List.map_cons, fillD]
    split at h
    · rename_i off sz l hp hl
      split at h
      · rename_i hh
        rw [hp, cells_toD c hl]
        simp only [toDL_len, hh, and_self, if_true]
        rw [← putX_toD]
        exact fillX_toD c pl ps _ r h
      · cases h
    · cases h
theorem fillAX_toD (c : Cx) (sz : Nat) : ∀ (ps : List (Nat × X)) (cs r : List X), fillAX sz cs ps = some r → fillA sz (X.toDL c cs) (ps.map fun p => (p.1, p.2.toD c)) = some (X.toDL c r)
  | [], cs, r, h => by simp only [fillAX, Option.some.injEq] at h; subst h; rfl
  | (i, x) :: ps, cs, r, h => by
    simp only [fillAX] at h
    simp only [List.map_cons, fillA]
    split at h
    · rename_i l hl
      split at h
      · rename_i hh
        rw [cells_toD c hl]
        simp only [toDL_len, hh, and_self, if_true]
        rw [← putX_toD]
        exact fillAX_toD c sz ps _ r h
      · cases h
    · cases h
theorem plcX_toD {P : Program} {T : List (TypeId × TI)} (hT : TOk P T) : ∀ (fs : List (Nat × TypeId)) (pl : List (Nat × Nat)), plcX T fs = some pl → plc P fs = some pl
  | [], pl, h => h
  | (o, t) :: l, pl, h => by
    simp only [plcX] at h
    split at h
    · rename_i i r hi hr
      cases h
      simp only [plc, (hT.get hi).sz, plcX_toD hT l r hr]
    · cases h
theorem parts_toD (c : Cx) (σ : Sx) (parts : Array (Nat × Operand)) : (parts.toList.map fun p => (p.1, evE (σ.toSt c).env p.2)) = (parts.toList.map fun p => (p.1, evX σ.E p.2)).map fun p => (p.1, p.2.toD c) := by
  rw [List.map_map]
  exact List.map_congr_left fun p _ => by simp [ev_toSt]
theorem litRowsX_toD (c : Cx) : ∀ (xs : List X) (l : List (List X)), litRowsX xs = some l → litRows (xs.map (X.toD c)) = some (X.toCLL l)
  | [], l, h => by simp only [litRowsX, Option.some.injEq] at h; subst h; rfl
  | x :: xs, l, h => by
    simp only [litRowsX] at h
    split at h
    · rename_i r rs hr hrs
      split at h
      · rename_i hcl
        cases h
        simp only [List.map_cons, litRows]
        rw [← toD_coe, cells_toD c hr, litRowsX_toD c xs rs hrs, clean_toDL c hcl]
        have : ∀ l : List C, cleanL (l.map D.c) = some l := by
          intro l
          induction l with
          | nil => rfl
          | cons a l ih => simp [cleanL, ih]
        simp only [Option.bind_some, this]
        rfl
      · cases h
    · cases h
theorem litRowsX_len : ∀ (xs : List X) (l : List (List X)), litRowsX xs = some l → l.length = xs.length
  | [], l, h => by simp only [litRowsX, Option.some.injEq] at h; subst h; rfl
  | x :: xs, l, h => by
    simp only [litRowsX] at h
    split at h
    · rename_i r rs hr hrs
      split at h
      · cases h; simp [litRowsX_len xs rs hrs]
      · cases h
    · cases h
theorem leafX_toD (c : Cx) {lk : LK} {x y : X} {r : BX} (h : leafX Ar.real lk x y = some r) : ∃ a b, x.toD c = .c (.v a) ∧ y.toD c = .c (.v b) ∧ leafEq lk a b = some r.val := by
  unfold leafX at h
  split at h
  · rename_i k a k' b
    split at h
    · rename_i e
      cases h
      exact ⟨_, _, rfl, rfl, by simp [leafEq, e, eqX_real]⟩
    · cases h
  · rename_i a b
    refine ⟨_, _, rfl, rfl, ?_⟩
    simp only [Option.some.injEq] at h
    subst h
    cases a <;> cases b <;> simp [leafEq, BX.val, BX.notX, real_not, real_eqB]
  · rename_i a b
    simp only [Option.some.injEq] at h
    subst h
    exact ⟨_, _, rfl, rfl, rfl⟩
  · cases h
theorem eqCX_toD (c : Cx) : ∀ (ks : List LK) (xs ys : List X) (r : BX), eqCX Ar.real ks xs ys = some r → ∃ as bs, scalars (X.toDL c xs) = some as ∧ scalars (X.toDL c ys) = some bs ∧ eqC ks as bs = some r.val
  | [], [], [], r, h => by simp only [eqCX, Option.some.injEq] at h; subst h; exact ⟨[], [], rfl, rfl, rfl⟩
  | [], [], _ :: _, r, h => by simp [eqCX] at h
  | [], _ :: _, _, r, h => by simp [eqCX] at h
  | _ :: _, [], _, r, h => by simp [eqCX] at h
  | _ :: _, _ :: _, [], r, h => by simp [eqCX] at h
  | k :: ks, x :: xs, y :: ys, r, h => by
    simp only [eqCX] at h
    split at h
    · rename_i r1 s1 h1 h2
      cases h
      obtain ⟨a, b, e1, e2, e3⟩ := leafX_toD c h1
      obtain ⟨as, bs, e4, e5, e6⟩ := eqCX_toD c ks xs ys s1 h2
      exact ⟨a :: as, b :: bs, by simp [X.toDL, e1, scalars, e4], by simp [X.toDL, e2, scalars, e5], by simp [eqC, e3, e6, andX_real]⟩
    · cases h
theorem i64 (k : IntKind) (e : IX) : (X.i k e).toD = fun _ => .c (.v (.int k e.val)) := rfl
section
variable {P : Program} {T : List (TypeId × TI)} {c : Cx} {σ : Sx} {k : Kx} (hT : TOk P T) (hc : c.Ok σ)
include hT hc
theorem nil_sound {x : Operand} (h : exOp Ar.real P c T (.nilCheck x) σ k) : stepOp P (bare (.nilCheck x)) (σ.toSt c) (KD c σ k) := by
  simp only [exOp] at h
  simp only [stepOp]
  rw [ev_toSt]
  split at h
  · rename_i hx; rw [hx]; exact KD.pure hc _ h rfl
  · rename_i hx; rw [hx]; exact KD.pure hc _ h rfl
  · exact h.elim
theorem un_sound {op : UnOp} {t : TypeId} {x : Operand} (h : exOp Ar.real P c T (.unOp op t x) σ k) : stepOp P (bare (.unOp op t x)) (σ.toSt c) (KD c σ k) := by
  simp only [exOp] at h
  simp only [stepOp]
  rw [ev_toSt]
  split at h
  · rename_i e hx
    rw [hx]
    exact KD.pure hc _ h (notX_toD c e).symm
  · rename_i j e hx
    rw [hx]
    refine KD.pure hc _ h ?_
    simp only [X.toD, D.c.injEq, C.v.injEq, Value.int.injEq, true_and]
    split
    · rfl
    · simp only [val_s, real_wrap, real_sub, vo_real]
  · exact h.elim
theorem conv_sound {s t : TypeId} {x : Operand} (h : exOp Ar.real P c T (.convert s t x) σ k) : stepOp P (bare (.convert s t x)) (σ.toSt c) (KD c σ k) := by
  simp only [exOp] at h
  simp only [stepOp]
  rw [ev_toSt]
  split at h
  · rename_i si ti k0 e hs ht hx
    rw [(hT.get hs).k, (hT.get ht).k, hx]
    split at h
    · rename_i j hk1 hk2
      rw [hk1, hk2]
      refine KD.pure hc _ h ?_
      simp only [X.toD, D.c.injEq, C.v.injEq, Value.int.injEq, true_and]
      split
      · rfl
      · simp only [val_s, real_wrap, vo_real]
    · exact h.elim
  · exact h.elim
theorem fn_sound {f : Fn} {first caps : Array Operand} (h : exOp Ar.real P c T (.makeFunc f first caps) σ k) : stepOp P (bare (.makeFunc f first caps)) (σ.toSt c) (KD c σ k) := by
  simp only [exOp] at h
  simp only [stepOp]
  refine KD.pure hc _ h ?_
  simp only [X.toD, toDL_eq, List.map_map]
  congr 1 <;> exact List.map_congr_left fun x _ => ev_toSt _ _ _
theorem extract_sound {x : Operand} {i : Nat} (h : exOp Ar.real P c T (.extract x i) σ k) : stepOp P (bare (.extract x i)) (σ.toSt c) (KD c σ k) := by
  simp only [exOp] at h
  simp only [stepOp]
  rw [ev_toSt]
  split at h
  · rename_i l hx
    rw [hx]
    split at h
    · rename_i hi
      simp only [X.toD]
      refine ⟨by rw [toDL_len]; exact hi, KD.pure hc _ h ?_⟩
      simp [toDL_eq, List.getD_eq_getElem?_getD, hi]
    · exact h.elim
  · exact h.elim
theorem field_sound {t f : Nat} {x : Operand} (h : exOp Ar.real P c T (.fieldAddr t x f) σ k) : stepOp P (bare (.fieldAddr t x f)) (σ.toSt c) (KD c σ k) := by
  simp only [exOp] at h
  simp only [stepOp]
  rw [ev_toSt]
  split at h
  case h_2 => exact h.elim
  rename_i ti hti
  split at h
  case h_2 => exact h.elim
  rename_i fs hk
  rw [(hT.get hti).k, hk]
  simp only
  split at h
  case h_2 => exact h.elim
  rename_i fo ft hf
  rw [hf]
  simp only
  split at h
  case h_2 => exact h.elim
  rename_i fi hfi
  split at h
  case isFalse => exact h.elim
  rename_i h0
  refine ⟨⟨fi.sz, (hT.get hfi).sz, h0⟩, ?_⟩
  split at h
  · rename_i hx; rw [hx]; exact KD.pure hc _ h rfl
  · rename_i hx; rw [hx]; exact KD.pure hc _ h rfl
  · rename_i n ver z i off hx
    rw [hx]
    split at h
    · rename_i ver' e z' r hg
      split at h
      case isFalse => exact h.elim
      rename_i hz
      subst hz
      obtain ⟨h1, h2, h⟩ := h
      simp only [real_eqN, decide_eq_true_eq] at h1
      subst h1
      simp only [real_inB, vo_real, toN_real, lenI_real, decide_eq_true_eq, Int.toNat_natCast] at h2
      simp only [X.toD, toSt_get hc hg, OX.toOb]
      exact ⟨⟨trivial, trivial, by rw [List.length_map]; omega⟩, KD.rd hc _ n h rfl⟩
    · exact h.elim
  · exact h.elim
theorem index_sound {t : Nat} {x y : Operand} (h : exOp Ar.real P c T (.indexAddr t x y) σ k) : stepOp P (bare (.indexAddr t x y)) (σ.toSt c) (KD c σ k) := by
  simp only [exOp] at h
  simp only [stepOp]
  rw [ev_toSt, ev_toSt]
  split at h
  case h_2 => exact h.elim
  rename_i ti kd i hti hy
  rw [hy]
  simp only [X.toD]
  rw [(hT.get hti).k]
  split at h
  · rename_i m e hk
    rw [hk]
    simp only
    split at h
    · rename_i ei j hei hj
      split at h
      case isFalse => exact h.elim
      rename_i hjm
      have hjv : i.val = j := by
        unfold litI at hj
        split at hj
        · split at hj
          · simp only [Option.some.injEq] at hj
            rw [val_lit]; omega
          · cases hj
        · cases hj
      rw [(hT.get hei).sz]
      simp only
      refine ⟨by omega, ?_⟩
      rw [hjv, Int.toNat_natCast]
      split at h
      · rename_i hx; rw [hx]; exact KD.pure hc _ h rfl
      · rename_i hx; rw [hx]; exact KD.pure hc _ h rfl
      · exact h.elim
    · rename_i ei hei hj
      split at h
      case isFalse => exact h.elim
      rename_i h1
      rw [(hT.get hei).sz]
      simp only
      rw [h1]
      split at h
      · rename_i hx
        obtain ⟨h2, h⟩ := h
        simp only [real_inB, vo_real, decide_eq_true_eq] at h2
        refine ⟨h2, ?_⟩
        rw [hx]
        exact KD.pure hc _ h (by simp only [X.toD, Nat.mul_one])
      · rename_i hx
        obtain ⟨h2, h⟩ := h
        simp only [real_inB, vo_real, decide_eq_true_eq] at h2
        refine ⟨h2, ?_⟩
        rw [hx]
        exact KD.pure hc _ h (by simp only [X.toD, Nat.mul_one])
      · exact h.elim
    · exact h.elim
  · rename_i e hk
    rw [hk]
    simp only
    rw [← toD_coe]
    split at h
    · rename_i ei r hei hx
      obtain ⟨h1, h⟩ := h
      simp only [real_inB, vo_real, toN_real, lenI_real, decide_eq_true_eq, Int.toNat_natCast] at h1
      obtain ⟨cs, h, hcs⟩ := getK_real r i h h1.1 (by omega)
      split at h
      case isFalse => exact h.elim
      rename_i hz
      rw [hx]
      simp only [X.toD]
      refine ⟨h1, ?_, ?_⟩
      · rw [(hT.get hei).sz, ← hcs, toCL_len, hz]
      · exact KD.pure hc _ h (by simp only [X.toD, hcs])
    · rename_i ei n ver hei hx
      rw [hx]
      split at h
      · rename_i ver' e' z r hg
        split at h
        case isFalse => exact h.elim
        rename_i hz
        obtain ⟨h1, h2, h⟩ := h
        simp only [real_eqN, decide_eq_true_eq] at h1
        subst h1
        simp only [real_inB, vo_real, toN_real, lenI_real, decide_eq_true_eq, Int.toNat_natCast] at h2
        simp only [X.toD, toSt_get hc hg, OX.toOb]
        exact ⟨⟨trivial, h2.1, by rw [List.length_map]; omega⟩, by rw [(hT.get hei).sz, hz], KD.rd hc _ n h rfl⟩
      · exact h.elim
    · exact h.elim
  · exact h.elim
theorem build_sound {t : Nat} {parts : Array (Nat × Operand)} (h : exOp Ar.real P c T (.build t parts) σ k) : stepOp P (bare (.build t parts)) (σ.toSt c) (KD c σ k) := by
  simp only [exOp] at h
  simp only [stepOp]
  split at h
  case h_2 => exact h.elim
  rename_i ti hti
  rw [(hT.get hti).k, parts_toD]
  split at h
  · rename_i fs z hk hz
    rw [hk]
    split at h
    case h_2 => exact h.elim
    rename_i pl hpl
    simp only
    rw [plcX_toD hT fs pl hpl, (hT.get hti).zero z hz c]
    split at h
    case h_2 => exact h.elim
    rename_i cs hcs
    simp only
    rw [fillX_toD c pl _ z cs hcs]
    exact KD.pure hc _ h rfl
  · rename_i m e z hk hz
    rw [hk]
    split at h
    case h_2 => exact h.elim
    rename_i ei hei
    simp only
    rw [(hT.get hei).sz, (hT.get hti).zero z hz c]
    split at h
    case h_2 => exact h.elim
    rename_i cs hcs
    simp only
    rw [fillAX_toD c ei.sz _ z cs hcs]
    exact KD.pure hc _ h rfl
  · exact h.elim
theorem slit_sound {t len : Nat} {parts : Array (Nat × Operand)} (h : exOp Ar.real P c T (.buildSlice t len parts) σ k) : stepOp P (bare (.buildSlice t len parts)) (σ.toSt c) (KD c σ k) := by
  simp only [exOp] at h
  split at h
  case h_2 => exact h.elim
  rename_i ti hti
  split at h
  case h_2 => exact h.elim
  rename_i e hk
  split at h
  case h_2 => exact h.elim
  rename_i ei l hei hl
  split at h
  case isFalse => exact h.elim
  rename_i hh
  obtain ⟨hz, h0, h1, h2, h3⟩ := hh
  have hll := litRowsX_len _ _ hl
  have hlen : l.length = len := by
    have := congrArg List.length h2
    simp only [List.length_map, List.length_range] at this hll
    omega
  have e1 : (parts.toList.map fun p => evE (σ.toSt c).env p.2) = (parts.toList.map fun p => evX σ.E p.2).map (X.toD c) := by
    rw [List.map_map]
    exact List.map_congr_left fun p _ => by simp [ev_toSt]
  cases len with
  | zero =>
    simp only [stepOp]
    rw [(hT.get hti).k, hk]
    simp only
    have : parts.toList = [] := by
      have := congrArg List.length h2
      simpa using this
    refine ⟨⟨ei.sz, (hT.get hei).sz⟩, this, KD.pure hc _ h ?_⟩
    have hl0 : l = [] := by simpa using hlen
    subst hl0
    rfl
  | succ len =>
    simp only [stepOp]
    rw [(hT.get hti).k, hk]
    simp only
    obtain ⟨z, hzz⟩ := Option.isSome_iff_exists.1 hz
    rw [(hT.get hei).sz, (hT.get hei).zero z hzz c, e1]
    simp only [litOf]
    rw [litRowsX_toD c _ l hl]
    simp only [Option.map_some]
    have hr : (X.toCLL l).length = len + 1 := by rw [toCLL_len, hlen]
    have hf := (needFits_elim (r := .lits l) (sz := ei.sz) (x := True) (by simp [needFits, h3])).2
    refine ⟨⟨h0, by omega, h1, h2, fun i hi => ?_⟩, ?_⟩
    · have hi' : i < (X.toCLL l).length := by omega
      have : (X.toCLL l).getD i [] = (X.toCLL l)[i] := by simp [List.getD_eq_getElem?_getD, hi']
      rw [this]
      exact (hf _ (List.getElem_mem hi')).1
    · refine KD.pure hc _ h ?_
      simp only [X.toD, RR.rows, hr]
theorem call_sound {cl : Call} {f : Operand} (hf : cl.callee = .value f) (h : exOp Ar.real P c T (.call cl) σ k) : stepOp P (bare (.call cl)) (σ.toSt c) (KD c σ k) := by
  simp only [exOp, hf] at h
  simp only [stepOp, hf]
  split at h
  · rename_i n first caps hx
    rw [ev_at hx]
    simp only [X.toD, stepCall]
    obtain ⟨h⟩ := h
    replace h := h hc
    have e1 : X.toDL c (first ++ X.coeL (cl.args.toList.map (evX σ.E)) ++ caps) = X.toDL c first ++ D.coeL (cl.args.toList.map (evE (σ.toSt c).env)) ++ X.toDL c caps := by
      have e2 : cl.args.toList.map (evE (σ.toSt c).env) = X.toDL c (cl.args.toList.map (evX σ.E)) := by
        rw [toDL_eq, List.map_map]
        exact List.map_congr_left fun x _ => ev_toSt _ _ _
      rw [e2, ← toDL_coe]
      simp only [toDL_eq, List.map_append]
    rw [e1] at h
    exact h
  · exact h.elim
end
end Go.Sy

/-
  The operations on reified states do what they say, third part; all of them. Plain theorems.
-/
import Derived.Test.YtkjjihicaefmcaaDoorSyU
set_option linter.unusedVariables false
set_option linter.unusedSimpArgs false
set_option linter.unusedSectionVars false
namespace Go.Sy
open Go Go.RowKit
theorem mput_at (es : List (List Int × D)) (k : List Int) (d : D) : (mput es k d)[mplace es k]? = some (k, d) := by
  induction es with
  | nil => rfl
  | cons a l ih =>
    simp only [mput, mplace]
    by_cases e : a.1 = k
    · simp [e]
    · simp [e, ih]
theorem mput_over (es : List (List Int × D)) (k : List Int) (d d' : D) : (mput es k d).set (mplace es k) (k, d') = mput es k d' := by
  induction es with
  | nil => rfl
  | cons a l ih =>
    simp only [mput, mplace]
    by_cases e : a.1 = k
    · simp [e]
    · simp [e, ih]
theorem subR_rows {r : RR} {l h : IX} (h0 : 0 ≤ l.val) (h1 : l.val ≤ h.val) (h2 : h.val ≤ r.rows.length) :
    (subR Ar.real r l h).rows = (List.range (h.val.toNat - l.val.toNat)).map fun j => r.rows.getD (l.val.toNat + j) [] := by
  unfold subR
  split
  · rename_i n f
    simp only [val_lit, toN_real, RR.rows]
    have h3 : (h.val).toNat ≤ n := by simp only [RR.rows, List.length_map, List.length_range] at h2; omega
    apply List.ext_getElem (by simp)
    intro i hi1 hi2
    simp only [List.length_map, List.length_range] at hi1
    have : i < n := by omega
    simp [List.getD_eq_getElem?_getD, this]
  · rename_i n f hnl
    simp only [toN_real, RR.rows, real_subN]
    have h3 : (h.val).toNat ≤ n := by simp only [RR.rows, List.length_map, List.length_range] at h2; omega
    apply List.ext_getElem (by simp)
    intro i hi1 hi2
    simp only [List.length_map, List.length_range] at hi1
    have : l.val.toNat + i < n := by omega
    simp [List.getD_eq_getElem?_getD, this, real_addN]
  · rename_i ll a b
    simp only [val_lit] at *
    simp only [RR.rows, toCLL_eq, List.map_drop, List.map_take] at *
    have h3 : b.toNat ≤ ll.length := by simp only [List.length_map] at h2; omega
    apply List.ext_getElem (by simp; omega)
    intro i hi1 hi2
    simp only [List.length_map, List.length_range] at hi2
    have : a.toNat + i < ll.length := by omega
    simp [List.getD_eq_getElem?_getD, this]
  · simp only [toN_real, RR.rows, real_subN]
section
variable {P : Program} {T : List (TypeId × TI)} {c : Cx} {σ : Sx} {k : Kx} (hT : TOk P T) (hc : c.Ok σ)
include hT hc
theorem more_sound {op : Op} (h : exMore Ar.real T op σ k) : stepMore P (bare op) (σ.toSt c) (KD c σ k) := by
  unfold exMore at h
  split at h
  · rename_i t
    simp only [stepMore]
    split at h
    case h_2 => exact h.elim
    rename_i ti hti
    split at h
    case h_2 => exact h.elim
    rename_i kt vt hk
    split at h
    case h_2 => exact h.elim
    rename_i ki hki
    split at h
    case h_2 => exact h.elim
    rename_i ag m hkey
    rw [(hT.get hti).k, hk]
    simp only
    rw [(hT.get hki).key _ hkey, toSt_nx]
    exact KD.new hc _ _ h rfl
  · rename_i t x y ok
    simp only [stepMore]
    split at h
    case h_2 => exact h.elim
    rename_i ti hti
    split at h
    case h_2 => exact h.elim
    rename_i kt et n hk hx
    split at h
    case h_2 => exact h.elim
    rename_i ki ei ver ag m es hki hei hg
    split at h
    case h_2 => exact h.elim
    rename_i ky z hky hz
    split at h
    case isFalse => exact h.elim
    rename_i hh
    obtain ⟨r, h, hr⟩ := getM_real c es ky h
    rw [(hT.get hti).k, hk, ev_at hx, ev_toSt]
    simp only [X.toD, toSt_get hc hg, OX.toOb, keyX_toD c hky, (hT.get hei).zd z hz c]
    refine ⟨⟨(hT.get hki).key _ hh.1, by simpa using hh.2⟩, KD.rd hc _ n h ?_⟩
    rw [hr]
    cases ok <;> cases r <;> rfl
  · rename_i t x y z
    simp only [stepMore]
    split at h
    case h_2 => exact h.elim
    rename_i ti hti
    split at h
    case h_2 => exact h.elim
    rename_i kt et n hk hx
    split at h
    case h_2 => exact h.elim
    rename_i ki ver ag m es hki hg
    split at h
    case h_2 => exact h.elim
    rename_i ky hky
    split at h
    case isFalse => exact h.elim
    rename_i hh
    rw [(hT.get hti).k, hk, ev_at hx, ev_toSt]
    simp only [X.toD, toSt_get hc hg, OX.toOb, keyX_toD c hky]
    rw [ev_toSt]
    refine ⟨⟨(hT.get hki).key _ hh.1, by simpa using hh.2.1, fun _ w hw => ?_⟩, KD.set hc .junk n hg _ h rfl⟩
    exact ok_nms c (m := .put es ky (evX σ.E z)) (by simp [MX.ok, hh.2.2.1, hh.2.2.2]) w hw _
  · rename_i t x y
    simp only [stepMore]
    split at h
    case h_2 => exact h.elim
    rename_i ti hti
    split at h
    case h_2 => exact h.elim
    rename_i kt et n hk hx
    split at h
    case h_2 => exact h.elim
    rename_i ki ei ver ag m es hki hei hg
    split at h
    case h_2 => exact h.elim
    rename_i ky z es' vf b1 b2 b3 hky hz
    split at h
    case isFalse => exact h.elim
    rename_i hh
    obtain ⟨r, h, hr⟩ := getM_real c (.base es' vf b1 b2 b3) ky h
    rw [(hT.get hti).k, hk, ev_at hx, ev_toSt]
    simp only [X.toD, toSt_get hc hg, OX.toOb, keyX_toD c hky, (hT.get hei).zd z hz c]
    have hrz : (mget (MX.es c (.base es' vf b1 b2 b3)) (ky.map IX.val)).getD (z.toD c) = (r.getD z).toD c := by
      rw [hr]; cases r <;> rfl
    have hnm : ∀ b, D.nms b ((r.getD z).toD c) := fun b => by
      rw [← hrz]
      cases hm : mget (MX.es c (.base es' vf b1 b2 b3)) (ky.map IX.val) with
      | none => exact noNm_nms c hh.2.2 b
      | some d =>
        have hmem : ∀ (l : List (List Int × D)) kk d, mget l kk = some d → ∃ x ∈ l, x.2 = d := by
          intro l
          induction l with
          | nil => intro kk d hd; simp [mget] at hd
          | cons a l ih =>
            intro kk d hd
            simp only [mget] at hd
            split at hd
            · simp only [Option.some.injEq] at hd; exact ⟨a, List.mem_cons_self, hd⟩
            · obtain ⟨x, hx, e⟩ := ih kk d hd; exact ⟨x, List.mem_cons_of_mem _ hx, e⟩
        obtain ⟨x, hx, e⟩ := hmem _ _ _ hm
        rw [Option.getD_some, ← e]
        exact b3 x hx b
    rw [hrz]
    refine ⟨⟨(hT.get hki).key _ hh.1, by simpa using hh.2.1, fun _ w hw => ?_⟩, ?_⟩
    · rcases mem_mput hw with h1 | h1
      · exact b3 w h1 _
      · rw [h1]; exact hnm _
    · have h5 := KD.set hc _ n hg _ h rfl
      simp only [OX.toOb, MX.es] at h5
      have e1 : (X.tup [r.getD z, .st n (ver + 1) (Ar.real.place es' (ky.map (IX.vo Ar.real)))]).toD c = .tup [(r.getD z).toD c, .st (n.at c) (ver + 1) (mplace es' (ky.map IX.val))] := by
        simp only [X.toD, X.toDL, map_vo, real_place]
      rw [e1] at h5
      exact h5
  · rename_i t x y z
    simp only [stepMore]
    have key : ∀ (n n' : Nm) (ver' i : Nat) , n' = n → evX σ.E x = .mp n → evX σ.E y = .st n' ver' i → ∀ ver ag m es' vf b1 b2 b3 ky x0, σ.get n = some (.map ver ag m (.put (.base es' vf b1 b2 b3) ky x0)) → (evX σ.E z).noNm = true →
        NeedT (Ar.real.eqN ver' ver) (NeedT (Ar.real.eqN i (Ar.real.place es' (ky.map (IX.vo Ar.real)))) (k .junk ([n], [n]) (σ.set n (.map (ver + 1) ag m (.put (.base es' vf b1 b2 b3) ky (evX σ.E z)))))) →
        stepMore P (bare (.entryStore t x y z)) (σ.toSt c) (KD c σ k) := by
      rintro n _ ver' i rfl hx hy ver ag m es' vf b1 b2 b3 ky x0 hg hz ⟨h1, h2, h⟩
      simp only [real_eqN, decide_eq_true_eq, real_place, map_vo] at h1 h2
      subst h1
      subst h2
      simp only [stepMore]
      rw [ev_at hx, ev_at hy]
      simp only [X.toD, toSt_get hc hg, OX.toOb, MX.es]
      have hp := mput_at es' (ky.map IX.val) (x0.toD c)
      have hs := mput_over es' (ky.map IX.val) (x0.toD c) ((evX σ.E z).toD c)
      rw [hp]
      simp only
      rw [ev_toSt, hs]
      refine ⟨⟨trivial, trivial, fun _ w hw => ?_⟩, KD.set hc .junk _ hg _ h rfl⟩
      rcases mem_mput hw with h1 | h1
      · exact b3 w h1 _
      · rw [h1]; exact noNm_nms c hz _
    split at h
    · rename_i n n' ver' i hx hy
      split at h
      · rename_i nn
        split at h
        · rename_i ver ag m es' vf b1 b2 b3 ky x0 hg
          split at h
          · rename_i hh
            exact key _ _ _ _ (by rw [hh.1]) hx hy _ _ _ _ _ _ _ _ _ _ hg hh.2 h
          · exact h.elim
        · exact h.elim
      · exact h.elim
    · rename_i n n' ver' i hx hy
      split at h
      · rename_i nn
        split at h
        · rename_i ver ag m es' vf b1 b2 b3 ky x0 hg
          split at h
          · rename_i hh
            exact key _ _ _ _ (by rw [hh.1]) hx hy _ _ _ _ _ _ _ _ _ _ hg hh.2 h
          · exact h.elim
        · exact h.elim
      · exact h.elim
    · exact h.elim
  · rename_i t x
    simp only [stepMore]
    split at h
    case h_2 => exact h.elim
    rename_i ti hti
    split at h
    case h_2 => exact h.elim
    rename_i kt et n hk hx
    split at h
    case h_2 => exact h.elim
    rename_i ver ag m es hg
    rw [(hT.get hti).k, hk, ev_at hx]
    simp only [X.toD, toSt_get hc hg, OX.toOb]
    rw [toSt_nx]
    have h5 : KD c σ k ((X.ptr (.loc σ.L.length) 0).toD c) [n.at c] [] [(OX.iter n ver [] none).toOb c] :=
      ⟨_, _, _, h, rfl, fun d' => toSt_new d', ⟨hc.len, hc.nod, hc.lt⟩, rfl, by simp [nameNew, toSt_nx]⟩
    exact h5
  · rename_i x
    simp only [stepMore]
    split at h
    case h_2 => exact h.elim
    rename_i q hx
    split at h
    case h_2 => exact h.elim
    rename_i n ver seen i ky hq
    split at h
    case h_2 => exact h.elim
    rename_i ver' ag m es vf b1 b2 b3 hg
    obtain ⟨h1, ⟨d, hd⟩, h⟩ := h
    simp only [real_eqN, decide_eq_true_eq] at h1
    subst h1
    rw [ev_at hx]
    have hl : (seen ++ curL (some (i, ky))).getLast? = some i := by simp [curL]
    simp only [X.toD, toSt_get hc hq, toSt_get hc hg, OX.toOb, MX.es, hl, hd]
    refine ⟨trivial, ⟨_, _, σ, h, ?_, fun _ => rfl, hc, rfl, rfl⟩⟩
    have e1 := b1 c ky d (mget_at b2 hd)
    simp only [X.toD, X.toDL, keyXO_toD, ← e1]
  · rename_i t x y
    simp only [stepMore]
    rw [ev_toSt, ev_toSt]
    split at h
    case h_2 => exact h.elim
    rename_i ti cs kd i hti hx hy
    rw [hx, hy]
    simp only [X.toD]
    split at h
    case h_2 => exact h.elim
    rename_i m e hk
    rw [(hT.get hti).k, hk]
    simp only
    split at h
    case h_2 => exact h.elim
    rename_i ei hei
    have hi := hT.get hei
    rw [hi.sz]
    simp only
    rw [hi.k]
    split at h
    · rename_i n
      split at h
      case isFalse => exact h.elim
      rename_i hn
      split at h
      case h_2 => exact h.elim
      rename_i x' hl
      simp only [val_lit]
      rw [loadX_toD c hl]
      exact ⟨hn, KD.pure hc _ h rfl⟩
    · rename_i i hni
      split at h
      case h_2 => exact h.elim
      rename_i hk1 hs1
      split at h
      case h_2 => exact h.elim
      rename_i x' hsel
      obtain ⟨h1, h⟩ := h
      simp only [real_inB, vo_real, decide_eq_true_eq] at h1
      obtain ⟨h2, h3, _⟩ := selX_toD hT hc hsel h1.1 h1.2
      simp only [Nat.zero_add] at h2 h3
      rw [hk1, hs1]
      simp only [loadD, TK.isAgg, toDL_len, Nat.mul_one, if_pos h2]
      refine ⟨h1, KD.pure hc _ h ?_⟩
      rw [← h3]
      simp only [toDL_eq, List.getD_eq_getElem?_getD, List.getElem?_map, List.getElem?_eq_getElem h2, Option.map_some, Option.getD_some]
  · rename_i t x f
    simp only [stepMore]
    rw [ev_toSt]
    split at h
    case h_2 => exact h.elim
    rename_i ti cs hti hx
    rw [hx]
    simp only [X.toD]
    split at h
    case h_2 => exact h.elim
    rename_i fs hk
    rw [(hT.get hti).k, hk]
    simp only
    split at h
    case h_2 => exact h.elim
    rename_i fo ft hf
    rw [hf]
    simp only
    split at h
    case h_2 => exact h.elim
    rename_i fi hfi
    have hi := hT.get hfi
    rw [hi.sz]
    simp only
    rw [hi.k]
    split at h
    case h_2 => exact h.elim
    rename_i x' hl
    rw [loadX_toD c hl]
    exact KD.pure hc _ h rfl
  · rename_i t x y
    simp only [stepMore]
    rw [ev_toSt, ev_toSt]
    split at h
    case h_2 => exact h.elim
    rename_i ti a b hti hx hy
    rw [hx, hy]
    simp only [X.toD]
    split at h
    case h_2 => exact h.elim
    rename_i e hk
    rw [(hT.get hti).k, hk]
    simp only
    split at h
    case h_2 => exact h.elim
    rename_i ei hei
    have hi := hT.get hei
    split at h
    case h_2 => exact h.elim
    rename_i z hz
    split at h
    case isFalse => exact h.elim
    rename_i hh
    obtain ⟨h1, h2, h3, h4⟩ := hh
    obtain ⟨g1, g2, g3, h⟩ := h
    simp only [real_eq, real_le, real_mul, vo_real, beq_iff_eq, decide_eq_true_eq] at g1 g2 g3
    rw [hi.sz, hi.by_, hi.zero z hz c]
    have hrm : a.val.toNat * ei.by_ ≤ 140737488355328 := by
      have e1 : ((a.val.toNat * ei.by_ : Nat) : Int) = a.val * ei.by_ := by rw [Int.natCast_mul, Int.toNat_of_nonneg g2]
      omega
    refine ⟨⟨g1, g2, by rw [toDL_len]; exact h1, h2, h3, hrm⟩, ?_⟩
    have h5 := KD.new hc _ _ h rfl
    rw [toSt_nx]
    have e2 : (OX.row 0 e ei.sz (.fn (a.toN Ar.real) fun _ => z)).toOb c = .row 0 e ei.sz (List.replicate a.val.toNat (X.toDL c z)) := by
      simp only [OX.toOb, RR.rows, toN_real, List.map_map]
      congr 1
      rw [clean_toDL c h4]
      exact List.eq_replicate_iff.2 ⟨by simp, fun y hy => by
        obtain ⟨i, _, rfl⟩ := List.mem_map.1 hy
        rfl⟩
    rw [e2] at h5
    exact h5
  · exact h.elim
theorem bin_sound {op : BinOp} {t t' : TypeId} {x y : Operand} (h : exOp Ar.real P c T (.binOp op t x y t') σ k) : stepOp P (bare (.binOp op t x y t')) (σ.toSt c) (KD c σ k) := by
  simp only [exOp] at h
  simp only [stepOp]
  rw [ev_toSt, ev_toSt]
  split at h
  · rename_i j a j' b hx hy
    rw [hx, hy]
    simp only [X.toD]
    split at h
    · rename_i e
      subst e
      split at h
      · -- quo
        simp only [true_and]
        split at h
        · rename_i n
          split at h
          · exact h.elim
          · rename_i h0
            refine ⟨h0, KD.pure hc _ h ?_⟩
            simp only [X.toD, D.c.injEq, C.v.injEq, Value.int.injEq, true_and]
            split
            · rfl
            · simp only [val_s, val_lit, real_wrap, real_quo, vo_real]
        · obtain ⟨h0, h⟩ := h
          simp only [real_not, real_eq, vo_real, Bool.not_eq_true', beq_eq_false_iff_ne] at h0
          refine ⟨h0, KD.pure hc _ h ?_⟩
          simp only [X.toD, val_s, real_wrap, real_quo, vo_real]
      · simp only [true_and]
        split at h
        · rename_i n
          split at h
          · exact h.elim
          · rename_i h0
            refine ⟨h0, KD.pure hc _ h ?_⟩
            simp only [X.toD, D.c.injEq, C.v.injEq, Value.int.injEq, true_and]
            split
            · rfl
            · simp only [val_s, val_lit, real_rem, vo_real]
        · obtain ⟨h0, h⟩ := h
          simp only [real_not, real_eq, vo_real, Bool.not_eq_true', beq_eq_false_iff_ne] at h0
          refine ⟨h0, KD.pure hc _ h ?_⟩
          simp only [X.toD, val_s, real_rem, vo_real]
      · rename_i hnq hnr
        split at h
        · rename_i r hr
          obtain ⟨v, hv, hrv⟩ := binX_toD c hr
          have hgo : KD c σ k (.c (.v v)) [] [] [] := KD.pure hc _ h hrv.symm
          cases op <;> first | (exact (hnq rfl).elim) | (exact (hnr rfl).elim) | (simp only [binX, reduceCtorEq] at hr; done) | (simp only [hv]; exact hgo)
        · split at h
          · obtain ⟨h0, h⟩ := h
            simp only [real_le, vo_real, decide_eq_true_eq] at h0
            exact ⟨h0, KD.pure hc _ h (by simp only [X.toD, val_s, real_wrap, real_shl, vo_real])⟩
          · obtain ⟨h0, h⟩ := h
            simp only [real_le, vo_real, decide_eq_true_eq] at h0
            exact ⟨h0, KD.pure hc _ h (by simp only [X.toD, val_s, real_shr, vo_real])⟩
          · exact h.elim
    · split at h
      · obtain ⟨h0, h⟩ := h
        simp only [real_le, vo_real, decide_eq_true_eq] at h0
        exact ⟨h0, KD.pure hc _ h (by simp only [X.toD, val_s, real_wrap, real_shl, vo_real])⟩
      · obtain ⟨h0, h⟩ := h
        simp only [real_le, vo_real, decide_eq_true_eq] at h0
        exact ⟨h0, KD.pure hc _ h (by simp only [X.toD, val_s, real_shr, vo_real])⟩
      · exact h.elim
  · rename_i a b hx hy
    rw [hx, hy]
    simp only [X.toD]
    split at h
    case h_2 => exact h.elim
    rename_i ti hti
    split at h
    · rename_i r hk hr
      obtain ⟨va, vb, e1, e2, e3⟩ := leafX_toD c hr
      simp only [X.toD, D.c.injEq, C.v.injEq] at e1 e2
      subst e1
      subst e2
      simp only [leafEq, Option.some.injEq] at e3
      rw [(hT.get hti).k, hk]
      simp only [binV, true_and]
      exact KD.pure hc _ h (by simp only [X.toD, e3])
    · rename_i r hk hr
      obtain ⟨va, vb, e1, e2, e3⟩ := leafX_toD c hr
      simp only [X.toD, D.c.injEq, C.v.injEq] at e1 e2
      subst e1
      subst e2
      simp only [leafEq, Option.some.injEq] at e3
      rw [(hT.get hti).k, hk]
      simp only [binV, true_and]
      exact KD.pure hc _ h (by simp only [X.toD, notX_real, ← e3]; rfl)
    · exact h.elim
  · rename_i a b hx hy
    rw [hx, hy]
    simp only [X.toD]
    split at h
    · simp only [binV]
      exact KD.pure hc _ h (by simp only [X.toD, BX.val, real_eqS])
    · simp only [binV]
      exact KD.pure hc _ h (by simp only [X.toD, BX.val, real_eqS, real_not])
    · exact h.elim
  · rename_i a b hx hy
    rw [hx, hy]
    simp only [X.toD]
    split at h
    case h_2 => exact h.elim
    rename_i ti hti
    split at h
    case h_2 => exact h.elim
    rename_i ks hks
    have key : ∀ r, eqCX Ar.real ks a b = some r → eqA P t (X.toDL c a) (X.toDL c b) = some r.val := fun r hr => by
      obtain ⟨as, bs, e1, e2, e3⟩ := eqCX_toD c ks a b r hr
      simp only [eqA, (hT.get hti).flat ks hks, e1, e2, e3]
    split at h
    · rename_i r hr
      rw [key r hr]
      exact KD.pure hc _ h rfl
    · rename_i r hr
      rw [key r hr]
      exact KD.pure hc _ h (notX_toD c r).symm
    · exact h.elim
  · rename_i r hx hy
    rw [hx, hy]
    simp only [X.toD]
    split at h
    case h_2 => exact h.elim
    rename_i ti hti
    have hk := (hT.get hti).k
    split at h
    · rename_i e he
      obtain ⟨h0, h⟩ := h
      simp only [real_lt, vo_real, lenI_real, decide_eq_true_eq] at h0
      rw [hk, he]
      exact ⟨.inl rfl, by omega, KD.pure hc _ h rfl⟩
    · rename_i e he
      obtain ⟨h0, h⟩ := h
      simp only [real_lt, vo_real, lenI_real, decide_eq_true_eq] at h0
      rw [hk, he]
      exact ⟨.inr rfl, by omega, KD.pure hc _ h rfl⟩
    · exact h.elim
  · exact h.elim
theorem ixX_toD {d : IX} {x : Option Operand} {e : IX} (h : ixX σ.E d x = some e) : ixOf (σ.toSt c).env d.val x = some e.val := by
  unfold ixX at h
  unfold ixOf
  split at h
  · cases h; rfl
  · rename_i q
    split at h
    · rename_i e' he
      cases h
      simp only [ev_at he, X.toD]
    · cases h
theorem slice_sound {t : Nat} {x : Operand} {lo hi : Option Operand} (h : exOp Ar.real P c T (.slice t x lo hi none) σ k) : stepOp P (bare (.slice t x lo hi none)) (σ.toSt c) (KD c σ k) := by
  simp only [exOp] at h
  simp only [stepOp]
  rw [ev_toSt]
  split at h
  case h_2 => exact h.elim
  rename_i ti r hti hx
  split at h
  case h_2 => exact h.elim
  rename_i e hk
  split at h
  case h_2 => exact h.elim
  rename_i ei l hh hei hl hhi
  obtain ⟨h, hf⟩ := needFits_elim h
  obtain ⟨h0, h⟩ := h
  simp only [real_and, real_le, vo_real, lenI_real, Bool.and_eq_true, decide_eq_true_eq] at h0
  have e1 := ixX_toD hT hc hl
  have e2 := ixX_toD hT hc hhi
  rw [lenI_real] at e2
  rw [(hT.get hti).k, hk, roL_coe c hx]
  simp only
  rw [(hT.get hei).sz]
  have e1' : ixOf (σ.toSt c).env 0 lo = some l.val := e1
  rw [e1', e2]
  simp only
  refine ⟨⟨h0.1, h0.2.1, h0.2.2, fun i hi => ?_⟩, KD.pure hc _ h ?_⟩
  · have : r.rows.getD i [] = r.rows[i] := by simp [List.getD_eq_getElem?_getD, hi]
    rw [this]
    exact (hf _ (List.getElem_mem hi)).1
  · simp only [X.toD, subR_rows h0.1 h0.2.1 h0.2.2, List.length_map, List.length_range, D.c.injEq, C.ro.injEq, true_and]
    funext i
    by_cases hi : i < hh.val.toNat - l.val.toNat
    · simp [List.getD_eq_getElem?_getD, hi]
    · simp [List.getD_eq_getElem?_getD, hi]
theorem exOp_sound {op : Op} (h : exOp Ar.real P c T op σ k) : stepOp P (bare op) (σ.toSt c) (KD c σ k) := by
  have h' := h
  unfold exOp at h
  split at h
  · exact KD.pure hc _ h (ev_toSt _ _ _)
  · exact KD.pure hc _ h (ev_toSt _ _ _)
  · exact pick_sound hT hc h'
  · exact alloc_sound hT hc h'
  · exact box_sound hT hc h'
  · exact load_sound hT hc h'
  · exact store_sound hT hc h'
  · exact nil_sound hT hc h'
  · exact bin_sound hT hc h'
  · exact un_sound hT hc h'
  · exact conv_sound hT hc h'
  · exact fn_sound hT hc h'
  · exact field_sound hT hc h'
  · exact index_sound hT hc h'
  · exact build_sound hT hc h'
  · exact slit_sound hT hc h'
  · exact slice_sound hT hc h'
  · exact extract_sound hT hc h'
  · rename_i cl
    split at h
    · rename_i b hb
      simp only [stepOp, hb]
      exact builtin_sound hT hc h
    · rename_i f hf
      exact call_sound hT hc hf h'
    · exact h.elim
  · rename_i op' g1 g2 g3 g4 g5 g6 g7 g8 g9 g10 g11 g12 g13 g14 g15 g16 g17 g18 g19
    have hm := more_sound hT hc h
    clear h h' hT hc
    cases op
    case slice mx => cases mx <;> first | exact (g17 _ _ _ _ rfl).elim | exact hm
    all_goals first | exact hm | (exact (g1 _ rfl).elim) | (exact (g2 _ rfl).elim) | (exact (g3 _ _ _ rfl).elim) | (exact (g4 _ rfl).elim) | (exact (g5 _ _ rfl).elim) | (exact (g6 _ _ rfl).elim) | (exact (g7 _ _ _ rfl).elim) | (exact (g8 _ rfl).elim) | (exact (g9 _ _ _ _ _ rfl).elim) | (exact (g10 _ _ _ rfl).elim) | (exact (g11 _ _ _ rfl).elim) | (exact (g12 _ _ _ rfl).elim) | (exact (g13 _ _ _ rfl).elim) | (exact (g14 _ _ _ rfl).elim) | (exact (g15 _ _ rfl).elim) | (exact (g16 _ _ _ rfl).elim) | (exact (g18 _ _ rfl).elim) | (exact (g19 _ rfl).elim)
end
theorem own_ro {K : Ctx} {N : Nat} {ρ : Env} {Z : Nat → Prop} {S : St} {a : Act} {w : World} (hS : SatS K N ρ Z S a w) {n ver E sz : Nat} {r : List (List C)} {v : Value} (h : Rel ρ w Z (.own n ver) v)
    (hg : S.get n = some (.row ver E sz (r.map fun l => l.map D.c))) (Z' : Nat → Prop) (hZ : ∀ b, Z b → Z' b) (hZb : ∀ b, (ρ.val n).ownBlock = some b → Z' b) : Rel ρ w Z' (.c (roL r)) v := by
  cases h with
  | @own _ _ A l cp hl hle hv =>
    obtain ⟨_, hver, hrows, xs, hown, hrel⟩ := hS.sat.mem.obj n _ hg
    have ev := hv hver.symm
    have hxl := hown.1
    rw [List.length_map] at hxl
    have hsz : ∀ i, i < r.length → (r.getD i []).length = sz := fun i hi => by
      have e : r.getD i [] = r[i] := by simp [List.getD_eq_getElem?_getD, hi]
      have := hrows _ (List.mem_map.2 ⟨r[i], List.getElem_mem hi, rfl⟩)
      rw [e]
      simpa using this
    have hel : ∀ i, i < r.length → ∀ j, j < sz → CRel w Z' ((r.getD i []).getD j default) (xs.getD (i * sz + j) undef) := fun i hi j hj => by
      have h0 : 0 < sz := by omega
      have hlt : i * sz + j < xs.length := by
        rw [hxl]
        have : i * sz + sz ≤ r.length * sz := by rw [← Nat.succ_mul]; exact Nat.mul_le_mul_right _ (by omega)
        omega
      have h1 := hrel.at_ _ hlt
      have hd1 : (i * sz + j) / sz = i := by rw [Nat.add_comm, Nat.add_mul_div_right _ _ h0, Nat.div_eq_of_lt hj]; omega
      have hd2 : (i * sz + j) % sz = j := by rw [Nat.add_comm, Nat.add_mul_mod_self_right, Nat.mod_eq_of_lt hj]
      have hjf : j < (r.getD i []).length := by rw [hsz i hi]; exact hj
      rw [List.getD_eq_getElem?_getD, flatten_get h0 _ hrows, hd1, hd2] at h1
      have hri : (r.map fun l => l.map D.c)[i]? = some ((r.getD i []).map D.c) := by
        rw [List.getElem?_map, List.getElem?_eq_getElem hi]
        simp [List.getD_eq_getElem?_getD, hi]
      rw [hri] at h1
      generalize r.getD i [] = f at *
      simp [hjf] at h1
      simp only [List.getD_eq_getElem?_getD, List.getElem?_eq_getElem hjf, Option.getD_some]
      cases h1 with
      | c h => simpa using h.mono (fun _ _ => rfl) hZ
    rcases hown.2 with ⟨e0, h00⟩ | ⟨g, cap, cur, e0, _, hh, hnc, hcm, hcs, htake⟩
    · rw [e0] at ev
      cases ev
      have hr0 : r.length = 0 := by simpa using h00
      have hr : r = [] := List.length_eq_zero_iff.1 hr0
      subst hr
      exact .c (.ro none 0 sz (fun _ _ => undef) (by simp [maxLen]) (Nat.le_refl _) (fun i hi => by simp at hi) (fun h => by simp at h) (fun ad e => by cases e) (fun i hi => by simp at hi))
    · rw [e0] at ev
      simp only [List.length_map] at ev hnc hcm
      cases ev
      refine .c (.ro (some ⟨g, 0, none⟩) cp sz (fun i j => xs.getD (i * sz + j) undef) (by omega) (by omega) hsz (fun _ => ⟨_, rfl, hZb g (by rw [e0]; rfl), rfl⟩) (fun ad had i hi j hj => ?_) hel)
      cases had
      have hlt : i * sz + j < xs.length := by
        rw [hxl]
        have : i * sz + sz ≤ r.length * sz := by rw [← Nat.succ_mul]; exact Nat.mul_le_mul_right _ (by omega)
        omega
      have := hown.cells (g := g) (by rw [e0]; rfl) (i * sz + j) (xs.getD (i * sz + j) undef) (by simp [List.getD_eq_getElem?_getD, hlt])
      rw [Addr.add_lit] at this
      simpa using this
def Sx.fz (σ : Sx) (i : Nat) (r : RR) (ts : List Nat) : Sx := ⟨ts.foldl (fun E t => putE E t (.ro r)) σ.E, σ.L.set i none, σ.O⟩
theorem getE_fz {r : RR} : ∀ (ts : List Nat) (E : List (Nat × X)) (u : Nat), getE (ts.foldl (fun E t => putE E t (.ro r)) E) u = if u ∈ ts then .ro r else getE E u
  | [], E, u => by simp
  | t :: ts, E, u => by
    rw [List.foldl_cons, getE_fz ts, getE_putE]
    by_cases h1 : u ∈ ts
    · simp [h1]
    · by_cases h2 : u = t
      · simp [h2]
      · simp [h1, h2]
theorem SatS.fz {K : Ctx} {N : Nat} {ρ : Env} {Z : Nat → Prop} {c : Cx} {σ : Sx} {a : Act} {w : World} (hS : SatS K N ρ Z (σ.toSt c) a w) (hc : c.Ok σ) (i : Nat) (ts : List Nat) {ver E sz : Nat} {r : RR} (h1 : σ.L.getD i none = some (.row ver E sz r))
    (h2 : ∀ t ∈ ts, getE σ.E t = .own (.loc i) ver) : ∃ Z', SatS K N ρ Z' ((σ.fz i r ts).toSt c) a w ∧ ExtO c.n0 ρ Z w ρ Z' w := by
  have hg := toSt_get hc (n := .loc i) h1
  simp only [OX.toOb] at hg
  have hm := hS.sat.mem
  let Z' : Nat → Prop := fun b => Z b ∨ (ρ.val (c.n0 + i)).ownBlock = some b
  have hget : ∀ n o, ((σ.fz i r ts).toSt c).get n = some o → (σ.toSt c).get n = some o ∧ n ≠ c.n0 + i := fun n o ho => by
    by_cases hn : n < c.n0
    · have e1 : ((σ.fz i r ts).toSt c).get n = ovr c c.ons σ.O n := if_pos hn
      have e2 : (σ.toSt c).get n = ovr c c.ons σ.O n := if_pos hn
      rw [e2, ← e1]
      exact ⟨ho, by omega⟩
    · have e1 : ((σ.fz i r ts).toSt c).get n = ((σ.L.set i none).map (Option.map (OX.toOb c))).getD (n - c.n0) none := if_neg hn
      have e2 : (σ.toSt c).get n = (σ.L.map (Option.map (OX.toOb c))).getD (n - c.n0) none := if_neg hn
      rw [e1] at ho
      rw [e2]
      simp only [List.getD_eq_getElem?_getD, List.getElem?_map, List.getElem?_set] at ho ⊢
      by_cases hi : i = n - c.n0
      · rw [if_pos hi] at ho
        split at ho <;> simp at ho
      · rw [if_neg hi] at ho
        exact ⟨ho, by omega⟩
  refine ⟨Z', ⟨⟨hS.sat.tmps, hS.sat.defers, fun t => ?_, ?_, fun n hl => ?_⟩, hS.Bok⟩, ⟨fun n _ hl => ⟨hl, rfl, Nat.le_refl _, fun _ => rfl⟩, fun b hb => .inl hb, fun _ _ => rfl⟩⟩
  · show Rel ρ w Z' ((getE _ t).toD c) _
    simp only [Sx.fz, getE_fz]
    have hold : Rel ρ w Z ((getE σ.E t).toD c) (a.tmps.getD t undef) := hS.sat.env t
    split
    · rename_i ht
      rw [h2 t ht] at hold
      simp only [X.toD] at hold ⊢
      exact own_ro hS hold hg Z' (fun b hb => .inl hb) (fun b hb => .inr hb)
    · exact hold.mono (fun _ _ => rfl) (fun b hb => .inl hb) (.refl _)
  · refine ⟨hm.os, hm.tape, hm.output, hm.size, fun b hb => .inl (hm.Zmono b hb), fun b hb => ?_, hm.same, fun n o ho => ?_, fun n o b ho hb => ?_, fun n m o o' b h3 h4 b1 b2 => ?_, hm.bd⟩
    · rcases hb with hb | hb
      · exact hm.Zlt b hb
      · exact (hm.own _ _ b hg hb).2
    · obtain ⟨g1, _⟩ := hget n o ho
      obtain ⟨o1, o2⟩ := hm.obj n o g1
      exact ⟨o1, Ob.at_mono o2 (fun _ _ => rfl) (fun _ _ => rfl) (fun b hb => .inl hb) (.refl _) rfl rfl rfl⟩
    · obtain ⟨g1, gne⟩ := hget n o ho
      have h9 := hm.own n o b g1 hb
      refine ⟨fun hz => ?_, h9.2⟩
      rcases hz with hz | hz
      · exact h9.1 hz
      · exact gne (hm.inj n _ o _ b g1 hg hb hz)
    · exact hm.inj n m o o' b (hget n o h3).1 (hget m o' h4).1 b1 b2
  · have := hS.sat.live n hl
    refine ⟨this.1, ?_⟩
    have h5 : n < c.n0 + (σ.L.map (Option.map (OX.toOb c))).length := this.2
    show n < c.n0 + ((σ.L.set i none).map _).length
    simpa using h5
def Sx.fzv (σ : Sx) (i t : Nat) (cs : List X) : Sx := ⟨putE σ.E t (.rp cs 0), σ.L.set i none, σ.O⟩
theorem SatS.fzv {K : Ctx} {N : Nat} {ρ : Env} {Z : Nat → Prop} {c : Cx} {σ : Sx} {a : Act} {w : World} (hS : SatS K N ρ Z (σ.toSt c) a w) (hc : c.Ok σ) (i t : Nat) {T : TypeId} {cs : List X} (h1 : σ.L.getD i none = some (.var cs T)) (hcl : cs.all X.clean = true)
    (h2 : getE σ.E t = .ptr (.loc i) 0) : ∃ Z', SatS K N ρ Z' ((σ.fzv i t cs).toSt c) a w ∧ ExtO c.n0 ρ Z w ρ Z' w := by
  have hg := toSt_get hc (n := .loc i) h1
  simp only [OX.toOb] at hg
  have hm := hS.sat.mem
  let Z' : Nat → Prop := fun b => Z b ∨ b = ρ.blk (c.n0 + i)
  have hget : ∀ n o, ((σ.fzv i t cs).toSt c).get n = some o → (σ.toSt c).get n = some o ∧ n ≠ c.n0 + i := fun n o ho => by
    by_cases hn : n < c.n0
    · have e1 : ((σ.fzv i t cs).toSt c).get n = ovr c c.ons σ.O n := if_pos hn
      have e2 : (σ.toSt c).get n = ovr c c.ons σ.O n := if_pos hn
      rw [e2, ← e1]
      exact ⟨ho, by omega⟩
    · have e1 : ((σ.fzv i t cs).toSt c).get n = ((σ.L.set i none).map (Option.map (OX.toOb c))).getD (n - c.n0) none := if_neg hn
      have e2 : (σ.toSt c).get n = (σ.L.map (Option.map (OX.toOb c))).getD (n - c.n0) none := if_neg hn
      rw [e1] at ho
      rw [e2]
      simp only [List.getD_eq_getElem?_getD, List.getElem?_map, List.getElem?_set] at ho ⊢
      by_cases hi : i = n - c.n0
      · rw [if_pos hi] at ho
        split at ho <;> simp at ho
      · rw [if_neg hi] at ho
        exact ⟨ho, by omega⟩
  obtain ⟨hlive, vs, v1, v2⟩ := hm.obj _ _ hg
  have v1 : w.heap[ρ.blk (c.n0 + i)]? = some (.cells vs T (0, 0)) := v1
  refine ⟨Z', ⟨⟨hS.sat.tmps, hS.sat.defers, fun u => ?_, ?_, fun n hl => ?_⟩, hS.Bok⟩, ⟨fun n _ hl => ⟨hl, rfl, Nat.le_refl _, fun _ => rfl⟩, fun b hb => .inl hb, fun _ _ => rfl⟩⟩
  · show Rel ρ w Z' ((getE (putE σ.E t (.rp cs 0)) u).toD c) _
    have hold : Rel ρ w Z ((getE σ.E u).toD c) (a.tmps.getD u undef) := hS.sat.env u
    rw [getE_putE]
    split
    · rename_i ht
      subst ht
      rw [h2] at hold
      simp only [X.toD] at hold ⊢
      generalize a.tmps.getD u undef = v at hold ⊢
      cases hold with
      | ptr hl =>
        have hlen : vs.size = cs.length := by
          have := v2.len
          rw [toDL_eq, List.length_map] at this
          simpa using this.symm
        have hj : ∀ j, j < cs.length → CRel w Z ((X.toCL cs).getD j default) (vs.getD j undef) := fun j hj => by
          have h3 := v2.at_ j (by simpa [hlen] using hj)
          have e1 : (X.toDL c cs).getD j default = .c ((X.toCL cs).getD j default) := by
            rw [toDL_eq, toCL_eq]
            simp only [List.getD_eq_getElem?_getD, List.getElem?_map, List.getElem?_eq_getElem hj, Option.map_some, Option.getD_some]
            exact clean_toD c (List.all_eq_true.1 hcl _ (List.getElem_mem hj))
          rw [e1] at h3
          have e2 : vs.toList.getD j undef = vs.getD j undef := by simp [List.getD_eq_getElem?_getD, Array.getD_eq_getD_getElem?]
          rw [e2] at h3
          cases h3 with
          | c h => exact h
        have := Rel.rp (ρ := ρ) (w := w) (Z := Z') (cs := X.toCL cs) (off := 0) (ρ.blk (c.n0 + i)) 0 (fun j => vs.getD j undef) (.inr rfl) (fun j hjj => by
          have hjj' : j < cs.length := by simpa [toCL_eq] using hjj
          rw [cell_of v1, Nat.zero_add]
          simp [Array.getD_eq_getD_getElem?, hlen, hjj']) (fun j hjj => (hj j (by simpa [toCL_eq] using hjj)).mono (fun _ _ => rfl) (fun b hb => .inl hb))
        exact this
    · exact hold.mono (fun _ _ => rfl) (fun b hb => .inl hb) (.refl _)
  · refine ⟨hm.os, hm.tape, hm.output, hm.size, fun b hb => .inl (hm.Zmono b hb), fun b hb => ?_, hm.same, fun n o ho => ?_, fun n o b ho hb => ?_, fun n m o o' b h3 h4 b1 b2 => ?_, hm.bd⟩
    · rcases hb with hb | hb
      · exact hm.Zlt b hb
      · exact (hm.own _ _ b hg (by rw [hb]; rfl)).2
    · obtain ⟨g1, _⟩ := hget n o ho
      obtain ⟨o1, o2⟩ := hm.obj n o g1
      exact ⟨o1, Ob.at_mono o2 (fun _ _ => rfl) (fun _ _ => rfl) (fun b hb => .inl hb) (.refl _) rfl rfl rfl⟩
    · obtain ⟨g1, gne⟩ := hget n o ho
      have h9 := hm.own n o b g1 hb
      refine ⟨fun hz => ?_, h9.2⟩
      rcases hz with hz | hz
      · exact h9.1 hz
      · exact gne (hm.inj n _ o _ b g1 hg hb (by rw [hz]; rfl))
    · exact hm.inj n m o o' b (hget n o h3).1 (hget m o' h4).1 b1 b2
  · have := hS.sat.live n hl
    refine ⟨this.1, ?_⟩
    have h5 : n < c.n0 + (σ.L.map (Option.map (OX.toOb c))).length := this.2
    show n < c.n0 + ((σ.L.set i none).map _).length
    simpa using h5
end Go.Sy

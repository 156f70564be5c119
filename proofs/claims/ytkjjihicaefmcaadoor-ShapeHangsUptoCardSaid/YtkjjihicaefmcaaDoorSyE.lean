/-
  States that are spelt out, code, calls. Plain theorems.
-/
import Derived.Test.YtkjjihicaefmcaaDoorSyOa
set_option linter.unusedVariables false
set_option linter.unusedSimpArgs false
set_option linter.unusedSectionVars false
namespace Go.Sy
open Go Go.RowKit
structure St where
  env : Nat → D
  B : Heap
  n0 : Nat
  L : List (Option Ob)
  lv : Nat → Prop := fun _ => True
def St.get (S : St) (n : Nat) : Option Ob := if n < S.n0 then S.B n else S.L.getD (n - S.n0) none
def St.toG (S : St) : G := ⟨S.env, S.get, fun n => (n < S.n0 → S.lv n) ∧ n < S.n0 + S.L.length⟩
def St.put (S : St) (dst : Option Tmp) (d : D) : St := { S with env := updO S.env dst d }
def St.set1 (S : St) (n : Nat) (o : Ob) : St := if n < S.n0 then { S with B := upd S.B n (some o) } else { S with L := S.L.set (n - S.n0) (some o) }
def St.sets (S : St) : List (Nat × Ob) → St
  | [] => S
  | (n, o) :: l => (S.set1 n o).sets l
def St.news (S : St) : List Ob → St
  | [] => S
  | o :: l => ({ S with L := S.L ++ [some o] } : St).news l
def nameNew (nx : Nat) : List Ob → List (Nat × Ob)
  | [] => []
  | o :: l => (nx, o) :: nameNew (nx + 1) l
def St.nx (S : St) : Nat := S.n0 + S.L.length
theorem St.get_new1 (S : St) (o : Ob) : ({ S with L := S.L ++ [some o] } : St).get = upd S.get (S.n0 + S.L.length) (some o) := by
  funext n
  simp only [St.get, upd]
  by_cases h1 : n < S.n0
  · have : n ≠ S.n0 + S.L.length := by omega
    simp [h1, this]
  · by_cases h2 : n = S.n0 + S.L.length
    · subst h2; simp only [h1, if_false, if_true, Nat.add_sub_cancel_left, List.getD_eq_getElem?_getD]; simp
    · simp only [h1, if_false, h2, List.getD_eq_getElem?_getD]
      rcases Nat.lt_or_ge (n - S.n0) S.L.length with h3 | h3
      · rw [List.getElem?_append_left h3]
      · rw [List.getElem?_eq_none (by simp; omega), List.getElem?_eq_none h3]
theorem St.get_set1 (S : St) (n : Nat) (o x : Ob) (h : S.get n = some x) : (S.set1 n o).get = upd S.get n (some o) := by
  funext m
  simp only [St.set1, St.get, upd] at *
  by_cases h1 : n < S.n0
  · simp only [h1, if_true]
    by_cases h2 : m = n
    · subst h2; simp [h1, upd]
    · by_cases h3 : m < S.n0
      · simp [h2, h3, upd]
      · simp [h2, h3]
  · simp only [h1, if_false] at h ⊢
    have hlt : n - S.n0 < S.L.length := by
      rcases Nat.lt_or_ge (n - S.n0) S.L.length with h3 | h3
      · exact h3
      · rw [List.getD_eq_getElem?_getD, List.getElem?_eq_none h3] at h; cases h
    by_cases h2 : m = n
    · subst h2
      simp [h1, List.getD_eq_getElem?_getD, hlt]
    · by_cases h3 : m < S.n0
      · simp [h2, h3]
      · have h4 : n - S.n0 ≠ m - S.n0 := by omega
        simp [h2, h3, List.getD_eq_getElem?_getD, h4]
theorem St.get_sets : ∀ (l : List (Nat × Ob)) (S : St), (∀ x ∈ l, (S.get x.1).isSome = true) → (S.sets l).get = setH S.get l
  | [], S, _ => rfl
  | (n, o) :: l, S, h => by
    obtain ⟨x, hx⟩ := Option.isSome_iff_exists.1 (h (n, o) (by simp))
    rw [St.sets, St.get_sets l _ (fun y hy => ?_), S.get_set1 n o x hx, setH]
    rw [S.get_set1 n o x hx]
    unfold upd
    split
    · rfl
    · exact h y (List.mem_cons_of_mem _ hy)
theorem St.get_news : ∀ (l : List Ob) (S : St), (S.news l).get = setH S.get (nameNew S.nx l)
  | [], S => rfl
  | o :: l, S => by
    rw [St.news, St.get_news l, S.get_new1, nameNew, setH]
    simp [St.nx, Nat.add_assoc]
theorem St.set1_n0 (S : St) (n : Nat) (o : Ob) : (S.set1 n o).n0 = S.n0 := by unfold St.set1; split <;> rfl
theorem St.set1_nx (S : St) (n : Nat) (o : Ob) : (S.set1 n o).nx = S.nx := by unfold St.set1; split <;> simp [St.nx]
theorem St.set1_env (S : St) (n : Nat) (o : Ob) : (S.set1 n o).env = S.env := by unfold St.set1; split <;> rfl
theorem St.set1_lv (S : St) (n : Nat) (o : Ob) : (S.set1 n o).lv = S.lv := by unfold St.set1; split <;> rfl
theorem St.sets_lv : ∀ (l : List (Nat × Ob)) (S : St), (S.sets l).lv = S.lv
  | [], _ => rfl
  | (n, o) :: l, S => by rw [St.sets, St.sets_lv l, S.set1_lv]
theorem St.news_lv : ∀ (l : List Ob) (S : St), (S.news l).lv = S.lv
  | [], _ => rfl
  | o :: l, S => by rw [St.news, St.news_lv l]
theorem St.sets_n0 : ∀ (l : List (Nat × Ob)) (S : St), (S.sets l).n0 = S.n0
  | [], _ => rfl
  | (n, o) :: l, S => by rw [St.sets, St.sets_n0 l, S.set1_n0]
theorem St.sets_nx : ∀ (l : List (Nat × Ob)) (S : St), (S.sets l).nx = S.nx
  | [], _ => rfl
  | (n, o) :: l, S => by rw [St.sets, St.sets_nx l, S.set1_nx]
theorem St.sets_env : ∀ (l : List (Nat × Ob)) (S : St), (S.sets l).env = S.env
  | [], _ => rfl
  | (n, o) :: l, S => by rw [St.sets, St.sets_env l, S.set1_env]
theorem St.news_n0 : ∀ (l : List Ob) (S : St), (S.news l).n0 = S.n0
  | [], _ => rfl
  | o :: l, S => by rw [St.news, St.news_n0 l]
theorem St.news_env : ∀ (l : List Ob) (S : St), (S.news l).env = S.env
  | [], _ => rfl
  | o :: l, S => by rw [St.news, St.news_env l]
theorem St.news_B : ∀ (l : List Ob) (S : St), (S.news l).B = S.B
  | [], _ => rfl
  | o :: l, S => by rw [St.news, St.news_B l]
theorem St.news_nx : ∀ (l : List Ob) (S : St), (S.news l).nx = S.nx + l.length
  | [], _ => rfl
  | o :: l, S => by rw [St.news, St.news_nx l]; simp [St.nx]; omega
mutual
def D.nms (b : Nat) : D → Prop
  | .junk | .c _ | .rp _ _ | .lit _ _ => True
  | .ptr n _ | .rptr n _ _ _ _ | .own n _ | .mp n | .st n _ _ => n < b
  | .fn _ l l' => D.nmsL b l ∧ D.nmsL b l'
  | .agg l | .tup l => D.nmsL b l
def D.nmsL (b : Nat) : List D → Prop
  | [] => True
  | d :: l => D.nms b d ∧ D.nmsL b l
end
def Ob.nms (b : Nat) : Ob → Prop
  | .var cs _ => D.nmsL b cs
  | .row _ _ _ l => ∀ x ∈ l, D.nmsL b x
  | .map _ _ _ es => ∀ x ∈ es, D.nms b x.2
  | .iter mp _ _ => mp < b
theorem nmsL_iff (b : Nat) (l : List D) : D.nmsL b l ↔ ∀ d ∈ l, D.nms b d := by
  induction l with
  | nil => simp [D.nmsL]
  | cons d l ih => simp [D.nmsL, ih]
def Env.cut (ρ : Env) (b : Nat) : Env := { ρ with live := fun n => ρ.live n ∧ n < b }
theorem Rel.cut {ρ : Env} {w : World} {Z : Nat → Prop} {d : D} {v : Value} {b : Nat} (h : Rel ρ w Z d v) (hb : d.nms b) : Rel (ρ.cut b) w Z d v := by
  induction h with
  | junk v => exact .junk v
  | c h => exact .c h
  | ptr h => exact .ptr (ρ := ρ.cut b) ⟨h, by simpa [D.nms] using hb⟩
  | rp b o us hz hc hr => exact .rp b o us hz hc hr
  | rptr p h hle hv => exact .rptr (ρ := ρ.cut b) p ⟨h, by simpa [D.nms] using hb⟩ hle hv
  | own A l c h hle hv => exact .own (ρ := ρ.cut b) A l c ⟨h, by simpa [D.nms] using hb⟩ hle hv
  | lit A h => exact .lit A h
  | mp h => exact .mp (ρ := ρ.cut b) ⟨h, by simpa [D.nms] using hb⟩
  | st x h hle hv => exact .st (ρ := ρ.cut b) x ⟨h, by simpa [D.nms] using hb⟩ hle hv
  | @fn f first caps fs vs h1 h2 h3 h4 i3 i4 =>
    simp only [D.nms, nmsL_iff] at hb
    refine .fn h1 h2 (fun i hi => i3 i hi ?_) (fun i hi => i4 i hi ?_)
    · have hi' : i < first.length := by omega
      simp only [List.getD_eq_getElem?_getD, List.getElem?_eq_getElem hi', Option.getD_some]
      exact hb.1 _ (List.getElem_mem hi')
    · have hi' : i < caps.length := by omega
      simp only [List.getD_eq_getElem?_getD, List.getElem?_eq_getElem hi', Option.getD_some]
      exact hb.2 _ (List.getElem_mem hi')
  | @agg l vs h1 h3 i3 =>
    simp only [D.nms, nmsL_iff] at hb
    refine .agg h1 (fun i hi => i3 i hi ?_)
    have hi' : i < l.length := by omega
    simp only [List.getD_eq_getElem?_getD, List.getElem?_eq_getElem hi', Option.getD_some]
    exact hb _ (List.getElem_mem hi')
  | @tup l vs h1 h3 i3 =>
    simp only [D.nms, nmsL_iff] at hb
    refine .tup h1 (fun i hi => i3 i hi ?_)
    have hi' : i < l.length := by omega
    simp only [List.getD_eq_getElem?_getD, List.getElem?_eq_getElem hi', Option.getD_some]
    exact hb _ (List.getElem_mem hi')
theorem RelL.cut {ρ : Env} {w : World} {Z : Nat → Prop} {l : List D} {vs : List Value} {b : Nat} (h : RelL ρ w Z l vs) (hb : D.nmsL b l) : RelL (ρ.cut b) w Z l vs := by
  refine ⟨h.len, fun i hi => (h.at_ i hi).cut ?_⟩
  rw [nmsL_iff] at hb
  have hi' : i < l.length := by rw [h.len]; exact hi
  simp only [List.getD_eq_getElem?_getD, List.getElem?_eq_getElem hi', Option.getD_some]
  exact hb _ (List.getElem_mem hi')
theorem Ob.at_cut {ρ : Env} {w : World} {Z : Nat → Prop} {n b : Nat} {o : Ob} (h : o.at_ ρ w Z n) (hb : o.nms b) : o.at_ (ρ.cut b) w Z n := by
  cases o with
  | var cs T => obtain ⟨vs, h1, h2⟩ := h; exact ⟨vs, h1, h2.cut hb⟩
  | row ver E sz l =>
    obtain ⟨h1, h2, xs, h3, h4⟩ := h
    refine ⟨h1, h2, xs, h3, h4.cut ?_⟩
    rw [nmsL_iff]
    intro d hd
    obtain ⟨x, hx, hdx⟩ := List.mem_flatten.1 hd
    exact (nmsL_iff b x).1 (hb x hx) d hdx
  | map ver ag m es =>
    obtain ⟨hv, ms, ck, h1, h0, h2, h3, h4, h5⟩ := h
    refine ⟨hv, ms, ck, h1, h0, h2, h3, h4.cut ?_, h5⟩
    rw [nmsL_iff]
    intro d hd
    obtain ⟨x, hx, rfl⟩ := List.mem_map.1 hd
    exact hb x hx
  | iter mp ver seen =>
    obtain ⟨hl, r⟩ := h
    exact ⟨⟨hl, hb⟩, r⟩
structure SatS (K : Ctx) (N : Nat) (ρ : Env) (Z : Nat → Prop) (S : St) (a : Act) (w : World) : Prop where
  sat : Sat K N ρ Z S.toG a w
  Bok : ∀ n o, S.B n = some o → n < S.n0 ∧ o.nms S.n0
structure ExtO (n0 : Nat) (ρ : Env) (Z : Nat → Prop) (w : World) (ρ' : Env) (Z' : Nat → Prop) (w' : World) : Prop where
  le : ∀ n, n < n0 → ρ.live n → ρ'.live n ∧ ρ'.blk n = ρ.blk n ∧ ρ.ver n ≤ ρ'.ver n ∧ (ρ'.ver n = ρ.ver n → ρ'.val n = ρ.val n)
  mono : ∀ b, Z b → Z' b
  same : ∀ b, Z b → w'.heap[b]? = w.heap[b]?
theorem ExtO.refl {n0 : Nat} {ρ : Env} {Z : Nat → Prop} {w : World} : ExtO n0 ρ Z w ρ Z w := ⟨fun _ _ h => ⟨h, rfl, Nat.le_refl _, fun _ => rfl⟩, fun _ h => h, fun _ _ => rfl⟩
theorem ExtO.of {n0 : Nat} {ρ ρ' : Env} {Z Z' : Nat → Prop} {w w' : World} (h : Ext ρ Z w ρ' Z' w') : ExtO n0 ρ Z w ρ' Z' w' :=
  ⟨fun n _ hl => ⟨h.le.live n hl, h.le.blk n hl, h.le.ver n hl, h.le.val n hl⟩, h.mono, h.same⟩
theorem ExtO.trans {n0 : Nat} {a b c : Env} {x y z : Nat → Prop} {u v w : World} (h : ExtO n0 a x u b y v) (k : ExtO n0 b y v c z w) : ExtO n0 a x u c z w :=
  ⟨fun n hn hl => by
    obtain ⟨l1, b1, v1, e1⟩ := h.le n hn hl
    obtain ⟨l2, b2, v2, e2⟩ := k.le n hn l1
    exact ⟨l2, b2.trans b1, Nat.le_trans v1 v2, fun e => (e2 (by omega)).trans (e1 (by omega))⟩,
   fun b hb => k.mono b (h.mono b hb), fun b hb => (k.same b (h.mono b hb)).trans (h.same b hb)⟩
structure Weak (S S' : St) : Prop where
  env : ∀ t, S'.env t = .junk ∨ (S'.env t = S.env t ∧ (S.env t).nms S'.nx)
  B : S'.B = S.B
  n0 : S'.n0 = S.n0
  lv : S'.lv = S.lv
  len : S'.L.length ≤ S.L.length
  L : ∀ i o, S'.L.getD i none = some o → S.L.getD i none = some o ∧ o.nms S'.nx
theorem D.nms_mono {b b' : Nat} (h : b ≤ b') : ∀ d : D, d.nms b → d.nms b'
  | .junk, _ | .c _, _ | .rp _ _, _ | .lit _ _, _ => by simp [D.nms]
  | .ptr n _, h1 | .rptr n _ _ _ _, h1 | .own n _, h1 | .mp n, h1 | .st n _ _, h1 => by simp only [D.nms] at *; omega
  | .fn _ l l', h1 => by
    simp only [D.nms, nmsL_iff] at *
    exact ⟨fun d hd => nms_mono h d (h1.1 d hd), fun d hd => nms_mono h d (h1.2 d hd)⟩
  | .agg l, h1 | .tup l, h1 => by
    simp only [D.nms, nmsL_iff] at *
    exact fun d hd => nms_mono h d (h1 d hd)
theorem Ob.nms_mono {b b' : Nat} (h : b ≤ b') {o : Ob} (h1 : o.nms b) : o.nms b' := by
  cases o with
  | var cs T => simp only [Ob.nms, nmsL_iff] at *; exact fun d hd => D.nms_mono h d (h1 d hd)
  | row ver E sz l => simp only [Ob.nms, nmsL_iff] at *; exact fun x hx d hd => D.nms_mono h d (h1 x hx d hd)
  | map ver ag m es => simp only [Ob.nms] at *; exact fun x hx => D.nms_mono h _ (h1 x hx)
  | iter mp ver seen => simp only [Ob.nms] at *; omega
theorem SatS.weak {K : Ctx} {N : Nat} {ρ : Env} {Z : Nat → Prop} {S S' : St} {a : Act} {w : World} (h : SatS K N ρ Z S a w) (hw : Weak S S') : ∃ ρ', SatS K N ρ' Z S' a w ∧ ExtO S.n0 ρ Z w ρ' Z w := by
  have hnx : S.n0 ≤ S'.nx := by unfold St.nx; rw [hw.n0]; omega
  have hget : ∀ n o, S'.get n = some o → S.get n = some o ∧ o.nms S'.nx := fun n o ho => by
    unfold St.get at ho ⊢
    rw [hw.n0, hw.B] at ho
    by_cases h1 : n < S.n0
    · simp only [h1, if_true] at ho ⊢
      exact ⟨ho, Ob.nms_mono hnx (h.Bok n o ho).2⟩
    · simp only [h1, if_false] at ho ⊢
      exact hw.L _ _ ho
  refine ⟨ρ.cut S'.nx, ⟨⟨h.sat.tmps, h.sat.defers, fun t => ?_, ?_, fun n hn => ⟨fun h' => by rw [hw.lv]; exact (h.sat.live n hn.1).1 (by rw [hw.n0] at h'; exact h'), hn.2⟩⟩, fun n o ho => by rw [hw.n0]; rw [hw.B] at ho; exact h.Bok n o ho⟩, ⟨fun n hn hl => ⟨⟨hl, by omega⟩, rfl, Nat.le_refl _, fun _ => rfl⟩, fun _ h => h, fun _ _ => rfl⟩⟩
  · rcases hw.env t with e | ⟨e, hn⟩
    · show Rel _ _ _ (S'.env t) _
      rw [e]
      exact .junk _
    · show Rel _ _ _ (S'.env t) _
      rw [e]
      exact (h.sat.env t).cut hn
  · have hm := h.sat.mem
    refine ⟨hm.os, hm.tape, hm.output, hm.size, hm.Zmono, hm.Zlt, hm.same, fun n o ho => ?_, fun n o b ho hb => ?_, fun n m o o' b h1 h2 b1 b2 => ?_, ?_⟩
    · obtain ⟨h1, h2⟩ := hget n o ho
      obtain ⟨h3, h4⟩ := hm.obj n o h1
      refine ⟨⟨h3, ?_⟩, Ob.at_cut h4 h2⟩
      unfold St.nx
      rcases Nat.lt_or_ge n (S'.n0 + S'.L.length) with h5 | h5
      · exact h5
      · have ho' : S'.get n = some o := ho
        unfold St.get at ho'
        rw [if_neg (by omega), List.getD_eq_getElem?_getD, List.getElem?_eq_none (by omega)] at ho'
        cases ho'
    · exact hm.own n o b (hget n o ho).1 (by cases o <;> exact hb)
    · exact hm.inj n m o o' b (hget n o h1).1 (hget m o' h2).1 (by cases o <;> exact b1) (by cases o' <;> exact b2)
    · obtain ⟨nx, hnx⟩ := hm.bd; exact ⟨nx, fun n hl => hnx n hl.1⟩
end Go.Sy

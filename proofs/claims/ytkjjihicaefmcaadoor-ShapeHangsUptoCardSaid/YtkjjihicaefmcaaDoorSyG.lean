/-
  Regions and code over spelt-out states. Plain theorems.
-/
import Derived.Test.YtkjjihicaefmcaaDoorSyF
set_option linter.unusedVariables false
set_option linter.unusedSimpArgs false
set_option linter.unusedSectionVars false
namespace Go.Sy
open Go Go.RowKit
def St.after (S : St) (dst : Option Tmp) (d : D) (sets : List (Nat × Ob)) (news : List Ob) : St := ((S.sets sets).news news).put dst d
theorem after_env (S : St) (dst : Option Tmp) (d : D) (sets : List (Nat × Ob)) (news : List Ob) : (S.after dst d sets news).env = updO S.env dst d := by
  simp [St.after, St.put, St.news_env, St.sets_env]
theorem after_n0 (S : St) (dst : Option Tmp) (d : D) (sets : List (Nat × Ob)) (news : List Ob) : (S.after dst d sets news).n0 = S.n0 := by
  simp [St.after, St.put, St.news_n0, St.sets_n0]
theorem after_lv (S : St) (dst : Option Tmp) (d : D) (sets : List (Nat × Ob)) (news : List Ob) : (S.after dst d sets news).lv = S.lv := by
  simp [St.after, St.put, St.news_lv, St.sets_lv]
theorem after_nx (S : St) (dst : Option Tmp) (d : D) (sets : List (Nat × Ob)) (news : List Ob) : (S.after dst d sets news).nx = S.nx + news.length := by
  have : (S.after dst d sets news).nx = ((S.sets sets).news news).nx := rfl
  rw [this, St.news_nx, St.sets_nx]
theorem after_get (S : St) (dst : Option Tmp) (d : D) (sets : List (Nat × Ob)) (news : List Ob) (h : ∀ x ∈ sets, (S.get x.1).isSome = true) : (S.after dst d sets news).get = setH (setH S.get sets) (nameNew S.nx news) := by
  have : (S.after dst d sets news).get = ((S.sets sets).news news).get := rfl
  rw [this, St.get_news, St.get_sets _ _ h, St.sets_nx]
theorem mem_nameNew : ∀ (l : List Ob) (nx n : Nat) (o : Ob), (n, o) ∈ nameNew nx l → nx ≤ n ∧ n < nx + l.length
  | [], _, _, _, h => by simp [nameNew] at h
  | x :: l, nx, n, o, h => by
    simp only [nameNew, List.mem_cons, Prod.mk.injEq] at h
    rcases h with ⟨rfl, _⟩ | h
    · simp
    · have := mem_nameNew l (nx + 1) n o h
      simp; omega
theorem sets_Bok : ∀ (l : List (Nat × Ob)) (S : St), (∀ n o, S.B n = some o → n < S.n0 ∧ o.nms S.n0) → (∀ x ∈ l, x.1 < S.n0 → x.2.nms S.n0) → ∀ n o, (S.sets l).B n = some o → n < S.n0 ∧ o.nms S.n0
  | [], _, h, _, n, o, hn => h n o hn
  | (m, x) :: l, S, h, hl, n, o, hn => by
    have := sets_Bok l (S.set1 m x) (fun n' o' hn' => ?_) (fun y hy hlt => by rw [S.set1_n0] at *; exact hl y (List.mem_cons_of_mem _ hy) hlt) n o hn
    · rwa [S.set1_n0] at this
    · rw [S.set1_n0]
      unfold St.set1 at hn'
      split at hn'
      · rename_i hlt
        simp only [upd] at hn'
        split at hn'
        · rename_i e
          cases hn'
          subst e
          exact ⟨hlt, hl (n', x) (by simp) hlt⟩
        · exact h n' o' hn'
      · exact h n' o' hn'
theorem step_wp {P : Program} {o : Oper} {S : St} {pre : List (Operand × D)} {rd sets : List (Nat × Ob)} {d : D} {news : List Ob} (h : ORule P o pre rd d { new := nameNew S.nx news, set := sets })
    (h1 : ∀ x ∈ pre, evE S.env x.1 = x.2) (h2 : ∀ x ∈ rd, S.get x.1 = some x.2) (h3 : ∀ x ∈ sets, (∃ y, (x.1, y) ∈ rd) ∧ (x.1 < S.n0 → x.2.nms S.n0))
    {K : Ctx} {N : Nat} {ρ : Env} {Z : Nat → Prop} {a : Act} {w : World} {Q : Exit → Act → World → Prop} {K' : Act → World → Prop} (hS : SatS K N ρ Z S a w) (hd : ∀ t, o.dst = some t → t < N)
    (hK : ∀ ρ' Z' a' w', SatS K N ρ' Z' (S.after o.dst d sets news) a' w' → ExtO S.n0 ρ Z w ρ' Z' w' → K' a' w') : o.wp P a w K' Q := by
  have hsome : ∀ x ∈ sets, (S.get x.1).isSome = true := fun x hx => by
    obtain ⟨⟨y, hy⟩, _⟩ := h3 x hx
    have := h2 _ hy
    simp only at this
    rw [this]; rfl
  refine h K N ρ Z S.toG a w Q K' hS.sat h1 h2 (fun n ob hm hl => ?_) hd (fun ρ' Z' a' w' hS' hx => hK ρ' Z' a' w' ⟨hS'.congr ?_ ?_ ?_, ?_⟩ (.of hx))
  · have := (mem_nameNew _ _ _ _ hm).1
    have hl' : n < S.n0 + S.L.length := hl.2
    unfold St.nx at this
    omega
  · exact after_env S o.dst d sets news
  · exact after_get S o.dst d sets news hsome
  · intro n hn
    show (n < (S.after o.dst d sets news).n0 → (S.after o.dst d sets news).lv n) ∧ n < (S.after o.dst d sets news).nx
    rw [after_nx, after_n0, after_lv]
    rcases hn with hn | ⟨ob, hn⟩
    · have : n < S.n0 + S.L.length := hn.2
      exact ⟨hn.1, by unfold St.nx; omega⟩
    · have := mem_nameNew _ _ _ _ hn
      unfold St.nx at this ⊢
      exact ⟨fun h' => by omega, by omega⟩
  · intro n ob hn
    rw [after_n0]
    have hB : (S.after o.dst d sets news).B = (S.sets sets).B := by simp [St.after, St.put, St.news_B]
    rw [hB] at hn
    exact sets_Bok sets S hS.Bok (fun x hx => (h3 x hx).2) n ob hn
theorem fin_sat {K : Ctx} {N : Nat} {ρ ρ' : Env} {Z Z' : Nat → Prop} {S : St} {a a' : Act} {w w' : World} {dst : Option Tmp} {d : D} {sets : List (Nat × Ob)} {news : List Ob} (hS : SatS K N ρ Z S a w)
    (hS' : Sat K N ρ' Z' (S.toG.fin dst d { new := nameNew S.nx news, set := sets }) a' w') (hsome : ∀ x ∈ sets, (S.get x.1).isSome = true) (hnm : ∀ x ∈ sets, x.1 < S.n0 → x.2.nms S.n0) : SatS K N ρ' Z' (S.after dst d sets news) a' w' := by
  refine ⟨hS'.congr ?_ ?_ ?_, ?_⟩
  · exact after_env S dst d sets news
  · exact after_get S dst d sets news hsome
  · intro n hn
    show (n < (S.after dst d sets news).n0 → (S.after dst d sets news).lv n) ∧ n < (S.after dst d sets news).nx
    rw [after_nx, after_n0, after_lv]
    rcases hn with hn | ⟨ob, hn⟩
    · have : n < S.n0 + S.L.length := hn.2
      exact ⟨hn.1, by unfold St.nx; omega⟩
    · have := mem_nameNew _ _ _ _ hn
      unfold St.nx at this ⊢
      exact ⟨fun h' => by omega, by omega⟩
  · intro n ob hn
    rw [after_n0]
    have hB : (S.after dst d sets news).B = (S.sets sets).B := by simp [St.after, St.put, St.news_B]
    rw [hB] at hn
    exact sets_Bok sets S hS.Bok hnm n ob hn
def stepAny (P : Program) (o : Oper) (S : St) (k : D → List Nat → List (Nat × Ob) → List Ob → Prop) : Prop :=
  match o.op with
  | .next x false =>
    match evE S.env x with
    | .ptr q 0 =>
      match S.get q with
      | some (.iter n ver seen) =>
        match S.get n with
        | some (.map ver' ag _ es) =>
          (ver = ver' ∧ (∀ i ∈ seen, i < es.length) ∧ (q < S.n0 → n < S.n0)) ∧ ((∀ i, i < es.length → i ∈ seen) → k (.tup [.bool false]) [] [] []) ∧
            (∀ i y, es[i]? = some y → i ∉ seen → k (rowOut ag y) [q] [(q, .iter n ver (seen ++ [i]))] [])
        | _ => False
      | _ => False
    | _ => False
  | _ => stepOp P o S k
def gd : D → Option (Option Bool)
  | .c (.v (.bool b)) => some (some b)
  | .c (.v (.tuple _)) => some none
  | _ => none
def dstOk (dst : Option Tmp) (N : Nat) : Prop := match dst with | some t => t < N | none => True
theorem dstOk_iff {dst : Option Tmp} {N : Nat} (h : dstOk dst N) : ∀ t, dst = some t → t < N := fun t e => by subst e; exact h
def St.lit (S : St) (t : Nat) (b : Bool) : St := { S with env := upd S.env t (.bool b) }
theorem lit_self {S : St} {t : Nat} {b : Bool} (h : gd (S.env t) = some (some b)) : S.lit t b = S := by
  have e : S.env t = .bool b := by
    unfold gd at h
    split at h
    · rename_i b' hb
      cases h
      exact hb
    · cases h
    · cases h
  obtain ⟨env, B, n0, L, lv⟩ := S
  simp only [St.lit, St.mk.injEq, and_true]
  funext k
  simp only [upd]
  split
  · rename_i ek; subst ek; exact e.symm
  · rfl
def runOps (P : Program) (N : Nat) (ops : Array Oper) : List Oper → St → (St → Prop) → Prop
  | [], S, K => K S
  | o :: rest, S, K =>
    dstOk o.dst N ∧
    match o.guard with
    | none => stepAny P o S fun d _ sets news => runOps P N ops rest (S.after o.dst d sets news) K
    | some (j, want) =>
      match (ops[j]?).bind (·.dst) with
      | none => False
      | some t =>
        match gd (S.env t) with
        | some (some b) => (b = want → stepAny P o (S.lit t want) fun d _ sets news => runOps P N ops rest ((S.lit t want).after o.dst d sets news) K) ∧ (b = (!want) → runOps P N ops rest ((S.lit t (!want)).after o.dst (.v undef) [] []) K)
        | some none => runOps P N ops rest (S.after o.dst (.v undef) [] []) K
        | none => False
theorem yielded_of {K : Ctx} {N : Nat} {ρ : Env} {Z : Nat → Prop} {S : G} {a : Act} {w : World} (h : Sat K N ρ Z S a w) {ops : Array Oper} {j t : Nat} (hj : (ops[j]?).bind (·.dst) = some t) {x : Option Bool} (hg : gd (S.env t) = some x) : yielded ops a.tmps j = x := by
  have hr := h.env t
  unfold yielded
  rw [hj]
  simp only [Option.bind_some]
  unfold gd at hg
  have hget : ∀ v, a.tmps.getD t undef = v → (v = undef ∧ a.tmps[t]? = none) ∨ a.tmps[t]? = some v := fun v hv => by
    rw [Array.getD_eq_getD_getElem?] at hv
    cases hx : a.tmps[t]? with
    | none => rw [hx] at hv; exact .inl ⟨hv.symm, rfl⟩
    | some y => rw [hx] at hv; exact .inr (by rw [← hv]; rfl)
  split at hg
  · rename_i b hb
    rw [hb] at hr
    have := hr.inv_v
    cases hg
    rcases hget _ this with ⟨h1, h2⟩ | h2
    · cases h1
    · rw [h2]
  · rename_i vs hb
    rw [hb] at hr
    have := hr.inv_v
    cases hg
    rcases hget _ this with ⟨h1, h2⟩ | h2 <;> rw [h2]
  · cases hg
theorem skip_sat {K : Ctx} {N : Nat} {ρ : Env} {Z : Nat → Prop} {S : St} {a : Act} {w : World} (h : SatS K N ρ Z S a w) {dst : Option Tmp} (hd : dstOk dst N) : SatS K N ρ Z (S.after dst (.v undef) [] []) (a.put dst undef) w := by
  refine ⟨(h.sat.put (dstOk_iff hd) (.refl _ _ _) (.c (.v undef)) (e := .none) (by rw [app_none]; exact h.sat.mem) (fun n hn => (live_none _ _).2 (h.sat.live n hn))).congr ?_ ?_ ?_, h.Bok⟩
  · rfl
  · rfl
  · intro n hn; exact (live_none _ _).1 hn
def Post (K : Ctx) (N : Nat) (S0 : St) (ρ : Env) (Z : Nat → Prop) (w : World) (Q : Exit → St → Prop) (e : Exit) (a' : Act) (w' : World) : Prop :=
  ∃ S' ρ' Z', Q e S' ∧ S'.n0 = S0.n0 ∧ S'.lv = S0.lv ∧ SatS K N ρ' Z' S' a' w' ∧ ExtO S0.n0 ρ Z w ρ' Z' w'
theorem wp2_mono {P : Program} {o : Oper} {a : Act} {w : World} {K K' : Act → World → Prop} {Q Q' : Exit → Act → World → Prop} (hK : ∀ a w, K a w → K' a w) (hQ : ∀ e a w, Q e a w → Q' e a w) (h : o.wp P a w K Q) : o.wp P a w K' Q' := by
  unfold Oper.wp at *
  generalize (execOp a.eval o).run P w = r at *
  cases r with
  | ok n w' =>
    cases n <;> simp only [Oper.upon] at h ⊢
    case enter f args =>
      refine h.mono fun e w'' he => ?_
      cases e with
      | returned v => exact hK _ _ he
      | panicked c => exact hQ _ _ _ he
      | outgrown => obtain ⟨a2, w2, h2⟩ := he; exact ⟨a2, w2, hQ _ _ _ h2⟩
    case row r args => exact h.mono fun v w'' he => hK _ _ he
    all_goals exact hK _ _ h
  | halt x w' =>
    cases x <;> simp only [Oper.upon] at h ⊢
    exact hQ _ _ _ h
theorem wpOps_mono {P : Program} {ops : Array Oper} {Q Q' : Exit → Act → World → Prop} (hq : ∀ e a w, Q e a w → Q' e a w) : ∀ (l : List Nat) (a : Act) (w : World), wpOps P ops Q l a w → wpOps P ops Q' l a w
  | [], a, w, h => hq _ _ _ h
  | i :: l, a, w, h => by
    simp only [wpOps] at h ⊢
    split
    · rename_i ho
      rw [ho] at h
      exact wpOps_mono hq l a w h
    · rename_i o ho
      rw [ho] at h
      simp only at h
      split
      · rename_i hw
        simp only [hw, if_true] at h
        rcases h with h | ⟨h1, h2⟩
        · exact .inl (wp2_mono (fun a w => wpOps_mono hq l a w) hq h)
        · obtain ⟨a2, w2, h2⟩ := h2
          exact .inr ⟨h1, a2, w2, hq _ _ _ h2⟩
      · rename_i hw
        simp only [hw] at h
        exact wpOps_mono hq l _ w h
theorem runOps_sound {P : Program} {N : Nat} {ops : Array Oper} {Q : Exit → St → Prop} {K : Ctx} : ∀ (l : List Oper) (i : Nat) (S : St), (∀ j, l[j]? = ops[i + j]?) → runOps P N ops l S (fun S' => Q .normal S') →
    ∀ (ρ : Env) (Z : Nat → Prop) (a : Act) (w : World), SatS K N ρ Z S a w → wpOps P ops (Post K N S ρ Z w Q) (List.range' i l.length) a w
  | [], i, S, hl, h, ρ, Z, a, w, hS => ⟨S, ρ, Z, h, rfl, rfl, hS, .refl⟩
  | o :: l, i, S, hl, h, ρ, Z, a, w, hS => by
    have h0 : ops[i]? = some o := by simpa using (hl 0).symm
    have hl' : ∀ j, l[j]? = ops[i + 1 + j]? := fun j => by have := hl (j + 1); simpa [Nat.add_assoc, Nat.add_comm 1 j] using this
    obtain ⟨hd, h⟩ := h
    have go : ∀ d sets news, runOps P N ops l (S.after o.dst d sets news) (fun S' => Q .normal S') → ∀ ρ' Z' a' w', SatS K N ρ' Z' (S.after o.dst d sets news) a' w' → ExtO S.n0 ρ Z w ρ' Z' w' → wpOps P ops (Post K N S ρ Z w Q) (List.range' (i + 1) l.length) a' w' := by
      intro d sets news hk ρ' Z' a' w' hS' hx
      have := runOps_sound l (i + 1) _ hl' hk ρ' Z' a' w' hS'
      refine wpOps_mono ?_ _ _ _ this
      rintro e a2 w2 ⟨S2, ρ2, Z2, q, e0, e1, hs, hx2⟩
      rw [after_n0] at e0 hx2
      rw [after_lv] at e1
      exact ⟨S2, ρ2, Z2, q, e0, e1, hs, hx.trans hx2⟩
    have skip : runOps P N ops l (S.after o.dst (.v undef) [] []) (fun S' => Q .normal S') → wpOps P ops (Post K N S ρ Z w Q) (List.range' (i + 1) l.length) (a.put o.dst undef) w := fun hk =>
      go _ _ _ hk ρ Z _ w (skip_sat hS hd) .refl
    have step : (stepAny P o S fun d _ sets news => runOps P N ops l (S.after o.dst d sets news) (fun S' => Q .normal S')) → o.wp P a w (wpOps P ops (Post K N S ρ Z w Q) (List.range' (i + 1) l.length)) (Post K N S ρ Z w Q) := fun hk => by
      unfold stepAny at hk
      split at hk
      · rename_i x ho
        split at hk
        · rename_i q hx
          split at hk
          · rename_i n ver seen hq
            split at hk
            · rename_i ver' ag m es hn
              obtain ⟨⟨rfl, a2, a3⟩, h0, h1⟩ := hk
              refine next_wp ho hS.sat hx hq hn a2 (dstOk_iff hd) (fun hall ρ' Z' a' w' hS' hx' => ?_) (fun i y hy hi ρ' Z' a' w' hS' hx' => ?_)
              · exact go _ [] [] (h0 hall) ρ' Z' a' w' (fin_sat hS hS' nil_all nil_all) (.of hx')
              · refine go _ _ [] (h1 i y hy hi) ρ' Z' a' w' (fin_sat hS hS' (fun z hz => ?_) (fun z hz hlt => ?_)) (.of hx')
                · simp only [List.mem_singleton] at hz; subst hz; rw [hq]; rfl
                · simp only [List.mem_singleton] at hz; subst hz; exact a3 hlt
            · exact hk.elim
          · exact hk.elim
        · exact hk.elim
      · obtain ⟨pre, rd, d, sets, news, r1, r2, r3, r4, r5, _⟩ := stepOp_sound hk
        exact step_wp r1 r2 r3 r4 hS (dstOk_iff hd) (fun ρ' Z' a' w' hS' hx => go d sets news r5 ρ' Z' a' w' hS' hx)
    simp only [List.length_cons, List.range'_succ, wpOps, h0]
    split at h
    · rename_i hg
      simp only [Region.wanted, hg, if_true]
      exact .inl (step h)
    · rename_i j want hg
      split at h
      · exact h.elim
      · rename_i t ht
        split at h
        · rename_i b hb
          have hy := yielded_of hS.sat ht hb
          simp only [Region.wanted, hg, hy]
          by_cases e : b = want
          · subst e
            simp only [beq_self_eq_true, if_true]
            have h1 := h.1 rfl
            rw [lit_self hb] at h1
            exact .inl (step h1)
          · have e' : b = !want := by cases b <;> cases want <;> simp_all
            have hne : ((some b == some want) = false) := by simp [e]
            simp only [hne, Bool.false_eq_true, if_false]
            have h2 := h.2 e'
            rw [← e', lit_self hb] at h2
            exact skip h2
        · rename_i hb
          have hy := yielded_of hS.sat ht hb
          simp only [Region.wanted, hg, hy]
          exact skip h
        · exact h.elim
end Go.Sy

/-
  Regions that draw: the theorem. Plain theorems.
-/
import Derived.Test.YtkjjihicaefmcaaDoorSyH
set_option linter.unusedVariables false
set_option linter.unusedSimpArgs false
set_option linter.unusedSectionVars false
namespace Go.Sy
open Go Go.RowKit
def Guard (ops : Array Oper) (o : Oper) (env : Nat → D) (yes : Bool) : Prop :=
  match o.guard with
  | none => yes = true
  | some (j, want) => ∃ t x, (ops[j]?).bind (·.dst) = some t ∧ gd (env t) = some x ∧ (x == some want) = yes
theorem Guard.no {ops : Array Oper} {o : Oper} {env : Nat → D} (h : Guard ops o env false) (h' : Guard ops o env true) : False := by
  unfold Guard at h h'
  split at h
  · cases h
  · rename_i j want hg
    rw [hg] at h'
    simp only at h'
    obtain ⟨t, x, h1, h2, h3⟩ := h
    obtain ⟨t', x', h1', h2', h3'⟩ := h'
    rw [h1] at h1'
    cases h1'
    rw [h2] at h2'
    cases h2'
    rw [h3] at h3'
    cases h3'
structure Loc (P : Program) (N : Nat) (ops : Array Oper) (o : Oper) (S : St) (E : Ent) : Prop where
  dst : dstOk o.dst N
  rule : (Guard ops o S.env true ∧ ∃ pre, ORule P o pre E.rd E.d E.e ∧ (∀ x ∈ pre, evE S.env x.1 = x.2) ∧ (∀ x ∈ pre, x.1 ∈ o.op.operands.toList)) ∨ (Guard ops o S.env false ∧ E = ⟨[], .v undef, {}⟩)
  rd : ∀ x ∈ E.rd, S.get x.1 = some x.2
  set : ∀ x ∈ E.e.set, (∃ y, (x.1, y) ∈ E.rd) ∧ (x.1 < S.n0 → x.2.nms S.n0)
  new : ∃ news, E.e.new = nameNew S.nx news
  touch0 : touch o.op = 0 → E.rd = [] ∧ E.e.names = []
  touch1 : touch o.op = 1 → E.e.names = []
  len : isLen o.op = true → Guard ops o S.env true → ∃ pre, (∀ x ∈ pre, evE S.env x.1 = x.2) ∧ (∀ x ∈ pre, x.1 ∈ o.op.operands.toList) ∧ ∀ H : Nat → Option Ob, (∀ x ∈ E.rd, (H x.1).map shp = some (shp x.2)) → ∃ rd', ORule P o pre rd' E.d E.e ∧ ∀ x ∈ rd', H x.1 = some x.2
  sto : isStore o.op = true → E.e.new = [] ∧ ∀ x ∈ E.e.set, (S.get x.1).map shp = some (shp x.2)
def Ent.after (E : Ent) (S : St) (dst : Option Tmp) : St := S.after dst E.d E.e.set (E.e.new.map (·.2))
inductive Tr (P : Program) (N : Nat) (ops : Array Oper) : List Oper → St → List Ent → St → Prop
  | nil (S : St) : Tr P N ops [] S [] S
  | cons {o : Oper} {l : List Oper} {S S' : St} {E : Ent} {es : List Ent} (h : Loc P N ops o S E) (t : Tr P N ops l (E.after S o.dst) es S') : Tr P N ops (o :: l) S (E :: es) S'
theorem map_nameNew : ∀ (l : List Ob) (nx : Nat), (nameNew nx l).map (·.2) = l
  | [], _ => rfl
  | o :: l, nx => by simp [nameNew, map_nameNew l]
theorem step_len {P : Program} {o : Oper} {S : St} {k : D → List Nat → List (Nat × Ob) → List Ob → Prop} (hl : isLen o.op = true) (h : stepOp P o S k) :
    ∃ (pre : List (Operand × D)) (rd : List (Nat × Ob)) (d : D), ORule P o pre rd d { new := nameNew S.nx [], set := [] } ∧
    (∀ x ∈ pre, evE S.env x.1 = x.2) ∧ (∀ x ∈ rd, S.get x.1 = some x.2) ∧ k d (rd.map (·.1)) [] [] ∧
    (∀ x ∈ pre, x.1 ∈ o.op.operands.toList) ∧ ∀ H : Nat → Option Ob, (∀ x ∈ rd, (H x.1).map shp = some (shp x.2)) → ∃ rd', ORule P o pre rd' d { new := nameNew S.nx [], set := [] } ∧ ∀ x ∈ rd', H x.1 = some x.2 := by
  unfold isLen at hl
  split at hl
  case h_2 => cases hl
  rename_i c hc
  split at hl
  case h_2 => cases hl
  rename_i hb
  obtain ⟨callee, args, ts⟩ := c
  simp only at hb
  subst hb
  have ho := hc
  unfold stepOp at h
  rw [hc] at h
  simp only at h
  unfold stepBuiltin at h
  split at h
  case h_2 => rename_i e _ _; cases e
  case h_3 => rename_i e _ _; cases e
  case h_4 => rename_i e _ _; cases e
  case h_5 => rename_i e _ _; cases e
  · rename_i x t _ hxs hts
    obtain rfl : args = #[x] := by cases args; simp_all
    obtain rfl : ts = #[t] := by cases ts; simp_all
    split at h
    · rename_i ht hx
      exact ⟨_, [], _, rule_len_ro hx ho ht, pre1 rfl, nil_all, h, by simp [ho, Op.operands, Call.operands], fun H _ => ⟨[], rule_len_ro hx ho ht, nil_all⟩⟩
    · rename_i n ver ht hx
      split at h
      · rename_i ver' E sz l hg
        obtain ⟨rfl, h⟩ := h
        refine ⟨_, _, _, rule_len_own ho ht, pre1 (coe_own_inv hx), rd1 hg, h, by simp [ho, Op.operands, Call.operands], fun H hH => ?_⟩
        have h1 := hH _ (List.mem_singleton.2 rfl)
        simp only at h1
        cases hn : H n with
        | none => rw [hn] at h1; cases h1
        | some b =>
          rw [hn] at h1
          simp only [Option.map_some, Option.some.injEq] at h1
          cases b with
          | row v' E' s' l' =>
            simp only [shp, Ob.row.injEq] at h1
            obtain ⟨rfl, rfl, rfl, h2⟩ := h1
            have h3 : l'.length = l.length := by simpa using congrArg List.length h2
            exact ⟨[(n, .row v' E' s' l')], h3 ▸ rule_len_own ho ht, by simpa using hn⟩
          | var cs T => simp [shp] at h1
          | map v a m es => simp [shp] at h1
          | iter m v sn => simp [shp] at h1
      · exact h.elim
    · rename_i ht hx
      exact ⟨_, [], _, rule_len_str ho ht, pre1 (coe_str_inv hx), nil_all, h, by simp [ho, Op.operands, Call.operands], fun H _ => ⟨[], rule_len_str ho ht, nil_all⟩⟩
    · rename_i n ht hx
      split at h
      · rename_i ver ag m es hg
        refine ⟨_, _, _, rule_len_map ho ht, pre1 (coe_mp_inv hx), rd1 hg, h, by simp [ho, Op.operands, Call.operands], fun H hH => ?_⟩
        have h1 := hH _ (List.mem_singleton.2 rfl)
        simp only at h1
        cases hn : H n with
        | none => rw [hn] at h1; cases h1
        | some b =>
          rw [hn] at h1
          simp only [Option.map_some, Option.some.injEq] at h1
          cases b with
          | row v' E' s' l' => simp [shp] at h1
          | var cs T => simp [shp] at h1
          | map v a m' es' =>
            simp only [shp, Ob.map.injEq] at h1
            obtain ⟨rfl, rfl, rfl, rfl⟩ := h1
            exact ⟨_, rule_len_map ho ht, by simpa using hn⟩
          | iter m v sn => simp [shp] at h1
      · exact h.elim
    · exact h.elim
  all_goals (first | exact h.elim | (rename_i e _ _; cases e) | trace_state)
theorem step_sto {P : Program} {o : Oper} {S : St} {k : D → List Nat → List (Nat × Ob) → List Ob → Prop} (hl : isStore o.op = true) (h : stepOp P o S k) :
    stepOp P o S fun d rd sets news => k d rd sets news ∧ news = [] ∧ ∀ x ∈ sets, (S.get x.1).map shp = some (shp x.2) := by
  unfold isStore at hl
  split at hl
  case h_2 => cases hl
  rename_i t x y hc
  unfold stepOp at h ⊢
  rw [hc] at h ⊢
  simp only at h ⊢
  split at h
  · exact h.elim
  · split at h
    · split at h
      · split at h
        · rename_i hg _ l hl
          refine ⟨h.1, h.2, trivial, fun z hz => ?_⟩
          simp only [List.mem_singleton] at hz
          subst hz
          simp only [hg, Option.map_some, shp]
        · exact h.elim
      · exact h.elim
    · split at h
      · split at h
        · rename_i hg _ l hl
          refine ⟨h.1, h.2, trivial, fun z hz => ?_⟩
          simp only [List.mem_singleton] at hz
          subst hz
          have key : ∀ (q : List (List D)) (j : Nat) (e : List D), (q.set j e).map (fun _ => ([] : List D)) = q.map fun _ => [] := fun q j e => by
            rw [List.map_set]
            apply List.ext_getElem (by simp)
            intro i h1 h2
            simp [List.getElem_set]
          simp only [hg, Option.map_some, shp, key, h.1.1, h.1.2.1]
        · exact h.elim
      · exact h.elim
    · exact h.elim
theorem step_loc {P : Program} {o : Oper} {S : St} {k : D → List Nat → List (Nat × Ob) → List Ob → Prop} (h : stepOp P o S k) :
    ∃ (pre : List (Operand × D)) (rd : List (Nat × Ob)) (d : D) (sets : List (Nat × Ob)) (news : List Ob), ORule P o pre rd d { new := nameNew S.nx news, set := sets } ∧
    (∀ x ∈ pre, evE S.env x.1 = x.2) ∧ (∀ x ∈ rd, S.get x.1 = some x.2) ∧ (∀ x ∈ sets, (∃ y, (x.1, y) ∈ rd) ∧ (x.1 < S.n0 → x.2.nms S.n0)) ∧ k d (rd.map (·.1)) sets news ∧
    (∀ x ∈ pre, x.1 ∈ o.op.operands.toList) ∧ (touch o.op = 0 → rd = [] ∧ sets = [] ∧ news = []) ∧ (touch o.op = 1 → sets = [] ∧ news = []) ∧
    (isLen o.op = true → ∀ H : Nat → Option Ob, (∀ x ∈ rd, (H x.1).map shp = some (shp x.2)) → ∃ rd', ORule P o pre rd' d { new := nameNew S.nx news, set := sets } ∧ ∀ x ∈ rd', H x.1 = some x.2) ∧
    (isStore o.op = true → news = [] ∧ ∀ x ∈ sets, (S.get x.1).map shp = some (shp x.2)) := by
  by_cases hlen : isLen o.op = true
  · obtain ⟨pre, rd, d, r1, r2, r3, r5, r6, r9⟩ := step_len hlen h
    exact ⟨pre, rd, d, [], [], r1, r2, r3, nil_all, r5, r6, (fun h => by rw [isLen_touch hlen] at h; cases h), (fun _ => ⟨rfl, rfl⟩), (fun _ => r9), fun _ => ⟨rfl, nil_all⟩⟩
  · by_cases hsto : isStore o.op = true
    · obtain ⟨pre, rd, d, sets, news, r1, r2, r3, r4, ⟨r5, r10⟩, r6, r7, r8⟩ := stepOp_sound (step_sto hsto h)
      exact ⟨pre, rd, d, sets, news, r1, r2, r3, r4, r5, r6, r7, r8, (fun h => (hlen h).elim), fun _ => r10⟩
    · obtain ⟨pre, rd, d, sets, news, r1, r2, r3, r4, r5, r6, r7, r8⟩ := stepOp_sound h
      exact ⟨pre, rd, d, sets, news, r1, r2, r3, r4, r5, r6, r7, r8, (fun h => (hlen h).elim), fun h => (hsto h).elim⟩
def Ent.info (E : Ent) : List Nat × List Nat := (E.rd.map (·.1), E.e.names)
def slotsOf (l : List Oper) (es : List Ent) : List (Nat → Option D) := List.zipWith (fun o E => slotW o.dst E.d) l es
def heapsOf (es : List Ent) : List (Nat → Option (Option Ob)) := es.map fun E => E.e.wr
theorem slotW_env (S : St) (dst : Option Tmp) (d : D) (sets : List (Nat × Ob)) (news : List Ob) : (S.after dst d sets news).env = fun t => (slotW dst d t).getD (S.env t) := by
  rw [after_env]
  funext t
  cases dst with
  | none => simp [updO, slotW]
  | some k =>
    simp only [updO, upd, slotW]
    by_cases e : t = k
    · subst e; simp
    · have : k ≠ t := fun h => e h.symm
      simp [e, this]
theorem Loc.after_get {P : Program} {N : Nat} {ops : Array Oper} {o : Oper} {S : St} {E : Ent} (h : Loc P N ops o S E) : (E.after S o.dst).get = fun n => (E.e.wr n).getD (S.get n) := by
  unfold Ent.after
  obtain ⟨news, hn⟩ := h.new
  rw [Go.Sy.after_get _ _ _ _ _ (fun x hx => ?_)]
  · funext n
    rw [hn, map_nameNew, ← hn]
    exact E.e.app_wr S.get n
  · obtain ⟨⟨y, hy⟩, _⟩ := h.set x hx
    have := h.rd _ hy
    simp only at this
    rw [this]; rfl
theorem Tr.len {P : Program} {N : Nat} {ops : Array Oper} {l : List Oper} {S S' : St} {es : List Ent} (t : Tr P N ops l S es S') : es.length = l.length := by
  induction t with
  | nil S => rfl
  | cons h t ih => simp [ih]
theorem Tr.at_ {P : Program} {N : Nat} {ops : Array Oper} {l : List Oper} {S S' : St} {es : List Ent} (t : Tr P N ops l S es S') : ∀ (i k : Nat) (o : Oper) (E : Ent), l[k]? = some o → es[k]? = some E →
    ∃ Sk, Loc P N ops o Sk E ∧ (∀ r, Sk.env r = app (fun m => decide (m < i + k)) (slotsOf l es) i S.env r) ∧ (∀ n, Sk.get n = app (fun m => decide (m < i + k)) (heapsOf es) i S.get n) ∧ Sk.n0 = S.n0 := by
  induction t with
  | nil S => intro i k o E h; simp at h
  | @cons o l S S' E es h t ih =>
    intro i k o' E' hk he
    cases k with
    | zero =>
      simp at hk he
      subst hk he
      refine ⟨S, h, fun r => ?_, fun n => ?_, rfl⟩
      · rw [appL_none]
        intro m wr hm _
        simp
      · rw [appL_none]
        intro m wr hm _
        simp
    | succ k =>
      obtain ⟨Sk, h1, h2, h3, h4⟩ := ih (i + 1) k o' E' (by simpa using hk) (by simpa using he)
      refine ⟨Sk, h1, fun r => ?_, fun n => ?_, by rw [h4]; exact after_n0 _ _ _ _ _⟩
      · rw [h2 r]
        unfold Ent.after
        rw [slotW_env]
        have e : i + 1 + k = i + (k + 1) := by omega
        rw [e]
        show _ = app _ (slotW o.dst E.d :: slotsOf l es) i S.env r
        rw [app]
        simp
      · rw [h3 n, h.after_get]
        have e : i + 1 + k = i + (k + 1) := by omega
        rw [e]
        show _ = app _ (E.e.wr :: heapsOf es) i S.get n
        rw [app]
        simp
theorem Tr.end_ {P : Program} {N : Nat} {ops : Array Oper} {l : List Oper} {S S' : St} {es : List Ent} (t : Tr P N ops l S es S') : ∀ i, (∀ r, S'.env r = app (fun _ => true) (slotsOf l es) i S.env r) ∧ (∀ n, S'.get n = app (fun _ => true) (heapsOf es) i S.get n) ∧ S'.n0 = S.n0 ∧ S.nx ≤ S'.nx ∧ S'.lv = S.lv := by
  induction t with
  | nil S => intro i; exact ⟨fun _ => rfl, fun _ => rfl, rfl, Nat.le_refl _, rfl⟩
  | @cons o l S S' E es h t ih =>
    intro i
    obtain ⟨h1, h2, h3, h4, h5⟩ := ih (i + 1)
    refine ⟨fun r => ?_, fun n => ?_, by rw [h3]; exact after_n0 _ _ _ _ _, ?_, by rw [h5]; exact after_lv _ _ _ _ _⟩
    · rw [h1 r]
      unfold Ent.after
      rw [slotW_env]
      rfl
    · rw [h2 n, h.after_get]
      rfl
    · have : (E.after S o.dst).nx = S.nx + (E.e.new.map (·.2)).length := after_nx _ _ _ _ _
      omega
theorem Tr.names {P : Program} {N : Nat} {ops : Array Oper} {l : List Oper} {S S' : St} {es : List Ent} (t : Tr P N ops l S es S') :
    (∀ (k : Nat) (E : Ent) (n : Nat) (o : Ob), es[k]? = some E → (n, o) ∈ E.e.new → S.nx ≤ n ∧ n < S'.nx) ∧ (∀ (k k' : Nat) (E E' : Ent) (n : Nat) (o : Ob) (n' : Nat) (o' : Ob), k < k' → es[k]? = some E → es[k']? = some E' → (n, o) ∈ E.e.new → (n', o') ∈ E'.e.new → n < n') := by
  induction t with
  | nil S => exact ⟨fun k E n o h => by simp at h, fun k k' E E' n o n' o' _ h => by simp at h⟩
  | @cons o l S S' E es h t ih =>
    obtain ⟨i1, i2⟩ := ih
    obtain ⟨_, _, _, hle, _⟩ := t.end_ 0
    have hnx : (E.after S o.dst).nx = S.nx + (E.e.new.map (·.2)).length := after_nx _ _ _ _ _
    obtain ⟨news, hn⟩ := h.new
    have hlen : (E.e.new.map (·.2)).length = news.length := by rw [hn, map_nameNew]
    have hd : ∀ n ob, (n, ob) ∈ E.e.new → S.nx ≤ n ∧ n < (E.after S o.dst).nx := fun n ob hm => by
      rw [hn] at hm
      have := mem_nameNew _ _ _ _ hm
      omega
    refine ⟨fun k E' n ob hk hm => ?_, fun k k' E1 E2 n ob n' ob' hlt hk hk' hm hm' => ?_⟩
    · cases k with
      | zero => simp at hk; subst hk; have := hd n ob hm; omega
      | succ k => have := i1 k E' n ob (by simpa using hk) hm; omega
    · cases k with
      | zero =>
        simp at hk
        subst hk
        cases k' with
        | zero => omega
        | succ k' =>
          have h1 := hd n ob hm
          have h2 := i1 k' E2 n' ob' (by simpa using hk') hm'
          omega
      | succ k =>
        cases k' with
        | zero => omega
        | succ k' => exact i2 k k' E1 E2 n ob n' ob' (by omega) (by simpa using hk) (by simpa using hk') hm hm'
theorem Tr.lv {P : Program} {N : Nat} {ops : Array Oper} {l : List Oper} {S S' : St} {es : List Ent} (t : Tr P N ops l S es S') : S'.lv = S.lv := (t.end_ 0).2.2.2.2
theorem Tr.Bok {P : Program} {N : Nat} {ops : Array Oper} {l : List Oper} {S S' : St} {es : List Ent} (t : Tr P N ops l S es S') (h : ∀ n o, S.B n = some o → n < S.n0 ∧ o.nms S.n0) : ∀ n o, S'.B n = some o → n < S'.n0 ∧ o.nms S'.n0 := by
  induction t with
  | nil S => exact h
  | @cons o l S S' E es hl t ih =>
    refine ih (fun n ob hn => ?_)
    have hB : (E.after S o.dst).B = (S.sets E.e.set).B := by simp [Ent.after, St.after, St.put, St.news_B]
    have h0 : (E.after S o.dst).n0 = S.n0 := after_n0 _ _ _ _ _
    rw [hB] at hn
    rw [h0]
    exact sets_Bok _ S h (fun x hx => (hl.set x hx).2) n ob hn
def GL (l : List Oper) (es : List Ent) (S : St) (L : Nat → Bool) : G :=
  ⟨app L (slotsOf l es) 0 S.env, app L (heapsOf es) 0 S.get, fun n => S.toG.live n ∨ ∃ k E o, es[k]? = some E ∧ L k = true ∧ (n, o) ∈ E.e.new⟩
def dis (x y : List Nat × List Nat) : Prop := (∀ n ∈ x.2, n ∉ y.1 ∧ n ∉ y.2) ∧ (∀ n ∈ y.2, n ∉ x.1)
def chkPairs (is : List (List Nat × List Nat)) : List (Nat × Nat) → Prop
  | [] => True
  | (i, j) :: ps => dis (is.getD i ([], [])) (is.getD j ([], [])) ∧ chkPairs is ps
theorem chkPairs_mem {is : List (List Nat × List Nat)} : ∀ {ps : List (Nat × Nat)}, chkPairs is ps → ∀ {i j : Nat}, (i, j) ∈ ps → dis (is.getD i ([], [])) (is.getD j ([], []))
  | [], _, _, _, h => by simp at h
  | (i', j') :: ps, h, i, j, hm => by
    rcases List.mem_cons.1 hm with e | hm
    · cases e; exact h.1
    · exact chkPairs_mem h.2 hm
section
variable {P : Program} {N : Nat} {ops : Array Oper} {S S' : St} {es : List Ent} {L : Nat → Bool}
theorem slots_get {k : Nat} {wr : Nat → Option D} (h : (slotsOf ops.toList es)[k]? = some wr) : ∃ o E, ops[k]? = some o ∧ es[k]? = some E ∧ wr = slotW o.dst E.d := by
  unfold slotsOf at h
  rw [List.getElem?_zipWith] at h
  cases h1 : ops.toList[k]? with
  | none => simp [h1] at h
  | some o =>
    cases h2 : es[k]? with
    | none => simp [h1, h2] at h
    | some E =>
      simp [h1, h2] at h
      exact ⟨o, E, by simpa using h1, rfl, h.symm⟩
theorem heaps_get {k : Nat} {wr : Nat → Option (Option Ob)} (h : (heapsOf es)[k]? = some wr) : ∃ E, es[k]? = some E ∧ wr = E.e.wr := by
  unfold heapsOf at h
  rw [List.getElem?_map, Option.map_eq_some_iff] at h
  obtain ⟨E, h1, h2⟩ := h
  exact ⟨E, h1, h2.symm⟩
theorem slotW_some {dst : Option Tmp} {d : D} {t : Nat} (h : (slotW dst d t).isSome = true) : dst = some t := by
  unfold slotW at h
  split at h
  · assumption
  · cases h
theorem loose_slots (hs : slotsOk ops = true) {i j : Nat} {x y : Oper} (hx : ops[i]? = some x) (hy : ops[j]? = some y) (h : (i, j) ∈ loose ops) :
    (∀ t, x.dst = some t → t ∉ reads ops y ∧ y.dst ≠ some t) ∧ (∀ t, y.dst = some t → t ∉ reads ops x) := by
  unfold slotsOk at hs
  rw [Bool.and_eq_true] at hs
  have := List.all_eq_true.1 hs.1 _ h
  simp only [hx, hy, Bool.and_eq_true] at this
  obtain ⟨h1, h2⟩ := this
  refine ⟨fun t ht => ?_, fun t ht => ?_⟩
  · rw [ht] at h1
    simpa using h1
  · rw [ht] at h2
    simpa using h2
theorem slots_before (hs : slotsOk ops = true) {j : Nat} {o : Oper} (hj : ops[j]? = some o) : ∀ e ∈ o.after, Region.binds .any e = true → e.on < j := by
  unfold slotsOk at hs
  rw [Bool.and_eq_true] at hs
  have hlt : j < ops.size := (Array.getElem?_eq_some_iff.1 hj).1
  have := List.all_eq_true.1 hs.2 j (by simpa using hlt)
  simp only [hj] at this
  intro e he hb
  have := Array.all_eq_true'.1 this e he
  simpa [hb] using this
theorem listed_iff (hL : Closed ops L) {i k : Nat} {x y : Oper} (hx : ops[i]? = some x) (hy : ops[k]? = some y) (hi : L i = false) (hr : ∀ e ∈ x.after, Region.binds .any e = true → L e.on = true)
    (hne : k ≠ i) (h : (k, i) ∉ loose ops) (h' : (i, k) ∉ loose ops) : L k = decide (k < i) := by
  have hxs : i < ops.size := (Array.getElem?_eq_some_iff.1 hx).1
  have hys : k < ops.size := (Array.getElem?_eq_some_iff.1 hy).1
  by_cases hlt : k < i
  · have hmem : k ∈ (ancs ops).getD i [] := by
      by_cases hm : k ∈ (ancs ops).getD i []
      · exact hm
      · exact (h (loose_mem hxs hlt hm)).elim
    simp [hlt, ancs_closed hL i x hx hr k hmem]
  · have hmem : i ∈ (ancs ops).getD k [] := by
      by_cases hm : i ∈ (ancs ops).getD k []
      · exact hm
      · exact (h' (loose_mem hys (by omega) hm)).elim
    simp only [hlt, decide_false]
    cases hk : L k with
    | false => rfl
    | true =>
      have := ancs_closed hL k y hy (fun e he hb => hL k y hy hk e he hb) i hmem
      rw [hi] at this
      cases this
theorem info_get {k : Nat} {E : Ent} (h : es[k]? = some E) : (es.map Ent.info).getD k ([], []) = E.info := by
  simp [List.getD_eq_getElem?_getD, List.getElem?_map, h]
theorem heap_conf (tr : Tr P N ops ops.toList S es S') (hp : chkPairs (es.map Ent.info) (heapPairs ops)) {i j : Nat} {x y : Oper} {E F : Ent} (hx : ops[i]? = some x) (hy : ops[j]? = some y) (hE : es[i]? = some E) (hF : es[j]? = some F)
    (h : (i, j) ∈ loose ops) (hex : exempt ops x.op y.op = false) : dis E.info F.info := by
  obtain ⟨S1, l1, _⟩ := tr.at_ 0 i x E (by simpa using hx) hE
  obtain ⟨S2, l2, _⟩ := tr.at_ 0 j y F (by simpa using hy) hF
  by_cases hpair : (i, j) ∈ heapPairs ops
  · have := chkPairs_mem hp hpair
    rwa [info_get hE, info_get hF] at this
  · have hc : ¬ (touch x.op ≠ 0 ∧ touch y.op ≠ 0 ∧ (touch x.op = 2 ∨ touch y.op = 2)) := by
      intro hc
      apply hpair
      unfold heapPairs
      simp only [List.mem_filter]
      refine ⟨h, ?_⟩
      simp only [hx, hy]
      simpa [and_assoc, hex] using hc
    have hle : ∀ op : Op, touch op ≤ 2 := fun op => by
      unfold touch
      split <;> first | omega | (split <;> omega)
    have t1 := hle x.op
    have t2 := hle y.op
    unfold dis Ent.info
    by_cases a0 : touch x.op = 0
    · obtain ⟨e1, e2⟩ := l1.touch0 a0
      simp [e1, e2]
    · by_cases b0 : touch y.op = 0
      · obtain ⟨e1, e2⟩ := l2.touch0 b0
        simp [e1, e2]
      · have e1 := l1.touch1 (by omega)
        have e2 := l2.touch1 (by omega)
        simp [e1, e2]
theorem Tr.shp {P : Program} {N : Nat} {ops : Array Oper} {l : List Oper} {S S' : St} {es : List Ent} (t : Tr P N ops l S es S') : (∀ o ∈ l, touch o.op ≤ 1 ∨ isStore o.op = true) →
    ∀ (k : Nat) (E : Ent) (n : Nat) (v : Option Ob), es[k]? = some E → E.e.wr n = some v → v.map Sy.shp = (S.get n).map Sy.shp := by
  induction t with
  | nil S => intro _ k E n v h; simp at h
  | @cons o l S S' E es h t ih =>
    intro hs
    have first : ∀ n v, E.e.wr n = some v → v.map Sy.shp = (S.get n).map Sy.shp := by
      intro n v hv
      have hn : n ∈ E.e.names := Eff.wr_names (by rw [hv]; rfl)
      have hsto : isStore o.op = true := by
        rcases hs o List.mem_cons_self with h1 | h1
        · rcases Nat.lt_or_ge (touch o.op) 1 with h2 | h2
          · have := (h.touch0 (by omega)).2
            rw [this] at hn
            simp at hn
          · have := h.touch1 (by omega)
            rw [this] at hn
            simp at hn
        · exact h1
      obtain ⟨h1, h2⟩ := h.sto hsto
      unfold Eff.wr at hv
      rcases lookupL_val hv with h3 | ⟨ob, rfl, h3⟩
      · cases h3
      · rw [h1, List.append_nil] at h3
        rw [h2 _ h3]
        rfl
    intro k F n v hF hv
    cases k with
    | zero =>
      simp at hF
      subst hF
      exact first n v hv
    | succ k =>
      rw [ih (fun o ho => hs o (List.mem_cons_of_mem _ ho)) k F n v (by simpa using hF) hv, h.after_get]
      cases hw : E.e.wr n with
      | none => simp [hw]
      | some v' => simp only [hw, Option.getD_some]; exact first n v' hw
theorem touch_le (op : Op) : touch op ≤ 2 := by
  unfold touch
  split <;> first | omega | (split <;> omega)
theorem allSto_mem {ops : Array Oper} (h : allSto ops = true) : ∀ o ∈ ops.toList, touch o.op ≤ 1 ∨ isStore o.op = true := by
  intro o ho
  have := List.all_eq_true.1 h o ho
  rw [Bool.or_eq_true] at this
  refine this.imp (fun h1 => ?_) id
  have h2 := touch_le o.op
  have h3 : touch o.op ≠ 2 := by simpa using h1
  omega
theorem app_shp (tr : Tr P N ops ops.toList S es S') (h : allSto ops = true) (M : Nat → Bool) (n : Nat) : (app M (heapsOf es) 0 S.get n).map Sy.shp = (S.get n).map Sy.shp := by
  rcases app_val (L := M) (r := n) (heapsOf es) 0 S.get with e | ⟨k, wr, v, h1, h2, h3⟩
  · rw [e]
  · rw [h3]
    obtain ⟨E, h4, rfl⟩ := heaps_get h1
    exact tr.shp (allSto_mem h) k E n v h4 h2
theorem loc_any (tr : Tr P N ops ops.toList S es S') (hs : slotsOk ops = true) (hp : chkPairs (es.map Ent.info) (heapPairs ops)) (hL : Closed ops L) {i : Nat} {o : Oper} {E : Ent} (ho : ops[i]? = some o) (hE : es[i]? = some E) (hi : L i = false)
    (hr : ∀ e ∈ o.after, Region.binds .any e = true → L e.on = true) :
    ∃ Sk, Loc P N ops o Sk E ∧ Sk.n0 = S.n0 ∧ (∀ t ∈ reads ops o, (GL ops.toList es S L).env t = Sk.env t) ∧ ((∀ x ∈ E.rd, (GL ops.toList es S L).H x.1 = Sk.get x.1) ∨ (isLen o.op = true ∧ ∀ x ∈ E.rd, ((GL ops.toList es S L).H x.1).map Sy.shp = some (Sy.shp x.2))) := by
  obtain ⟨Sk, l1, l2, l3, l4⟩ := tr.at_ 0 i o E (by simpa using ho) hE
  refine ⟨Sk, l1, l4, fun t ht => ?_, ?_⟩
  · rw [l2 t]
    show app L _ 0 S.env t = _
    refine app_congr _ 0 _ _ (fun k wr hk hw => ?_) rfl
    obtain ⟨ok, Ek, h1, h2, rfl⟩ := slots_get hk
    have hdst := slotW_some hw
    simp only [Nat.zero_add]
    by_cases e : k = i
    · subst e; simp [hi]
    · refine listed_iff hL ho h1 hi hr e (fun hl => ?_) (fun hl => ?_)
      · exact ((loose_slots hs h1 ho hl).1 t hdst).1 ht
      · exact (loose_slots hs ho h1 hl).2 t hdst ht
  by_cases hx : isLen o.op = true ∧ allSto ops = true
  · refine .inr ⟨hx.1, fun x hxm => ?_⟩
    have h1 := l1.rd x hxm
    have h2 : ((GL ops.toList es S L).H x.1).map Sy.shp = (S.get x.1).map Sy.shp := app_shp tr hx.2 L x.1
    have h3 := app_shp tr hx.2 (fun m => decide (m < 0 + i)) x.1
    rw [← l3 x.1, h1] at h3
    rw [h2, ← h3]
    rfl
  · refine .inl fun x hx' => ?_
    rw [l3 x.1]
    show app L _ 0 S.get x.1 = _
    refine app_congr _ 0 _ _ (fun k wr hk hw => ?_) rfl
    obtain ⟨Ek, h2, rfl⟩ := heaps_get hk
    have hnm := Eff.wr_names hw
    have hk' : k < ops.size := by
      have h3 := (List.getElem?_eq_some_iff.1 h2).1
      have := tr.len
      simp at this
      omega
    have h1 : ops[k]? = some ops[k] := Array.getElem?_eq_getElem hk'
    have hxm : x.1 ∈ E.info.1 := List.mem_map.2 ⟨x, hx', rfl⟩
    have hkl : isLen (ops[k]).op = false := by
      cases hq : isLen (ops[k]).op with
      | false => rfl
      | true =>
        obtain ⟨S1, m1, _⟩ := tr.at_ 0 k ops[k] Ek (by rw [Array.getElem?_toList]; exact h1) h2
        have := m1.touch1 (isLen_touch hq)
        rw [this] at hnm
        simp at hnm
    have hex : ∀ a : Bool, (exempt ops o.op (ops[k]).op = false) ∧ exempt ops (ops[k]).op o.op = false := by
      intro _
      unfold exempt
      rw [hkl]
      by_cases h5 : isLen o.op = true
      · have h6 : allSto ops = false := by
          cases h7 : allSto ops with
          | false => rfl
          | true => exact (hx ⟨h5, h7⟩).elim
        rw [h6]
        simp
      · have h6 : isLen o.op = false := by simpa using h5
        rw [h6]
        simp
    simp only [Nat.zero_add]
    by_cases e : k = i
    · subst e; simp [hi]
    · refine listed_iff hL ho h1 hi hr e (fun hl => ?_) (fun hl => ?_)
      · exact ((heap_conf tr hp h1 ho h2 hE hl (hex true).2).1 x.1 hnm).1 hxm
      · exact (heap_conf tr hp ho h1 hE h2 hl (hex true).1).2 x.1 hnm hxm
theorem fin_any (tr : Tr P N ops ops.toList S es S') (hs : slotsOk ops = true) (hp : chkPairs (es.map Ent.info) (heapPairs ops)) (hL : Closed ops L) {i : Nat} {o : Oper} {E : Ent} (ho : ops[i]? = some o) (hE : es[i]? = some E) (hi : L i = false) :
    (GL ops.toList es S (fun k => L k || decide (k = i))).env = ((GL ops.toList es S L).fin o.dst E.d E.e).env ∧ (GL ops.toList es S (fun k => L k || decide (k = i))).H = ((GL ops.toList es S L).fin o.dst E.d E.e).H := by
  have later : ∀ m y, i < m → ops[m]? = some y → (i, m) ∉ loose ops → L m = false := fun m y hlt hy hl => by
    have hys : m < ops.size := (Array.getElem?_eq_some_iff.1 hy).1
    have hmem : i ∈ (ancs ops).getD m [] := by
      by_cases hm : i ∈ (ancs ops).getD m []
      · exact hm
      · exact (hl (loose_mem hys hlt hm)).elim
    cases hk : L m with
    | false => rfl
    | true =>
      have := ancs_closed hL m y hy (fun e he hb => hL m y hy hk e he hb) i hmem
      rw [hi] at this
      cases this
  constructor
  · have hg : (slotsOf ops.toList es)[i]? = some (slotW o.dst E.d) := by
      unfold slotsOf
      rw [List.getElem?_zipWith]
      simp [ho, hE]
    show app _ _ 0 S.env = _
    rw [app_more _ i S.env _ hg hi (fun r hr m wr' hlt hm hw => ?_)]
    · funext t
      show _ = updO (app L _ 0 S.env) o.dst E.d t
      cases hd : o.dst with
      | none => simp [slotW, updO]
      | some k =>
        simp only [slotW, updO, upd]
        by_cases e : t = k
        · subst e; simp
        · have : k ≠ t := fun h => e h.symm
          simp [e, this]
    · obtain ⟨om, Em, h1, h2, rfl⟩ := slots_get hm
      have d1 := slotW_some hr
      have d2 := slotW_some hw
      exact later m om hlt h1 (fun hl => ((loose_slots hs ho h1 hl).1 r d1).2 d2)
  · have hg : (heapsOf es)[i]? = some E.e.wr := by
      unfold heapsOf
      rw [List.getElem?_map, hE]
      rfl
    show app _ _ 0 S.get = _
    rw [app_more _ i S.get _ hg hi (fun r hr m wr' hlt hm hw => ?_)]
    · funext n
      show _ = E.e.app (app L _ 0 S.get) n
      rw [E.e.app_wr]
    · obtain ⟨Em, h2, rfl⟩ := heaps_get hm
      have hk' : m < ops.size := by
        have h3 := (List.getElem?_eq_some_iff.1 h2).1
        have := tr.len
        simp at this
        omega
      have h1 : ops[m]? = some ops[m] := Array.getElem?_eq_getElem hk'
      have nol : ∀ (k : Nat) (x : Oper) (F : Ent), ops[k]? = some x → es[k]? = some F → (F.e.wr r).isSome = true → isLen x.op = false := by
        intro k x F a1 a2 a3
        cases hq : isLen x.op with
        | false => rfl
        | true =>
          obtain ⟨S1, m1, _⟩ := tr.at_ 0 k _ F (by simpa using a1) a2
          have h5 := Eff.wr_names a3
          rw [m1.touch1 (isLen_touch hq)] at h5
          simp at h5
      have hex : exempt ops o.op (ops[m]).op = false := by
        unfold exempt
        rw [nol i o E ho hE hr, nol m _ Em h1 h2 hw]
        simp
      exact later m _ hlt h1 (fun hl => ((heap_conf tr hp ho h1 hE h2 hl hex).1 r (Eff.wr_names hr)).2 (Eff.wr_names hw))
theorem fresh_any (tr : Tr P N ops ops.toList S es S') {i : Nat} {E : Ent} (hE : es[i]? = some E) (hi : L i = false) : E.e.fresh (GL ops.toList es S L).live := by
  obtain ⟨n1, n2⟩ := tr.names
  intro n ob hm hl
  rcases hl with hl | ⟨k, F, ob', hF, hk, hm'⟩
  · have := (n1 i E n ob hE hm).1
    have h2 : n < S.nx := hl.2
    omega
  · rcases Nat.lt_trichotomy k i with h | h | h
    · have := n2 k i F E n ob' n ob h hF hE hm' hm; omega
    · subst h; rw [hi] at hk; cases hk
    · have := n2 i k E F n ob n ob' h hE hF hm hm'; omega
def lst (listed : Array Bool) : Nat → Bool := fun k => listed.getD k false
theorem any_sound (tr : Tr P N ops ops.toList S es S') (hs : slotsOk ops = true) (hp : chkPairs (es.map Ent.info) (heapPairs ops)) {K : Ctx} {Q : Exit → Act → World → Prop}
    (hBok : ∀ n o, S.B n = some o → n < S.n0 ∧ o.nms S.n0) {ρ0 : Env} {Z0 : Nat → Prop} {w0 : World} :
    ∀ (fuel : Nat) (listed : Array Bool) (a : Act) (w : World) (ρ : Env) (Z : Nat → Prop), listed.size = ops.size → listed.toList.count false = fuel → Closed ops (lst listed) → Sat K N ρ Z (GL ops.toList es S (lst listed)) a w → ExtO S.n0 ρ0 Z0 w0 ρ Z w →
      (∀ a' w' ρ' Z', SatS K N ρ' Z' S' a' w' → ExtO S.n0 ρ0 Z0 w0 ρ' Z' w' → Q .normal a' w') → wpAny P .any ops Q fuel listed a w := by
  intro fuel
  have final : ∀ (listed : Array Bool) (a : Act) (w : World) (ρ : Env) (Z : Nat → Prop), listed.size = ops.size → listed.toList.count false = 0 → Sat K N ρ Z (GL ops.toList es S (lst listed)) a w → SatS K N ρ Z S' a w := by
    intro listed a w ρ Z hsz hc hS
    obtain ⟨e1, e2, e3, e4, e5⟩ := tr.end_ 0
    have hall : ∀ k, k < ops.size → lst listed k = true := fun k hk => by
      have h1 : k < listed.toList.length := by simp; omega
      have := List.count_eq_zero.1 hc
      unfold lst
      rw [Array.getD_eq_getD_getElem?, Array.getElem?_eq_getElem (by omega)]
      simp only [Option.getD_some]
      cases hb : listed[k]'(by omega) with
      | true => rfl
      | false => exact (this (by rw [← hb]; exact Array.mem_toList_iff.2 (Array.getElem_mem _))).elim
    have hlen : es.length = ops.size := by have := tr.len; simpa using this
    refine ⟨hS.congr ?_ ?_ ?_, tr.Bok hBok⟩
    · funext t
      show S'.env t = app (lst listed) _ 0 S.env t
      rw [e1 t]
      refine app_congr _ 0 _ _ (fun k wr hk _ => ?_) rfl
      obtain ⟨ok, Ek, h1, _, _⟩ := slots_get hk
      rw [Nat.zero_add, hall k (Array.getElem?_eq_some_iff.1 h1).1]
    · funext n
      show S'.get n = app (lst listed) _ 0 S.get n
      rw [e2 n]
      refine app_congr _ 0 _ _ (fun k wr hk _ => ?_) rfl
      obtain ⟨Ek, h1, _⟩ := heaps_get hk
      rw [Nat.zero_add, hall k (by have := (List.getElem?_eq_some_iff.1 h1).1; omega)]
    · intro n hn
      show (n < S'.n0 → S'.lv n) ∧ n < S'.nx
      rw [e3, e5]
      rcases hn with hn | ⟨k, F, ob, hF, _, hm⟩
      · have h2 : n < S.nx := hn.2
        exact ⟨hn.1, by omega⟩
      · have h2 := tr.names.1 k F n ob hF hm
        have h3 : S.n0 ≤ S.nx := by unfold St.nx; omega
        exact ⟨fun h' => by omega, h2.2⟩
  have ready_some : ∀ (listed : Array Bool), listed.size = ops.size → listed.toList.count false ≠ 0 → Region.ready .any ops listed ≠ [] := by
    intro listed hsz hc hnil
    have hmem : false ∈ listed.toList := by
      rw [← List.count_pos_iff]
      omega
    obtain ⟨k, hk, hkf⟩ := List.getElem_of_mem hmem
    -- the first that is not listed
    have : ∃ i, i < ops.size ∧ lst listed i = false ∧ ∀ j, j < i → lst listed j = true := by
      have hex : ∃ i, i < ops.size ∧ lst listed i = false := ⟨k, by simp at hk; omega, by
        unfold lst
        simp at hk hkf
        simp [Array.getD_eq_getD_getElem?, hk, hkf]⟩
      obtain ⟨i, hi⟩ := hex
      induction i using Nat.strongRecOn with
      | _ i ih =>
        by_cases h : ∃ j, j < i ∧ lst listed j = false
        · obtain ⟨j, hj1, hj2⟩ := h
          exact ih j hj1 ⟨by omega, hj2⟩
        · refine ⟨i, hi.1, hi.2, fun j hj => ?_⟩
          cases hb : lst listed j with
          | true => rfl
          | false => exact (h ⟨j, hj, hb⟩).elim
    obtain ⟨i, hi1, hi2, hi3⟩ := this
    have hmem : i ∈ Region.ready .any ops listed := by
      unfold Region.ready
      simp only [List.mem_filter, List.mem_range]
      refine ⟨hi1, ?_⟩
      have hio : ops[i]? = some ops[i] := Array.getElem?_eq_getElem hi1
      have h1 : listed.getD i true = false := by
        unfold lst at hi2
        rw [Array.getD_eq_getD_getElem?, Array.getElem?_eq_getElem (by omega)] at hi2 ⊢
        simpa using hi2
      simp only [h1, Bool.not_false, Bool.true_and, hio, Option.map_some, Option.getD_some]
      refine Array.all_eq_true'.2 (fun e he => ?_)
      cases hb : Region.binds .any e with
      | false => simp
      | true =>
        have := hi3 e.on (slots_before hs hio e he hb)
        unfold lst at this
        simp [this]
    rw [hnil] at hmem
    simp at hmem
  induction fuel with
  | zero =>
    intro listed a w ρ Z hsz hc hL hS hx hQ
    refine ⟨?_, hQ a w ρ Z (final listed a w ρ Z hsz hc hS) hx⟩
    unfold Region.ready
    rw [List.filter_eq_nil_iff]
    intro i hi
    simp only [List.mem_range] at hi
    have h1 : listed.getD i true = true := by
      have := List.count_eq_zero.1 hc
      rw [Array.getD_eq_getD_getElem?, Array.getElem?_eq_getElem (by omega)]
      simp only [Option.getD_some]
      cases hb : listed[i]'(by omega) with
      | true => rfl
      | false => exact (this (by rw [← hb]; exact Array.mem_toList_iff.2 (Array.getElem_mem _))).elim
    simp [h1]
  | succ fuel ih =>
    intro listed a w ρ Z hsz hc hL hS hx hQ
    refine ⟨fun h => (ready_some listed hsz (by omega) h).elim, fun i hi => ?_⟩
    unfold Region.ready at hi
    simp only [List.mem_filter, List.mem_range, Bool.and_eq_true, Bool.not_eq_true'] at hi
    obtain ⟨hi1, hi2, hi3⟩ := hi
    have ho : ops[i]? = some ops[i] := Array.getElem?_eq_getElem hi1
    have hlen : es.length = ops.size := by have := tr.len; simpa using this
    have hE : es[i]? = some es[i] := List.getElem?_eq_getElem (by omega)
    have hif : lst listed i = false := by
      unfold lst
      rw [Array.getD_eq_getD_getElem?, Array.getElem?_eq_getElem (by omega)] at hi2 ⊢
      simpa using hi2
    have hr : ∀ e ∈ (ops[i]).after, Region.binds .any e = true → lst listed e.on = true := by
      intro e he hb
      simp only [ho, Option.map_some, Option.getD_some] at hi3
      have := Array.all_eq_true'.1 hi3 e he
      unfold lst
      simpa [hb] using this
    have hset : lst (listed.setIfInBounds i true) = fun k => lst listed k || decide (k = i) := by
      funext k
      unfold lst
      by_cases e : k = i
      · subst e; simp [Array.getD_eq_getD_getElem?, hsz, hi1]
      · have e' : i ≠ k := fun h => e h.symm
        simp [Array.getD_eq_getD_getElem?, Array.getElem?_setIfInBounds_ne e', e]
    have hcnt : (listed.setIfInBounds i true).toList.count false = fuel := by
      have hil : i < listed.toList.length := by simp; omega
      have hlf : listed.toList[i] = false := by
        unfold lst at hif
        rw [Array.getD_eq_getD_getElem?, Array.getElem?_eq_getElem (by omega)] at hif
        simpa using hif
      rw [Array.toList_setIfInBounds, List.count_set hil, hlf]
      have e1 : ((true : Bool) == false) = false := rfl
      simp only [beq_self_eq_true, if_true, e1, Bool.false_eq_true, if_false]
      omega
    have hL' : Closed ops (lst (listed.setIfInBounds i true)) := by
      intro j oj hj hlj e he hb
      rw [hset] at hlj ⊢
      simp only [Bool.or_eq_true, decide_eq_true_eq] at hlj ⊢
      rcases hlj with h | h
      · exact .inl (hL j oj hj h e he hb)
      · subst h
        rw [ho] at hj
        cases hj
        exact .inl (hr e he hb)
    obtain ⟨Sk, l1, l4, l5, l6⟩ := loc_any tr hs hp hL ho hE hif hr
    obtain ⟨f1, f2⟩ := fin_any tr hs hp hL ho hE hif
    have next : ∀ ρ' Z' a' w', Sat K N ρ' Z' ((GL ops.toList es S (lst listed)).fin (ops[i]).dst (es[i]).d (es[i]).e) a' w' → Ext ρ Z w ρ' Z' w' → wpAny P .any ops Q fuel (listed.setIfInBounds i true) a' w' := by
      intro ρ' Z' a' w' hS' hx'
      refine ih _ a' w' ρ' Z' (by simpa using hsz) hcnt hL' (hS'.congr ?_ ?_ ?_) (hx.trans (.of hx')) hQ
      · rw [hset]; exact f1
      · rw [hset]; exact f2
      · rw [hset]
        intro n hn
        rcases hn with hn | ⟨ob, hn⟩
        · rcases hn with hn | ⟨k, F, ob, h1, h2, h3⟩
          · exact .inl hn
          · exact .inr ⟨k, F, ob, h1, by simp [h2], h3⟩
        · exact .inr ⟨i, _, ob, hE, by simp, hn⟩
    have guards : ∀ yes, Guard ops ops[i] Sk.env yes → Region.wanted ops[i] (yielded ops a.tmps) = yes := by
      intro yes hg
      unfold Guard at hg
      unfold Region.wanted
      cases hgd : (ops[i]).guard with
      | none => rw [hgd] at hg; simp only at hg; subst hg; rfl
      | some jw =>
        obtain ⟨j, want⟩ := jw
        rw [hgd] at hg
        simp only at hg
        obtain ⟨t, x, h1, h2, h3⟩ := hg
        have hmem : t ∈ reads ops ops[i] := by
          unfold reads
          rw [List.mem_append]
          right
          rw [hgd]
          simp [h1]
        rw [← l5 t hmem] at h2
        simp only [yielded_of hS h1 h2, h3]
    unfold wpOp
    rw [ho]
    simp only
    rcases l1.rule with ⟨hg, pre0, r10, r20, r30⟩ | ⟨hg, hskip⟩
    · have hrule : ∃ pre rd, ORule P (ops[i]) pre rd (es[i]).d (es[i]).e ∧ (∀ x ∈ pre, evE Sk.env x.1 = x.2) ∧ (∀ x ∈ pre, x.1 ∈ (ops[i]).op.operands.toList) ∧ ∀ x ∈ rd, (GL ops.toList es S (lst listed)).H x.1 = some x.2 := by
        rcases l6 with l6 | ⟨hl, l6⟩
        · exact ⟨pre0, _, r10, r20, r30, fun x hx => by rw [l6 x hx]; exact l1.rd x hx⟩
        · obtain ⟨pre, q1, q2, q3⟩ := l1.len hl hg
          obtain ⟨rd', q4, q5⟩ := q3 _ l6
          exact ⟨pre, rd', q4, q1, q2, q5⟩
      obtain ⟨pre, rd, r1, r2, r3, r4⟩ := hrule
      rw [guards true hg]
      simp only [if_true]
      refine .inl (r1 K N ρ Z _ a w Q _ hS (fun x hx => ?_) (fun x hx => ?_) (fresh_any tr hE hif) (dstOk_iff l1.dst) next)
      · rw [← r2 x hx]
        cases hop : x.1 with
        | tmp t =>
          show (GL ops.toList es S (lst listed)).env t = Sk.env t
          refine l5 t ?_
          unfold reads
          rw [List.mem_append]
          left
          rw [List.mem_filterMap]
          exact ⟨.tmp t, by rw [← hop]; exact r3 x hx, rfl⟩
        | const v => rfl
        | global g => rfl
        | func f => rfl
      · exact r4 x hx
    · rw [guards false hg]
      simp only [Bool.false_eq_true, if_false]
      have e1 : (es[i]).d = .v undef := by rw [hskip]
      have e2 : (es[i]).e = {} := by rw [hskip]
      refine next ρ Z _ w ?_ (.refl _ _ _)
      rw [e1, e2]
      exact hS.put (dstOk_iff l1.dst) (.refl _ _ _) (.c (.v undef)) hS.mem (fun n hn => .inl (hS.live n hn))
theorem ExtO.drawn (n0 : Nat) (ρ : Env) (Z : Nat → Prop) (w : World) : ExtO n0 ρ Z w ρ Z { w with drawn := w.drawn + 1 } := ⟨fun _ _ h => ⟨h, rfl, Nat.le_refl _, fun _ => rfl⟩, fun _ h => h, fun _ _ => rfl⟩
theorem wp_drawT {K : Ctx} {id : Nat} {Q : Exit → St → Prop} {ρ : Env} {Z : Nat → Prop} {a : Act} {w : World} (hm : P.follows .mixedOrders = true) (hs : slotsOk ops = true) (ps : List (Nat × Nat)) (hps : heapPairs ops = ps) (hS : SatS K N ρ Z S a w)
    (h : ∃ es S', Tr P N ops ops.toList S es S' ∧ chkPairs (es.map Ent.info) ps ∧ Q .normal S') : (Code.region id ops true).wp P (Post K N S ρ Z w Q) a w := by
  obtain ⟨es, S', tr, hchk, hQ⟩ := h
  subst hps
  have hlen : es.length = ops.size := by have := tr.len; simpa using this
  have hget : ∀ k, lst (Array.replicate ops.size false) k = false := fun k => by
    unfold lst
    by_cases hk : k < ops.size <;> simp [Array.getD_eq_getD_getElem?, hk]
  have hS0 : Sat K N ρ Z (GL ops.toList es S (lst (Array.replicate ops.size false))) a { w with drawn := w.drawn + 1 } := by
    have hm' : HSat K ρ Z S.get { w with drawn := w.drawn + 1 } := by
      have := hS.sat.mem
      exact ⟨this.os, this.tape, this.output, this.size, this.Zmono, this.Zlt, this.same, fun n o ho => ⟨(this.obj n o ho).1, Ob.at_mono (w' := { w with drawn := w.drawn + 1 }) (this.obj n o ho).2 (fun _ _ => rfl) (fun _ _ => rfl) (fun _ h => h) (.refl _) rfl rfl rfl⟩, this.own, this.inj, this.bd⟩
    refine (Sat.congr (S := S.toG) ⟨hS.sat.tmps, hS.sat.defers, fun t => (hS.sat.env t).mono (w' := { w with drawn := w.drawn + 1 }) (fun _ _ => rfl) (fun _ h => h) (.refl _), hm', hS.sat.live⟩ ?_ ?_ ?_)
    · funext t
      show app _ _ 0 S.env t = S.env t
      exact appL_none _ _ _ (fun k wr _ _ => hget _)
    · funext n
      show app _ _ 0 S.get n = S.get n
      exact appL_none _ _ _ (fun k wr _ _ => hget _)
    · intro n hn; exact .inl hn
  refine wp_region_any hm (any_sound tr hs hchk hS.Bok (ρ0 := ρ) (Z0 := Z) (w0 := w) ops.size _ a _ ρ Z (by simp) (by simp [List.count_replicate_self]) (fun j o _ hl => by rw [hget] at hl; cases hl) hS0 (ExtO.drawn S.n0 ρ Z w) (fun a' w' ρ' Z' hS' hx => ⟨S', ρ', Z', hQ, (tr.end_ 0).2.2.1, tr.lv, hS', ⟨hx.le, hx.mono, hx.same⟩⟩))
end
end Go.Sy

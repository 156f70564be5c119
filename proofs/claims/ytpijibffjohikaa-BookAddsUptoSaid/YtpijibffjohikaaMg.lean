/-
  Vectors, in Lean alone: sums slot by slot, as the document says, are those side by side. Plain theorems.
-/
import Derived.Test.YtpijibffjohikaaMf
import Derived.Test.YtpijibffjohikaaSyLd
import Derived.Test.YtpijibffjohikaaSySp
import Derived.Shelf.SortM.Plain
import Derived.Shelf.SortM.SortNone
import Derived.Shelf.SlicesG.CompactI
import Derived.Test.YtpijibffjohikaaMd
import Derived.Test.YtpijibffjohikaaMa
set_option linter.unusedSectionVars false
set_option maxRecDepth 100000
set_option maxHeartbeats 8000000
set_option linter.unusedVariables false
set_option linter.unusedSimpArgs false
namespace Go.Proofs.Ytpijibffjohikaa.Sy
open Go Go.Sy Go.Proofs.Ytpijibffjohikaa
theorem VOk.ext : ∀ {u v : List Part}, VOk u → VOk v → (∀ k r, lk u k r = lk v k r) → u = v
  | [], [], _, _, _ => rfl
  | [], y :: v, _, hv, h => by
    have h1 := h y.kind y.role
    have h2 := (hv.ok y (by simp)).a0
    simp only [lk, and_self, if_true] at h1
    omega
  | x :: u, [], hu, _, h => by
    have h1 := h x.kind x.role
    have h2 := (hu.ok x (by simp)).a0
    simp only [lk, and_self, if_true] at h1
    omega
  | x :: u, y :: v, hu, hv, h => by
    have hx := hu.ok x (by simp)
    have hy := hv.ok y (by simp)
    have hxu := (List.pairwise_cons.1 hu.up).1
    have hyv := (List.pairwise_cons.1 hv.up).1
    have nx : ∀ k r, ¬ (x.kind = k ∧ x.role = r) → k < x.kind ∨ (k = x.kind ∧ r < x.role) → lk (x :: u) k r = 0 := fun k r hn hlt => by
      refine lk_no _ fun p hp hs => ?_
      rcases List.mem_cons.1 hp with rfl | hp
      · exact hn hs
      · have := hxu p hp
        unfold sl at this
        omega
    have ny : ∀ k r, ¬ (y.kind = k ∧ y.role = r) → k < y.kind ∨ (k = y.kind ∧ r < y.role) → lk (y :: v) k r = 0 := fun k r hn hlt => by
      refine lk_no _ fun p hp hs => ?_
      rcases List.mem_cons.1 hp with rfl | hp
      · exact hn hs
      · have := hyv p hp
        unfold sl at this
        omega
    have kx : lk (x :: u) x.kind x.role = x.amount := if_pos ⟨rfl, rfl⟩
    have ky : lk (y :: v) y.kind y.role = y.amount := if_pos ⟨rfl, rfl⟩
    have hs : x.kind = y.kind ∧ x.role = y.role := by
      apply Classical.byContradiction
      intro hn
      have a1 := h x.kind x.role
      have a2 := h y.kind y.role
      have b1 := hx.a0
      have b2 := hy.a0
      by_cases hlt : x.kind < y.kind ∨ (x.kind = y.kind ∧ x.role < y.role)
      · rw [kx, ny _ _ (by omega) (by omega)] at a1
        omega
      · rw [ky, nx _ _ (by omega) (by omega)] at a2
        omega
    have ha : x.amount = y.amount := by
      have a1 := h x.kind x.role
      rw [kx, hs.1, hs.2, ky] at a1
      exact a1
    have hxy : x = y := by
      obtain ⟨k, r, a⟩ := x
      obtain ⟨k', r', a'⟩ := y
      dsimp only at hs ha
      rw [hs.1, hs.2, ha]
    subst hxy
    have htl : u = v := VOk.ext hu.tail hv.tail fun k r => by
      by_cases e : x.kind = k ∧ x.role = r
      · rw [lk_no u (fun p hp hs => by have := hxu p hp; unfold sl at this; omega), lk_no v (fun p hp hs => by have := hyv p hp; unfold sl at this; omega)]
      · have := h k r
        rwa [lk_cons_ne e, lk_cons_ne e] at this
    rw [htl]
theorem mrg_lk : ∀ us vs : List Part, VOk us → VOk vs → (∀ l, mrg us vs = some l → ∀ k r, lk l k r = lk us k r + lk vs k r) ∧ (mrg us vs = none → ∃ k r, 9007199254740992 < lk us k r + lk vs k r)
  | [], vs, hu, hv => by
    rw [mrg]
    exact ⟨fun l h k r => by cases h; simp [lk], fun h => by cases h⟩
  | x :: us, [], hu, hv => by
    rw [mrg]
    exact ⟨fun l h k r => by cases h; simp [lk], fun h => by cases h⟩
  | x :: us, y :: vs, hu, hv => by
    have hxu := (List.pairwise_cons.1 hu.up).1
    have hyv := (List.pairwise_cons.1 hv.up).1
    rw [mrg]
    split
    · rename_i h1
      rw [slotCmp_lt] at h1
      obtain ⟨i1, i2⟩ := mrg_lk us (y :: vs) hu.tail hv
      have e0 : ∀ p ∈ y :: vs, ¬ (p.kind = x.kind ∧ p.role = x.role) := fun p hp hs => by
        rcases List.mem_cons.1 hp with rfl | hp
        · unfold sl at h1; omega
        · have := hyv p hp; unfold sl at h1 this; omega
      have e1 := lk_no _ e0
      have e2 : lk us x.kind x.role = 0 := lk_no _ fun p hp hs => by have := hxu p hp; unfold sl at this; omega
      refine ⟨fun l h k r => ?_, fun h => ?_⟩
      · cases hm : mrg us (y :: vs) with
        | none => rw [hm] at h; cases h
        | some m =>
          rw [hm] at h
          cases h
          have := i1 m hm k r
          by_cases e : x.kind = k ∧ x.role = r
          · obtain ⟨rfl, rfl⟩ := e
            rw [e1]
            simp [lk]
          · rw [lk_cons_ne e, lk_cons_ne e, this]
      · cases hm : mrg us (y :: vs) with
        | some m => rw [hm] at h; cases h
        | none =>
          obtain ⟨k, r, hkr⟩ := i2 hm
          refine ⟨k, r, ?_⟩
          by_cases e : x.kind = k ∧ x.role = r
          · obtain ⟨rfl, rfl⟩ := e
            rw [e1, e2] at hkr
            omega
          · rwa [lk_cons_ne e]
    · rename_i h1
      split
      · rename_i h2
        rw [slotCmp_gt] at h2
        obtain ⟨i1, i2⟩ := mrg_lk (x :: us) vs hu hv.tail
        have e0 : ∀ p ∈ x :: us, ¬ (p.kind = y.kind ∧ p.role = y.role) := fun p hp hs => by
          rcases List.mem_cons.1 hp with rfl | hp
          · unfold sl at h2; omega
          · have := hxu p hp; unfold sl at h2 this; omega
        have e1 := lk_no _ e0
        have e2 : lk vs y.kind y.role = 0 := lk_no _ fun p hp hs => by have := hyv p hp; unfold sl at this; omega
        refine ⟨fun l h k r => ?_, fun h => ?_⟩
        · cases hm : mrg (x :: us) vs with
          | none => rw [hm] at h; cases h
          | some m =>
            rw [hm] at h
            cases h
            have := i1 m hm k r
            by_cases e : y.kind = k ∧ y.role = r
            · obtain ⟨rfl, rfl⟩ := e
              rw [e1]
              simp [lk]
            · rw [lk_cons_ne e, this, lk_cons_ne (ys := vs) e]
        · cases hm : mrg (x :: us) vs with
          | some m => rw [hm] at h; cases h
          | none =>
            obtain ⟨k, r, hkr⟩ := i2 hm
            refine ⟨k, r, ?_⟩
            by_cases e : y.kind = k ∧ y.role = r
            · obtain ⟨rfl, rfl⟩ := e
              rw [e1, e2] at hkr
              omega
            · rwa [lk_cons_ne (ys := vs) e]
      · rename_i h2
        obtain ⟨c1, c2⟩ := slotCmp_eq h1 h2
        obtain ⟨i1, i2⟩ := mrg_lk us vs hu.tail hv.tail
        have e1 : lk us x.kind x.role = 0 := lk_no _ fun p hp hs => by have := hxu p hp; unfold sl at this; omega
        have e2 : lk vs x.kind x.role = 0 := lk_no _ fun p hp hs => by have := hyv p hp; unfold sl at this; omega
        split
        · rename_i h3
          obtain ⟨_, a4⟩ := qAdd_iff h3
          rw [a4]
          refine ⟨fun l h k r => ?_, fun h => ?_⟩
          · cases hm : mrg us vs with
            | none => rw [hm] at h; cases h
            | some m =>
              rw [hm] at h
              cases h
              have := i1 m hm k r
              by_cases e : x.kind = k ∧ x.role = r
              · obtain ⟨rfl, rfl⟩ := e
                simp only [lk, and_self, if_true]
                rw [if_pos ⟨c1.symm, c2.symm⟩]
              · rw [lk_cons_ne (y := ⟨x.kind, x.role, x.amount + y.amount⟩) e, this, lk_cons_ne e, lk_cons_ne (y := y) (by omega)]
          · cases hm : mrg us vs with
            | some m => rw [hm] at h; cases h
            | none =>
              obtain ⟨k, r, hkr⟩ := i2 hm
              refine ⟨k, r, ?_⟩
              by_cases e : x.kind = k ∧ x.role = r
              · obtain ⟨rfl, rfl⟩ := e
                rw [e1, e2] at hkr
                omega
              · rwa [lk_cons_ne e, lk_cons_ne (y := y) (by omega)]
        · rename_i h3
          refine ⟨fun l h => (by cases h), fun _ => ⟨x.kind, x.role, ?_⟩⟩
          have hx := hu.ok x (by simp)
          have hy := hv.ok y (by simp)
          have b1 := hx.a0
          have b2 := hy.a0
          have b3 := hx.a1
          have b4 := hy.a1
          simp only [lk, and_self, if_true]
          rw [if_pos ⟨c1.symm, c2.symm⟩]
          apply Classical.byContradiction
          intro hn
          apply h3
          unfold qAdd
          rw [if_pos (by omega)]
termination_by us vs => us.length + vs.length
end Go.Proofs.Ytpijibffjohikaa.Sy
namespace Go.Proofs.Ytpijibffjohikaa.Sy
open Go Go.Sy Go.Proofs.Ytpijibffjohikaa
abbrev VB := List Part × Bool
def gStep (g : Int) (s : VB) (a : Int) (v : List Part) : VB := if s.2 = true ∧ a = g then addV s.1 v else s
def gO (g : Int) (s : VB) (l : List Ofr) : Nat → VB
  | 0 => s
  | i + 1 => gStep g (gO g s l i) (l.getD i default).agent (l.getD i default).vec
def gT (g : Int) (s : VB) (l : List Tsk) : Nat → VB
  | 0 => s
  | i + 1 => gStep g (gT g s l i) (l.getD i default).agent (l.getD i default).vec
def gAll (b : Bk) (a : Agt) : VB := gT a.id (gO a.id (a.free, true) b.of b.of.length) b.tk b.tk.length
def LdOk (b : Bk) (i : Nat) : Prop := (gAll b (b.ag.getD i default)).2 = true ∧ vEq (gAll b (b.ag.getD i default)).1 (b.ag.getD i default).total = true
theorem gStep_f {g : Int} {s : VB} (h : s.2 = false) (a : Int) (v : List Part) : gStep g s a v = s := if_neg fun h2 => by rw [h] at h2; cases h2.1
structure LdI (l : List Agt) (s : LM) (d : Nat → VB) : Prop where
  good : s.1 = true → ∀ i, i < l.length → (d i).2 = true ∧ getL s.2 (l.getD i default).id = (d i).1
  bad : s.1 = false → ∃ i, i < l.length ∧ (d i).2 = false
theorem LdI.step {l : List Agt} {s : LM} {d : Nat → VB} (h : LdI l s d) {a : Int} (v : List Part) (ha : ∃ i, i < l.length ∧ (l.getD i default).id = a) : LdI l (lmAdd s a v) (fun i => gStep (l.getD i default).id (d i) a v) := by
  obtain ⟨i0, hi0, he0⟩ := ha
  unfold lmAdd
  constructor
  · intro hg i hi
    dsimp only at hg ⊢
    rw [Bool.and_eq_true] at hg
    have h1 := h.good hg.1
    obtain ⟨e1, e2⟩ := h1 i hi
    unfold gStep getL
    rw [lkp_put]
    by_cases e : a = (l.getD i default).id
    · rw [if_pos ⟨e1, e⟩, if_pos (by rw [e])]
      subst e
      rw [← e2]
      exact ⟨hg.2, rfl⟩
    · rw [if_neg (fun h2 => e h2.2), if_neg (fun h2 => e (by simpa using h2))]
      exact ⟨e1, e2⟩
  · intro hg
    dsimp only at hg
    rw [Bool.and_eq_false_iff] at hg
    cases hs : s.1 with
    | false =>
      obtain ⟨i, hi, hd⟩ := h.bad hs
      exact ⟨i, hi, by rw [gStep_f hd]; exact hd⟩
    | true =>
      obtain ⟨e1, e2⟩ := h.good hs i0 hi0
      refine ⟨i0, hi0, ?_⟩
      unfold gStep
      rw [if_pos ⟨e1, he0.symm⟩, ← e2, he0]
      rcases hg with hg | hg
      · rw [hs] at hg; cases hg
      · exact hg
theorem LdI.os {l : List Agt} {s : LM} {d : Nat → VB} (h : LdI l s d) (of : List Ofr) (ha : ∀ j, j < of.length → ∃ i, i < l.length ∧ (l.getD i default).id = (of.getD j default).agent) : ∀ n, n ≤ of.length → LdI l (lmO s of n) (fun i => gO (l.getD i default).id (d i) of n)
  | 0, _ => h
  | n + 1, hn => (h.os of ha n (by omega)).step _ (ha n (by omega))
theorem LdI.ts {l : List Agt} {s : LM} {d : Nat → VB} (h : LdI l s d) (of : List Tsk) (ha : ∀ j, j < of.length → ∃ i, i < l.length ∧ (l.getD i default).id = (of.getD j default).agent) : ∀ n, n ≤ of.length → LdI l (lmT s of n) (fun i => gT (l.getD i default).id (d i) of n)
  | 0, _ => h
  | n + 1, hn => (h.ts of ha n (by omega)).step _ (ha n (by omega))
theorem addV_nil {v : List Part} (h : vecRight v = true) : addV [] v = (v, true) := by
  unfold addV
  rw [if_pos ⟨(vecRight_iff _).2 VOk.nil, h⟩, mrg_nil']
theorem ids_lt {l : List Agt} (h : ∀ i, i < l.length → AgtOk l i) : ∀ j, j < l.length → ∀ i, i < j → (l.getD i default).id < (l.getD j default).id
  | 0, _, i, hi => absurd hi (Nat.not_lt_zero _)
  | j + 1, hj, i, hi => by
    have h1 := (h (j + 1) hj).up (by omega)
    rw [Nat.add_sub_cancel] at h1
    rcases Nat.lt_or_ge i j with h2 | h2
    · exact Int.lt_trans (ids_lt h j (by omega) i h2) h1
    · obtain rfl : i = j := by omega
      exact h1
theorem lmA_at {l : List Agt} (h : ∀ i, i < l.length → AgtOk l i) : ∀ n, n ≤ l.length → (lmA l n).1 = true ∧ (∀ i, i < n → getL (lmA l n).2 (l.getD i default).id = (l.getD i default).free) ∧ ∀ i, n ≤ i → i < l.length → getL (lmA l n).2 (l.getD i default).id = []
  | 0, _ => ⟨rfl, fun i hi => absurd hi (Nat.not_lt_zero _), fun i _ _ => rfl⟩
  | n + 1, hn => by
    obtain ⟨a1, a2, a3⟩ := lmA_at h n (by omega)
    have hk := h n (by omega)
    have e0 := a3 n (Nat.le_refl _) (by omega)
    have e : lmA l (n + 1) = lmAdd (lmA l n) (l.getD n default).id (l.getD n default).free := rfl
    have ev : addV (getL (lmA l n).2 (l.getD n default).id) (l.getD n default).free = ((l.getD n default).free, true) := by
      rw [e0, addV_nil hk.fre]
    rw [e]
    unfold lmAdd
    rw [ev, a1]
    refine ⟨rfl, fun i hi => ?_, fun i hi hi' => ?_⟩
    · unfold getL
      dsimp only
      rw [lkp_put]
      rcases Nat.lt_or_ge i n with h1 | h1
      · have := ids_lt h n (by omega) i h1
        rw [if_neg (fun h2 => by have h3 : (l.getD n default).id = (l.getD i default).id := by simpa using h2
                                 omega)]
        exact a2 i h1
      · obtain rfl : i = n := by omega
        rw [if_pos rfl]
        rfl
    · unfold getL
      dsimp only
      rw [lkp_put]
      have := ids_lt h i hi' n (by omega)
      rw [if_neg (fun h2 => by have h3 : (l.getD n default).id = (l.getD i default).id := by simpa using h2
                               omega)]
      exact a3 i (by omega) hi'
theorem lmA_I {l : List Agt} (h : ∀ i, i < l.length → AgtOk l i) : LdI l (lmA l l.length) (fun i => ((l.getD i default).free, true)) := by
  obtain ⟨a1, a2, a3⟩ := lmA_at h l.length (Nat.le_refl _)
  exact ⟨fun _ i hi => ⟨rfl, a2 i hi⟩, fun h => by rw [a1] at h; cases h⟩
theorem atAgent_mem {l : List Agt} {g : Int} (h : 0 ≤ atAgent l g) : ∃ i, i < l.length ∧ (l.getD i default).id = g := by
  rcases ixR_spec (fun a : Agt => decide (a.id = g)) l with ⟨h1, -⟩ | ⟨i, hi, -, h2⟩
  · have h3 : atAgent l g = -1 := h1
    omega
  · exact ⟨i, hi, of_decide_eq_true h2⟩
open Classical in
theorem ledgerB_eq {b : Bk} (hA : agentsB b = true) (hO : offersB b = true) (hT : tasksB b = true) : ledgerB b = pB (∀ i, i < b.ag.length → LdOk b i) := by
  have hA' := (pB_iff.1 hA).1
  have hO' : ∀ j, j < b.of.length → ∃ i, i < b.ag.length ∧ (b.ag.getD i default).id = (b.of.getD j default).agent := fun j hj => atAgent_mem ((OfrOk_iff b j).1 (pB_iff.1 hO j hj)).1.2.1
  have hT' : ∀ j, j < b.tk.length → ∃ i, i < b.ag.length ∧ (b.ag.getD i default).id = (b.tk.getD j default).agent := fun j hj => atAgent_mem (by have h := ((pB_iff.1 hT).1 j hj).held; rw [held_own, Bool.and_eq_true, Bool.and_eq_true, decide_eq_true_eq, decide_eq_true_eq] at h; exact h.2.1)
  have hI : LdI b.ag (lmAll b) (fun i => gAll b (b.ag.getD i default)) := ((lmA_I hA').os b.of hO' b.of.length (Nat.le_refl _)).ts b.tk hT' b.tk.length (Nat.le_refl _)
  unfold ledgerB
  cases hs : (lmAll b).1 with
  | false =>
    obtain ⟨i, hi, hd⟩ := hI.bad hs
    symm
    refine pB_f fun h => ?_
    have := (h i hi).1
    rw [hd] at this
    cases this
  | true =>
    have hg := hI.good hs
    by_cases hq : ∀ i, i < b.ag.length → LdOk b i
    · rw [pB_t hq]
      have : ledBad (lmAll b) b.ag = -1 := ixR_none fun i hi => by
        rw [(hg i hi).2, (hq i hi).2]
        rfl
      rw [this]
      rfl
    · rw [pB_f hq]
      have : 0 ≤ ledBad (lmAll b) b.ag := by
        apply Classical.byContradiction
        intro hn
        apply hq
        intro i hi
        obtain ⟨g1, g2⟩ := hg i hi
        refine ⟨g1, ?_⟩
        have hno : (!vEq (getL (lmAll b).2 (b.ag.getD i default).id) (b.ag.getD i default).total) = false := by
          rcases ixR_spec (fun a : Agt => !vEq (getL (lmAll b).2 a.id) a.total) b.ag with ⟨-, h1⟩ | ⟨k, -, h1, -⟩
          · exact h1 i hi
          · have h3 : ledBad (lmAll b) b.ag = (k : Int) := h1
            omega
        rw [g2] at hno
        simpa using hno
      rw [decide_eq_true this]
      rfl
end Go.Proofs.Ytpijibffjohikaa.Sy
namespace Go.Proofs.Ytpijibffjohikaa.Sy
open Go Go.Sy Go.Proofs Go.Proofs.Ytpijibffjohikaa
theorem sortsI : SortsI Try.prog 26 := ⟨fun w => AnyM.slices_Sort_int_none lsort none 0 w, fun blk off cap zs w h1 h2 h3 => AnyM.slices_Sort_int lsort blk off cap zs w h1 h2 h3⟩
theorem compactsI : CompactsI Try.prog 27 := ⟨fun A cap w => AnyG.slices_Compact_int_empty lcomp A cap w, fun blk off cap zs w h1 h2 h3 => AnyG.slices_Compact_int lcomp blk off cap zs w h1 h2 h3⟩
end Go.Proofs.Ytpijibffjohikaa.Sy
namespace Go.Proofs.Ytpijibffjohikaa.Sy
open Go Go.Sy Go.Proofs.Ytpijibffjohikaa
theorem sk_cons (p : Part) (l : List Part) (k : Int) : sk (p :: l) k = (if p.kind = k then p.amount else 0) + sk l k := rfl
theorem mrg_sk : ∀ (us vs l : List Part) (k : Int), mrg us vs = some l → sk l k = sk us k + sk vs k
  | [], vs, l, k, h => by
    rw [mrg] at h
    cases h
    simp [sk]
  | x :: us, [], l, k, h => by
    rw [mrg] at h
    cases h
    simp [sk]
  | x :: us, y :: vs, l, k, h => by
    rw [mrg] at h
    split at h
    · cases hm : mrg us (y :: vs) with
      | none => rw [hm] at h; cases h
      | some m =>
        rw [hm] at h
        cases h
        have := mrg_sk us (y :: vs) m k hm
        rw [sk_cons, this, sk_cons x us]
        omega
    · rename_i h1
      split at h
      · cases hm : mrg (x :: us) vs with
        | none => rw [hm] at h; cases h
        | some m =>
          rw [hm] at h
          cases h
          have := mrg_sk (x :: us) vs m k hm
          rw [sk_cons, this, sk_cons y]
          omega
      · rename_i h2
        obtain ⟨c1, c2⟩ := slotCmp_eq h1 h2
        split at h
        · rename_i h3
          obtain ⟨_, a4⟩ := qAdd_iff h3
          cases hm : mrg us vs with
          | none => rw [hm] at h; cases h
          | some m =>
            rw [hm] at h
            cases h
            have := mrg_sk us vs m k hm
            simp only [sk_cons]
            rw [this, a4, c1]
            split <;> omega
        · cases h
termination_by us vs => us.length + vs.length
theorem addV_sk {u v : List Part} (h : (addV u v).2 = true) (k : Int) : sk (addV u v).1 k = sk u k + sk v k := by
  unfold addV at h ⊢
  split at h
  · rename_i h1
    rw [if_pos h1]
    cases hm : mrg u v with
    | none => rw [hm] at h; cases h
    | some l => exact mrg_sk u v l k hm
  · cases h
section
variable {α : Type} [Inhabited α]
def hS (l : List α) (p : α → Bool) (v : α → List Part) (k : Int) : Nat → Int
  | 0 => 0
  | i + 1 => hS l p v k i + if p (l.getD i default) = true then sk (v (l.getD i default)) k else 0
theorem hS_nn {l : List α} {p : α → Bool} {v : α → List Part} (h : ∀ i, i < l.length → VOk (v (l.getD i default))) (k : Int) : ∀ i, i ≤ l.length → 0 ≤ hS l p v k i
  | 0, _ => Int.le_refl 0
  | i + 1, hi => by
    have h1 := hS_nn (p := p) h k i (by omega)
    have h2 := sk_nn (h i (by omega)).ok k
    simp only [hS]
    split <;> omega
theorem hS_le {l : List α} {p q : α → Bool} {v : α → List Part} (h : ∀ i, i < l.length → VOk (v (l.getD i default))) (hpq : ∀ x, p x = true → q x = true) (k : Int) : ∀ i, i ≤ l.length → hS l p v k i ≤ hS l q v k i
  | 0, _ => Int.le_refl 0
  | i + 1, hi => by
    have h1 := hS_le h hpq k i (by omega)
    have h2 := sk_nn (h i (by omega)).ok k
    have h3 := hpq (l.getD i default)
    simp only [hS]
    split
    · rename_i h4
      rw [if_pos (h3 h4)]
      omega
    · split <;> omega
theorem hS_mono {l : List α} {p : α → Bool} {v : α → List Part} (h : ∀ i, i < l.length → VOk (v (l.getD i default))) (k : Int) {i : Nat} : ∀ j, i ≤ j → j ≤ l.length → hS l p v k i ≤ hS l p v k j
  | 0, hij, _ => by
    obtain rfl : i = 0 := by omega
    exact Int.le_refl _
  | j + 1, hij, hj => by
    rcases Nat.lt_or_ge i (j + 1) with h1 | h1
    · have h2 := hS_mono (p := p) h k (i := i) j (by omega) (by omega)
      have h3 := sk_nn (h j (by omega)).ok k
      simp only [hS]
      split <;> omega
    · obtain rfl : i = j + 1 := by omega
      exact Int.le_refl _
end
def sumI (f : Nat → Int) : Nat → Int
  | 0 => 0
  | n + 1 => sumI f n + f n
theorem sumI_add (f g : Nat → Int) : ∀ n, sumI (fun i => f i + g i) n = sumI f n + sumI g n
  | 0 => rfl
  | n + 1 => by
    simp only [sumI, sumI_add f g n]
    omega
theorem sumI_zero {f : Nat → Int} : ∀ n, (∀ i, i < n → f i = 0) → sumI f n = 0
  | 0, _ => rfl
  | n + 1, h => by
    simp only [sumI]
    rw [sumI_zero n fun i hi => h i (by omega), h n (by omega)]
    rfl
theorem sumI_one {p : Nat → Bool} (x : Int) : ∀ n, (∃ i, i < n ∧ p i = true) → (∀ i j, i < n → j < n → p i = true → p j = true → i = j) → sumI (fun i => if p i = true then x else 0) n = x
  | 0, h, _ => by obtain ⟨i, hi, _⟩ := h; omega
  | n + 1, h, hu => by
    obtain ⟨i, hi, hp⟩ := h
    simp only [sumI]
    rcases Nat.lt_or_ge i n with h1 | h1
    · rw [sumI_one x n ⟨i, h1, hp⟩ fun a b ha hb => hu a b (by omega) (by omega)]
      rw [if_neg fun h2 => by have := hu i n hi (by omega) hp h2; omega]
      omega
    · obtain rfl : i = n := by omega
      rw [if_pos hp, sumI_zero]
      · omega
      · intro j hj
        rw [if_neg fun h2 => by have := hu j i (by omega) hi h2 hp; omega]
theorem sumI_congr {f g : Nat → Int} : ∀ n, (∀ i, i < n → f i = g i) → sumI f n = sumI g n
  | 0, _ => rfl
  | n + 1, h => by
    simp only [sumI]
    rw [sumI_congr n fun i hi => h i (by omega), h n (by omega)]
theorem hS_parts {α : Type} [Inhabited α] {l : List α} {v : α → List Part} (k : Int) (q : Nat → α → Bool) (n : Nat) : ∀ i, (∀ j, j < i → (∃ a, a < n ∧ q a (l.getD j default) = true) ∧ ∀ a b, a < n → b < n → q a (l.getD j default) = true → q b (l.getD j default) = true → a = b) →
    sumI (fun a => hS l (q a) v k i) n = hS l (fun _ => true) v k i
  | 0, _ => sumI_zero n fun _ _ => rfl
  | i + 1, h => by
    have h1 := hS_parts (v := v) k q n i fun j hj => h j (by omega)
    obtain ⟨h2, h3⟩ := h i (by omega)
    have h4 := sumI_add (fun a => hS l (q a) v k i) (fun a => if q a (l.getD i default) = true then sk (v (l.getD i default)) k else 0) n
    rw [sumI_one (p := fun a => q a (l.getD i default)) _ n h2 h3, h1] at h4
    simp only [hS, if_true]
    exact h4
theorem gStep_t {g : Int} {s : VB} {a : Int} {v : List Part} (h : (gStep g s a v).2 = true) : s.2 = true := by
  apply Classical.byContradiction
  intro hn
  rw [gStep_f (by simpa using hn)] at h
  exact hn h
theorem gStep_sk {g : Int} {s : VB} {a : Int} {v : List Part} (h : (gStep g s a v).2 = true) (k : Int) : sk (gStep g s a v).1 k = sk s.1 k + if decide (a = g) = true then sk v k else 0 := by
  have hs := gStep_t h
  unfold gStep at h ⊢
  by_cases e : a = g
  · rw [if_pos ⟨hs, e⟩] at h ⊢
    rw [if_pos (decide_eq_true e), addV_sk h]
  · rw [if_neg fun h2 => e h2.2, if_neg fun h2 => e (of_decide_eq_true h2)]
    omega
theorem gO_sk {g : Int} {s : VB} {l : List Ofr} (k : Int) : ∀ i, (gO g s l i).2 = true → sk (gO g s l i).1 k = sk s.1 k + hS l (fun x => decide (x.agent = g)) (·.vec) k i
  | 0, _ => by simp [gO, hS]
  | i + 1, h => by
    have h1 := gStep_sk h k
    have h2 := gO_sk (l := l) k i (gStep_t h)
    simp only [gO, hS] at h1 ⊢
    rw [h1, h2]
    omega
theorem gT_sk {g : Int} {s : VB} {l : List Tsk} (k : Int) : ∀ i, (gT g s l i).2 = true → sk (gT g s l i).1 k = sk s.1 k + hS l (fun x => decide (x.agent = g)) (·.vec) k i
  | 0, _ => by simp [gT, hS]
  | i + 1, h => by
    have h1 := gStep_sk h k
    have h2 := gT_sk (l := l) k i (gStep_t h)
    simp only [gT, hS] at h1 ⊢
    rw [h1, h2]
    omega
theorem gT_t {g : Int} {s : VB} {l : List Tsk} : ∀ i, (gT g s l i).2 = true → s.2 = true
  | 0, h => h
  | i + 1, h => gT_t i (gStep_t h)
theorem LdOk.sk {b : Bk} {i : Nat} (h : LdOk b i) (k : Int) : sk (b.ag.getD i default).total k = sk (b.ag.getD i default).free k + (hS b.of (fun x => decide (x.agent = (b.ag.getD i default).id)) (·.vec) k b.of.length + hS b.tk (fun x => decide (x.agent = (b.ag.getD i default).id)) (·.vec) k b.tk.length) := by
  obtain ⟨h1, h2⟩ := h
  rw [← of_decide_eq_true h2]
  unfold gAll at h1 ⊢
  rw [gT_sk k _ h1, gO_sk k _ (gT_t _ h1)]
  dsimp only
  omega
def fS (l : List Agt) (k : Int) : Nat → Int
  | 0 => 0
  | i + 1 => fS l k i + sk (l.getD i default).free k
def heldK (b : Bk) (p : Int → Bool) (k : Int) : Int := hS b.of (fun x => p x.frame) (·.vec) k b.of.length + hS b.tk (fun x => p x.frame) (·.vec) k b.tk.length
structure RightB (b : Bk) : Prop where
  set : setB b = true
  fr : framesB b = true
  ag : agentsB b = true
  most : mostB b = true
  of : offersB b = true
  tk : tasksB b = true
  fl : filtersB b = true
  led : ∀ i, i < b.ag.length → LdOk b i
theorem ruleP_right {b : Bk} (h : ruleP b = 0) : RightB b := by
  unfold ruleP at h
  have hb : ∀ {x : Bool}, ¬ x = false → x = true := fun {x} hx => by cases x <;> simp_all
  split at h; · cases h
  split at h; · cases h
  split at h; · cases h
  split at h; · cases h
  split at h; · cases h
  split at h; · cases h
  split at h; · cases h
  split at h; · cases h
  rename_i h1 h2 h3 h4 h5 h6 h7 h8
  refine ⟨hb h1, hb h2, hb h3, hb h4, hb h5, hb h6, hb h7, ?_⟩
  have h9 := hb h8
  rw [ledgerB_eq (hb h3) (hb h5) (hb h6)] at h9
  exact pB_iff.1 h9
theorem RightB.agent {b : Bk} (h : RightB b) : ∀ i, i < b.ag.length → AgtOk b.ag i := (pB_iff.1 h.ag).1
theorem RightB.ofr {b : Bk} (h : RightB b) (j : Nat) (hj : j < b.of.length) : (0 ≤ atFrame b.fr (b.of.getD j default).frame ∧ 0 ≤ atAgent b.ag (b.of.getD j default).agent ∧ VOk (b.of.getD j default).vec) := by
  have h1 := ((OfrOk_iff b j).1 (pB_iff.1 h.of j hj)).1
  exact ⟨h1.1, h1.2.1, (vecRight_iff _).1 ((ownB_iff _ _).1 h1.2.2).2.2⟩
theorem RightB.tsk {b : Bk} (h : RightB b) (j : Nat) (hj : j < b.tk.length) : (0 ≤ atFrame b.fr (b.tk.getD j default).frame ∧ 0 ≤ atAgent b.ag (b.tk.getD j default).agent ∧ VOk (b.tk.getD j default).vec) := by
  have h1 := ((pB_iff.1 h.tk).1 j hj).held
  rw [held_own, Bool.and_eq_true, Bool.and_eq_true, decide_eq_true_eq, decide_eq_true_eq] at h1
  exact ⟨h1.1, h1.2.1, (vecRight_iff _).1 ((ownB_iff _ _).1 h1.2.2).2.2⟩
theorem ids_inj {l : List Agt} (h : ∀ i, i < l.length → AgtOk l i) {i j : Nat} (hi : i < l.length) (hj : j < l.length) (e : (l.getD i default).id = (l.getD j default).id) : i = j := by
  rcases Nat.lt_trichotomy i j with h1 | h1 | h1
  · have := ids_lt h j hj i h1
    omega
  · exact h1
  · have := ids_lt h i hi j h1
    omega
theorem fS_eq (l : List Agt) (k : Int) : ∀ n, fS l k n = sumI (fun i => sk (l.getD i default).free k) n
  | 0 => rfl
  | n + 1 => by simp only [fS, sumI, fS_eq l k n]
theorem agS_eq (l : List Agt) (k : Int) : ∀ n, agS l k n = sumI (fun i => sk (l.getD i default).total k) n
  | 0 => rfl
  | n + 1 => by simp only [agS, sumI, agS_eq l k n]
theorem RightB.all {b : Bk} (h : RightB b) (k : Int) : agS b.ag k b.ag.length = fS b.ag k b.ag.length + heldK b (fun _ => true) k := by
  have hA := h.agent
  have h1 : ∀ j, j < b.of.length → (∃ a, a < b.ag.length ∧ decide ((b.of.getD j default).agent = (b.ag.getD a default).id) = true) ∧ ∀ a c, a < b.ag.length → c < b.ag.length → decide ((b.of.getD j default).agent = (b.ag.getD a default).id) = true → decide ((b.of.getD j default).agent = (b.ag.getD c default).id) = true → a = c := fun j hj => by
    obtain ⟨a, ha, e⟩ := atAgent_mem (h.ofr j hj).2.1
    exact ⟨⟨a, ha, decide_eq_true e.symm⟩, fun a c ha hc e1 e2 => ids_inj hA ha hc ((of_decide_eq_true e1).symm.trans (of_decide_eq_true e2))⟩
  have h2 : ∀ j, j < b.tk.length → (∃ a, a < b.ag.length ∧ decide ((b.tk.getD j default).agent = (b.ag.getD a default).id) = true) ∧ ∀ a c, a < b.ag.length → c < b.ag.length → decide ((b.tk.getD j default).agent = (b.ag.getD a default).id) = true → decide ((b.tk.getD j default).agent = (b.ag.getD c default).id) = true → a = c := fun j hj => by
    obtain ⟨a, ha, e⟩ := atAgent_mem (h.tsk j hj).2.1
    exact ⟨⟨a, ha, decide_eq_true e.symm⟩, fun a c ha hc e1 e2 => ids_inj hA ha hc ((of_decide_eq_true e1).symm.trans (of_decide_eq_true e2))⟩
  have e1 := hS_parts (v := (·.vec)) k (fun a (x : Ofr) => decide (x.agent = (b.ag.getD a default).id)) b.ag.length b.of.length h1
  have e2 := hS_parts (v := (·.vec)) k (fun a (x : Tsk) => decide (x.agent = (b.ag.getD a default).id)) b.ag.length b.tk.length h2
  rw [agS_eq, fS_eq, sumI_congr _ fun i hi => (h.led i hi).sk k, sumI_add, sumI_add]
  unfold heldK
  rw [← e1, ← e2]
theorem RightB.sk {b : Bk} (h : RightB b) (k : Int) (hk : k = 0 ∨ k = 1 ∨ k = 2 ∨ k = 3) : agS b.ag k b.ag.length ≤ 9007199254740992 := by
  have h1 := pB_iff.1 h.most b.ag.length (Nat.le_refl _)
  have h2 := (cfgB_iff.1 (setB_true h.set).1).most
  unfold leM agT S4.of at h1
  dsimp only at h1
  rcases hk with rfl | rfl | rfl | rfl <;> omega
theorem RightB.free {b : Bk} (h : RightB b) (i : Nat) (hi : i < b.ag.length) : VOk (b.ag.getD i default).free := (vecRight_iff _).1 (h.agent i hi).fre
theorem fS_nn {b : Bk} (h : RightB b) (k : Int) : ∀ n, n ≤ b.ag.length → 0 ≤ fS b.ag k n
  | 0, _ => Int.le_refl 0
  | n + 1, hn => by
    have h1 := fS_nn h k n (by omega)
    have h2 := sk_nn (h.free n (by omega)).ok k
    simp only [fS]
    omega
theorem RightB.held {b : Bk} (h : RightB b) (p : Int → Bool) (k : Int) (hk : k = 0 ∨ k = 1 ∨ k = 2 ∨ k = 3) : 0 ≤ heldK b p k ∧ heldK b p k ≤ 9007199254740992 := by
  have h1 := fun i hi => (h.ofr i hi).2.2
  have h2 := fun i hi => (h.tsk i hi).2.2
  have a1 := hS_nn (p := fun x : Ofr => p x.frame) (v := (·.vec)) h1 k _ (Nat.le_refl _)
  have a2 := hS_nn (p := fun x : Tsk => p x.frame) (v := (·.vec)) h2 k _ (Nat.le_refl _)
  have a3 := hS_le (p := fun x : Ofr => p x.frame) (q := fun _ => true) (v := (·.vec)) h1 (fun _ _ => rfl) k _ (Nat.le_refl _)
  have a4 := hS_le (p := fun x : Tsk => p x.frame) (q := fun _ => true) (v := (·.vec)) h2 (fun _ _ => rfl) k _ (Nat.le_refl _)
  have a5 := h.all k
  have a6 := h.sk k hk
  have a7 := fS_nn h k _ (Nat.le_refl _)
  unfold heldK at a5 ⊢
  dsimp only at a5
  omega
end Go.Proofs.Ytpijibffjohikaa.Sy
namespace Go.Proofs.Ytpijibffjohikaa.Sy
open Go Go.Sy Go.Proofs.Ytpijibffjohikaa
def rolesP (b : Bk) : List Int := cpcI (sortI (b.fr.map (·.role)))
def roleB (b : Bk) (r f : Int) : Bool := decide (0 ≤ atFrame b.fr f) && decide ((b.fr.getD (atFrame b.fr f).toNat default).role = r)
theorem rolesP_mem (b : Bk) (r : Int) : r ∈ rolesP b ↔ ∃ f ∈ b.fr, f.role = r := by
  unfold rolesP
  rw [cpcI_mem, sortI_mem, List.mem_map]
theorem rolesP_up (b : Bk) : (rolesP b).Pairwise (· < ·) := cpcI_up (sortI_up _)
theorem rolesP_inj (b : Bk) {i j : Nat} (hi : i < (rolesP b).length) (hj : j < (rolesP b).length) (e : (rolesP b).getD i 0 = (rolesP b).getD j 0) : i = j := by
  rw [List.getD_eq_getElem?_getD, List.getD_eq_getElem?_getD, List.getElem?_eq_getElem hi, List.getElem?_eq_getElem hj] at e
  have e' : (rolesP b)[i] = (rolesP b)[j] := e
  rcases Nat.lt_trichotomy i j with h1 | h1 | h1
  · have := List.pairwise_iff_getElem.1 (rolesP_up b) i j hi hj h1
    omega
  · exact h1
  · have := List.pairwise_iff_getElem.1 (rolesP_up b) j i hj hi h1
    omega
theorem rolesP_at (b : Bk) {f : Int} (h : 0 ≤ atFrame b.fr f) : ∃ a, a < (rolesP b).length ∧ roleB b ((rolesP b).getD a 0) f = true := by
  have hlt := atFrame_lt b.fr f h
  have hm : (b.fr.getD (atFrame b.fr f).toNat default).role ∈ rolesP b := (rolesP_mem b _).2 ⟨_, by rw [getD_el (by omega)]; exact List.getElem_mem _, rfl⟩
  obtain ⟨a, ha, e⟩ := List.mem_iff_getElem.1 hm
  refine ⟨a, ha, ?_⟩
  unfold roleB
  rw [decide_eq_true h, Bool.true_and, List.getD_eq_getElem?_getD (l := rolesP b), List.getElem?_eq_getElem ha]
  exact decide_eq_true e.symm
theorem roleB_role {b : Bk} {r f : Int} (h : roleB b r f = true) : (b.fr.getD (atFrame b.fr f).toNat default).role = r := by
  unfold roleB at h
  rw [Bool.and_eq_true] at h
  exact of_decide_eq_true h.2
theorem RightB.roles {b : Bk} (h : RightB b) (k : Int) : sumI (fun a => heldK b (roleB b ((rolesP b).getD a 0)) k) (rolesP b).length = heldK b (fun _ => true) k := by
  have h1 : ∀ j, j < b.of.length → (∃ a, a < (rolesP b).length ∧ roleB b ((rolesP b).getD a 0) (b.of.getD j default).frame = true) ∧ ∀ a c, a < (rolesP b).length → c < (rolesP b).length → roleB b ((rolesP b).getD a 0) (b.of.getD j default).frame = true → roleB b ((rolesP b).getD c 0) (b.of.getD j default).frame = true → a = c := fun j hj =>
    ⟨rolesP_at b (h.ofr j hj).1, fun a c ha hc e1 e2 => rolesP_inj b ha hc ((roleB_role e1).symm.trans (roleB_role e2))⟩
  have h2 : ∀ j, j < b.tk.length → (∃ a, a < (rolesP b).length ∧ roleB b ((rolesP b).getD a 0) (b.tk.getD j default).frame = true) ∧ ∀ a c, a < (rolesP b).length → c < (rolesP b).length → roleB b ((rolesP b).getD a 0) (b.tk.getD j default).frame = true → roleB b ((rolesP b).getD c 0) (b.tk.getD j default).frame = true → a = c := fun j hj =>
    ⟨rolesP_at b (h.tsk j hj).1, fun a c ha hc e1 e2 => rolesP_inj b ha hc ((roleB_role e1).symm.trans (roleB_role e2))⟩
  have e1 := hS_parts (v := (·.vec)) k (fun a (x : Ofr) => roleB b ((rolesP b).getD a 0) x.frame) (rolesP b).length b.of.length h1
  have e2 := hS_parts (v := (·.vec)) k (fun a (x : Tsk) => roleB b ((rolesP b).getD a 0) x.frame) (rolesP b).length b.tk.length h2
  unfold heldK
  rw [sumI_add, ← e1, ← e2]
theorem sumI_mono {f : Nat → Int} {n : Nat} : ∀ m, n ≤ m → (∀ i, i < m → 0 ≤ f i) → sumI f n ≤ sumI f m
  | 0, h, _ => by
    obtain rfl : n = 0 := by omega
    exact Int.le_refl _
  | m + 1, h, h0 => by
    rcases Nat.lt_or_ge n (m + 1) with h1 | h1
    · have h2 := sumI_mono (f := f) (n := n) m (by omega) fun i hi => h0 i (by omega)
      have h3 := h0 m (by omega)
      simp only [sumI]
      omega
    · obtain rfl : n = m + 1 := by omega
      exact Int.le_refl _
theorem sumI_nn {f : Nat → Int} : ∀ n, (∀ i, i < n → 0 ≤ f i) → 0 ≤ sumI f n
  | 0, _ => Int.le_refl _
  | n + 1, h => by
    have h1 := sumI_nn n fun i hi => h i (by omega)
    have h2 := h n (by omega)
    simp only [sumI]
    omega
def roS (b : Bk) (i : Nat) : S4 := S4.of fun k => sumI (fun a => heldK b (roleB b ((rolesP b).getD a 0)) k) i
theorem fids_lt {l : List Frm} (h : ∀ i, i < l.length → FrmOk l i) : ∀ j, j < l.length → ∀ i, i < j → (l.getD i default).id < (l.getD j default).id
  | 0, _, i, hi => absurd hi (Nat.not_lt_zero i)
  | j + 1, hj, i, hi => by
    have h1 := (h (j + 1) hj).up (by omega)
    rw [Nat.add_sub_cancel] at h1
    rcases Nat.lt_or_ge i j with h2 | h2
    · exact Int.lt_trans (fids_lt h j (by omega) i h2) h1
    · obtain rfl : i = j := by omega
      exact h1
theorem RightB.less {b : Bk} (h : RightB b) (i : Nat) (hi : i < b.fr.length) (k : Int) : heldK b (fun f => decide (f = (b.fr.getD i default).id)) k ≤ heldK b (roleB b (b.fr.getD i default).role) k := by
  have h1 := fun j hj => (h.ofr j hj).2.2
  have h2 := fun j hj => (h.tsk j hj).2.2
  have hh : ∀ f, decide (f = (b.fr.getD i default).id) = true → roleB b (b.fr.getD i default).role f = true := fun f hf => by
    obtain rfl := of_decide_eq_true hf
    have hat : atFrame b.fr (b.fr.getD i default).id = i := by
      refine ixR_hit hi (fun j hj => decide_eq_false fun e => ?_) (decide_eq_true rfl)
      have := fids_lt (pB_iff.1 h.fr).1 i hi j hj
      omega
    unfold roleB
    rw [hat, decide_eq_true (Int.natCast_nonneg _), Int.toNat_natCast, decide_eq_true rfl]
    rfl
  have a1 := hS_le (p := fun x : Ofr => decide (x.frame = (b.fr.getD i default).id)) (q := fun x => roleB b (b.fr.getD i default).role x.frame) (v := (·.vec)) h1 (fun x => hh x.frame) k _ (Nat.le_refl _)
  have a2 := hS_le (p := fun x : Tsk => decide (x.frame = (b.fr.getD i default).id)) (q := fun x => roleB b (b.fr.getD i default).role x.frame) (v := (·.vec)) h2 (fun x => hh x.frame) k _ (Nat.le_refl _)
  unfold heldK
  dsimp only
  omega
end Go.Proofs.Ytpijibffjohikaa.Sy
namespace Go.Proofs.Ytpijibffjohikaa.Sy
open Go Go.Sy Go.Proofs.Ytpijibffjohikaa
def sumF {α : Type} [Inhabited α] (l : List α) (p : α → Bool) (v : α → List Part) (s : S4) : Nat → S4
  | 0 => s
  | i + 1 => if p (l.getD i default) = true then (sumsAdd (sumF l p v s i) (sumsOf (v (l.getD i default)))).1 else sumF l p v s i
def s40 : S4 := ⟨0, 0, 0, 0⟩
def sumW (b : Bk) (p : Int → Bool) : S4 := sumF b.tk (fun x => p x.frame) (·.vec) (sumF b.of (fun x => p x.frame) (·.vec) s40 b.of.length) b.tk.length
def totF (b : Bk) : S4 := sumF b.ag (fun _ => true) (·.total) s40 b.ag.length
theorem upLb : ∀ l : List OX, upL l l
  | [] => trivial
  | a :: l => ⟨fun c => upO_refl _, upLb l⟩
@[reducible] def rsOb (o : Ar) (b : Bk) (r : Int) : List OX := [.var (Bk.X o b) 31, .var [xi r] 3]
theorem x_roleSum1 (o : Ar) (ho : o = Ar.real) (b : Bk) (hbk : BkOk b) (r f : Int) : XC Try.prog 30 [xi f, .ptr (.out 0) 0, .ptr (.out 1) 0] (rsOb o b r) (xb (roleB b r f)) (rsOb o b r) := by
  have h1 := x_Frame b hbk f
  have hlt := atFrame_lt b.fr f
  unfold roleB
  have n1 := hbk.n_fr
  generalize atFrame b.fr f = z at *
  obtain ⟨⟨c1, c2, c3, c4, c5, ⟨c6, c7, c8, c9⟩⟩, now, last, fr, ag, of, tk, fl⟩ := b
  clear hbk
  dsimp only at *
  have hz : z < (fr.length : Int) := by
    by_cases h : 0 ≤ z
    · have := hlt h
      omega
    · omega
  (refine XC.of_body (dt30) Try.func30 rfl Try.ntmps30 mixed (T := tl30) tk30 (by kernel_rfl) (by simp) rfl rfl rfl rfl rfl ?_; rintro o2 ho2 P hP c K hK; have hm : P.follows .mixedOrders = true := hP ▸ mixed; have hT : TOk P tl30 := hP ▸ tk30; (try rw [← ho2]); have e2 : o = o2 := ho.trans ho2.symm; subst e2; cbv; (repeat (refine StopN.mk ?_; cbv)))
  rw [← ho] at h1
  repeat' (first | (refine Br.mk (fun hb => ?_) (fun hb => ?_) <;> ((try rw [ho] at hb); (try dsimp only [Ar.real, IX.vo] at hb); (try simp only [QP1, QB7, QSyVa] at hb); (try simp only [QBo, beq_iff_eq, beq_eq_false_iff_ne, ne_eq] at hb))) | (refine StopN.mk ?_; cbv) | ((first | refine CallI.pure hP h1 fn31 rfl rfl rfl ?_ | refine CallN.pure hP h1 fn31 rfl rfl rfl ?_); cbv) | (refine hK _ _ ?_) | (refine NeedT.mk ?_ ?_))
  any_goals (((try clear hR3); (try clear hR2); (try clear hR); (try clear hK); (try simp only [ncCast] at *); (try simp only [castI_eq] at *); (try rw [ho]); (try dsimp only [Ar.real, IX.vo, IX.val, BX.val, IX.toN]); (try simp only [QP1, QB7, QSyVa]); (try simp only [decide_eq_true_eq]); (all_goals (repeat rw [wrap_i64 (by omega) (by omega)])); (all_goals (first | omega | (simp only [Int.ofNat_eq_natCast]; omega)))); done)
  · refine FinX_bOr ?_ rfl
    rw [decide_eq_true ‹0 ≤ z›, Bool.true_and, ho]
    exact eqIB_eq _ _
  · refine FinX_bOr ?_ rfl
    rw [decide_eq_false (Int.not_le.2 hb), Bool.false_and]
    rfl
theorem x_bsumR (o : Ar) (ho : o = Ar.real) (b : Bk) (hbk : BkOk b) (r : Int) : XC Try.prog 29 [.agg (Bk.X o b), .fn (.func 30) [] [.ptr (.out 0) 0, .ptr (.out 1) 0]] (rsOb o b r) (.agg (S4.X o (sumW b (roleB b r)))) (rsOb o b r) := by
  have hq := fun f => x_roleSum1 o ho b hbk r f
  have n1 := hbk.n_of
  have n2 := hbk.n_tk
  have hO := fun i => x_sumsOf (b.of.getD i default).vec (hbk.o1 i)
  have hT1 := fun i => x_sumsOf (b.tk.getD i default).vec (hbk.t1 i)
  have a0 : sumF b.of (fun x => roleB b r x.frame) (·.vec) s40 0 = s40 := rfl
  have a1 : ∀ i, sumF b.of (fun x => roleB b r x.frame) (·.vec) s40 (i + 1) = if roleB b r (b.of.getD i default).frame = true then (sumsAdd (sumF b.of (fun x => roleB b r x.frame) (·.vec) s40 i) (sumsOf (b.of.getD i default).vec)).1 else sumF b.of (fun x => roleB b r x.frame) (·.vec) s40 i := fun _ => rfl
  have c0 : sumF b.tk (fun x => roleB b r x.frame) (·.vec) (sumF b.of (fun x => roleB b r x.frame) (·.vec) s40 b.of.length) 0 = sumF b.of (fun x => roleB b r x.frame) (·.vec) s40 b.of.length := rfl
  have c1 : ∀ i, sumF b.tk (fun x => roleB b r x.frame) (·.vec) (sumF b.of (fun x => roleB b r x.frame) (·.vec) s40 b.of.length) (i + 1) = if roleB b r (b.tk.getD i default).frame = true then (sumsAdd (sumF b.tk (fun x => roleB b r x.frame) (·.vec) (sumF b.of (fun x => roleB b r x.frame) (·.vec) s40 b.of.length) i) (sumsOf (b.tk.getD i default).vec)).1 else sumF b.tk (fun x => roleB b r x.frame) (·.vec) (sumF b.of (fun x => roleB b r x.frame) (·.vec) s40 b.of.length) i := fun _ => rfl
  have hres : sumW b (roleB b r) = sumF b.tk (fun x => roleB b r x.frame) (·.vec) (sumF b.of (fun x => roleB b r x.frame) (·.vec) s40 b.of.length) b.tk.length := rfl
  generalize sumW b (roleB b r) = res at *
  generalize sumF b.tk (fun x => roleB b r x.frame) (·.vec) (sumF b.of (fun x => roleB b r x.frame) (·.vec) s40 b.of.length) = M2 at *
  generalize sumF b.of (fun x => roleB b r x.frame) (·.vec) s40 = M1 at *
  generalize roleB b r = q at *
  obtain ⟨⟨k1, k2, k3, k4, k5, ⟨k6, k7, k8, k9⟩⟩, now, last, fr, ag, of, tk, fl⟩ := b
  clear hbk
  dsimp only at *
  (refine XC.of_body (dt29) Try.func29 rfl Try.ntmps29 mixed (T := tl29) tk29 (by kernel_rfl) (by simp) rfl rfl rfl rfl rfl ?_; rintro o2 ho2 P hP c K hK; have hm : P.follows .mixedOrders = true := hP ▸ mixed; have hT : TOk P tl29 := hP ▸ tk29; (try rw [← ho2]); have e2 : o = o2 := ho.trans ho2.symm; subst e2; cbv; (repeat (refine StopN.mk ?_; cbv)))
  refine LoopN.over (o := o) (D := dt29) ho hm hT (by kernel_rfl) (fun i : Nat => [(13, xn i)]) (fun i => [(2, .var (S4.X o (M1 i)) 35)]) (fun _ => []) (fun i => i ≤ of.length) (fun i => of.length - i) 0 (Nat.zero_le _) ?_ ?_
  · rw [a0]
    (refine ⟨?_, ?_, ?_, ?_⟩ <;> cbv <;> repeat' (first | trivial | exact EqX.rfl' | exact EqO.rfl' | apply And.intro | ((try clear hR3); (try clear hR2); (try clear hR); (try clear hK); (try simp only [ncCast] at *); (try simp only [castI_eq] at *); refine EqX.i ?_; (try rw [ho]); (try dsimp only [Ar.real, IX.vo, IX.val, BX.val, IX.toN]); (try simp only [QP1, QB7, QSyVa]); (repeat rw [wrap_i64 (by omega) (by omega)]); omega) | exact ⟨rfl⟩))
  · intro i hi R hR
    have ei : o.nth of i = of.getD i default := by rw [ho, real_nth]
    have h1 := hO i
    have h2 := x_sumsAdd (M1 i) (sumsOf (of.getD i default).vec)
    have h3 := a1 i
    have h4 := hq (of.getD i default).frame
    generalize sumsOf (of.getD i default).vec = sv at *
    generalize sumsAdd (M1 i) sv = sa at *
    obtain ⟨sa, sb⟩ := sa
    generalize hMs : M1 (i + 1) = s' at *
    have hT9 : q (of.getD i default).frame = true → s' = sa := fun h => by rw [h3, if_pos h]
    have hF9 : q (of.getD i default).frame = false → s' = M1 i := fun h => by rw [h3, if_neg (by rw [h]; decide)]
    have hE : of.length ≤ i → M1 i = M2 0 := fun h => by
      obtain rfl : i = of.length := by omega
      exact c0.symm
    generalize q (of.getD i default).frame = qb at *
    generalize M1 i = s at *
    obtain ⟨x1, x2, x3, x4⟩ := s
    obtain ⟨z1, z2, z3, z4⟩ := sv
    obtain ⟨y1, y2, y3, y4⟩ := sa
    rw [← ei, ← ho] at h1
    rw [← ei] at h4
    rw [← ho] at h2
    clear h3
    cbv
    repeat' (first | (refine Br.mk (fun hb => ?_) (fun hb => ?_) <;> ((try rw [ho] at hb); (try dsimp only [Ar.real, IX.vo] at hb); (try simp only [QP1, QB7, QSyVa] at hb); (try simp only [QBo, beq_iff_eq, beq_eq_false_iff_ne, ne_eq] at hb))) | (refine StopN.mk ?_; cbv) | ((first | refine CallI.objs [.out 0, .out 1] hP h4 fn30 rfl rfl rfl rfl (by rfl) rfl rfl rfl rfl (by rfl) ⟨⟨_, rfl, rfl⟩, ⟨_, rfl, rfl⟩, trivial⟩ ?_ | refine CallN.pure hP h1 fn11 rfl rfl rfl ?_ | refine CallN.pure hP h2 fn7 rfl rfl rfl ?_); cbv) | (refine hK _ _ ?_) | (refine NeedT.mk ?_ ?_))
    any_goals (((try clear hR3); (try clear hR2); (try clear hR); (try clear hK); (try simp only [ncCast] at *); (try simp only [castI_eq] at *); (try rw [ho]); (try dsimp only [Ar.real, IX.vo, IX.val, BX.val, IX.toN]); (try simp only [QP1, QB7, QSyVa]); (try simp only [decide_eq_true_eq]); (all_goals (repeat rw [wrap_i64 (by omega) (by omega)])); (all_goals (first | omega | (simp only [Int.ofNat_eq_natCast]; omega)))); done)
    · obtain rfl := hT9 (by assumption)
      refine hR _ (i + 1) (by show of.length - (i + 1) < of.length - i; ((try clear hR3); (try clear hR2); (try clear hR); (try clear hK); (try simp only [ncCast] at *); (try simp only [castI_eq] at *)); omega) (by show i + 1 ≤ of.length; ((try clear hR3); (try clear hR2); (try clear hR); (try clear hK); (try simp only [ncCast] at *); (try simp only [castI_eq] at *)); omega) ?_
      rw [hMs]
      (refine ⟨?_, ?_, ?_, ?_⟩ <;> cbv <;> repeat' (first | trivial | exact EqX.rfl' | exact EqO.rfl' | apply And.intro | ((try clear hR3); (try clear hR2); (try clear hR); (try clear hK); (try simp only [ncCast] at *); (try simp only [castI_eq] at *); refine EqX.i ?_; (try rw [ho]); (try dsimp only [Ar.real, IX.vo, IX.val, BX.val, IX.toN]); (try simp only [QP1, QB7, QSyVa]); (repeat rw [wrap_i64 (by omega) (by omega)]); omega)))
    · obtain rfl := hF9 (by assumption)
      refine hR _ (i + 1) (by show of.length - (i + 1) < of.length - i; ((try clear hR3); (try clear hR2); (try clear hR); (try clear hK); (try simp only [ncCast] at *); (try simp only [castI_eq] at *)); omega) (by show i + 1 ≤ of.length; ((try clear hR3); (try clear hR2); (try clear hR); (try clear hK); (try simp only [ncCast] at *); (try simp only [castI_eq] at *)); omega) ?_
      rw [hMs]
      (refine ⟨?_, ?_, ?_, ?_⟩ <;> cbv <;> repeat' (first | trivial | exact EqX.rfl' | exact EqO.rfl' | apply And.intro | ((try clear hR3); (try clear hR2); (try clear hR); (try clear hK); (try simp only [ncCast] at *); (try simp only [castI_eq] at *); refine EqX.i ?_; (try rw [ho]); (try dsimp only [Ar.real, IX.vo, IX.val, BX.val, IX.toN]); (try simp only [QP1, QB7, QSyVa]); (repeat rw [wrap_i64 (by omega) (by omega)]); omega)))
    · have hE := hE (by assumption)
      clear hT9 hF9 hR h1 h2 h4 hMs
      refine LoopN.over (o := o) (D := dt29) ho hm hT (by kernel_rfl) (fun i : Nat => [(33, xn i)]) (fun i => [(2, .var (S4.X o (M2 i)) 35)]) (fun _ => []) (fun i => i ≤ tk.length) (fun i => tk.length - i) 0 (Nat.zero_le _) ?_ ?_
      · rw [← hE]
        (refine ⟨?_, ?_, ?_, ?_⟩ <;> cbv <;> repeat' (first | trivial | exact EqX.rfl' | exact EqO.rfl' | apply And.intro | ((try clear hR3); (try clear hR2); (try clear hR); (try clear hK); (try simp only [ncCast] at *); (try simp only [castI_eq] at *); refine EqX.i ?_; (try rw [ho]); (try dsimp only [Ar.real, IX.vo, IX.val, BX.val, IX.toN]); (try simp only [QP1, QB7, QSyVa]); (repeat rw [wrap_i64 (by omega) (by omega)]); omega)))
      · clear hE
        intro i hi R hR
        have ei : o.nth tk i = tk.getD i default := by rw [ho, real_nth]
        have h1 := hT1 i
        have h2 := x_sumsAdd (M2 i) (sumsOf (tk.getD i default).vec)
        have h3 := c1 i
        have h4 := hq (tk.getD i default).frame
        generalize sumsOf (tk.getD i default).vec = sv at *
        generalize sumsAdd (M2 i) sv = sa at *
        obtain ⟨sa, sb⟩ := sa
        generalize hMs : M2 (i + 1) = s' at *
        have hT9 : q (tk.getD i default).frame = true → s' = sa := fun h => by rw [h3, if_pos h]
        have hF9 : q (tk.getD i default).frame = false → s' = M2 i := fun h => by rw [h3, if_neg (by rw [h]; decide)]
        have hE : tk.length ≤ i → res = M2 i := fun h => by
          obtain rfl : i = tk.length := by omega
          exact hres
        generalize q (tk.getD i default).frame = qb at *
        generalize M2 i = s at *
        obtain ⟨x1, x2, x3, x4⟩ := s
        obtain ⟨z1, z2, z3, z4⟩ := sv
        obtain ⟨y1, y2, y3, y4⟩ := sa
        rw [← ei, ← ho] at h1
        rw [← ei] at h4
        rw [← ho] at h2
        clear h3
        cbv
        repeat' (first | (refine Br.mk (fun hb => ?_) (fun hb => ?_) <;> ((try rw [ho] at hb); (try dsimp only [Ar.real, IX.vo] at hb); (try simp only [QP1, QB7, QSyVa] at hb); (try simp only [QBo, beq_iff_eq, beq_eq_false_iff_ne, ne_eq] at hb))) | (refine StopN.mk ?_; cbv) | ((first | refine CallI.objs [.out 0, .out 1] hP h4 fn30 rfl rfl rfl rfl (by rfl) rfl rfl rfl rfl (by rfl) ⟨⟨_, rfl, rfl⟩, ⟨_, rfl, rfl⟩, trivial⟩ ?_ | refine CallN.pure hP h1 fn11 rfl rfl rfl ?_ | refine CallN.pure hP h2 fn7 rfl rfl rfl ?_); cbv) | (refine hK _ _ ?_) | (refine NeedT.mk ?_ ?_))
        any_goals (((try clear hR3); (try clear hR2); (try clear hR); (try clear hK); (try simp only [ncCast] at *); (try simp only [castI_eq] at *); (try rw [ho]); (try dsimp only [Ar.real, IX.vo, IX.val, BX.val, IX.toN]); (try simp only [QP1, QB7, QSyVa]); (try simp only [decide_eq_true_eq]); (all_goals (repeat rw [wrap_i64 (by omega) (by omega)])); (all_goals (first | omega | (simp only [Int.ofNat_eq_natCast]; omega)))); done)
        · obtain rfl := hT9 (by assumption)
          refine hR _ (i + 1) (by show tk.length - (i + 1) < tk.length - i; ((try clear hR3); (try clear hR2); (try clear hR); (try clear hK); (try simp only [ncCast] at *); (try simp only [castI_eq] at *)); omega) (by show i + 1 ≤ tk.length; ((try clear hR3); (try clear hR2); (try clear hR); (try clear hK); (try simp only [ncCast] at *); (try simp only [castI_eq] at *)); omega) ?_
          rw [hMs]
          (refine ⟨?_, ?_, ?_, ?_⟩ <;> cbv <;> repeat' (first | trivial | exact EqX.rfl' | exact EqO.rfl' | apply And.intro | ((try clear hR3); (try clear hR2); (try clear hR); (try clear hK); (try simp only [ncCast] at *); (try simp only [castI_eq] at *); refine EqX.i ?_; (try rw [ho]); (try dsimp only [Ar.real, IX.vo, IX.val, BX.val, IX.toN]); (try simp only [QP1, QB7, QSyVa]); (repeat rw [wrap_i64 (by omega) (by omega)]); omega)))
        · obtain rfl := hF9 (by assumption)
          refine hR _ (i + 1) (by show tk.length - (i + 1) < tk.length - i; ((try clear hR3); (try clear hR2); (try clear hR); (try clear hK); (try simp only [ncCast] at *); (try simp only [castI_eq] at *)); omega) (by show i + 1 ≤ tk.length; ((try clear hR3); (try clear hR2); (try clear hR); (try clear hK); (try simp only [ncCast] at *); (try simp only [castI_eq] at *)); omega) ?_
          rw [hMs]
          (refine ⟨?_, ?_, ?_, ?_⟩ <;> cbv <;> repeat' (first | trivial | exact EqX.rfl' | exact EqO.rfl' | apply And.intro | ((try clear hR3); (try clear hR2); (try clear hR); (try clear hK); (try simp only [ncCast] at *); (try simp only [castI_eq] at *); refine EqX.i ?_; (try rw [ho]); (try dsimp only [Ar.real, IX.vo, IX.val, BX.val, IX.toN]); (try simp only [QP1, QB7, QSyVa]); (repeat rw [wrap_i64 (by omega) (by omega)]); omega)))
        · rw [hE (by assumption)]
          exact ⟨fun _ => rfl, upLb _⟩
theorem x_bRoleSum (b : Bk) (hbk : BkOk b) (r : Int) : XC Try.prog 8 [.agg (Bk.X Ar.real b), xi r] [] (.agg (S4.X Ar.real (sumW b (roleB b r)))) [] := by
  have h := fun o ho => x_bsumR o ho b hbk r
  generalize sumW b (roleB b r) = s at *
  obtain ⟨⟨k1, k2, k3, k4, k5, ⟨k6, k7, k8, k9⟩⟩, now, last, fr, ag, of, tk, fl⟩ := b
  obtain ⟨x1, x2, x3, x4⟩ := s
  clear hbk
  (refine XC.of_body ([]) Try.func8 rfl Try.ntmps8 mixed (T := tl8) tk8 (by kernel_rfl) (by simp) rfl rfl rfl rfl rfl ?_; rintro o ho P hP c K hK; have hm : P.follows .mixedOrders = true := hP ▸ mixed; have hT : TOk P tl8 := hP ▸ tk8; (try rw [← ho]); cbv; (repeat (refine StopN.mk ?_; cbv)))
  have h := h o ho
  repeat' (first | (refine Br.mk (fun hb => ?_) (fun hb => ?_) <;> ((try rw [ho] at hb); (try dsimp only [Ar.real, IX.vo] at hb); (try simp only [QP1, QB7, QSyVa] at hb); (try simp only [QBo, beq_iff_eq, beq_eq_false_iff_ne, ne_eq] at hb))) | (refine StopN.mk ?_; cbv) | (refine CallI.objs [.loc 0, .loc 1] hP h fn29 rfl rfl rfl rfl (by rfl) rfl rfl rfl rfl (by rfl) ⟨⟨_, rfl, rfl⟩, ⟨_, rfl, rfl⟩, trivial⟩ ?_; cbv) | (refine hK _ _ ?_) | (refine NeedT.mk ?_ ?_))
  exact .pure fun _ => rfl
theorem x_bTotal (b : Bk) (hbk : BkOk b) : XC Try.prog 13 [.agg (Bk.X Ar.real b)] [] (.agg (S4.X Ar.real (totF b))) [] := by
  have n1 := hbk.n_ag
  have hO := fun i => x_sumsOf (b.ag.getD i default).total (hbk.a1 i)
  have a0 : sumF b.ag (fun _ => true) (·.total) s40 0 = s40 := rfl
  have a1 : ∀ i, sumF b.ag (fun _ => true) (·.total) s40 (i + 1) = (sumsAdd (sumF b.ag (fun _ => true) (·.total) s40 i) (sumsOf (b.ag.getD i default).total)).1 := fun _ => rfl
  have hres : totF b = sumF b.ag (fun _ => true) (·.total) s40 b.ag.length := rfl
  generalize totF b = res at *
  generalize sumF b.ag (fun _ => true) (·.total) s40 = M1 at *
  obtain ⟨⟨k1, k2, k3, k4, k5, ⟨k6, k7, k8, k9⟩⟩, now, last, fr, ag, of, tk, fl⟩ := b
  clear hbk
  dsimp only at *
  (refine XC.of_body (dt13) Try.func13 rfl Try.ntmps13 mixed (T := tl13) tk13 (by kernel_rfl) (by simp) rfl rfl rfl rfl rfl ?_; rintro o ho P hP c K hK; have hm : P.follows .mixedOrders = true := hP ▸ mixed; have hT : TOk P tl13 := hP ▸ tk13; (try rw [← ho]); cbv; (repeat (refine StopN.mk ?_; cbv)))
  refine LoopN.over (o := o) (D := dt13) ho hm hT (by kernel_rfl) (fun i : Nat => [(9, xn i)]) (fun i => [(2, .var (S4.X o (M1 i)) 35)]) (fun _ => []) (fun i => i ≤ ag.length) (fun i => ag.length - i) 0 (Nat.zero_le _) ?_ ?_
  · rw [a0]
    (refine ⟨?_, ?_, ?_, ?_⟩ <;> cbv <;> repeat' (first | trivial | exact EqX.rfl' | exact EqO.rfl' | apply And.intro | ((try clear hR3); (try clear hR2); (try clear hR); (try clear hK); (try simp only [ncCast] at *); (try simp only [castI_eq] at *); refine EqX.i ?_; (try rw [ho]); (try dsimp only [Ar.real, IX.vo, IX.val, BX.val, IX.toN]); (try simp only [QP1, QB7, QSyVa]); (repeat rw [wrap_i64 (by omega) (by omega)]); omega) | exact ⟨rfl⟩))
  · intro i hi R hR
    have ei : o.nth ag i = ag.getD i default := by rw [ho, real_nth]
    have h1 := hO i
    have h2 := x_sumsAdd (M1 i) (sumsOf (ag.getD i default).total)
    have h3 := a1 i
    generalize sumsOf (ag.getD i default).total = sv at *
    generalize sumsAdd (M1 i) sv = sa at *
    obtain ⟨sa, sb⟩ := sa
    generalize hMs : M1 (i + 1) = s' at *
    dsimp only at h3
    subst h3
    have hE : ag.length ≤ i → res = M1 i := fun h => by
      obtain rfl : i = ag.length := by omega
      exact hres
    generalize M1 i = s at *
    obtain ⟨x1, x2, x3, x4⟩ := s
    obtain ⟨z1, z2, z3, z4⟩ := sv
    obtain ⟨y1, y2, y3, y4⟩ := s'
    rw [← ei, ← ho] at h1
    rw [← ho] at h2
    cbv
    repeat' (first | (refine Br.mk (fun hb => ?_) (fun hb => ?_) <;> ((try rw [ho] at hb); (try dsimp only [Ar.real, IX.vo] at hb); (try simp only [QP1, QB7, QSyVa] at hb); (try simp only [QBo, beq_iff_eq, beq_eq_false_iff_ne, ne_eq] at hb))) | (refine StopN.mk ?_; cbv) | ((first | refine CallN.pure hP h1 fn11 rfl rfl rfl ?_ | refine CallN.pure hP h2 fn7 rfl rfl rfl ?_); cbv) | (refine hK _ _ ?_) | (refine NeedT.mk ?_ ?_))
    any_goals (((try clear hR3); (try clear hR2); (try clear hR); (try clear hK); (try simp only [ncCast] at *); (try simp only [castI_eq] at *); (try rw [ho]); (try dsimp only [Ar.real, IX.vo, IX.val, BX.val, IX.toN]); (try simp only [QP1, QB7, QSyVa]); (try simp only [decide_eq_true_eq]); (all_goals (repeat rw [wrap_i64 (by omega) (by omega)])); (all_goals (first | omega | (simp only [Int.ofNat_eq_natCast]; omega)))); done)
    · refine hR _ (i + 1) (by show ag.length - (i + 1) < ag.length - i; ((try clear hR3); (try clear hR2); (try clear hR); (try clear hK); (try simp only [ncCast] at *); (try simp only [castI_eq] at *)); omega) (by show i + 1 ≤ ag.length; ((try clear hR3); (try clear hR2); (try clear hR); (try clear hK); (try simp only [ncCast] at *); (try simp only [castI_eq] at *)); omega) ?_
      rw [hMs]
      (refine ⟨?_, ?_, ?_, ?_⟩ <;> cbv <;> repeat' (first | trivial | exact EqX.rfl' | exact EqO.rfl' | apply And.intro | ((try clear hR3); (try clear hR2); (try clear hR); (try clear hK); (try simp only [ncCast] at *); (try simp only [castI_eq] at *); refine EqX.i ?_; (try rw [ho]); (try dsimp only [Ar.real, IX.vo, IX.val, BX.val, IX.toN]); (try simp only [QP1, QB7, QSyVa]); (repeat rw [wrap_i64 (by omega) (by omega)]); omega)))
    · rw [hE (by assumption)]
      exact .pure fun _ => rfl
end Go.Proofs.Ytpijibffjohikaa.Sy
namespace Go.Proofs.Ytpijibffjohikaa.Sy
open Go Go.Sy Go.Proofs.Ytpijibffjohikaa
def k4 (k : Int) : Prop := k = 0 ∨ k = 1 ∨ k = 2 ∨ k = 3
theorem sumsRight_of {f : Int → Int} (h : ∀ k, k4 k → 0 ≤ f k ∧ f k ≤ 1152921504606846976) : sumsRight (S4.of f) = true :=
  (sumsRight_iff _).2 ⟨h 0 (.inl rfl), h 1 (.inr (.inl rfl)), h 2 (.inr (.inr (.inl rfl))), h 3 (.inr (.inr (.inr rfl)))⟩
theorem sumsAdd_of {f g : Int → Int} (hf : ∀ k, k4 k → 0 ≤ f k) (hg : ∀ k, k4 k → 0 ≤ g k) (h : ∀ k, k4 k → f k + g k ≤ 1152921504606846976) : sumsAdd (S4.of f) (S4.of g) = (S4.of fun k => f k + g k, true) := by
  unfold sumsAdd
  refine if_pos ⟨sumsRight_of fun k hk => ?_, sumsRight_of fun k hk => ?_, sumsRight_of (f := fun k => f k + g k) fun k hk => ?_⟩
  all_goals
    have h1 := hf k hk
    have h2 := hg k hk
    have h3 := h k hk
    omega
theorem S4.of_congr {f g : Int → Int} (h : ∀ k, k4 k → f k = g k) : S4.of f = S4.of g := by
  unfold S4.of
  rw [h 0 (.inl rfl), h 1 (.inr (.inl rfl)), h 2 (.inr (.inr (.inl rfl))), h 3 (.inr (.inr (.inr rfl)))]
theorem sumF_of {α : Type} [Inhabited α] {l : List α} {p : α → Bool} {v : α → List Part} {g : Int → Int} (hv : ∀ i, i < l.length → VOk (v (l.getD i default))) (hg : ∀ k, k4 k → 0 ≤ g k) (hb : ∀ k, k4 k → g k + hS l p v k l.length ≤ 1152921504606846976) :
    ∀ i, i ≤ l.length → sumF l p v (S4.of g) i = S4.of fun k => g k + hS l p v k i
  | 0, _ => by simp [sumF, hS]
  | i + 1, hi => by
    have ih := sumF_of hv hg hb i (by omega)
    simp only [sumF, hS]
    split
    · rename_i hp
      rw [ih, sumsOf_sk (hv i (by omega)), sumsAdd_of]
      · dsimp only
        exact S4.of_congr fun k _ => by omega
      · intro k hk
        have h1 := hg k hk
        have h2 := hS_nn (p := p) hv k i (by omega)
        omega
      · intro k hk
        exact sk_nn (hv i (by omega)).ok k
      · intro k hk
        have h1 := hb k hk
        have h2 := hS_mono (p := p) hv k (i := i + 1) l.length hi (Nat.le_refl _)
        simp only [hS, if_pos hp] at h2
        omega
    · rw [ih]
      congr 1
      funext k
      omega
theorem s40_of : s40 = S4.of fun _ => 0 := rfl
theorem RightB.sumW {b : Bk} (h : RightB b) (p : Int → Bool) : sumW b p = S4.of fun k => heldK b p k := by
  have h1 := fun i hi => (h.ofr i hi).2.2
  have h2 := fun i hi => (h.tsk i hi).2.2
  have h3 : ∀ k, k4 k → 0 ≤ heldK b p k ∧ heldK b p k ≤ 9007199254740992 := fun k hk => h.held p k hk
  have a1 := fun k => hS_nn (p := fun x : Ofr => p x.frame) (v := (·.vec)) h1 k _ (Nat.le_refl _)
  have a2 := fun k => hS_nn (p := fun x : Tsk => p x.frame) (v := (·.vec)) h2 k _ (Nat.le_refl _)
  unfold Sy.sumW
  unfold heldK at h3 ⊢
  rw [s40_of, sumF_of (p := fun x : Ofr => p x.frame) (v := (·.vec)) h1 (fun _ _ => Int.le_refl 0) (fun k hk => by have := h3 k hk; have := a2 k; omega) _ (Nat.le_refl _),
    sumF_of (p := fun x : Tsk => p x.frame) (v := (·.vec)) h2 (fun k hk => by have := a1 k; omega) (fun k hk => by have := h3 k hk; omega) _ (Nat.le_refl _)]
  congr 1
  funext k
  omega
theorem agS_hS (l : List Agt) (k : Int) : ∀ n, agS l k n = hS l (fun _ => true) (·.total) k n
  | 0 => rfl
  | n + 1 => by simp [agS, hS, agS_hS l k n]
theorem RightB.totF {b : Bk} (h : RightB b) : totF b = S4.of fun k => agS b.ag k b.ag.length := by
  have h1 := fun i hi => (vecRight_iff _).1 (h.agent i hi).tot
  have h2 : ∀ k, k4 k → agS b.ag k b.ag.length ≤ 9007199254740992 := fun k hk => h.sk k hk
  unfold Sy.totF
  rw [s40_of, sumF_of (p := fun _ => true) (v := fun x : Agt => x.total) h1 (fun _ _ => Int.le_refl 0) (fun k hk => by have := h2 k hk; rw [agS_hS] at this; omega) _ (Nat.le_refl _)]
  congr 1
  funext k
  rw [agS_hS, Int.zero_add]
theorem addV_lk {u v : List Part} (h : (addV u v).2 = true) (k r : Int) : lk u k r ≤ lk (addV u v).1 k r := by
  unfold addV at h ⊢
  split at h
  · rename_i h1
    rw [if_pos h1]
    cases hm : mrg u v with
    | none => rw [hm] at h; cases h
    | some l =>
      have h2 := (mrg_lk u v ((vecRight_iff u).1 h1.1) ((vecRight_iff v).1 h1.2)).1 l hm k r
      have h3 := lk_bd ((vecRight_iff v).1 h1.2).ok k r
      show _ ≤ lk l k r
      omega
  · cases h
theorem gStep_lk {g : Int} {s : VB} {a : Int} {v : List Part} (h : (gStep g s a v).2 = true) (k r : Int) : lk s.1 k r ≤ lk (gStep g s a v).1 k r := by
  unfold gStep at h ⊢
  split at h
  · rename_i h1
    rw [if_pos h1]
    exact addV_lk h k r
  · rename_i h1
    rw [if_neg h1]
    exact Int.le_refl _
theorem gO_lk {g : Int} {s : VB} {l : List Ofr} (k r : Int) : ∀ i, (gO g s l i).2 = true → lk s.1 k r ≤ lk (gO g s l i).1 k r
  | 0, _ => Int.le_refl _
  | i + 1, h => Int.le_trans (gO_lk k r i (gStep_t h)) (gStep_lk h k r)
theorem gT_lk {g : Int} {s : VB} {l : List Tsk} (k r : Int) : ∀ i, (gT g s l i).2 = true → lk s.1 k r ≤ lk (gT g s l i).1 k r
  | 0, _ => Int.le_refl _
  | i + 1, h => Int.le_trans (gT_lk k r i (gStep_t h)) (gStep_lk h k r)
theorem RightB.holds {b : Bk} (h : RightB b) (i : Nat) (hi : i < b.ag.length) : (subV (b.ag.getD i default).total (b.ag.getD i default).free).2 = true := by
  obtain ⟨h1, h2⟩ := h.led i hi
  have hf := h.free i hi
  have ht := (vecRight_iff _).1 (h.agent i hi).tot
  have hHB : HB (b.ag.getD i default).total (b.ag.getD i default).free := fun p hp => by
    rw [← of_decide_eq_true h2]
    unfold gAll at h1 ⊢
    have a1 := gT_lk p.kind p.role _ h1
    have a2 := gO_lk (s := ((b.ag.getD i default).free, true)) p.kind p.role _ (gT_t _ h1)
    have a3 := lk_mem hf.up hp
    dsimp only at a2
    omega
  rw [subV_ok ht hf hHB]
theorem RightB.roles_le {b : Bk} (h : RightB b) (k : Int) (hk : k4 k) (i : Nat) (hi : i ≤ (rolesP b).length) : 0 ≤ sumI (fun a => heldK b (roleB b ((rolesP b).getD a 0)) k) i ∧ sumI (fun a => heldK b (roleB b ((rolesP b).getD a 0)) k) i ≤ heldK b (fun _ => true) k := by
  have h1 : ∀ a, 0 ≤ heldK b (roleB b ((rolesP b).getD a 0)) k := fun a => (h.held _ k hk).1
  refine ⟨sumI_nn _ fun a _ => h1 a, ?_⟩
  rw [← h.roles k]
  exact sumI_mono _ hi fun a _ => h1 a
theorem fS_mono {b : Bk} (h : RightB b) (k : Int) {n : Nat} : ∀ m, n ≤ m → m ≤ b.ag.length → fS b.ag k n ≤ fS b.ag k m
  | 0, hn, _ => by
    obtain rfl : n = 0 := by omega
    exact Int.le_refl _
  | m + 1, hn, hm => by
    rcases Nat.lt_or_ge n (m + 1) with h1 | h1
    · have h2 := fS_mono h k (n := n) m (by omega) (by omega)
      have h3 := sk_nn (h.free m (by omega)).ok k
      simp only [fS]
      omega
    · obtain rfl : n = m + 1 := by omega
      exact Int.le_refl _
end Go.Proofs.Ytpijibffjohikaa.Sy
namespace Go.Proofs.Ytpijibffjohikaa.Sy
open Go Go.Sy Go.Proofs.Ytpijibffjohikaa
def eqF (n f : Int) : Bool := decide (f = n)
@[reducible] def sOb (n : Int) : List OX := [.var [xi n] 2]
theorem x_sum1 (o : Ar) (ho : o = Ar.real) (n f : Int) : XC Try.prog 32 [xi f, .ptr (.out 0) 0] (sOb n) (xb (eqF n f)) (sOb n) := by
  (refine XC.of_body ([]) Try.func32 rfl Try.ntmps32 mixed (T := tl32) tk32 (by kernel_rfl) (by simp) rfl rfl rfl rfl rfl ?_; rintro o2 ho2 P hP c K hK; have hm : P.follows .mixedOrders = true := hP ▸ mixed; have hT : TOk P tl32 := hP ▸ tk32; (try rw [← ho2]); have e2 : o = o2 := ho.trans ho2.symm; subst e2; cbv; (repeat (refine StopN.mk ?_; cbv)))
  repeat' (first | (refine Br.mk (fun hb => ?_) (fun hb => ?_) <;> ((try rw [ho] at hb); (try dsimp only [Ar.real, IX.vo] at hb); (try simp only [QP1, QB7, QSyVa] at hb); (try simp only [QBo, beq_iff_eq, beq_eq_false_iff_ne, ne_eq] at hb))) | (refine StopN.mk ?_; cbv) | (refine hK _ _ ?_) | (refine NeedT.mk ?_ ?_))
  refine FinX_bOr ?_ rfl
  rw [ho]
  exact eqIB_eq _ _
theorem x_bsumS (o : Ar) (ho : o = Ar.real) (b : Bk) (hbk : BkOk b) (r : Int) : XC Try.prog 29 [.agg (Bk.X o b), .fn (.func 32) [] [.ptr (.out 0) 0]] (sOb r) (.agg (S4.X o (sumW b (eqF r)))) (sOb r) := by
  have hq := fun f => x_sum1 o ho r f
  have n1 := hbk.n_of
  have n2 := hbk.n_tk
  have hO := fun i => x_sumsOf (b.of.getD i default).vec (hbk.o1 i)
  have hT1 := fun i => x_sumsOf (b.tk.getD i default).vec (hbk.t1 i)
  have a0 : sumF b.of (fun x => eqF r x.frame) (·.vec) s40 0 = s40 := rfl
  have a1 : ∀ i, sumF b.of (fun x => eqF r x.frame) (·.vec) s40 (i + 1) = if eqF r (b.of.getD i default).frame = true then (sumsAdd (sumF b.of (fun x => eqF r x.frame) (·.vec) s40 i) (sumsOf (b.of.getD i default).vec)).1 else sumF b.of (fun x => eqF r x.frame) (·.vec) s40 i := fun _ => rfl
  have c0 : sumF b.tk (fun x => eqF r x.frame) (·.vec) (sumF b.of (fun x => eqF r x.frame) (·.vec) s40 b.of.length) 0 = sumF b.of (fun x => eqF r x.frame) (·.vec) s40 b.of.length := rfl
  have c1 : ∀ i, sumF b.tk (fun x => eqF r x.frame) (·.vec) (sumF b.of (fun x => eqF r x.frame) (·.vec) s40 b.of.length) (i + 1) = if eqF r (b.tk.getD i default).frame = true then (sumsAdd (sumF b.tk (fun x => eqF r x.frame) (·.vec) (sumF b.of (fun x => eqF r x.frame) (·.vec) s40 b.of.length) i) (sumsOf (b.tk.getD i default).vec)).1 else sumF b.tk (fun x => eqF r x.frame) (·.vec) (sumF b.of (fun x => eqF r x.frame) (·.vec) s40 b.of.length) i := fun _ => rfl
  have hres : sumW b (eqF r) = sumF b.tk (fun x => eqF r x.frame) (·.vec) (sumF b.of (fun x => eqF r x.frame) (·.vec) s40 b.of.length) b.tk.length := rfl
  generalize sumW b (eqF r) = res at *
  generalize sumF b.tk (fun x => eqF r x.frame) (·.vec) (sumF b.of (fun x => eqF r x.frame) (·.vec) s40 b.of.length) = M2 at *
  generalize sumF b.of (fun x => eqF r x.frame) (·.vec) s40 = M1 at *
  generalize eqF r = q at *
  obtain ⟨⟨k1, k2, k3, k4, k5, ⟨k6, k7, k8, k9⟩⟩, now, last, fr, ag, of, tk, fl⟩ := b
  clear hbk
  dsimp only at *
  (refine XC.of_body (dt29) Try.func29 rfl Try.ntmps29 mixed (T := tl29) tk29 (by kernel_rfl) (by simp) rfl rfl rfl rfl rfl ?_; rintro o2 ho2 P hP c K hK; have hm : P.follows .mixedOrders = true := hP ▸ mixed; have hT : TOk P tl29 := hP ▸ tk29; (try rw [← ho2]); have e2 : o = o2 := ho.trans ho2.symm; subst e2; cbv; (repeat (refine StopN.mk ?_; cbv)))
  refine LoopN.over (o := o) (D := dt29) ho hm hT (by kernel_rfl) (fun i : Nat => [(13, xn i)]) (fun i => [(2, .var (S4.X o (M1 i)) 35)]) (fun _ => []) (fun i => i ≤ of.length) (fun i => of.length - i) 0 (Nat.zero_le _) ?_ ?_
  · rw [a0]
    (refine ⟨?_, ?_, ?_, ?_⟩ <;> cbv <;> repeat' (first | trivial | exact EqX.rfl' | exact EqO.rfl' | apply And.intro | ((try clear hR3); (try clear hR2); (try clear hR); (try clear hK); (try simp only [ncCast] at *); (try simp only [castI_eq] at *); refine EqX.i ?_; (try rw [ho]); (try dsimp only [Ar.real, IX.vo, IX.val, BX.val, IX.toN]); (try simp only [QP1, QB7, QSyVa]); (repeat rw [wrap_i64 (by omega) (by omega)]); omega) | exact ⟨rfl⟩))
  · intro i hi R hR
    have ei : o.nth of i = of.getD i default := by rw [ho, real_nth]
    have h1 := hO i
    have h2 := x_sumsAdd (M1 i) (sumsOf (of.getD i default).vec)
    have h3 := a1 i
    have h4 := hq (of.getD i default).frame
    generalize sumsOf (of.getD i default).vec = sv at *
    generalize sumsAdd (M1 i) sv = sa at *
    obtain ⟨sa, sb⟩ := sa
    generalize hMs : M1 (i + 1) = s' at *
    have hT9 : q (of.getD i default).frame = true → s' = sa := fun h => by rw [h3, if_pos h]
    have hF9 : q (of.getD i default).frame = false → s' = M1 i := fun h => by rw [h3, if_neg (by rw [h]; decide)]
    have hE : of.length ≤ i → M1 i = M2 0 := fun h => by
      obtain rfl : i = of.length := by omega
      exact c0.symm
    generalize q (of.getD i default).frame = qb at *
    generalize M1 i = s at *
    obtain ⟨x1, x2, x3, x4⟩ := s
    obtain ⟨z1, z2, z3, z4⟩ := sv
    obtain ⟨y1, y2, y3, y4⟩ := sa
    rw [← ei, ← ho] at h1
    rw [← ei] at h4
    rw [← ho] at h2
    clear h3
    cbv
    repeat' (first | (refine Br.mk (fun hb => ?_) (fun hb => ?_) <;> ((try rw [ho] at hb); (try dsimp only [Ar.real, IX.vo] at hb); (try simp only [QP1, QB7, QSyVa] at hb); (try simp only [QBo, beq_iff_eq, beq_eq_false_iff_ne, ne_eq] at hb))) | (refine StopN.mk ?_; cbv) | ((first | refine CallI.objs [.out 0] hP h4 fn32 rfl rfl rfl rfl (by rfl) rfl rfl rfl rfl (by rfl) ⟨⟨_, rfl, rfl⟩, trivial⟩ ?_ | refine CallN.pure hP h1 fn11 rfl rfl rfl ?_ | refine CallN.pure hP h2 fn7 rfl rfl rfl ?_); cbv) | (refine hK _ _ ?_) | (refine NeedT.mk ?_ ?_))
    any_goals (((try clear hR3); (try clear hR2); (try clear hR); (try clear hK); (try simp only [ncCast] at *); (try simp only [castI_eq] at *); (try rw [ho]); (try dsimp only [Ar.real, IX.vo, IX.val, BX.val, IX.toN]); (try simp only [QP1, QB7, QSyVa]); (try simp only [decide_eq_true_eq]); (all_goals (repeat rw [wrap_i64 (by omega) (by omega)])); (all_goals (first | omega | (simp only [Int.ofNat_eq_natCast]; omega)))); done)
    · obtain rfl := hT9 (by assumption)
      refine hR _ (i + 1) (by show of.length - (i + 1) < of.length - i; ((try clear hR3); (try clear hR2); (try clear hR); (try clear hK); (try simp only [ncCast] at *); (try simp only [castI_eq] at *)); omega) (by show i + 1 ≤ of.length; ((try clear hR3); (try clear hR2); (try clear hR); (try clear hK); (try simp only [ncCast] at *); (try simp only [castI_eq] at *)); omega) ?_
      rw [hMs]
      (refine ⟨?_, ?_, ?_, ?_⟩ <;> cbv <;> repeat' (first | trivial | exact EqX.rfl' | exact EqO.rfl' | apply And.intro | ((try clear hR3); (try clear hR2); (try clear hR); (try clear hK); (try simp only [ncCast] at *); (try simp only [castI_eq] at *); refine EqX.i ?_; (try rw [ho]); (try dsimp only [Ar.real, IX.vo, IX.val, BX.val, IX.toN]); (try simp only [QP1, QB7, QSyVa]); (repeat rw [wrap_i64 (by omega) (by omega)]); omega)))
    · obtain rfl := hF9 (by assumption)
      refine hR _ (i + 1) (by show of.length - (i + 1) < of.length - i; ((try clear hR3); (try clear hR2); (try clear hR); (try clear hK); (try simp only [ncCast] at *); (try simp only [castI_eq] at *)); omega) (by show i + 1 ≤ of.length; ((try clear hR3); (try clear hR2); (try clear hR); (try clear hK); (try simp only [ncCast] at *); (try simp only [castI_eq] at *)); omega) ?_
      rw [hMs]
      (refine ⟨?_, ?_, ?_, ?_⟩ <;> cbv <;> repeat' (first | trivial | exact EqX.rfl' | exact EqO.rfl' | apply And.intro | ((try clear hR3); (try clear hR2); (try clear hR); (try clear hK); (try simp only [ncCast] at *); (try simp only [castI_eq] at *); refine EqX.i ?_; (try rw [ho]); (try dsimp only [Ar.real, IX.vo, IX.val, BX.val, IX.toN]); (try simp only [QP1, QB7, QSyVa]); (repeat rw [wrap_i64 (by omega) (by omega)]); omega)))
    · have hE := hE (by assumption)
      clear hT9 hF9 hR h1 h2 h4 hMs
      refine LoopN.over (o := o) (D := dt29) ho hm hT (by kernel_rfl) (fun i : Nat => [(33, xn i)]) (fun i => [(2, .var (S4.X o (M2 i)) 35)]) (fun _ => []) (fun i => i ≤ tk.length) (fun i => tk.length - i) 0 (Nat.zero_le _) ?_ ?_
      · rw [← hE]
        (refine ⟨?_, ?_, ?_, ?_⟩ <;> cbv <;> repeat' (first | trivial | exact EqX.rfl' | exact EqO.rfl' | apply And.intro | ((try clear hR3); (try clear hR2); (try clear hR); (try clear hK); (try simp only [ncCast] at *); (try simp only [castI_eq] at *); refine EqX.i ?_; (try rw [ho]); (try dsimp only [Ar.real, IX.vo, IX.val, BX.val, IX.toN]); (try simp only [QP1, QB7, QSyVa]); (repeat rw [wrap_i64 (by omega) (by omega)]); omega)))
      · clear hE
        intro i hi R hR
        have ei : o.nth tk i = tk.getD i default := by rw [ho, real_nth]
        have h1 := hT1 i
        have h2 := x_sumsAdd (M2 i) (sumsOf (tk.getD i default).vec)
        have h3 := c1 i
        have h4 := hq (tk.getD i default).frame
        generalize sumsOf (tk.getD i default).vec = sv at *
        generalize sumsAdd (M2 i) sv = sa at *
        obtain ⟨sa, sb⟩ := sa
        generalize hMs : M2 (i + 1) = s' at *
        have hT9 : q (tk.getD i default).frame = true → s' = sa := fun h => by rw [h3, if_pos h]
        have hF9 : q (tk.getD i default).frame = false → s' = M2 i := fun h => by rw [h3, if_neg (by rw [h]; decide)]
        have hE : tk.length ≤ i → res = M2 i := fun h => by
          obtain rfl : i = tk.length := by omega
          exact hres
        generalize q (tk.getD i default).frame = qb at *
        generalize M2 i = s at *
        obtain ⟨x1, x2, x3, x4⟩ := s
        obtain ⟨z1, z2, z3, z4⟩ := sv
        obtain ⟨y1, y2, y3, y4⟩ := sa
        rw [← ei, ← ho] at h1
        rw [← ei] at h4
        rw [← ho] at h2
        clear h3
        cbv
        repeat' (first | (refine Br.mk (fun hb => ?_) (fun hb => ?_) <;> ((try rw [ho] at hb); (try dsimp only [Ar.real, IX.vo] at hb); (try simp only [QP1, QB7, QSyVa] at hb); (try simp only [QBo, beq_iff_eq, beq_eq_false_iff_ne, ne_eq] at hb))) | (refine StopN.mk ?_; cbv) | ((first | refine CallI.objs [.out 0] hP h4 fn32 rfl rfl rfl rfl (by rfl) rfl rfl rfl rfl (by rfl) ⟨⟨_, rfl, rfl⟩, trivial⟩ ?_ | refine CallN.pure hP h1 fn11 rfl rfl rfl ?_ | refine CallN.pure hP h2 fn7 rfl rfl rfl ?_); cbv) | (refine hK _ _ ?_) | (refine NeedT.mk ?_ ?_))
        any_goals (((try clear hR3); (try clear hR2); (try clear hR); (try clear hK); (try simp only [ncCast] at *); (try simp only [castI_eq] at *); (try rw [ho]); (try dsimp only [Ar.real, IX.vo, IX.val, BX.val, IX.toN]); (try simp only [QP1, QB7, QSyVa]); (try simp only [decide_eq_true_eq]); (all_goals (repeat rw [wrap_i64 (by omega) (by omega)])); (all_goals (first | omega | (simp only [Int.ofNat_eq_natCast]; omega)))); done)
        · obtain rfl := hT9 (by assumption)
          refine hR _ (i + 1) (by show tk.length - (i + 1) < tk.length - i; ((try clear hR3); (try clear hR2); (try clear hR); (try clear hK); (try simp only [ncCast] at *); (try simp only [castI_eq] at *)); omega) (by show i + 1 ≤ tk.length; ((try clear hR3); (try clear hR2); (try clear hR); (try clear hK); (try simp only [ncCast] at *); (try simp only [castI_eq] at *)); omega) ?_
          rw [hMs]
          (refine ⟨?_, ?_, ?_, ?_⟩ <;> cbv <;> repeat' (first | trivial | exact EqX.rfl' | exact EqO.rfl' | apply And.intro | ((try clear hR3); (try clear hR2); (try clear hR); (try clear hK); (try simp only [ncCast] at *); (try simp only [castI_eq] at *); refine EqX.i ?_; (try rw [ho]); (try dsimp only [Ar.real, IX.vo, IX.val, BX.val, IX.toN]); (try simp only [QP1, QB7, QSyVa]); (repeat rw [wrap_i64 (by omega) (by omega)]); omega)))
        · obtain rfl := hF9 (by assumption)
          refine hR _ (i + 1) (by show tk.length - (i + 1) < tk.length - i; ((try clear hR3); (try clear hR2); (try clear hR); (try clear hK); (try simp only [ncCast] at *); (try simp only [castI_eq] at *)); omega) (by show i + 1 ≤ tk.length; ((try clear hR3); (try clear hR2); (try clear hR); (try clear hK); (try simp only [ncCast] at *); (try simp only [castI_eq] at *)); omega) ?_
          rw [hMs]
          (refine ⟨?_, ?_, ?_, ?_⟩ <;> cbv <;> repeat' (first | trivial | exact EqX.rfl' | exact EqO.rfl' | apply And.intro | ((try clear hR3); (try clear hR2); (try clear hR); (try clear hK); (try simp only [ncCast] at *); (try simp only [castI_eq] at *); refine EqX.i ?_; (try rw [ho]); (try dsimp only [Ar.real, IX.vo, IX.val, BX.val, IX.toN]); (try simp only [QP1, QB7, QSyVa]); (repeat rw [wrap_i64 (by omega) (by omega)]); omega)))
        · rw [hE (by assumption)]
          exact ⟨fun _ => rfl, upLb _⟩
theorem x_bSum (b : Bk) (hbk : BkOk b) (n : Int) : XC Try.prog 10 [.agg (Bk.X Ar.real b), xi n] [] (.agg (S4.X Ar.real (sumW b (eqF n)))) [] := by
  have h := fun o ho => x_bsumS o ho b hbk n
  generalize sumW b (eqF n) = s at *
  obtain ⟨⟨k1, k2, k3, k4, k5, ⟨k6, k7, k8, k9⟩⟩, now, last, fr, ag, of, tk, fl⟩ := b
  obtain ⟨x1, x2, x3, x4⟩ := s
  clear hbk
  (refine XC.of_body ([]) Try.func10 rfl Try.ntmps10 mixed (T := tl10) tk10 (by kernel_rfl) (by simp) rfl rfl rfl rfl rfl ?_; rintro o ho P hP c K hK; have hm : P.follows .mixedOrders = true := hP ▸ mixed; have hT : TOk P tl10 := hP ▸ tk10; (try rw [← ho]); cbv; (repeat (refine StopN.mk ?_; cbv)))
  have h := h o ho
  repeat' (first | (refine Br.mk (fun hb => ?_) (fun hb => ?_) <;> ((try rw [ho] at hb); (try dsimp only [Ar.real, IX.vo] at hb); (try simp only [QP1, QB7, QSyVa] at hb); (try simp only [QBo, beq_iff_eq, beq_eq_false_iff_ne, ne_eq] at hb))) | (refine StopN.mk ?_; cbv) | (refine CallI.objs [.loc 1] hP h fn29 rfl rfl rfl rfl (by rfl) rfl rfl rfl rfl (by rfl) ⟨⟨_, rfl, rfl⟩, trivial⟩ ?_; cbv) | (refine hK _ _ ?_) | (refine NeedT.mk ?_ ?_))
  exact .pure fun _ => rfl
theorem x_Roles (b : Bk) (hbk : BkOk b) : XC Try.prog 6 [.agg (Bk.X Ar.real b)] [] (.ro (SL Ar.real Go.Sy.encI (rolesP b))) [] := by
  have n1 := hbk.n_fr
  have hr : ∀ l, l = b.fr.map (·.role) → rolesP b = cpcI (sortI l) := fun l h => by rw [h]; rfl
  have hM0 : (b.fr.map (·.role)).take 0 = [] := rfl
  have hM1 : ∀ i, i < b.fr.length → (b.fr.map (·.role)).take (i + 1) = (b.fr.map (·.role)).take i ++ [(b.fr.getD i default).role] := fun i hi => by
    rw [List.take_succ_eq_append_getElem (by rw [List.length_map]; exact hi), List.getElem_map, getD_el hi]
  have hMl : ∀ i, ((b.fr.map (·.role)).take i).length ≤ 1048576 := fun i => by rw [List.length_take, List.length_map]; omega
  have hMe : ∀ i, b.fr.length ≤ i → (b.fr.map (·.role)).take i = b.fr.map (·.role) := fun i hi => List.take_of_length_le (by rw [List.length_map]; exact hi)
  generalize rolesP b = rs at *
  generalize b.fr.map (·.role) = ml at *
  obtain ⟨⟨k1, k2, k3, k4, k5, ⟨k6, k7, k8, k9⟩⟩, now, last, fr, ag, of, tk, fl⟩ := b
  clear hbk
  dsimp only at *
  obtain ⟨M, hM⟩ : ∃ M : Nat → List Int, M = fun i => ml.take i := ⟨_, rfl⟩
  have hM' : ∀ i, ml.take i = M i := fun i => by rw [hM]
  simp only [hM'] at hM0 hM1 hMl hMe
  clear hM hM'
  (refine XC.of_body ([]) Try.func6 rfl Try.ntmps6 mixed (T := tl6) tk6 (by kernel_rfl) (by simp) rfl rfl rfl rfl rfl ?_; rintro o ho P hP c K hK; have hm : P.follows .mixedOrders = true := hP ▸ mixed; have hT : TOk P tl6 := hP ▸ tk6; (try rw [← ho]); cbv; (repeat (refine StopN.mk ?_; cbv)))
  refine LoopN.ghost 3 3 1 rfl ?_
  refine LoopN.over (o := o) (D := []) ho hm hT (by kernel_rfl) (fun s : StL Int => [(9, xn s.i), (3, .own (.loc 1) s.rv)]) (fun s => [(1, .row s.rv 3 1 (SL o Go.Sy.encI s.out))]) (fun _ => []) (fun s => s.i ≤ fr.length ∧ s.out = M s.i) (fun s => fr.length - s.i) ⟨0, 0, []⟩ ⟨Nat.zero_le _, hM0.symm⟩ ?_ ?_
  · (refine ⟨?_, ?_, ?_, ?_⟩ <;> cbv <;> repeat' (first | trivial | exact EqX.rfl' | exact EqO.rfl' | apply And.intro | ((try clear hR3); (try clear hR2); (try clear hR); (try clear hK); (try simp only [ncCast] at *); (try simp only [castI_eq] at *); refine EqX.i ?_; (try rw [ho]); (try dsimp only [Ar.real, IX.vo, IX.val, BX.val, IX.toN]); (try simp only [QP1, QB7, QSyVa]); (repeat rw [wrap_i64 (by omega) (by omega)]); omega) | exact EqO.row rfl (rows_nil_SL o ho Go.Sy.encI)))
  · rintro ⟨i, rv, out⟩ ⟨hi, hout⟩ R hR
    dsimp only at hi hout
    have e1 := hM1 i
    have hol := hMl i
    have he := hMe i
    rw [← hout] at e1 hol he
    have hS1 := XC.sortI sortsI o ho rv 3 out hol
    have hS2 := XC.cpcI compactsI o ho rv 3 (sortI out) (by rw [sortI_len]; exact hol)
    have hres : fr.length ≤ i → rs = cpcI (sortI out) := fun h => hr out (he h)
    generalize cpcI (sortI out) = s2 at *
    generalize sortI out = s1 at *
    generalize hz : M (i + 1) = z at *
    cbv
    repeat' (first | (refine Br.mk (fun hb => ?_) (fun hb => ?_) <;> ((try rw [ho] at hb); (try dsimp only [Ar.real, IX.vo] at hb); (try simp only [QP1, QB7, QSyVa] at hb); (try simp only [QBo, beq_iff_eq, beq_eq_false_iff_ne, ne_eq] at hb))) | (refine StopN.mk ?_; cbv) | ((first | (refine FrzN.done ?_; refine CallI.objs [.loc 1] hP hS1 fn26 rfl rfl rfl rfl (by rfl) rfl rfl rfl rfl (by rfl) ⟨⟨_, rfl, rfl⟩, trivial⟩ ?_) | (refine FrzN.done ?_; refine CallI.objs [.loc 1] hP hS2 fn27 rfl rfl rfl rfl (by rfl) rfl rfl rfl rfl (by rfl) ⟨⟨_, rfl, rfl⟩, trivial⟩ ?_)); cbv) | (refine hK _ _ ?_) | (refine NeedT.mk ?_ ?_))
    any_goals (((try clear hR3); (try clear hR2); (try clear hR); (try clear hK); (try simp only [ncCast] at *); (try simp only [castI_eq] at *); (try rw [ho]); (try dsimp only [Ar.real, IX.vo, IX.val, BX.val, IX.toN]); (try simp only [QP1, QB7, QSyVa]); (try simp only [decide_eq_true_eq]); (all_goals (repeat rw [wrap_i64 (by omega) (by omega)])); (all_goals (first | omega | (simp only [Int.ofNat_eq_natCast]; omega)))); done)
    · refine hR _ ⟨i + 1, rv + 1, z⟩ (by show fr.length - (i + 1) < fr.length - i; ((try clear hR3); (try clear hR2); (try clear hR); (try clear hK); (try simp only [ncCast] at *); (try simp only [castI_eq] at *)); omega) ⟨by show i + 1 ≤ fr.length; ((try clear hR3); (try clear hR2); (try clear hR); (try clear hK); (try simp only [ncCast] at *); (try simp only [castI_eq] at *)); omega, hz.symm⟩ ?_
      have hs := e1 (by assumption)
      (refine ⟨?_, ?_, ?_, ?_⟩ <;> cbv <;> repeat' (first | trivial | exact EqX.rfl' | exact EqO.rfl' | apply And.intro | ((try clear hR3); (try clear hR2); (try clear hR); (try clear hK); (try simp only [ncCast] at *); (try simp only [castI_eq] at *); refine EqX.i ?_; (try rw [ho]); (try dsimp only [Ar.real, IX.vo, IX.val, BX.val, IX.toN]); (try simp only [QP1, QB7, QSyVa]); (repeat rw [wrap_i64 (by omega) (by omega)]); omega) | (refine EqO.snoc ho Go.Sy.encI out _ _ _ rfl hs ?_; rw [ho]; rfl)))
    · rw [hres (by assumption)]
      exact .ro (by rw [ho])
end Go.Proofs.Ytpijibffjohikaa.Sy
namespace Go.Proofs.Ytpijibffjohikaa.Sy
open Go Go.Sy Go.Proofs.Ytpijibffjohikaa
def frS (b : Bk) (i : Nat) : S4 := S4.of fun k => heldK b (fun _ => true) k + fS b.ag k i
structure AddsF (b : Bk) : Prop where
  m0 : roS b 0 = s40
  a1 : ∀ i, i < (rolesP b).length → sumsAdd (roS b i) (sumW b (roleB b ((rolesP b).getD i default))) = (roS b (i + 1), true)
  b1 : ∀ i, i < b.fr.length → sumsHolds (sumW b (roleB b (b.fr.getD i default).role)) (sumW b (eqF (b.fr.getD i default).id)) = true
  f0 : frS b 0 = roS b (rolesP b).length
  c1 : ∀ i, i < b.ag.length → sumsAdd (frS b i) (sumsOf (b.ag.getD i default).free) = (frS b (i + 1), true)
  c2 : ∀ i, i < b.ag.length → (subV (b.ag.getD i default).total (b.ag.getD i default).free).2 = true
  d1 : frS b b.ag.length = totF b
theorem RightB.adds {b : Bk} (h : RightB b) : AddsF b where
  m0 := rfl
  a1 i hi := by
    have e : (rolesP b).getD i default = (rolesP b).getD i 0 := rfl
    rw [h.sumW, e]
    unfold roS
    refine sumsAdd_of (fun k hk => (h.roles_le k hk i (by omega)).1) (fun k hk => (h.held _ k hk).1) fun k hk => ?_
    have h1 := (h.roles_le k hk (i + 1) hi).2
    have h2 := (h.held (fun _ => true) k hk).2
    simp only [sumI] at h1
    omega
  b1 i hi := by
    rw [h.sumW, h.sumW]
    unfold sumsHolds
    have h1 := fun k (hk : k4 k) => h.held (roleB b (b.fr.getD i default).role) k hk
    have h2 := fun k (hk : k4 k) => h.held (eqF (b.fr.getD i default).id) k hk
    have h3 := fun k => h.less i hi k
    have e : (fun f => decide (f = (b.fr.getD i default).id)) = eqF (b.fr.getD i default).id := rfl
    rw [e] at h3
    rw [sumsRight_of fun k hk => ⟨(h1 k hk).1, by have := (h1 k hk).2; omega⟩, sumsRight_of fun k hk => ⟨(h2 k hk).1, by have := (h2 k hk).2; omega⟩]
    rw [Bool.and_true, Bool.and_true, decide_eq_true_eq]
    exact ⟨h3 0, h3 1, h3 2, h3 3⟩
  f0 := by
    unfold frS roS
    refine S4.of_congr fun k _ => ?_
    rw [h.roles k]
    show _ + 0 = _
    omega
  c1 i hi := by
    have hv := h.free i hi
    rw [sumsOf_sk hv]
    unfold frS
    refine (sumsAdd_of (fun k hk => ?_) (fun k hk => sk_nn hv.ok k) fun k hk => ?_).trans ?_
    · have h1 := (h.held (fun _ => true) k hk).1
      have h2 := fS_nn h k i (by omega)
      omega
    · have h1 := h.all k
      have h2 := h.sk k hk
      have h3 := fS_mono h k (n := i + 1) b.ag.length hi (Nat.le_refl _)
      simp only [fS] at h3
      omega
    · congr 1
      refine S4.of_congr fun k _ => ?_
      simp only [fS]
      omega
  c2 i hi := h.holds i hi
  d1 := by
    rw [h.totF]
    unfold frS
    refine S4.of_congr fun k _ => ?_
    have := h.all k
    omega
theorem x_BookAdds (b : Bk) (hbk : BkOk b) : XC Try.prog 3 [.agg (Bk.X Ar.real b)] [] (xb true) [] := by
  have hWk := XC_at x_works16 (fun _ => rfl) (r' := .b .t) (fun _ => rfl)
  have hRt := x_Right b hbk
  have hRo := x_Roles b hbk
  have hRS := fun r => x_bRoleSum b hbk r
  have hSm := fun n => x_bSum b hbk n
  have hTo := x_bTotal b hbk
  have hOf := fun i => x_sumsOf (b.ag.getD i default).free (hbk.a2 i)
  have hVH := fun i => x_vecHolds (b.ag.getD i default).total (b.ag.getD i default).free (hbk.a1 i) (hbk.a2 i)
  have n1 := hbk.n_fr
  have n2 := hbk.n_ag
  have n3 := hbk.n_of
  have n4 := hbk.n_tk
  have hF := fun h => (ruleP_right (b := b) h).adds
  have hrl : (rolesP b).length ≤ 1048576 := by
    have h1 := cpcI_len (sortI (b.fr.map (·.role)))
    rw [sortI_len, List.length_map] at h1
    unfold rolesP
    omega
  by_cases h0 : ruleP b = 0
  · have hF := hF h0
    have m0 := hF.m0
    have a1 := hF.a1
    have b1 := hF.b1
    have f0 := hF.f0
    have c1 := hF.c1
    have c2 := hF.c2
    have d1 := hF.d1
    clear hF
    rw [h0] at hRt
    replace hRt := XC_at hRt (fun _ => rfl) (r' := .tup [xi 0, .b .t]) (fun _ => rfl)
    rw [← d1] at hTo
    clear d1 h0
    generalize rolesP b = rs at *
    generalize roS b = M at *
    generalize frS b = F at *
    obtain ⟨RS, hRSd⟩ : ∃ f : Int → S4, f = fun r => sumW b (roleB b r) := ⟨_, rfl⟩
    obtain ⟨SM, hSMd⟩ : ∃ f : Int → S4, f = fun r => sumW b (eqF r) := ⟨_, rfl⟩
    have e1 : ∀ r, sumW b (roleB b r) = RS r := fun r => by rw [hRSd]
    have e2 : ∀ r, sumW b (eqF r) = SM r := fun r => by rw [hSMd]
    simp only [e1] at hRS a1 b1
    simp only [e2] at hSm b1
    clear e1 e2 hRSd hSMd
    obtain ⟨⟨k1, k2, k3, k4, k5, ⟨k6, k7, k8, k9⟩⟩, now, last, fr, ag, of, tk, fl⟩ := b
    clear hbk
    dsimp only at *
    (refine XC.of_body (dt3) Try.func3 rfl Try.ntmps3 mixed (T := tl3) tk3 (by kernel_rfl) (by simp) rfl rfl rfl rfl rfl ?_; rintro o ho P hP c K hK; have hm : P.follows .mixedOrders = true := hP ▸ mixed; have hT : TOk P tl3 := hP ▸ tk3; (try rw [← ho]); cbv; (repeat (refine StopN.mk ?_; cbv)))
    rw [← ho] at hRt hRo hTo
    repeat' (first | (refine Br.mk (fun hb => ?_) (fun hb => ?_) <;> ((try rw [ho] at hb); (try dsimp only [Ar.real, IX.vo] at hb); (try simp only [QP1, QB7, QSyVa, QB5] at hb); (try simp only [QBo, beq_iff_eq, beq_eq_false_iff_ne, ne_eq] at hb))) | (refine StopN.mk ?_; cbv) | ((first | refine CallI.pure hP hRt fn4 rfl rfl rfl ?_ | refine CallI.pure hP hRo fn6 rfl rfl rfl ?_); cbv) | ((first | refine CallI.pure hP (x_works16) fn5 (by first | rfl | (rw [ho]; try rfl)) (by rfl) (by first | rfl | (rw [ho]; try rfl)) ?_ | refine CallN.pure hP (x_works16) fn5 (by first | rfl | (rw [ho]; try rfl)) (by rfl) (by first | rfl | (rw [ho]; try rfl)) ?_); (try rw [← ho]); cbv) | ((first | refine CallI.pure hP (x_sumsAdd _ _) fn7 (by first | rfl | (rw [ho]; try rfl)) (by rfl) (by first | rfl | (rw [ho]; try rfl)) ?_ | refine CallN.pure hP (x_sumsAdd _ _) fn7 (by first | rfl | (rw [ho]; try rfl)) (by rfl) (by first | rfl | (rw [ho]; try rfl)) ?_); (try rw [← ho]); generalize hr : sumsAdd _ _ = r; (try rw [ho] at hr); (try dsimp only [Ar.real, IX.vo] at hr); (try simp only [QP1, QB7, QSyVa, QB5] at hr); cbv) | ((first | refine CallI.pure hP (x_bRoleSum _ ‹_› _) fn8 (by first | rfl | (rw [ho]; try rfl)) (by rfl) (by first | rfl | (rw [ho]; try rfl)) ?_ | refine CallN.pure hP (x_bRoleSum _ ‹_› _) fn8 (by first | rfl | (rw [ho]; try rfl)) (by rfl) (by first | rfl | (rw [ho]; try rfl)) ?_); (try rw [← ho]); cbv) | ((first | refine CallI.pure hP (x_sumsHolds _ _) fn9 (by first | rfl | (rw [ho]; try rfl)) (by rfl) (by first | rfl | (rw [ho]; try rfl)) ?_ | refine CallN.pure hP (x_sumsHolds _ _) fn9 (by first | rfl | (rw [ho]; try rfl)) (by rfl) (by first | rfl | (rw [ho]; try rfl)) ?_); (try rw [← ho]); generalize hr : sumsHolds _ _ = r; (try rw [ho] at hr); (try dsimp only [Ar.real, IX.vo] at hr); (try simp only [QP1, QB7, QSyVa, QB5] at hr); cbv) | ((first | refine CallI.pure hP (x_bSum _ ‹_› _) fn10 (by first | rfl | (rw [ho]; try rfl)) (by rfl) (by first | rfl | (rw [ho]; try rfl)) ?_ | refine CallN.pure hP (x_bSum _ ‹_› _) fn10 (by first | rfl | (rw [ho]; try rfl)) (by rfl) (by first | rfl | (rw [ho]; try rfl)) ?_); (try rw [← ho]); cbv) | ((first | refine CallI.pure hP (x_sumsOf _ ‹_›) fn11 (by first | rfl | (rw [ho]; try rfl)) (by rfl) (by first | rfl | (rw [ho]; try rfl)) ?_ | refine CallN.pure hP (x_sumsOf _ ‹_›) fn11 (by first | rfl | (rw [ho]; try rfl)) (by rfl) (by first | rfl | (rw [ho]; try rfl)) ?_); (try rw [← ho]); generalize hr : sumsOf _ = r; (try rw [ho] at hr); (try dsimp only [Ar.real, IX.vo] at hr); (try simp only [QP1, QB7, QSyVa, QB5] at hr); cbv) | ((first | refine CallI.pure hP (x_vecHolds _ _ ‹_› ‹_›) fn12 (by first | rfl | (rw [ho]; try rfl)) (by rfl) (by first | rfl | (rw [ho]; try rfl)) ?_ | refine CallN.pure hP (x_vecHolds _ _ ‹_› ‹_›) fn12 (by first | rfl | (rw [ho]; try rfl)) (by rfl) (by first | rfl | (rw [ho]; try rfl)) ?_); (try rw [← ho]); generalize hr : subV _ _ = r; (try rw [ho] at hr); (try dsimp only [Ar.real, IX.vo] at hr); (try simp only [QP1, QB7, QSyVa, QB5] at hr); cbv) | ((first | refine CallI.pure hP (x_bTotal _ ‹_›) fn13 (by first | rfl | (rw [ho]; try rfl)) (by rfl) (by first | rfl | (rw [ho]; try rfl)) ?_ | refine CallN.pure hP (x_bTotal _ ‹_›) fn13 (by first | rfl | (rw [ho]; try rfl)) (by rfl) (by first | rfl | (rw [ho]; try rfl)) ?_); (try rw [← ho]); cbv) | (refine hK _ _ ?_) | (refine NeedT.mk ?_ ?_))
    all_goals try first | exact .b rfl | fail
    refine LoopN.over (o := o) (D := dt3) ho hm hT (by kernel_rfl) (fun i : Nat => [(7, xn i)]) (fun i => [(1, .var (S4.X o (M i)) 35)]) (fun _ => []) (fun i => i ≤ rs.length) (fun i => rs.length - i) 0 (Nat.zero_le _) ?_ ?_
    · rw [m0]
      (refine ⟨?_, ?_, ?_, ?_⟩ <;> cbv <;> repeat' (first | trivial | exact EqX.rfl' | exact EqO.rfl' | apply And.intro | ((try clear hR3); (try clear hR2); (try clear hR); (try clear hK); (try simp only [ncCast] at *); (try simp only [castI_eq] at *); refine EqX.i ?_; (try rw [ho]); (try dsimp only [Ar.real, IX.vo, IX.val, BX.val, IX.toN]); (try simp only [QP1, QB7, QSyVa, QB5]); (repeat rw [wrap_i64 (by omega) (by omega)]); omega) | exact ⟨rfl⟩))
    · intro i hi R hR
      have ei : o.nth rs i = rs.getD i default := by rw [ho, real_nth]
      rcases Nat.lt_or_ge i rs.length with hlt | hge
      · have h1 := hRS (rs.getD i default)
        have h2 := x_sumsAdd (M i) (RS (rs.getD i default))
        rw [a1 i hlt] at h2
        replace h2 := XC_at h2 (fun _ => rfl) (r' := .tup [.agg (S4.X Ar.real (M (i + 1))), .b .t]) (fun _ => rfl)
        rw [← ei] at h1 h2
        generalize RS (o.nth rs i) = s at *
        generalize hMs : M (i + 1) = s' at *
        generalize M i = q at *
        obtain ⟨x1, x2, x3, x4⟩ := s
        obtain ⟨y1, y2, y3, y4⟩ := s'
        obtain ⟨z1, z2, z3, z4⟩ := q
        rw [← ho] at h1 h2
        cbv
        repeat' (first | (refine Br.mk (fun hb => ?_) (fun hb => ?_) <;> ((try rw [ho] at hb); (try dsimp only [Ar.real, IX.vo] at hb); (try simp only [QP1, QB7, QSyVa, QB5] at hb); (try simp only [QBo, beq_iff_eq, beq_eq_false_iff_ne, ne_eq] at hb))) | (refine StopN.mk ?_; cbv) | ((first | refine CallN.pure hP h1 fn8 rfl rfl rfl ?_ | refine CallN.pure hP h2 fn7 rfl rfl rfl ?_); cbv) | ((first | refine CallI.pure hP (x_Right _ ‹_›) fn4 (by first | rfl | (rw [ho]; try rfl)) (by rfl) (by first | rfl | (rw [ho]; try rfl)) ?_ | refine CallN.pure hP (x_Right _ ‹_›) fn4 (by first | rfl | (rw [ho]; try rfl)) (by rfl) (by first | rfl | (rw [ho]; try rfl)) ?_); (try rw [← ho]); cbv) | ((first | refine CallI.pure hP (x_works16) fn5 (by first | rfl | (rw [ho]; try rfl)) (by rfl) (by first | rfl | (rw [ho]; try rfl)) ?_ | refine CallN.pure hP (x_works16) fn5 (by first | rfl | (rw [ho]; try rfl)) (by rfl) (by first | rfl | (rw [ho]; try rfl)) ?_); (try rw [← ho]); cbv) | ((first | refine CallI.pure hP (x_Roles _ ‹_›) fn6 (by first | rfl | (rw [ho]; try rfl)) (by rfl) (by first | rfl | (rw [ho]; try rfl)) ?_ | refine CallN.pure hP (x_Roles _ ‹_›) fn6 (by first | rfl | (rw [ho]; try rfl)) (by rfl) (by first | rfl | (rw [ho]; try rfl)) ?_); (try rw [← ho]); generalize hr : rolesP _ = r; (try rw [ho] at hr); (try dsimp only [Ar.real, IX.vo] at hr); (try simp only [QP1, QB7, QSyVa, QB5] at hr); cbv) | ((first | refine CallI.pure hP (x_sumsHolds _ _) fn9 (by first | rfl | (rw [ho]; try rfl)) (by rfl) (by first | rfl | (rw [ho]; try rfl)) ?_ | refine CallN.pure hP (x_sumsHolds _ _) fn9 (by first | rfl | (rw [ho]; try rfl)) (by rfl) (by first | rfl | (rw [ho]; try rfl)) ?_); (try rw [← ho]); generalize hr : sumsHolds _ _ = r; (try rw [ho] at hr); (try dsimp only [Ar.real, IX.vo] at hr); (try simp only [QP1, QB7, QSyVa, QB5] at hr); cbv) | ((first | refine CallI.pure hP (x_bSum _ ‹_› _) fn10 (by first | rfl | (rw [ho]; try rfl)) (by rfl) (by first | rfl | (rw [ho]; try rfl)) ?_ | refine CallN.pure hP (x_bSum _ ‹_› _) fn10 (by first | rfl | (rw [ho]; try rfl)) (by rfl) (by first | rfl | (rw [ho]; try rfl)) ?_); (try rw [← ho]); cbv) | ((first | refine CallI.pure hP (x_sumsOf _ ‹_›) fn11 (by first | rfl | (rw [ho]; try rfl)) (by rfl) (by first | rfl | (rw [ho]; try rfl)) ?_ | refine CallN.pure hP (x_sumsOf _ ‹_›) fn11 (by first | rfl | (rw [ho]; try rfl)) (by rfl) (by first | rfl | (rw [ho]; try rfl)) ?_); (try rw [← ho]); generalize hr : sumsOf _ = r; (try rw [ho] at hr); (try dsimp only [Ar.real, IX.vo] at hr); (try simp only [QP1, QB7, QSyVa, QB5] at hr); cbv) | ((first | refine CallI.pure hP (x_vecHolds _ _ ‹_› ‹_›) fn12 (by first | rfl | (rw [ho]; try rfl)) (by rfl) (by first | rfl | (rw [ho]; try rfl)) ?_ | refine CallN.pure hP (x_vecHolds _ _ ‹_› ‹_›) fn12 (by first | rfl | (rw [ho]; try rfl)) (by rfl) (by first | rfl | (rw [ho]; try rfl)) ?_); (try rw [← ho]); generalize hr : subV _ _ = r; (try rw [ho] at hr); (try dsimp only [Ar.real, IX.vo] at hr); (try simp only [QP1, QB7, QSyVa, QB5] at hr); cbv) | ((first | refine CallI.pure hP (x_bTotal _ ‹_›) fn13 (by first | rfl | (rw [ho]; try rfl)) (by rfl) (by first | rfl | (rw [ho]; try rfl)) ?_ | refine CallN.pure hP (x_bTotal _ ‹_›) fn13 (by first | rfl | (rw [ho]; try rfl)) (by rfl) (by first | rfl | (rw [ho]; try rfl)) ?_); (try rw [← ho]); cbv) | (refine hK _ _ ?_) | (refine NeedT.mk ?_ ?_))
        any_goals (((try clear hR3); (try clear hR2); (try clear hR); (try clear hK); (try simp only [ncCast] at *); (try simp only [castI_eq] at *); (try rw [ho]); (try dsimp only [Ar.real, IX.vo, IX.val, BX.val, IX.toN]); (try simp only [QP1, QB7, QSyVa, QB5]); (try simp only [decide_eq_true_eq]); (all_goals (repeat rw [wrap_i64 (by omega) (by omega)])); (all_goals (first | omega | (simp only [Int.ofNat_eq_natCast]; omega)))); done)
        · refine hR _ (i + 1) (by show rs.length - (i + 1) < rs.length - i; omega) (by show i + 1 ≤ rs.length; omega) ?_
          rw [hMs]
          (refine ⟨?_, ?_, ?_, ?_⟩ <;> cbv <;> repeat' (first | trivial | exact EqX.rfl' | exact EqO.rfl' | apply And.intro | ((try clear hR3); (try clear hR2); (try clear hR); (try clear hK); (try simp only [ncCast] at *); (try simp only [castI_eq] at *); refine EqX.i ?_; (try rw [ho]); (try dsimp only [Ar.real, IX.vo, IX.val, BX.val, IX.toN]); (try simp only [QP1, QB7, QSyVa, QB5]); (repeat rw [wrap_i64 (by omega) (by omega)]); omega)))
      · have f1 : F 0 = M i := by rw [show i = rs.length by omega]; exact f0
        clear f0 hR ei
        generalize M i = q at *
        obtain ⟨w1, w2, w3, w4⟩ := q
        cbv
        repeat' (first | (refine Br.mk (fun hb => ?_) (fun hb => ?_) <;> ((try rw [ho] at hb); (try dsimp only [Ar.real, IX.vo] at hb); (try simp only [QP1, QB7, QSyVa, QB5] at hb); (try simp only [QBo, beq_iff_eq, beq_eq_false_iff_ne, ne_eq] at hb))) | (refine StopN.mk ?_; cbv) | ((first | refine CallI.pure hP (x_Right _ ‹_›) fn4 (by first | rfl | (rw [ho]; try rfl)) (by rfl) (by first | rfl | (rw [ho]; try rfl)) ?_ | refine CallN.pure hP (x_Right _ ‹_›) fn4 (by first | rfl | (rw [ho]; try rfl)) (by rfl) (by first | rfl | (rw [ho]; try rfl)) ?_); (try rw [← ho]); cbv) | ((first | refine CallI.pure hP (x_works16) fn5 (by first | rfl | (rw [ho]; try rfl)) (by rfl) (by first | rfl | (rw [ho]; try rfl)) ?_ | refine CallN.pure hP (x_works16) fn5 (by first | rfl | (rw [ho]; try rfl)) (by rfl) (by first | rfl | (rw [ho]; try rfl)) ?_); (try rw [← ho]); cbv) | ((first | refine CallI.pure hP (x_Roles _ ‹_›) fn6 (by first | rfl | (rw [ho]; try rfl)) (by rfl) (by first | rfl | (rw [ho]; try rfl)) ?_ | refine CallN.pure hP (x_Roles _ ‹_›) fn6 (by first | rfl | (rw [ho]; try rfl)) (by rfl) (by first | rfl | (rw [ho]; try rfl)) ?_); (try rw [← ho]); generalize hr : rolesP _ = r; (try rw [ho] at hr); (try dsimp only [Ar.real, IX.vo] at hr); (try simp only [QP1, QB7, QSyVa, QB5] at hr); cbv) | ((first | refine CallI.pure hP (x_sumsAdd _ _) fn7 (by first | rfl | (rw [ho]; try rfl)) (by rfl) (by first | rfl | (rw [ho]; try rfl)) ?_ | refine CallN.pure hP (x_sumsAdd _ _) fn7 (by first | rfl | (rw [ho]; try rfl)) (by rfl) (by first | rfl | (rw [ho]; try rfl)) ?_); (try rw [← ho]); generalize hr : sumsAdd _ _ = r; (try rw [ho] at hr); (try dsimp only [Ar.real, IX.vo] at hr); (try simp only [QP1, QB7, QSyVa, QB5] at hr); cbv) | ((first | refine CallI.pure hP (x_bRoleSum _ ‹_› _) fn8 (by first | rfl | (rw [ho]; try rfl)) (by rfl) (by first | rfl | (rw [ho]; try rfl)) ?_ | refine CallN.pure hP (x_bRoleSum _ ‹_› _) fn8 (by first | rfl | (rw [ho]; try rfl)) (by rfl) (by first | rfl | (rw [ho]; try rfl)) ?_); (try rw [← ho]); cbv) | ((first | refine CallI.pure hP (x_sumsHolds _ _) fn9 (by first | rfl | (rw [ho]; try rfl)) (by rfl) (by first | rfl | (rw [ho]; try rfl)) ?_ | refine CallN.pure hP (x_sumsHolds _ _) fn9 (by first | rfl | (rw [ho]; try rfl)) (by rfl) (by first | rfl | (rw [ho]; try rfl)) ?_); (try rw [← ho]); generalize hr : sumsHolds _ _ = r; (try rw [ho] at hr); (try dsimp only [Ar.real, IX.vo] at hr); (try simp only [QP1, QB7, QSyVa, QB5] at hr); cbv) | ((first | refine CallI.pure hP (x_bSum _ ‹_› _) fn10 (by first | rfl | (rw [ho]; try rfl)) (by rfl) (by first | rfl | (rw [ho]; try rfl)) ?_ | refine CallN.pure hP (x_bSum _ ‹_› _) fn10 (by first | rfl | (rw [ho]; try rfl)) (by rfl) (by first | rfl | (rw [ho]; try rfl)) ?_); (try rw [← ho]); cbv) | ((first | refine CallI.pure hP (x_sumsOf _ ‹_›) fn11 (by first | rfl | (rw [ho]; try rfl)) (by rfl) (by first | rfl | (rw [ho]; try rfl)) ?_ | refine CallN.pure hP (x_sumsOf _ ‹_›) fn11 (by first | rfl | (rw [ho]; try rfl)) (by rfl) (by first | rfl | (rw [ho]; try rfl)) ?_); (try rw [← ho]); generalize hr : sumsOf _ = r; (try rw [ho] at hr); (try dsimp only [Ar.real, IX.vo] at hr); (try simp only [QP1, QB7, QSyVa, QB5] at hr); cbv) | ((first | refine CallI.pure hP (x_vecHolds _ _ ‹_› ‹_›) fn12 (by first | rfl | (rw [ho]; try rfl)) (by rfl) (by first | rfl | (rw [ho]; try rfl)) ?_ | refine CallN.pure hP (x_vecHolds _ _ ‹_› ‹_›) fn12 (by first | rfl | (rw [ho]; try rfl)) (by rfl) (by first | rfl | (rw [ho]; try rfl)) ?_); (try rw [← ho]); generalize hr : subV _ _ = r; (try rw [ho] at hr); (try dsimp only [Ar.real, IX.vo] at hr); (try simp only [QP1, QB7, QSyVa, QB5] at hr); cbv) | ((first | refine CallI.pure hP (x_bTotal _ ‹_›) fn13 (by first | rfl | (rw [ho]; try rfl)) (by rfl) (by first | rfl | (rw [ho]; try rfl)) ?_ | refine CallN.pure hP (x_bTotal _ ‹_›) fn13 (by first | rfl | (rw [ho]; try rfl)) (by rfl) (by first | rfl | (rw [ho]; try rfl)) ?_); (try rw [← ho]); cbv) | (refine hK _ _ ?_) | (refine NeedT.mk ?_ ?_))
        any_goals (((try clear hR3); (try clear hR2); (try clear hR); (try clear hK); (try simp only [ncCast] at *); (try simp only [castI_eq] at *); (try rw [ho]); (try dsimp only [Ar.real, IX.vo, IX.val, BX.val, IX.toN]); (try simp only [QP1, QB7, QSyVa, QB5]); (try simp only [decide_eq_true_eq]); (all_goals (repeat rw [wrap_i64 (by omega) (by omega)])); (all_goals (first | omega | (simp only [Int.ofNat_eq_natCast]; omega)))); done)
        refine LoopN.over (o := o) (D := dt3) ho hm hT (by kernel_rfl) (fun i : Nat => [(10, xn i)]) (fun _ => []) (fun _ => []) (fun i => i ≤ fr.length) (fun i => fr.length - i) 0 (Nat.zero_le _) ?_ ?_
        · (refine ⟨?_, ?_, ?_, ?_⟩ <;> cbv <;> repeat' (first | trivial | exact EqX.rfl' | exact EqO.rfl' | apply And.intro | ((try clear hR3); (try clear hR2); (try clear hR); (try clear hK); (try simp only [ncCast] at *); (try simp only [castI_eq] at *); refine EqX.i ?_; (try rw [ho]); (try dsimp only [Ar.real, IX.vo, IX.val, BX.val, IX.toN]); (try simp only [QP1, QB7, QSyVa, QB5]); (repeat rw [wrap_i64 (by omega) (by omega)]); omega)))
        · intro i hi R hR
          have ei : o.nth fr i = fr.getD i default := by rw [ho, real_nth]
          rcases Nat.lt_or_ge i fr.length with hlt | hge
          · have h1 := hRS (fr.getD i default).role
            have h3 := hSm (fr.getD i default).id
            have h2 := x_sumsHolds (RS (fr.getD i default).role) (SM (fr.getD i default).id)
            rw [b1 i hlt] at h2
            replace h2 := XC_at h2 (fun _ => rfl) (r' := .b .t) (fun _ => rfl)
            rw [← ei] at h1 h2 h3
            generalize RS (o.nth fr i).role = s at *
            generalize SM (o.nth fr i).id = q at *
            obtain ⟨x1, x2, x3, x4⟩ := s
            obtain ⟨z1, z2, z3, z4⟩ := q
            rw [← ho] at h1 h2 h3
            cbv
            repeat' (first | (refine Br.mk (fun hb => ?_) (fun hb => ?_) <;> ((try rw [ho] at hb); (try dsimp only [Ar.real, IX.vo] at hb); (try simp only [QP1, QB7, QSyVa, QB5] at hb); (try simp only [QBo, beq_iff_eq, beq_eq_false_iff_ne, ne_eq] at hb))) | (refine StopN.mk ?_; cbv) | ((first | refine CallN.pure hP h1 fn8 rfl rfl rfl ?_ | refine CallN.pure hP h3 fn10 rfl rfl rfl ?_ | refine CallN.pure hP h2 fn9 rfl rfl rfl ?_); cbv) | ((first | refine CallI.pure hP (x_Right _ ‹_›) fn4 (by first | rfl | (rw [ho]; try rfl)) (by rfl) (by first | rfl | (rw [ho]; try rfl)) ?_ | refine CallN.pure hP (x_Right _ ‹_›) fn4 (by first | rfl | (rw [ho]; try rfl)) (by rfl) (by first | rfl | (rw [ho]; try rfl)) ?_); (try rw [← ho]); cbv) | ((first | refine CallI.pure hP (x_works16) fn5 (by first | rfl | (rw [ho]; try rfl)) (by rfl) (by first | rfl | (rw [ho]; try rfl)) ?_ | refine CallN.pure hP (x_works16) fn5 (by first | rfl | (rw [ho]; try rfl)) (by rfl) (by first | rfl | (rw [ho]; try rfl)) ?_); (try rw [← ho]); cbv) | ((first | refine CallI.pure hP (x_Roles _ ‹_›) fn6 (by first | rfl | (rw [ho]; try rfl)) (by rfl) (by first | rfl | (rw [ho]; try rfl)) ?_ | refine CallN.pure hP (x_Roles _ ‹_›) fn6 (by first | rfl | (rw [ho]; try rfl)) (by rfl) (by first | rfl | (rw [ho]; try rfl)) ?_); (try rw [← ho]); generalize hr : rolesP _ = r; (try rw [ho] at hr); (try dsimp only [Ar.real, IX.vo] at hr); (try simp only [QP1, QB7, QSyVa, QB5] at hr); cbv) | ((first | refine CallI.pure hP (x_sumsAdd _ _) fn7 (by first | rfl | (rw [ho]; try rfl)) (by rfl) (by first | rfl | (rw [ho]; try rfl)) ?_ | refine CallN.pure hP (x_sumsAdd _ _) fn7 (by first | rfl | (rw [ho]; try rfl)) (by rfl) (by first | rfl | (rw [ho]; try rfl)) ?_); (try rw [← ho]); generalize hr : sumsAdd _ _ = r; (try rw [ho] at hr); (try dsimp only [Ar.real, IX.vo] at hr); (try simp only [QP1, QB7, QSyVa, QB5] at hr); cbv) | ((first | refine CallI.pure hP (x_sumsOf _ ‹_›) fn11 (by first | rfl | (rw [ho]; try rfl)) (by rfl) (by first | rfl | (rw [ho]; try rfl)) ?_ | refine CallN.pure hP (x_sumsOf _ ‹_›) fn11 (by first | rfl | (rw [ho]; try rfl)) (by rfl) (by first | rfl | (rw [ho]; try rfl)) ?_); (try rw [← ho]); generalize hr : sumsOf _ = r; (try rw [ho] at hr); (try dsimp only [Ar.real, IX.vo] at hr); (try simp only [QP1, QB7, QSyVa, QB5] at hr); cbv) | ((first | refine CallI.pure hP (x_vecHolds _ _ ‹_› ‹_›) fn12 (by first | rfl | (rw [ho]; try rfl)) (by rfl) (by first | rfl | (rw [ho]; try rfl)) ?_ | refine CallN.pure hP (x_vecHolds _ _ ‹_› ‹_›) fn12 (by first | rfl | (rw [ho]; try rfl)) (by rfl) (by first | rfl | (rw [ho]; try rfl)) ?_); (try rw [← ho]); generalize hr : subV _ _ = r; (try rw [ho] at hr); (try dsimp only [Ar.real, IX.vo] at hr); (try simp only [QP1, QB7, QSyVa, QB5] at hr); cbv) | ((first | refine CallI.pure hP (x_bTotal _ ‹_›) fn13 (by first | rfl | (rw [ho]; try rfl)) (by rfl) (by first | rfl | (rw [ho]; try rfl)) ?_ | refine CallN.pure hP (x_bTotal _ ‹_›) fn13 (by first | rfl | (rw [ho]; try rfl)) (by rfl) (by first | rfl | (rw [ho]; try rfl)) ?_); (try rw [← ho]); cbv) | (refine hK _ _ ?_) | (refine NeedT.mk ?_ ?_))
            any_goals (((try clear hR3); (try clear hR2); (try clear hR); (try clear hK); (try simp only [ncCast] at *); (try simp only [castI_eq] at *); (try rw [ho]); (try dsimp only [Ar.real, IX.vo, IX.val, BX.val, IX.toN]); (try simp only [QP1, QB7, QSyVa, QB5]); (try simp only [decide_eq_true_eq]); (all_goals (repeat rw [wrap_i64 (by omega) (by omega)])); (all_goals (first | omega | (simp only [Int.ofNat_eq_natCast]; omega)))); done)
            · refine hR _ (i + 1) (by show fr.length - (i + 1) < fr.length - i; omega) (by show i + 1 ≤ fr.length; omega) ?_
              (refine ⟨?_, ?_, ?_, ?_⟩ <;> cbv <;> repeat' (first | trivial | exact EqX.rfl' | exact EqO.rfl' | apply And.intro | ((try clear hR3); (try clear hR2); (try clear hR); (try clear hK); (try simp only [ncCast] at *); (try simp only [castI_eq] at *); refine EqX.i ?_; (try rw [ho]); (try dsimp only [Ar.real, IX.vo, IX.val, BX.val, IX.toN]); (try simp only [QP1, QB7, QSyVa, QB5]); (repeat rw [wrap_i64 (by omega) (by omega)]); omega)))
          · clear hR ei
            cbv
            repeat' (first | (refine Br.mk (fun hb => ?_) (fun hb => ?_) <;> ((try rw [ho] at hb); (try dsimp only [Ar.real, IX.vo] at hb); (try simp only [QP1, QB7, QSyVa, QB5] at hb); (try simp only [QBo, beq_iff_eq, beq_eq_false_iff_ne, ne_eq] at hb))) | (refine StopN.mk ?_; cbv) | ((first | refine CallI.pure hP (x_Right _ ‹_›) fn4 (by first | rfl | (rw [ho]; try rfl)) (by rfl) (by first | rfl | (rw [ho]; try rfl)) ?_ | refine CallN.pure hP (x_Right _ ‹_›) fn4 (by first | rfl | (rw [ho]; try rfl)) (by rfl) (by first | rfl | (rw [ho]; try rfl)) ?_); (try rw [← ho]); cbv) | ((first | refine CallI.pure hP (x_works16) fn5 (by first | rfl | (rw [ho]; try rfl)) (by rfl) (by first | rfl | (rw [ho]; try rfl)) ?_ | refine CallN.pure hP (x_works16) fn5 (by first | rfl | (rw [ho]; try rfl)) (by rfl) (by first | rfl | (rw [ho]; try rfl)) ?_); (try rw [← ho]); cbv) | ((first | refine CallI.pure hP (x_Roles _ ‹_›) fn6 (by first | rfl | (rw [ho]; try rfl)) (by rfl) (by first | rfl | (rw [ho]; try rfl)) ?_ | refine CallN.pure hP (x_Roles _ ‹_›) fn6 (by first | rfl | (rw [ho]; try rfl)) (by rfl) (by first | rfl | (rw [ho]; try rfl)) ?_); (try rw [← ho]); generalize hr : rolesP _ = r; (try rw [ho] at hr); (try dsimp only [Ar.real, IX.vo] at hr); (try simp only [QP1, QB7, QSyVa, QB5] at hr); cbv) | ((first | refine CallI.pure hP (x_sumsAdd _ _) fn7 (by first | rfl | (rw [ho]; try rfl)) (by rfl) (by first | rfl | (rw [ho]; try rfl)) ?_ | refine CallN.pure hP (x_sumsAdd _ _) fn7 (by first | rfl | (rw [ho]; try rfl)) (by rfl) (by first | rfl | (rw [ho]; try rfl)) ?_); (try rw [← ho]); generalize hr : sumsAdd _ _ = r; (try rw [ho] at hr); (try dsimp only [Ar.real, IX.vo] at hr); (try simp only [QP1, QB7, QSyVa, QB5] at hr); cbv) | ((first | refine CallI.pure hP (x_bRoleSum _ ‹_› _) fn8 (by first | rfl | (rw [ho]; try rfl)) (by rfl) (by first | rfl | (rw [ho]; try rfl)) ?_ | refine CallN.pure hP (x_bRoleSum _ ‹_› _) fn8 (by first | rfl | (rw [ho]; try rfl)) (by rfl) (by first | rfl | (rw [ho]; try rfl)) ?_); (try rw [← ho]); cbv) | ((first | refine CallI.pure hP (x_sumsHolds _ _) fn9 (by first | rfl | (rw [ho]; try rfl)) (by rfl) (by first | rfl | (rw [ho]; try rfl)) ?_ | refine CallN.pure hP (x_sumsHolds _ _) fn9 (by first | rfl | (rw [ho]; try rfl)) (by rfl) (by first | rfl | (rw [ho]; try rfl)) ?_); (try rw [← ho]); generalize hr : sumsHolds _ _ = r; (try rw [ho] at hr); (try dsimp only [Ar.real, IX.vo] at hr); (try simp only [QP1, QB7, QSyVa, QB5] at hr); cbv) | ((first | refine CallI.pure hP (x_bSum _ ‹_› _) fn10 (by first | rfl | (rw [ho]; try rfl)) (by rfl) (by first | rfl | (rw [ho]; try rfl)) ?_ | refine CallN.pure hP (x_bSum _ ‹_› _) fn10 (by first | rfl | (rw [ho]; try rfl)) (by rfl) (by first | rfl | (rw [ho]; try rfl)) ?_); (try rw [← ho]); cbv) | ((first | refine CallI.pure hP (x_sumsOf _ ‹_›) fn11 (by first | rfl | (rw [ho]; try rfl)) (by rfl) (by first | rfl | (rw [ho]; try rfl)) ?_ | refine CallN.pure hP (x_sumsOf _ ‹_›) fn11 (by first | rfl | (rw [ho]; try rfl)) (by rfl) (by first | rfl | (rw [ho]; try rfl)) ?_); (try rw [← ho]); generalize hr : sumsOf _ = r; (try rw [ho] at hr); (try dsimp only [Ar.real, IX.vo] at hr); (try simp only [QP1, QB7, QSyVa, QB5] at hr); cbv) | ((first | refine CallI.pure hP (x_vecHolds _ _ ‹_› ‹_›) fn12 (by first | rfl | (rw [ho]; try rfl)) (by rfl) (by first | rfl | (rw [ho]; try rfl)) ?_ | refine CallN.pure hP (x_vecHolds _ _ ‹_› ‹_›) fn12 (by first | rfl | (rw [ho]; try rfl)) (by rfl) (by first | rfl | (rw [ho]; try rfl)) ?_); (try rw [← ho]); generalize hr : subV _ _ = r; (try rw [ho] at hr); (try dsimp only [Ar.real, IX.vo] at hr); (try simp only [QP1, QB7, QSyVa, QB5] at hr); cbv) | ((first | refine CallI.pure hP (x_bTotal _ ‹_›) fn13 (by first | rfl | (rw [ho]; try rfl)) (by rfl) (by first | rfl | (rw [ho]; try rfl)) ?_ | refine CallN.pure hP (x_bTotal _ ‹_›) fn13 (by first | rfl | (rw [ho]; try rfl)) (by rfl) (by first | rfl | (rw [ho]; try rfl)) ?_); (try rw [← ho]); cbv) | (refine hK _ _ ?_) | (refine NeedT.mk ?_ ?_))
            any_goals (((try clear hR3); (try clear hR2); (try clear hR); (try clear hK); (try simp only [ncCast] at *); (try simp only [castI_eq] at *); (try rw [ho]); (try dsimp only [Ar.real, IX.vo, IX.val, BX.val, IX.toN]); (try simp only [QP1, QB7, QSyVa, QB5]); (try simp only [decide_eq_true_eq]); (all_goals (repeat rw [wrap_i64 (by omega) (by omega)])); (all_goals (first | omega | (simp only [Int.ofNat_eq_natCast]; omega)))); done)
            refine LoopN.over (o := o) (D := dt3) ho hm hT (by kernel_rfl) (fun i : Nat => [(11, xn i)]) (fun i => [(1, .var (S4.X o (F i)) 35)]) (fun _ => []) (fun i => i ≤ ag.length) (fun i => ag.length - i) 0 (Nat.zero_le _) ?_ ?_
            · rw [f1]
              (refine ⟨?_, ?_, ?_, ?_⟩ <;> cbv <;> repeat' (first | trivial | exact EqX.rfl' | exact EqO.rfl' | apply And.intro | ((try clear hR3); (try clear hR2); (try clear hR); (try clear hK); (try simp only [ncCast] at *); (try simp only [castI_eq] at *); refine EqX.i ?_; (try rw [ho]); (try dsimp only [Ar.real, IX.vo, IX.val, BX.val, IX.toN]); (try simp only [QP1, QB7, QSyVa, QB5]); (repeat rw [wrap_i64 (by omega) (by omega)]); omega)))
            · clear f1
              intro i hi R hR
              have ei : o.nth ag i = ag.getD i default := by rw [ho, real_nth]
              rcases Nat.lt_or_ge i ag.length with hlt | hge
              · have h1 := hOf i
                have h3 := hVH i
                have h2 := x_sumsAdd (F i) (sumsOf (ag.getD i default).free)
                rw [c1 i hlt] at h2
                rw [c2 i hlt] at h3
                replace h2 := XC_at h2 (fun _ => rfl) (r' := .tup [.agg (S4.X Ar.real (F (i + 1))), .b .t]) (fun _ => rfl)
                replace h3 := XC_at h3 (fun _ => rfl) (r' := .b .t) (fun _ => rfl)
                rw [← ei] at h1 h2 h3
                generalize sumsOf (o.nth ag i).free = s at *
                generalize hMs : F (i + 1) = s' at *
                generalize F i = q at *
                obtain ⟨x1, x2, x3, x4⟩ := s
                obtain ⟨y1, y2, y3, y4⟩ := s'
                obtain ⟨z1, z2, z3, z4⟩ := q
                rw [← ho] at h1 h2 h3
                cbv
                repeat' (first | (refine Br.mk (fun hb => ?_) (fun hb => ?_) <;> ((try rw [ho] at hb); (try dsimp only [Ar.real, IX.vo] at hb); (try simp only [QP1, QB7, QSyVa, QB5] at hb); (try simp only [QBo, beq_iff_eq, beq_eq_false_iff_ne, ne_eq] at hb))) | (refine StopN.mk ?_; cbv) | ((first | refine CallN.pure hP h1 fn11 rfl rfl rfl ?_ | refine CallN.pure hP h2 fn7 rfl rfl rfl ?_ | refine CallN.pure hP h3 fn12 rfl rfl rfl ?_ | refine CallI.pure hP h3 fn12 rfl rfl rfl ?_); cbv) | ((first | refine CallI.pure hP (x_Right _ ‹_›) fn4 (by first | rfl | (rw [ho]; try rfl)) (by rfl) (by first | rfl | (rw [ho]; try rfl)) ?_ | refine CallN.pure hP (x_Right _ ‹_›) fn4 (by first | rfl | (rw [ho]; try rfl)) (by rfl) (by first | rfl | (rw [ho]; try rfl)) ?_); (try rw [← ho]); cbv) | ((first | refine CallI.pure hP (x_works16) fn5 (by first | rfl | (rw [ho]; try rfl)) (by rfl) (by first | rfl | (rw [ho]; try rfl)) ?_ | refine CallN.pure hP (x_works16) fn5 (by first | rfl | (rw [ho]; try rfl)) (by rfl) (by first | rfl | (rw [ho]; try rfl)) ?_); (try rw [← ho]); cbv) | ((first | refine CallI.pure hP (x_Roles _ ‹_›) fn6 (by first | rfl | (rw [ho]; try rfl)) (by rfl) (by first | rfl | (rw [ho]; try rfl)) ?_ | refine CallN.pure hP (x_Roles _ ‹_›) fn6 (by first | rfl | (rw [ho]; try rfl)) (by rfl) (by first | rfl | (rw [ho]; try rfl)) ?_); (try rw [← ho]); generalize hr : rolesP _ = r; (try rw [ho] at hr); (try dsimp only [Ar.real, IX.vo] at hr); (try simp only [QP1, QB7, QSyVa, QB5] at hr); cbv) | ((first | refine CallI.pure hP (x_bRoleSum _ ‹_› _) fn8 (by first | rfl | (rw [ho]; try rfl)) (by rfl) (by first | rfl | (rw [ho]; try rfl)) ?_ | refine CallN.pure hP (x_bRoleSum _ ‹_› _) fn8 (by first | rfl | (rw [ho]; try rfl)) (by rfl) (by first | rfl | (rw [ho]; try rfl)) ?_); (try rw [← ho]); cbv) | ((first | refine CallI.pure hP (x_sumsHolds _ _) fn9 (by first | rfl | (rw [ho]; try rfl)) (by rfl) (by first | rfl | (rw [ho]; try rfl)) ?_ | refine CallN.pure hP (x_sumsHolds _ _) fn9 (by first | rfl | (rw [ho]; try rfl)) (by rfl) (by first | rfl | (rw [ho]; try rfl)) ?_); (try rw [← ho]); generalize hr : sumsHolds _ _ = r; (try rw [ho] at hr); (try dsimp only [Ar.real, IX.vo] at hr); (try simp only [QP1, QB7, QSyVa, QB5] at hr); cbv) | ((first | refine CallI.pure hP (x_bSum _ ‹_› _) fn10 (by first | rfl | (rw [ho]; try rfl)) (by rfl) (by first | rfl | (rw [ho]; try rfl)) ?_ | refine CallN.pure hP (x_bSum _ ‹_› _) fn10 (by first | rfl | (rw [ho]; try rfl)) (by rfl) (by first | rfl | (rw [ho]; try rfl)) ?_); (try rw [← ho]); cbv) | ((first | refine CallI.pure hP (x_bTotal _ ‹_›) fn13 (by first | rfl | (rw [ho]; try rfl)) (by rfl) (by first | rfl | (rw [ho]; try rfl)) ?_ | refine CallN.pure hP (x_bTotal _ ‹_›) fn13 (by first | rfl | (rw [ho]; try rfl)) (by rfl) (by first | rfl | (rw [ho]; try rfl)) ?_); (try rw [← ho]); cbv) | (refine hK _ _ ?_) | (refine NeedT.mk ?_ ?_))
                any_goals (((try clear hR3); (try clear hR2); (try clear hR); (try clear hK); (try simp only [ncCast] at *); (try simp only [castI_eq] at *); (try rw [ho]); (try dsimp only [Ar.real, IX.vo, IX.val, BX.val, IX.toN]); (try simp only [QP1, QB7, QSyVa, QB5]); (try simp only [decide_eq_true_eq]); (all_goals (repeat rw [wrap_i64 (by omega) (by omega)])); (all_goals (first | omega | (simp only [Int.ofNat_eq_natCast]; omega)))); done)
                · refine hR _ (i + 1) (by show ag.length - (i + 1) < ag.length - i; omega) (by show i + 1 ≤ ag.length; omega) ?_
                  rw [hMs]
                  (refine ⟨?_, ?_, ?_, ?_⟩ <;> cbv <;> repeat' (first | trivial | exact EqX.rfl' | exact EqO.rfl' | apply And.intro | ((try clear hR3); (try clear hR2); (try clear hR); (try clear hK); (try simp only [ncCast] at *); (try simp only [castI_eq] at *); refine EqX.i ?_; (try rw [ho]); (try dsimp only [Ar.real, IX.vo, IX.val, BX.val, IX.toN]); (try simp only [QP1, QB7, QSyVa, QB5]); (repeat rw [wrap_i64 (by omega) (by omega)]); omega)))
              · rw [show ag.length = i by omega] at hTo
                clear hR ei
                generalize F i = q at *
                obtain ⟨z1, z2, z3, z4⟩ := q
                cbv
                repeat' (first | (refine Br.mk (fun hb => ?_) (fun hb => ?_) <;> ((try rw [ho] at hb); (try dsimp only [Ar.real, IX.vo] at hb); (try simp only [QP1, QB7, QSyVa, QB5] at hb); (try simp only [QBo, beq_iff_eq, beq_eq_false_iff_ne, ne_eq] at hb))) | (refine StopN.mk ?_; cbv) | ((first | refine CallN.pure hP hTo fn13 rfl rfl rfl ?_ | refine CallN.pure hP hWk fn5 rfl rfl rfl ?_ | refine CallI.pure hP hWk fn5 rfl rfl rfl ?_); cbv) | ((first | refine CallI.pure hP (x_Right _ ‹_›) fn4 (by first | rfl | (rw [ho]; try rfl)) (by rfl) (by first | rfl | (rw [ho]; try rfl)) ?_ | refine CallN.pure hP (x_Right _ ‹_›) fn4 (by first | rfl | (rw [ho]; try rfl)) (by rfl) (by first | rfl | (rw [ho]; try rfl)) ?_); (try rw [← ho]); cbv) | ((first | refine CallI.pure hP (x_Roles _ ‹_›) fn6 (by first | rfl | (rw [ho]; try rfl)) (by rfl) (by first | rfl | (rw [ho]; try rfl)) ?_ | refine CallN.pure hP (x_Roles _ ‹_›) fn6 (by first | rfl | (rw [ho]; try rfl)) (by rfl) (by first | rfl | (rw [ho]; try rfl)) ?_); (try rw [← ho]); generalize hr : rolesP _ = r; (try rw [ho] at hr); (try dsimp only [Ar.real, IX.vo] at hr); (try simp only [QP1, QB7, QSyVa, QB5] at hr); cbv) | ((first | refine CallI.pure hP (x_sumsAdd _ _) fn7 (by first | rfl | (rw [ho]; try rfl)) (by rfl) (by first | rfl | (rw [ho]; try rfl)) ?_ | refine CallN.pure hP (x_sumsAdd _ _) fn7 (by first | rfl | (rw [ho]; try rfl)) (by rfl) (by first | rfl | (rw [ho]; try rfl)) ?_); (try rw [← ho]); generalize hr : sumsAdd _ _ = r; (try rw [ho] at hr); (try dsimp only [Ar.real, IX.vo] at hr); (try simp only [QP1, QB7, QSyVa, QB5] at hr); cbv) | ((first | refine CallI.pure hP (x_bRoleSum _ ‹_› _) fn8 (by first | rfl | (rw [ho]; try rfl)) (by rfl) (by first | rfl | (rw [ho]; try rfl)) ?_ | refine CallN.pure hP (x_bRoleSum _ ‹_› _) fn8 (by first | rfl | (rw [ho]; try rfl)) (by rfl) (by first | rfl | (rw [ho]; try rfl)) ?_); (try rw [← ho]); cbv) | ((first | refine CallI.pure hP (x_sumsHolds _ _) fn9 (by first | rfl | (rw [ho]; try rfl)) (by rfl) (by first | rfl | (rw [ho]; try rfl)) ?_ | refine CallN.pure hP (x_sumsHolds _ _) fn9 (by first | rfl | (rw [ho]; try rfl)) (by rfl) (by first | rfl | (rw [ho]; try rfl)) ?_); (try rw [← ho]); generalize hr : sumsHolds _ _ = r; (try rw [ho] at hr); (try dsimp only [Ar.real, IX.vo] at hr); (try simp only [QP1, QB7, QSyVa, QB5] at hr); cbv) | ((first | refine CallI.pure hP (x_bSum _ ‹_› _) fn10 (by first | rfl | (rw [ho]; try rfl)) (by rfl) (by first | rfl | (rw [ho]; try rfl)) ?_ | refine CallN.pure hP (x_bSum _ ‹_› _) fn10 (by first | rfl | (rw [ho]; try rfl)) (by rfl) (by first | rfl | (rw [ho]; try rfl)) ?_); (try rw [← ho]); cbv) | ((first | refine CallI.pure hP (x_sumsOf _ ‹_›) fn11 (by first | rfl | (rw [ho]; try rfl)) (by rfl) (by first | rfl | (rw [ho]; try rfl)) ?_ | refine CallN.pure hP (x_sumsOf _ ‹_›) fn11 (by first | rfl | (rw [ho]; try rfl)) (by rfl) (by first | rfl | (rw [ho]; try rfl)) ?_); (try rw [← ho]); generalize hr : sumsOf _ = r; (try rw [ho] at hr); (try dsimp only [Ar.real, IX.vo] at hr); (try simp only [QP1, QB7, QSyVa, QB5] at hr); cbv) | ((first | refine CallI.pure hP (x_vecHolds _ _ ‹_› ‹_›) fn12 (by first | rfl | (rw [ho]; try rfl)) (by rfl) (by first | rfl | (rw [ho]; try rfl)) ?_ | refine CallN.pure hP (x_vecHolds _ _ ‹_› ‹_›) fn12 (by first | rfl | (rw [ho]; try rfl)) (by rfl) (by first | rfl | (rw [ho]; try rfl)) ?_); (try rw [← ho]); generalize hr : subV _ _ = r; (try rw [ho] at hr); (try dsimp only [Ar.real, IX.vo] at hr); (try simp only [QP1, QB7, QSyVa, QB5] at hr); cbv) | (refine hK _ _ ?_) | (refine NeedT.mk ?_ ?_))
                any_goals (((try clear hR3); (try clear hR2); (try clear hR); (try clear hK); (try simp only [ncCast] at *); (try simp only [castI_eq] at *); (try rw [ho]); (try dsimp only [Ar.real, IX.vo, IX.val, BX.val, IX.toN]); (try simp only [QP1, QB7, QSyVa, QB5]); (try simp only [decide_eq_true_eq]); (all_goals (repeat rw [wrap_i64 (by omega) (by omega)])); (all_goals (first | omega | (simp only [Int.ofNat_eq_natCast]; omega)))); done)
                all_goals first | exact .b rfl | exact absurd hb (by decide)
  · replace hRt := XC_at hRt (fun _ => rfl) (r' := .tup [xi (ruleP b), .b .f]) (fun c => by rw [decide_eq_false h0]; rfl)
    generalize ruleP b = r at *
    clear hF hRo hRS hSm hTo hOf hVH hrl
    obtain ⟨⟨k1, k2, k3, k4, k5, ⟨k6, k7, k8, k9⟩⟩, now, last, fr, ag, of, tk, fl⟩ := b
    clear hbk
    dsimp only at *
    (refine XC.of_body (dt3) Try.func3 rfl Try.ntmps3 mixed (T := tl3) tk3 (by kernel_rfl) (by simp) rfl rfl rfl rfl rfl ?_; rintro o ho P hP c K hK; have hm : P.follows .mixedOrders = true := hP ▸ mixed; have hT : TOk P tl3 := hP ▸ tk3; (try rw [← ho]); cbv; (repeat (refine StopN.mk ?_; cbv)))
    rw [← ho] at hRt
    repeat' (first | (refine Br.mk (fun hb => ?_) (fun hb => ?_) <;> ((try rw [ho] at hb); (try dsimp only [Ar.real, IX.vo] at hb); (try simp only [QP1, QB7, QSyVa, QB5] at hb); (try simp only [QBo, beq_iff_eq, beq_eq_false_iff_ne, ne_eq] at hb))) | (refine StopN.mk ?_; cbv) | ((first | refine CallI.pure hP hRt fn4 rfl rfl rfl ?_ | refine CallI.pure hP hWk fn5 rfl rfl rfl ?_); cbv) | ((first | refine CallI.pure hP (x_Roles _ ‹_›) fn6 (by first | rfl | (rw [ho]; try rfl)) (by rfl) (by first | rfl | (rw [ho]; try rfl)) ?_ | refine CallN.pure hP (x_Roles _ ‹_›) fn6 (by first | rfl | (rw [ho]; try rfl)) (by rfl) (by first | rfl | (rw [ho]; try rfl)) ?_); (try rw [← ho]); generalize hr : rolesP _ = r; (try rw [ho] at hr); (try dsimp only [Ar.real, IX.vo] at hr); (try simp only [QP1, QB7, QSyVa, QB5] at hr); cbv) | ((first | refine CallI.pure hP (x_sumsAdd _ _) fn7 (by first | rfl | (rw [ho]; try rfl)) (by rfl) (by first | rfl | (rw [ho]; try rfl)) ?_ | refine CallN.pure hP (x_sumsAdd _ _) fn7 (by first | rfl | (rw [ho]; try rfl)) (by rfl) (by first | rfl | (rw [ho]; try rfl)) ?_); (try rw [← ho]); generalize hr : sumsAdd _ _ = r; (try rw [ho] at hr); (try dsimp only [Ar.real, IX.vo] at hr); (try simp only [QP1, QB7, QSyVa, QB5] at hr); cbv) | ((first | refine CallI.pure hP (x_bRoleSum _ ‹_› _) fn8 (by first | rfl | (rw [ho]; try rfl)) (by rfl) (by first | rfl | (rw [ho]; try rfl)) ?_ | refine CallN.pure hP (x_bRoleSum _ ‹_› _) fn8 (by first | rfl | (rw [ho]; try rfl)) (by rfl) (by first | rfl | (rw [ho]; try rfl)) ?_); (try rw [← ho]); cbv) | ((first | refine CallI.pure hP (x_sumsHolds _ _) fn9 (by first | rfl | (rw [ho]; try rfl)) (by rfl) (by first | rfl | (rw [ho]; try rfl)) ?_ | refine CallN.pure hP (x_sumsHolds _ _) fn9 (by first | rfl | (rw [ho]; try rfl)) (by rfl) (by first | rfl | (rw [ho]; try rfl)) ?_); (try rw [← ho]); generalize hr : sumsHolds _ _ = r; (try rw [ho] at hr); (try dsimp only [Ar.real, IX.vo] at hr); (try simp only [QP1, QB7, QSyVa, QB5] at hr); cbv) | ((first | refine CallI.pure hP (x_bSum _ ‹_› _) fn10 (by first | rfl | (rw [ho]; try rfl)) (by rfl) (by first | rfl | (rw [ho]; try rfl)) ?_ | refine CallN.pure hP (x_bSum _ ‹_› _) fn10 (by first | rfl | (rw [ho]; try rfl)) (by rfl) (by first | rfl | (rw [ho]; try rfl)) ?_); (try rw [← ho]); cbv) | ((first | refine CallI.pure hP (x_sumsOf _ ‹_›) fn11 (by first | rfl | (rw [ho]; try rfl)) (by rfl) (by first | rfl | (rw [ho]; try rfl)) ?_ | refine CallN.pure hP (x_sumsOf _ ‹_›) fn11 (by first | rfl | (rw [ho]; try rfl)) (by rfl) (by first | rfl | (rw [ho]; try rfl)) ?_); (try rw [← ho]); generalize hr : sumsOf _ = r; (try rw [ho] at hr); (try dsimp only [Ar.real, IX.vo] at hr); (try simp only [QP1, QB7, QSyVa, QB5] at hr); cbv) | ((first | refine CallI.pure hP (x_vecHolds _ _ ‹_› ‹_›) fn12 (by first | rfl | (rw [ho]; try rfl)) (by rfl) (by first | rfl | (rw [ho]; try rfl)) ?_ | refine CallN.pure hP (x_vecHolds _ _ ‹_› ‹_›) fn12 (by first | rfl | (rw [ho]; try rfl)) (by rfl) (by first | rfl | (rw [ho]; try rfl)) ?_); (try rw [← ho]); generalize hr : subV _ _ = r; (try rw [ho] at hr); (try dsimp only [Ar.real, IX.vo] at hr); (try simp only [QP1, QB7, QSyVa, QB5] at hr); cbv) | ((first | refine CallI.pure hP (x_bTotal _ ‹_›) fn13 (by first | rfl | (rw [ho]; try rfl)) (by rfl) (by first | rfl | (rw [ho]; try rfl)) ?_ | refine CallN.pure hP (x_bTotal _ ‹_›) fn13 (by first | rfl | (rw [ho]; try rfl)) (by rfl) (by first | rfl | (rw [ho]; try rfl)) ?_); (try rw [← ho]); cbv) | (refine hK _ _ ?_) | (refine NeedT.mk ?_ ?_))
    all_goals exact .b rfl
end Go.Proofs.Ytpijibffjohikaa.Sy

/-
  Sorting and compacting of whole numbers: contracts. Plain theorems.
-/
import Derived.Test.YtlblpbahoblihaaGreatSyLd
import Derived.Test.YtlblpbahoblihaaGreatSySp
import Derived.Shelf.SortM.Plain
import Derived.Shelf.SortM.SortNone
import Derived.Shelf.SlicesG.CompactI
import Derived.Test.YtlblpbahoblihaaGreatMg
import Derived.Test.YtlblpbahoblihaaGreatMd
import Derived.Test.YtlblpbahoblihaaGreatMf
set_option linter.unusedSimpArgs false
set_option linter.unusedSectionVars false
set_option maxRecDepth 100000
set_option linter.unusedVariables false
set_option maxHeartbeats 8000000
namespace Go.Proofs.YtlblpbahoblihaaGreat.Sy
open Go Go.Sy Go.Proofs Go.Proofs.YtlblpbahoblihaaGreat
theorem sortsI : SortsI Tryz.prog 39 := ⟨fun w => AnyM.slices_Sort_int_none lsort none 0 w, fun blk off cap zs w h1 h2 h3 => AnyM.slices_Sort_int lsort blk off cap zs w h1 h2 h3⟩
theorem compactsI : CompactsI Tryz.prog 40 := ⟨fun A cap w => AnyG.slices_Compact_int_empty lcomp A cap w, fun blk off cap zs w h1 h2 h3 => AnyG.slices_Compact_int lcomp blk off cap zs w h1 h2 h3⟩
end Go.Proofs.YtlblpbahoblihaaGreat.Sy
namespace Go.Proofs.YtlblpbahoblihaaGreat.Sy
open Go Go.Sy Go.Proofs.YtlblpbahoblihaaGreat
theorem sk_cons (p : Part) (l : List Part) (k : Int) : sk (p :: l) k = (if p.kind = k then p.amount else 0) + sk l k := rfl
theorem mrg_sk : ∀ (us vs l : List Part) (k : Int), mrg us vs = some l → sk l k = sk us k + sk vs k
  | [], vs, l, k, h => by
    rw [mrg] at h
    cases h
    simp [sk]
  | x :: us, [], l, k, h => by
    rw [mrg] at h
    cases h
    simp [sk]
  | x :: us, y :: vs, l, k, h => by
    rw [mrg] at h
    split at h
    · cases hm : mrg us (y :: vs) with
      | none => rw [hm] at h; cases h
      | some m =>
        rw [hm] at h
        cases h
        have := mrg_sk us (y :: vs) m k hm
        rw [sk_cons, this, sk_cons x us]
        omega
    · rename_i h1
      split at h
      · cases hm : mrg (x :: us) vs with
        | none => rw [hm] at h; cases h
        | some m =>
          rw [hm] at h
          cases h
          have := mrg_sk (x :: us) vs m k hm
          rw [sk_cons, this, sk_cons y]
          omega
      · rename_i h2
        obtain ⟨c1, c2⟩ := slotCmp_eq h1 h2
        split at h
        · rename_i h3
          obtain ⟨_, a4⟩ := qAdd_iff h3
          cases hm : mrg us vs with
          | none => rw [hm] at h; cases h
          | some m =>
            rw [hm] at h
            cases h
            have := mrg_sk us vs m k hm
            simp only [sk_cons]
            rw [this, a4, c1]
            split <;> omega
        · cases h
termination_by us vs => us.length + vs.length
theorem addV_sk {u v : List Part} (h : (addV u v).2 = true) (k : Int) : sk (addV u v).1 k = sk u k + sk v k := by
  unfold addV at h ⊢
  split at h
  · rename_i h1
    rw [if_pos h1]
    cases hm : mrg u v with
    | none => rw [hm] at h; cases h
    | some l => exact mrg_sk u v l k hm
  · cases h
section
variable {α : Type} [Inhabited α]
def hS (l : List α) (p : α → Bool) (v : α → List Part) (k : Int) : Nat → Int
  | 0 => 0
  | i + 1 => hS l p v k i + if p (l.getD i default) = true then sk (v (l.getD i default)) k else 0
theorem hS_nn {l : List α} {p : α → Bool} {v : α → List Part} (h : ∀ i, i < l.length → VOk (v (l.getD i default))) (k : Int) : ∀ i, i ≤ l.length → 0 ≤ hS l p v k i
  | 0, _ => Int.le_refl 0
  | i + 1, hi => by
    have h1 := hS_nn (p := p) h k i (by omega)
    have h2 := sk_nn (h i (by omega)).ok k
    simp only [hS]
    split <;> omega
theorem hS_le {l : List α} {p q : α → Bool} {v : α → List Part} (h : ∀ i, i < l.length → VOk (v (l.getD i default))) (hpq : ∀ x, p x = true → q x = true) (k : Int) : ∀ i, i ≤ l.length → hS l p v k i ≤ hS l q v k i
  | 0, _ => Int.le_refl 0
  | i + 1, hi => by
    have h1 := hS_le h hpq k i (by omega)
    have h2 := sk_nn (h i (by omega)).ok k
    have h3 := hpq (l.getD i default)
    simp only [hS]
    split
    · rename_i h4
      rw [if_pos (h3 h4)]
      omega
    · split <;> omega
theorem hS_mono {l : List α} {p : α → Bool} {v : α → List Part} (h : ∀ i, i < l.length → VOk (v (l.getD i default))) (k : Int) {i : Nat} : ∀ j, i ≤ j → j ≤ l.length → hS l p v k i ≤ hS l p v k j
  | 0, hij, _ => by
    obtain rfl : i = 0 := by omega
    exact Int.le_refl _
  | j + 1, hij, hj => by
    rcases Nat.lt_or_ge i (j + 1) with h1 | h1
    · have h2 := hS_mono (p := p) h k (i := i) j (by omega) (by omega)
      have h3 := sk_nn (h j (by omega)).ok k
      simp only [hS]
      split <;> omega
    · obtain rfl : i = j + 1 := by omega
      exact Int.le_refl _
end
def sumI (f : Nat → Int) : Nat → Int
  | 0 => 0
  | n + 1 => sumI f n + f n
theorem sumI_add (f g : Nat → Int) : ∀ n, sumI (fun i => f i + g i) n = sumI f n + sumI g n
  | 0 => rfl
  | n + 1 => by
    simp only [sumI, sumI_add f g n]
    omega
theorem sumI_zero {f : Nat → Int} : ∀ n, (∀ i, i < n → f i = 0) → sumI f n = 0
  | 0, _ => rfl
  | n + 1, h => by
    simp only [sumI]
    rw [sumI_zero n fun i hi => h i (by omega), h n (by omega)]
    rfl
theorem sumI_one {p : Nat → Bool} (x : Int) : ∀ n, (∃ i, i < n ∧ p i = true) → (∀ i j, i < n → j < n → p i = true → p j = true → i = j) → sumI (fun i => if p i = true then x else 0) n = x
  | 0, h, _ => by obtain ⟨i, hi, _⟩ := h; omega
  | n + 1, h, hu => by
    obtain ⟨i, hi, hp⟩ := h
    simp only [sumI]
    rcases Nat.lt_or_ge i n with h1 | h1
    · rw [sumI_one x n ⟨i, h1, hp⟩ fun a b ha hb => hu a b (by omega) (by omega)]
      rw [if_neg fun h2 => by have := hu i n hi (by omega) hp h2; omega]
      omega
    · obtain rfl : i = n := by omega
      rw [if_pos hp, sumI_zero]
      · omega
      · intro j hj
        rw [if_neg fun h2 => by have := hu j i (by omega) hi h2 hp; omega]
theorem sumI_congr {f g : Nat → Int} : ∀ n, (∀ i, i < n → f i = g i) → sumI f n = sumI g n
  | 0, _ => rfl
  | n + 1, h => by
    simp only [sumI]
    rw [sumI_congr n fun i hi => h i (by omega), h n (by omega)]
theorem hS_parts {α : Type} [Inhabited α] {l : List α} {v : α → List Part} (k : Int) (q : Nat → α → Bool) (n : Nat) : ∀ i, (∀ j, j < i → (∃ a, a < n ∧ q a (l.getD j default) = true) ∧ ∀ a b, a < n → b < n → q a (l.getD j default) = true → q b (l.getD j default) = true → a = b) →
    sumI (fun a => hS l (q a) v k i) n = hS l (fun _ => true) v k i
  | 0, _ => sumI_zero n fun _ _ => rfl
  | i + 1, h => by
    have h1 := hS_parts (v := v) k q n i fun j hj => h j (by omega)
    obtain ⟨h2, h3⟩ := h i (by omega)
    have h4 := sumI_add (fun a => hS l (q a) v k i) (fun a => if q a (l.getD i default) = true then sk (v (l.getD i default)) k else 0) n
    rw [sumI_one (p := fun a => q a (l.getD i default)) _ n h2 h3, h1] at h4
    simp only [hS, if_true]
    exact h4
theorem gStep_t {g : Int} {s : VB} {a : Int} {v : List Part} (h : (gStep g s a v).2 = true) : s.2 = true := by
  apply Classical.byContradiction
  intro hn
  rw [gStep_f (by simpa using hn)] at h
  exact hn h
theorem gStep_sk {g : Int} {s : VB} {a : Int} {v : List Part} (h : (gStep g s a v).2 = true) (k : Int) : sk (gStep g s a v).1 k = sk s.1 k + if decide (a = g) = true then sk v k else 0 := by
  have hs := gStep_t h
  unfold gStep at h ⊢
  by_cases e : a = g
  · rw [if_pos ⟨hs, e⟩] at h ⊢
    rw [if_pos (decide_eq_true e), addV_sk h]
  · rw [if_neg fun h2 => e h2.2, if_neg fun h2 => e (of_decide_eq_true h2)]
    omega
theorem gO_sk {g : Int} {s : VB} {l : List Ofr} (k : Int) : ∀ i, (gO g s l i).2 = true → sk (gO g s l i).1 k = sk s.1 k + hS l (fun x => decide (x.agent = g)) (·.vec) k i
  | 0, _ => by simp [gO, hS]
  | i + 1, h => by
    have h1 := gStep_sk h k
    have h2 := gO_sk (l := l) k i (gStep_t h)
    simp only [gO, hS] at h1 ⊢
    rw [h1, h2]
    omega
theorem gT_sk {g : Int} {s : VB} {l : List Tsk} (k : Int) : ∀ i, (gT g s l i).2 = true → sk (gT g s l i).1 k = sk s.1 k + hS l (fun x => decide (x.agent = g)) (·.vec) k i
  | 0, _ => by simp [gT, hS]
  | i + 1, h => by
    have h1 := gStep_sk h k
    have h2 := gT_sk (l := l) k i (gStep_t h)
    simp only [gT, hS] at h1 ⊢
    rw [h1, h2]
    omega
theorem gT_t {g : Int} {s : VB} {l : List Tsk} : ∀ i, (gT g s l i).2 = true → s.2 = true
  | 0, h => h
  | i + 1, h => gT_t i (gStep_t h)
theorem LdOk.sk {b : Bk} {i : Nat} (h : LdOk b i) (k : Int) : sk (b.ag.getD i default).total k = sk (b.ag.getD i default).free k + (hS b.of (fun x => decide (x.agent = (b.ag.getD i default).id)) (·.vec) k b.of.length + hS b.tk (fun x => decide (x.agent = (b.ag.getD i default).id)) (·.vec) k b.tk.length) := by
  obtain ⟨h1, h2⟩ := h
  rw [← of_decide_eq_true h2]
  unfold gAll at h1 ⊢
  rw [gT_sk k _ h1, gO_sk k _ (gT_t _ h1)]
  dsimp only
  omega
def fS (l : List Agt) (k : Int) : Nat → Int
  | 0 => 0
  | i + 1 => fS l k i + sk (l.getD i default).free k
def heldK (b : Bk) (p : Int → Bool) (k : Int) : Int := hS b.of (fun x => p x.frame) (·.vec) k b.of.length + hS b.tk (fun x => p x.frame) (·.vec) k b.tk.length
structure RightB (b : Bk) : Prop where
  set : setB b = true
  fr : framesB b = true
  ag : agentsB b = true
  most : mostB b = true
  of : offersB b = true
  tk : tasksB b = true
  fl : filtersB b = true
  led : ∀ i, i < b.ag.length → LdOk b i
theorem ruleP_right {b : Bk} (h : ruleP b = 0) : RightB b := by
  unfold ruleP at h
  have hb : ∀ {x : Bool}, ¬ x = false → x = true := fun {x} hx => by cases x <;> simp_all
  split at h; · cases h
  split at h; · cases h
  split at h; · cases h
  split at h; · cases h
  split at h; · cases h
  split at h; · cases h
  split at h; · cases h
  split at h; · cases h
  rename_i h1 h2 h3 h4 h5 h6 h7 h8
  refine ⟨hb h1, hb h2, hb h3, hb h4, hb h5, hb h6, hb h7, ?_⟩
  have h9 := hb h8
  rw [ledgerB_eq (hb h3) (hb h5) (hb h6)] at h9
  exact pB_iff.1 h9
theorem RightB.agent {b : Bk} (h : RightB b) : ∀ i, i < b.ag.length → AgtOk b.ag i := (pB_iff.1 h.ag).1
theorem RightB.ofr {b : Bk} (h : RightB b) (j : Nat) (hj : j < b.of.length) : (0 ≤ atFrame b.fr (b.of.getD j default).frame ∧ 0 ≤ atAgent b.ag (b.of.getD j default).agent ∧ VOk (b.of.getD j default).vec) := by
  have h1 := ((OfrOk_iff b j).1 (pB_iff.1 h.of j hj)).1
  exact ⟨h1.1, h1.2.1, (vecRight_iff _).1 ((ownB_iff _ _).1 h1.2.2).2.2⟩
theorem RightB.tsk {b : Bk} (h : RightB b) (j : Nat) (hj : j < b.tk.length) : (0 ≤ atFrame b.fr (b.tk.getD j default).frame ∧ 0 ≤ atAgent b.ag (b.tk.getD j default).agent ∧ VOk (b.tk.getD j default).vec) := by
  have h1 := ((pB_iff.1 h.tk).1 j hj).held
  rw [held_own, Bool.and_eq_true, Bool.and_eq_true, decide_eq_true_eq, decide_eq_true_eq] at h1
  exact ⟨h1.1, h1.2.1, (vecRight_iff _).1 ((ownB_iff _ _).1 h1.2.2).2.2⟩
theorem ids_inj {l : List Agt} (h : ∀ i, i < l.length → AgtOk l i) {i j : Nat} (hi : i < l.length) (hj : j < l.length) (e : (l.getD i default).id = (l.getD j default).id) : i = j := by
  rcases Nat.lt_trichotomy i j with h1 | h1 | h1
  · have := ids_lt h j hj i h1
    omega
  · exact h1
  · have := ids_lt h i hi j h1
    omega
theorem fS_eq (l : List Agt) (k : Int) : ∀ n, fS l k n = sumI (fun i => sk (l.getD i default).free k) n
  | 0 => rfl
  | n + 1 => by simp only [fS, sumI, fS_eq l k n]
theorem agS_eq (l : List Agt) (k : Int) : ∀ n, agS l k n = sumI (fun i => sk (l.getD i default).total k) n
  | 0 => rfl
  | n + 1 => by simp only [agS, sumI, agS_eq l k n]
theorem RightB.all {b : Bk} (h : RightB b) (k : Int) : agS b.ag k b.ag.length = fS b.ag k b.ag.length + heldK b (fun _ => true) k := by
  have hA := h.agent
  have h1 : ∀ j, j < b.of.length → (∃ a, a < b.ag.length ∧ decide ((b.of.getD j default).agent = (b.ag.getD a default).id) = true) ∧ ∀ a c, a < b.ag.length → c < b.ag.length → decide ((b.of.getD j default).agent = (b.ag.getD a default).id) = true → decide ((b.of.getD j default).agent = (b.ag.getD c default).id) = true → a = c := fun j hj => by
    obtain ⟨a, ha, e⟩ := atAgent_mem (h.ofr j hj).2.1
    exact ⟨⟨a, ha, decide_eq_true e.symm⟩, fun a c ha hc e1 e2 => ids_inj hA ha hc ((of_decide_eq_true e1).symm.trans (of_decide_eq_true e2))⟩
  have h2 : ∀ j, j < b.tk.length → (∃ a, a < b.ag.length ∧ decide ((b.tk.getD j default).agent = (b.ag.getD a default).id) = true) ∧ ∀ a c, a < b.ag.length → c < b.ag.length → decide ((b.tk.getD j default).agent = (b.ag.getD a default).id) = true → decide ((b.tk.getD j default).agent = (b.ag.getD c default).id) = true → a = c := fun j hj => by
    obtain ⟨a, ha, e⟩ := atAgent_mem (h.tsk j hj).2.1
    exact ⟨⟨a, ha, decide_eq_true e.symm⟩, fun a c ha hc e1 e2 => ids_inj hA ha hc ((of_decide_eq_true e1).symm.trans (of_decide_eq_true e2))⟩
  have e1 := hS_parts (v := (·.vec)) k (fun a (x : Ofr) => decide (x.agent = (b.ag.getD a default).id)) b.ag.length b.of.length h1
  have e2 := hS_parts (v := (·.vec)) k (fun a (x : Tsk) => decide (x.agent = (b.ag.getD a default).id)) b.ag.length b.tk.length h2
  rw [agS_eq, fS_eq, sumI_congr _ fun i hi => (h.led i hi).sk k, sumI_add, sumI_add]
  unfold heldK
  rw [← e1, ← e2]
theorem RightB.sk {b : Bk} (h : RightB b) (k : Int) (hk : k = 0 ∨ k = 1 ∨ k = 2 ∨ k = 3) : agS b.ag k b.ag.length ≤ 9007199254740992 := by
  have h1 := pB_iff.1 h.most b.ag.length (Nat.le_refl _)
  have h2 := (cfgB_iff.1 (setB_true h.set).1).most
  unfold leM agT S4.of at h1
  dsimp only at h1
  rcases hk with rfl | rfl | rfl | rfl <;> omega
theorem RightB.free {b : Bk} (h : RightB b) (i : Nat) (hi : i < b.ag.length) : VOk (b.ag.getD i default).free := (vecRight_iff _).1 (h.agent i hi).fre
theorem fS_nn {b : Bk} (h : RightB b) (k : Int) : ∀ n, n ≤ b.ag.length → 0 ≤ fS b.ag k n
  | 0, _ => Int.le_refl 0
  | n + 1, hn => by
    have h1 := fS_nn h k n (by omega)
    have h2 := sk_nn (h.free n (by omega)).ok k
    simp only [fS]
    omega
theorem RightB.held {b : Bk} (h : RightB b) (p : Int → Bool) (k : Int) (hk : k = 0 ∨ k = 1 ∨ k = 2 ∨ k = 3) : 0 ≤ heldK b p k ∧ heldK b p k ≤ 9007199254740992 := by
  have h1 := fun i hi => (h.ofr i hi).2.2
  have h2 := fun i hi => (h.tsk i hi).2.2
  have a1 := hS_nn (p := fun x : Ofr => p x.frame) (v := (·.vec)) h1 k _ (Nat.le_refl _)
  have a2 := hS_nn (p := fun x : Tsk => p x.frame) (v := (·.vec)) h2 k _ (Nat.le_refl _)
  have a3 := hS_le (p := fun x : Ofr => p x.frame) (q := fun _ => true) (v := (·.vec)) h1 (fun _ _ => rfl) k _ (Nat.le_refl _)
  have a4 := hS_le (p := fun x : Tsk => p x.frame) (q := fun _ => true) (v := (·.vec)) h2 (fun _ _ => rfl) k _ (Nat.le_refl _)
  have a5 := h.all k
  have a6 := h.sk k hk
  have a7 := fS_nn h k _ (Nat.le_refl _)
  unfold heldK at a5 ⊢
  dsimp only at a5
  omega
end Go.Proofs.YtlblpbahoblihaaGreat.Sy
namespace Go.Proofs.YtlblpbahoblihaaGreat.Sy
open Go Go.Sy Go.Proofs.YtlblpbahoblihaaGreat
def rolesP (b : Bk) : List Int := cpcI (sortI (b.fr.map (·.role)))
def roleB (b : Bk) (r f : Int) : Bool := decide (0 ≤ atFrame b.fr f) && decide ((b.fr.getD (atFrame b.fr f).toNat default).role = r)
theorem rolesP_mem (b : Bk) (r : Int) : r ∈ rolesP b ↔ ∃ f ∈ b.fr, f.role = r := by
  unfold rolesP
  rw [cpcI_mem, sortI_mem, List.mem_map]
theorem rolesP_up (b : Bk) : (rolesP b).Pairwise (· < ·) := cpcI_up (sortI_up _)
theorem fids_lt {l : List Frm} (h : ∀ i, i < l.length → FrmOk l i) : ∀ j, j < l.length → ∀ i, i < j → (l.getD i default).id < (l.getD j default).id
  | 0, _, i, hi => absurd hi (Nat.not_lt_zero i)
  | j + 1, hj, i, hi => by
    have h1 := (h (j + 1) hj).up (by omega)
    rw [Nat.add_sub_cancel] at h1
    rcases Nat.lt_or_ge i j with h2 | h2
    · exact Int.lt_trans (fids_lt h j (by omega) i h2) h1
    · obtain rfl : i = j := by omega
      exact h1
end Go.Proofs.YtlblpbahoblihaaGreat.Sy
namespace Go.Proofs.YtlblpbahoblihaaGreat.Sy
open Go Go.Sy Go.Proofs.YtlblpbahoblihaaGreat
def sumF {α : Type} [Inhabited α] (l : List α) (p : α → Bool) (v : α → List Part) (s : S4) : Nat → S4
  | 0 => s
  | i + 1 => if p (l.getD i default) = true then (sumsAdd (sumF l p v s i) (sumsOf (v (l.getD i default)))).1 else sumF l p v s i
def s40 : S4 := ⟨0, 0, 0, 0⟩
def sumW (b : Bk) (p : Int → Bool) : S4 := sumF b.tk (fun x => p x.frame) (·.vec) (sumF b.of (fun x => p x.frame) (·.vec) s40 b.of.length) b.tk.length
def totF (b : Bk) : S4 := sumF b.ag (fun _ => true) (·.total) s40 b.ag.length
theorem upLb : ∀ l : List OX, upL l l
  | [] => trivial
  | a :: l => ⟨fun c => upO_refl _, upLb l⟩
@[reducible] def rsOb (o : Ar) (b : Bk) (r : Int) : List OX := [.var (Bk.X o b) 31, .var [xi r] 3]
theorem x_roleSum1 (o : Ar) (ho : o = Ar.real) (b : Bk) (hbk : BkOk b) (r f : Int) : XC Tryz.prog 37 [xi f, .ptr (.out 0) 0, .ptr (.out 1) 0] (rsOb o b r) (xb (roleB b r f)) (rsOb o b r) := by
  have h1 := x_Frame b hbk f
  have hlt := atFrame_lt b.fr f
  unfold roleB
  have n1 := hbk.n_fr
  generalize atFrame b.fr f = z at *
  obtain ⟨⟨c1, c2, c3, c4, c5, ⟨c6, c7, c8, c9⟩⟩, now, last, fr, ag, of, tk, fl⟩ := b
  clear hbk
  dsimp only at *
  have hz : z < (fr.length : Int) := by
    by_cases h : 0 ≤ z
    · have := hlt h
      omega
    · omega
  (refine XC.of_body (dt37) Tryz.func37 rfl Tryz.ntmps37 mixed (T := tl37) tk37 (by kernel_rfl) (by simp) rfl rfl rfl rfl rfl ?_; rintro o2 ho2 P hP c K hK; have hm : P.follows .mixedOrders = true := hP ▸ mixed; have hT : TOk P tl37 := hP ▸ tk37; (try rw [← ho2]); have e2 : o = o2 := ho.trans ho2.symm; subst e2; cbv; (repeat (refine StopN.mk ?_; cbv)))
  rw [← ho] at h1
  repeat' (first | (refine Br.mk (fun hb => ?_) (fun hb => ?_) <;> ((try rw [ho] at hb); (try dsimp only [Ar.real, IX.vo] at hb); (try simp only [QP1, QB7, QSyVa] at hb); (try simp only [QBo, beq_iff_eq, beq_eq_false_iff_ne, ne_eq] at hb))) | (refine StopN.mk ?_; cbv) | ((first | refine CallI.pure hP h1 fn38 rfl rfl rfl ?_ | refine CallN.pure hP h1 fn38 rfl rfl rfl ?_); cbv) | (refine hK _ _ ?_) | (refine NeedT.mk ?_ ?_))
  any_goals (((try clear hR3); (try clear hR2); (try clear hR); (try clear hK); (try simp only [ncCast] at *); (try simp only [castI_eq] at *); (try rw [ho]); (try dsimp only [Ar.real, IX.vo, IX.val, BX.val, IX.toN]); (try simp only [QP1, QB7, QSyVa]); (try simp only [decide_eq_true_eq]); (all_goals (repeat rw [wrap_i64 (by omega) (by omega)])); (all_goals (first | omega | (simp only [Int.ofNat_eq_natCast]; omega)))); done)
  · refine FinX_bOr ?_ rfl
    rw [decide_eq_true ‹0 ≤ z›, Bool.true_and, ho]
    exact eqIB_eq _ _
  · refine FinX_bOr ?_ rfl
    rw [decide_eq_false (Int.not_le.2 hb), Bool.false_and]
    rfl
theorem x_bsumR (o : Ar) (ho : o = Ar.real) (b : Bk) (hbk : BkOk b) (r : Int) : XC Tryz.prog 34 [.agg (Bk.X o b), .fn (.func 37) [] [.ptr (.out 0) 0, .ptr (.out 1) 0]] (rsOb o b r) (.agg (S4.X o (sumW b (roleB b r)))) (rsOb o b r) := by
  have hq := fun f => x_roleSum1 o ho b hbk r f
  have n1 := hbk.n_of
  have n2 := hbk.n_tk
  have hO := fun i => x_sumsOf (b.of.getD i default).vec (hbk.o1 i)
  have hT1 := fun i => x_sumsOf (b.tk.getD i default).vec (hbk.t1 i)
  have a0 : sumF b.of (fun x => roleB b r x.frame) (·.vec) s40 0 = s40 := rfl
  have a1 : ∀ i, sumF b.of (fun x => roleB b r x.frame) (·.vec) s40 (i + 1) = if roleB b r (b.of.getD i default).frame = true then (sumsAdd (sumF b.of (fun x => roleB b r x.frame) (·.vec) s40 i) (sumsOf (b.of.getD i default).vec)).1 else sumF b.of (fun x => roleB b r x.frame) (·.vec) s40 i := fun _ => rfl
  have c0 : sumF b.tk (fun x => roleB b r x.frame) (·.vec) (sumF b.of (fun x => roleB b r x.frame) (·.vec) s40 b.of.length) 0 = sumF b.of (fun x => roleB b r x.frame) (·.vec) s40 b.of.length := rfl
  have c1 : ∀ i, sumF b.tk (fun x => roleB b r x.frame) (·.vec) (sumF b.of (fun x => roleB b r x.frame) (·.vec) s40 b.of.length) (i + 1) = if roleB b r (b.tk.getD i default).frame = true then (sumsAdd (sumF b.tk (fun x => roleB b r x.frame) (·.vec) (sumF b.of (fun x => roleB b r x.frame) (·.vec) s40 b.of.length) i) (sumsOf (b.tk.getD i default).vec)).1 else sumF b.tk (fun x => roleB b r x.frame) (·.vec) (sumF b.of (fun x => roleB b r x.frame) (·.vec) s40 b.of.length) i := fun _ => rfl
  have hres : sumW b (roleB b r) = sumF b.tk (fun x => roleB b r x.frame) (·.vec) (sumF b.of (fun x => roleB b r x.frame) (·.vec) s40 b.of.length) b.tk.length := rfl
  generalize sumW b (roleB b r) = res at *
  generalize sumF b.tk (fun x => roleB b r x.frame) (·.vec) (sumF b.of (fun x => roleB b r x.frame) (·.vec) s40 b.of.length) = M2 at *
  generalize sumF b.of (fun x => roleB b r x.frame) (·.vec) s40 = M1 at *
  generalize roleB b r = q at *
  obtain ⟨⟨k1, k2, k3, k4, k5, ⟨k6, k7, k8, k9⟩⟩, now, last, fr, ag, of, tk, fl⟩ := b
  clear hbk
  dsimp only at *
  (refine XC.of_body (dt34) Tryz.func34 rfl Tryz.ntmps34 mixed (T := tl34) tk34 (by kernel_rfl) (by simp) rfl rfl rfl rfl rfl ?_; rintro o2 ho2 P hP c K hK; have hm : P.follows .mixedOrders = true := hP ▸ mixed; have hT : TOk P tl34 := hP ▸ tk34; (try rw [← ho2]); have e2 : o = o2 := ho.trans ho2.symm; subst e2; cbv; (repeat (refine StopN.mk ?_; cbv)))
  refine LoopN.over (o := o) (D := dt34) ho hm hT (by kernel_rfl) (fun i : Nat => [(13, xn i)]) (fun i => [(2, .var (S4.X o (M1 i)) 35)]) (fun _ => []) (fun i => i ≤ of.length) (fun i => of.length - i) 0 (Nat.zero_le _) ?_ ?_
  · rw [a0]
    (refine ⟨?_, ?_, ?_, ?_⟩ <;> cbv <;> repeat' (first | trivial | exact EqX.rfl' | exact EqO.rfl' | apply And.intro | ((try clear hR3); (try clear hR2); (try clear hR); (try clear hK); (try simp only [ncCast] at *); (try simp only [castI_eq] at *); refine EqX.i ?_; (try rw [ho]); (try dsimp only [Ar.real, IX.vo, IX.val, BX.val, IX.toN]); (try simp only [QP1, QB7, QSyVa]); (repeat rw [wrap_i64 (by omega) (by omega)]); omega) | exact ⟨rfl⟩))
  · intro i hi R hR
    have ei : o.nth of i = of.getD i default := by rw [ho, real_nth]
    have h1 := hO i
    have h2 := x_sumsAdd (M1 i) (sumsOf (of.getD i default).vec)
    have h3 := a1 i
    have h4 := hq (of.getD i default).frame
    generalize sumsOf (of.getD i default).vec = sv at *
    generalize sumsAdd (M1 i) sv = sa at *
    obtain ⟨sa, sb⟩ := sa
    generalize hMs : M1 (i + 1) = s' at *
    have hT9 : q (of.getD i default).frame = true → s' = sa := fun h => by rw [h3, if_pos h]
    have hF9 : q (of.getD i default).frame = false → s' = M1 i := fun h => by rw [h3, if_neg (by rw [h]; decide)]
    have hE : of.length ≤ i → M1 i = M2 0 := fun h => by
      obtain rfl : i = of.length := by omega
      exact c0.symm
    generalize q (of.getD i default).frame = qb at *
    generalize M1 i = s at *
    obtain ⟨x1, x2, x3, x4⟩ := s
    obtain ⟨z1, z2, z3, z4⟩ := sv
    obtain ⟨y1, y2, y3, y4⟩ := sa
    rw [← ei, ← ho] at h1
    rw [← ei] at h4
    rw [← ho] at h2
    clear h3
    cbv
    repeat' (first | (refine Br.mk (fun hb => ?_) (fun hb => ?_) <;> ((try rw [ho] at hb); (try dsimp only [Ar.real, IX.vo] at hb); (try simp only [QP1, QB7, QSyVa] at hb); (try simp only [QBo, beq_iff_eq, beq_eq_false_iff_ne, ne_eq] at hb))) | (refine StopN.mk ?_; cbv) | ((first | refine CallI.objs [.out 0, .out 1] hP h4 fn37 rfl rfl rfl rfl (by rfl) rfl rfl rfl rfl (by rfl) ⟨⟨_, rfl, rfl⟩, ⟨_, rfl, rfl⟩, trivial⟩ ?_ | refine CallN.pure hP h1 fn32 rfl rfl rfl ?_ | refine CallN.pure hP h2 fn31 rfl rfl rfl ?_); cbv) | (refine hK _ _ ?_) | (refine NeedT.mk ?_ ?_))
    any_goals (((try clear hR3); (try clear hR2); (try clear hR); (try clear hK); (try simp only [ncCast] at *); (try simp only [castI_eq] at *); (try rw [ho]); (try dsimp only [Ar.real, IX.vo, IX.val, BX.val, IX.toN]); (try simp only [QP1, QB7, QSyVa]); (try simp only [decide_eq_true_eq]); (all_goals (repeat rw [wrap_i64 (by omega) (by omega)])); (all_goals (first | omega | (simp only [Int.ofNat_eq_natCast]; omega)))); done)
    · obtain rfl := hT9 (by assumption)
      refine hR _ (i + 1) (by show of.length - (i + 1) < of.length - i; ((try clear hR3); (try clear hR2); (try clear hR); (try clear hK); (try simp only [ncCast] at *); (try simp only [castI_eq] at *)); omega) (by show i + 1 ≤ of.length; ((try clear hR3); (try clear hR2); (try clear hR); (try clear hK); (try simp only [ncCast] at *); (try simp only [castI_eq] at *)); omega) ?_
      rw [hMs]
      (refine ⟨?_, ?_, ?_, ?_⟩ <;> cbv <;> repeat' (first | trivial | exact EqX.rfl' | exact EqO.rfl' | apply And.intro | ((try clear hR3); (try clear hR2); (try clear hR); (try clear hK); (try simp only [ncCast] at *); (try simp only [castI_eq] at *); refine EqX.i ?_; (try rw [ho]); (try dsimp only [Ar.real, IX.vo, IX.val, BX.val, IX.toN]); (try simp only [QP1, QB7, QSyVa]); (repeat rw [wrap_i64 (by omega) (by omega)]); omega)))
    · obtain rfl := hF9 (by assumption)
      refine hR _ (i + 1) (by show of.length - (i + 1) < of.length - i; ((try clear hR3); (try clear hR2); (try clear hR); (try clear hK); (try simp only [ncCast] at *); (try simp only [castI_eq] at *)); omega) (by show i + 1 ≤ of.length; ((try clear hR3); (try clear hR2); (try clear hR); (try clear hK); (try simp only [ncCast] at *); (try simp only [castI_eq] at *)); omega) ?_
      rw [hMs]
      (refine ⟨?_, ?_, ?_, ?_⟩ <;> cbv <;> repeat' (first | trivial | exact EqX.rfl' | exact EqO.rfl' | apply And.intro | ((try clear hR3); (try clear hR2); (try clear hR); (try clear hK); (try simp only [ncCast] at *); (try simp only [castI_eq] at *); refine EqX.i ?_; (try rw [ho]); (try dsimp only [Ar.real, IX.vo, IX.val, BX.val, IX.toN]); (try simp only [QP1, QB7, QSyVa]); (repeat rw [wrap_i64 (by omega) (by omega)]); omega)))
    · have hE := hE (by assumption)
      clear hT9 hF9 hR h1 h2 h4 hMs
      refine LoopN.over (o := o) (D := dt34) ho hm hT (by kernel_rfl) (fun i : Nat => [(33, xn i)]) (fun i => [(2, .var (S4.X o (M2 i)) 35)]) (fun _ => []) (fun i => i ≤ tk.length) (fun i => tk.length - i) 0 (Nat.zero_le _) ?_ ?_
      · rw [← hE]
        (refine ⟨?_, ?_, ?_, ?_⟩ <;> cbv <;> repeat' (first | trivial | exact EqX.rfl' | exact EqO.rfl' | apply And.intro | ((try clear hR3); (try clear hR2); (try clear hR); (try clear hK); (try simp only [ncCast] at *); (try simp only [castI_eq] at *); refine EqX.i ?_; (try rw [ho]); (try dsimp only [Ar.real, IX.vo, IX.val, BX.val, IX.toN]); (try simp only [QP1, QB7, QSyVa]); (repeat rw [wrap_i64 (by omega) (by omega)]); omega)))
      · clear hE
        intro i hi R hR
        have ei : o.nth tk i = tk.getD i default := by rw [ho, real_nth]
        have h1 := hT1 i
        have h2 := x_sumsAdd (M2 i) (sumsOf (tk.getD i default).vec)
        have h3 := c1 i
        have h4 := hq (tk.getD i default).frame
        generalize sumsOf (tk.getD i default).vec = sv at *
        generalize sumsAdd (M2 i) sv = sa at *
        obtain ⟨sa, sb⟩ := sa
        generalize hMs : M2 (i + 1) = s' at *
        have hT9 : q (tk.getD i default).frame = true → s' = sa := fun h => by rw [h3, if_pos h]
        have hF9 : q (tk.getD i default).frame = false → s' = M2 i := fun h => by rw [h3, if_neg (by rw [h]; decide)]
        have hE : tk.length ≤ i → res = M2 i := fun h => by
          obtain rfl : i = tk.length := by omega
          exact hres
        generalize q (tk.getD i default).frame = qb at *
        generalize M2 i = s at *
        obtain ⟨x1, x2, x3, x4⟩ := s
        obtain ⟨z1, z2, z3, z4⟩ := sv
        obtain ⟨y1, y2, y3, y4⟩ := sa
        rw [← ei, ← ho] at h1
        rw [← ei] at h4
        rw [← ho] at h2
        clear h3
        cbv
        repeat' (first | (refine Br.mk (fun hb => ?_) (fun hb => ?_) <;> ((try rw [ho] at hb); (try dsimp only [Ar.real, IX.vo] at hb); (try simp only [QP1, QB7, QSyVa] at hb); (try simp only [QBo, beq_iff_eq, beq_eq_false_iff_ne, ne_eq] at hb))) | (refine StopN.mk ?_; cbv) | ((first | refine CallI.objs [.out 0, .out 1] hP h4 fn37 rfl rfl rfl rfl (by rfl) rfl rfl rfl rfl (by rfl) ⟨⟨_, rfl, rfl⟩, ⟨_, rfl, rfl⟩, trivial⟩ ?_ | refine CallN.pure hP h1 fn32 rfl rfl rfl ?_ | refine CallN.pure hP h2 fn31 rfl rfl rfl ?_); cbv) | (refine hK _ _ ?_) | (refine NeedT.mk ?_ ?_))
        any_goals (((try clear hR3); (try clear hR2); (try clear hR); (try clear hK); (try simp only [ncCast] at *); (try simp only [castI_eq] at *); (try rw [ho]); (try dsimp only [Ar.real, IX.vo, IX.val, BX.val, IX.toN]); (try simp only [QP1, QB7, QSyVa]); (try simp only [decide_eq_true_eq]); (all_goals (repeat rw [wrap_i64 (by omega) (by omega)])); (all_goals (first | omega | (simp only [Int.ofNat_eq_natCast]; omega)))); done)
        · obtain rfl := hT9 (by assumption)
          refine hR _ (i + 1) (by show tk.length - (i + 1) < tk.length - i; ((try clear hR3); (try clear hR2); (try clear hR); (try clear hK); (try simp only [ncCast] at *); (try simp only [castI_eq] at *)); omega) (by show i + 1 ≤ tk.length; ((try clear hR3); (try clear hR2); (try clear hR); (try clear hK); (try simp only [ncCast] at *); (try simp only [castI_eq] at *)); omega) ?_
          rw [hMs]
          (refine ⟨?_, ?_, ?_, ?_⟩ <;> cbv <;> repeat' (first | trivial | exact EqX.rfl' | exact EqO.rfl' | apply And.intro | ((try clear hR3); (try clear hR2); (try clear hR); (try clear hK); (try simp only [ncCast] at *); (try simp only [castI_eq] at *); refine EqX.i ?_; (try rw [ho]); (try dsimp only [Ar.real, IX.vo, IX.val, BX.val, IX.toN]); (try simp only [QP1, QB7, QSyVa]); (repeat rw [wrap_i64 (by omega) (by omega)]); omega)))
        · obtain rfl := hF9 (by assumption)
          refine hR _ (i + 1) (by show tk.length - (i + 1) < tk.length - i; ((try clear hR3); (try clear hR2); (try clear hR); (try clear hK); (try simp only [ncCast] at *); (try simp only [castI_eq] at *)); omega) (by show i + 1 ≤ tk.length; ((try clear hR3); (try clear hR2); (try clear hR); (try clear hK); (try simp only [ncCast] at *); (try simp only [castI_eq] at *)); omega) ?_
          rw [hMs]
          (refine ⟨?_, ?_, ?_, ?_⟩ <;> cbv <;> repeat' (first | trivial | exact EqX.rfl' | exact EqO.rfl' | apply And.intro | ((try clear hR3); (try clear hR2); (try clear hR); (try clear hK); (try simp only [ncCast] at *); (try simp only [castI_eq] at *); refine EqX.i ?_; (try rw [ho]); (try dsimp only [Ar.real, IX.vo, IX.val, BX.val, IX.toN]); (try simp only [QP1, QB7, QSyVa]); (repeat rw [wrap_i64 (by omega) (by omega)]); omega)))
        · rw [hE (by assumption)]
          exact ⟨fun _ => rfl, upLb _⟩
theorem x_bRoleSum (b : Bk) (hbk : BkOk b) (r : Int) : XC Tryz.prog 11 [.agg (Bk.X Ar.real b), xi r] [] (.agg (S4.X Ar.real (sumW b (roleB b r)))) [] := by
  have h := fun o ho => x_bsumR o ho b hbk r
  generalize sumW b (roleB b r) = s at *
  obtain ⟨⟨k1, k2, k3, k4, k5, ⟨k6, k7, k8, k9⟩⟩, now, last, fr, ag, of, tk, fl⟩ := b
  obtain ⟨x1, x2, x3, x4⟩ := s
  clear hbk
  (refine XC.of_body ([]) Tryz.func11 rfl Tryz.ntmps11 mixed (T := tl11) tk11 (by kernel_rfl) (by simp) rfl rfl rfl rfl rfl ?_; rintro o ho P hP c K hK; have hm : P.follows .mixedOrders = true := hP ▸ mixed; have hT : TOk P tl11 := hP ▸ tk11; (try rw [← ho]); cbv; (repeat (refine StopN.mk ?_; cbv)))
  have h := h o ho
  repeat' (first | (refine Br.mk (fun hb => ?_) (fun hb => ?_) <;> ((try rw [ho] at hb); (try dsimp only [Ar.real, IX.vo] at hb); (try simp only [QP1, QB7, QSyVa] at hb); (try simp only [QBo, beq_iff_eq, beq_eq_false_iff_ne, ne_eq] at hb))) | (refine StopN.mk ?_; cbv) | (refine CallI.objs [.loc 0, .loc 1] hP h fn34 rfl rfl rfl rfl (by rfl) rfl rfl rfl rfl (by rfl) ⟨⟨_, rfl, rfl⟩, ⟨_, rfl, rfl⟩, trivial⟩ ?_; cbv) | (refine hK _ _ ?_) | (refine NeedT.mk ?_ ?_))
  exact .pure fun _ => rfl
theorem x_bTotal (b : Bk) (hbk : BkOk b) : XC Tryz.prog 7 [.agg (Bk.X Ar.real b)] [] (.agg (S4.X Ar.real (totF b))) [] := by
  have n1 := hbk.n_ag
  have hO := fun i => x_sumsOf (b.ag.getD i default).total (hbk.a1 i)
  have a0 : sumF b.ag (fun _ => true) (·.total) s40 0 = s40 := rfl
  have a1 : ∀ i, sumF b.ag (fun _ => true) (·.total) s40 (i + 1) = (sumsAdd (sumF b.ag (fun _ => true) (·.total) s40 i) (sumsOf (b.ag.getD i default).total)).1 := fun _ => rfl
  have hres : totF b = sumF b.ag (fun _ => true) (·.total) s40 b.ag.length := rfl
  generalize totF b = res at *
  generalize sumF b.ag (fun _ => true) (·.total) s40 = M1 at *
  obtain ⟨⟨k1, k2, k3, k4, k5, ⟨k6, k7, k8, k9⟩⟩, now, last, fr, ag, of, tk, fl⟩ := b
  clear hbk
  dsimp only at *
  (refine XC.of_body (dt7) Tryz.func7 rfl Tryz.ntmps7 mixed (T := tl7) tk7 (by kernel_rfl) (by simp) rfl rfl rfl rfl rfl ?_; rintro o ho P hP c K hK; have hm : P.follows .mixedOrders = true := hP ▸ mixed; have hT : TOk P tl7 := hP ▸ tk7; (try rw [← ho]); cbv; (repeat (refine StopN.mk ?_; cbv)))
  refine LoopN.over (o := o) (D := dt7) ho hm hT (by kernel_rfl) (fun i : Nat => [(9, xn i)]) (fun i => [(2, .var (S4.X o (M1 i)) 35)]) (fun _ => []) (fun i => i ≤ ag.length) (fun i => ag.length - i) 0 (Nat.zero_le _) ?_ ?_
  · rw [a0]
    (refine ⟨?_, ?_, ?_, ?_⟩ <;> cbv <;> repeat' (first | trivial | exact EqX.rfl' | exact EqO.rfl' | apply And.intro | ((try clear hR3); (try clear hR2); (try clear hR); (try clear hK); (try simp only [ncCast] at *); (try simp only [castI_eq] at *); refine EqX.i ?_; (try rw [ho]); (try dsimp only [Ar.real, IX.vo, IX.val, BX.val, IX.toN]); (try simp only [QP1, QB7, QSyVa]); (repeat rw [wrap_i64 (by omega) (by omega)]); omega) | exact ⟨rfl⟩))
  · intro i hi R hR
    have ei : o.nth ag i = ag.getD i default := by rw [ho, real_nth]
    have h1 := hO i
    have h2 := x_sumsAdd (M1 i) (sumsOf (ag.getD i default).total)
    have h3 := a1 i
    generalize sumsOf (ag.getD i default).total = sv at *
    generalize sumsAdd (M1 i) sv = sa at *
    obtain ⟨sa, sb⟩ := sa
    generalize hMs : M1 (i + 1) = s' at *
    dsimp only at h3
    subst h3
    have hE : ag.length ≤ i → res = M1 i := fun h => by
      obtain rfl : i = ag.length := by omega
      exact hres
    generalize M1 i = s at *
    obtain ⟨x1, x2, x3, x4⟩ := s
    obtain ⟨z1, z2, z3, z4⟩ := sv
    obtain ⟨y1, y2, y3, y4⟩ := s'
    rw [← ei, ← ho] at h1
    rw [← ho] at h2
    cbv
    repeat' (first | (refine Br.mk (fun hb => ?_) (fun hb => ?_) <;> ((try rw [ho] at hb); (try dsimp only [Ar.real, IX.vo] at hb); (try simp only [QP1, QB7, QSyVa] at hb); (try simp only [QBo, beq_iff_eq, beq_eq_false_iff_ne, ne_eq] at hb))) | (refine StopN.mk ?_; cbv) | ((first | refine CallN.pure hP h1 fn32 rfl rfl rfl ?_ | refine CallN.pure hP h2 fn31 rfl rfl rfl ?_); cbv) | (refine hK _ _ ?_) | (refine NeedT.mk ?_ ?_))
    any_goals (((try clear hR3); (try clear hR2); (try clear hR); (try clear hK); (try simp only [ncCast] at *); (try simp only [castI_eq] at *); (try rw [ho]); (try dsimp only [Ar.real, IX.vo, IX.val, BX.val, IX.toN]); (try simp only [QP1, QB7, QSyVa]); (try simp only [decide_eq_true_eq]); (all_goals (repeat rw [wrap_i64 (by omega) (by omega)])); (all_goals (first | omega | (simp only [Int.ofNat_eq_natCast]; omega)))); done)
    · refine hR _ (i + 1) (by show ag.length - (i + 1) < ag.length - i; ((try clear hR3); (try clear hR2); (try clear hR); (try clear hK); (try simp only [ncCast] at *); (try simp only [castI_eq] at *)); omega) (by show i + 1 ≤ ag.length; ((try clear hR3); (try clear hR2); (try clear hR); (try clear hK); (try simp only [ncCast] at *); (try simp only [castI_eq] at *)); omega) ?_
      rw [hMs]
      (refine ⟨?_, ?_, ?_, ?_⟩ <;> cbv <;> repeat' (first | trivial | exact EqX.rfl' | exact EqO.rfl' | apply And.intro | ((try clear hR3); (try clear hR2); (try clear hR); (try clear hK); (try simp only [ncCast] at *); (try simp only [castI_eq] at *); refine EqX.i ?_; (try rw [ho]); (try dsimp only [Ar.real, IX.vo, IX.val, BX.val, IX.toN]); (try simp only [QP1, QB7, QSyVa]); (repeat rw [wrap_i64 (by omega) (by omega)]); omega)))
    · rw [hE (by assumption)]
      exact .pure fun _ => rfl
end Go.Proofs.YtlblpbahoblihaaGreat.Sy
namespace Go.Proofs.YtlblpbahoblihaaGreat.Sy
open Go Go.Sy Go.Proofs.YtlblpbahoblihaaGreat
def k4 (k : Int) : Prop := k = 0 ∨ k = 1 ∨ k = 2 ∨ k = 3
theorem sumsRight_of {f : Int → Int} (h : ∀ k, k4 k → 0 ≤ f k ∧ f k ≤ 1152921504606846976) : sumsRight (S4.of f) = true :=
  (sumsRight_iff _).2 ⟨h 0 (.inl rfl), h 1 (.inr (.inl rfl)), h 2 (.inr (.inr (.inl rfl))), h 3 (.inr (.inr (.inr rfl)))⟩
theorem sumsAdd_of {f g : Int → Int} (hf : ∀ k, k4 k → 0 ≤ f k) (hg : ∀ k, k4 k → 0 ≤ g k) (h : ∀ k, k4 k → f k + g k ≤ 1152921504606846976) : sumsAdd (S4.of f) (S4.of g) = (S4.of fun k => f k + g k, true) := by
  unfold sumsAdd
  refine if_pos ⟨sumsRight_of fun k hk => ?_, sumsRight_of fun k hk => ?_, sumsRight_of (f := fun k => f k + g k) fun k hk => ?_⟩
  all_goals
    have h1 := hf k hk
    have h2 := hg k hk
    have h3 := h k hk
    omega
theorem S4.of_congr {f g : Int → Int} (h : ∀ k, k4 k → f k = g k) : S4.of f = S4.of g := by
  unfold S4.of
  rw [h 0 (.inl rfl), h 1 (.inr (.inl rfl)), h 2 (.inr (.inr (.inl rfl))), h 3 (.inr (.inr (.inr rfl)))]
theorem sumF_of {α : Type} [Inhabited α] {l : List α} {p : α → Bool} {v : α → List Part} {g : Int → Int} (hv : ∀ i, i < l.length → VOk (v (l.getD i default))) (hg : ∀ k, k4 k → 0 ≤ g k) (hb : ∀ k, k4 k → g k + hS l p v k l.length ≤ 1152921504606846976) :
    ∀ i, i ≤ l.length → sumF l p v (S4.of g) i = S4.of fun k => g k + hS l p v k i
  | 0, _ => by simp [sumF, hS]
  | i + 1, hi => by
    have ih := sumF_of hv hg hb i (by omega)
    simp only [sumF, hS]
    split
    · rename_i hp
      rw [ih, sumsOf_sk (hv i (by omega)), sumsAdd_of]
      · dsimp only
        exact S4.of_congr fun k _ => by omega
      · intro k hk
        have h1 := hg k hk
        have h2 := hS_nn (p := p) hv k i (by omega)
        omega
      · intro k hk
        exact sk_nn (hv i (by omega)).ok k
      · intro k hk
        have h1 := hb k hk
        have h2 := hS_mono (p := p) hv k (i := i + 1) l.length hi (Nat.le_refl _)
        simp only [hS, if_pos hp] at h2
        omega
    · rw [ih]
      congr 1
      funext k
      omega
theorem s40_of : s40 = S4.of fun _ => 0 := rfl
theorem RightB.sumW {b : Bk} (h : RightB b) (p : Int → Bool) : sumW b p = S4.of fun k => heldK b p k := by
  have h1 := fun i hi => (h.ofr i hi).2.2
  have h2 := fun i hi => (h.tsk i hi).2.2
  have h3 : ∀ k, k4 k → 0 ≤ heldK b p k ∧ heldK b p k ≤ 9007199254740992 := fun k hk => h.held p k hk
  have a1 := fun k => hS_nn (p := fun x : Ofr => p x.frame) (v := (·.vec)) h1 k _ (Nat.le_refl _)
  have a2 := fun k => hS_nn (p := fun x : Tsk => p x.frame) (v := (·.vec)) h2 k _ (Nat.le_refl _)
  unfold Sy.sumW
  unfold heldK at h3 ⊢
  rw [s40_of, sumF_of (p := fun x : Ofr => p x.frame) (v := (·.vec)) h1 (fun _ _ => Int.le_refl 0) (fun k hk => by have := h3 k hk; have := a2 k; omega) _ (Nat.le_refl _),
    sumF_of (p := fun x : Tsk => p x.frame) (v := (·.vec)) h2 (fun k hk => by have := a1 k; omega) (fun k hk => by have := h3 k hk; omega) _ (Nat.le_refl _)]
  congr 1
  funext k
  omega
theorem agS_hS (l : List Agt) (k : Int) : ∀ n, agS l k n = hS l (fun _ => true) (·.total) k n
  | 0 => rfl
  | n + 1 => by simp [agS, hS, agS_hS l k n]
theorem RightB.totF {b : Bk} (h : RightB b) : totF b = S4.of fun k => agS b.ag k b.ag.length := by
  have h1 := fun i hi => (vecRight_iff _).1 (h.agent i hi).tot
  have h2 : ∀ k, k4 k → agS b.ag k b.ag.length ≤ 9007199254740992 := fun k hk => h.sk k hk
  unfold Sy.totF
  rw [s40_of, sumF_of (p := fun _ => true) (v := fun x : Agt => x.total) h1 (fun _ _ => Int.le_refl 0) (fun k hk => by have := h2 k hk; rw [agS_hS] at this; omega) _ (Nat.le_refl _)]
  congr 1
  funext k
  rw [agS_hS, Int.zero_add]
end Go.Proofs.YtlblpbahoblihaaGreat.Sy
namespace Go.Proofs.YtlblpbahoblihaaGreat.Sy
open Go Go.Sy Go.Proofs.YtlblpbahoblihaaGreat
def eqF (n f : Int) : Bool := decide (f = n)
@[reducible] def sOb (n : Int) : List OX := [.var [xi n] 2]
theorem x_sum1 (o : Ar) (ho : o = Ar.real) (n f : Int) : XC Tryz.prog 35 [xi f, .ptr (.out 0) 0] (sOb n) (xb (eqF n f)) (sOb n) := by
  (refine XC.of_body ([]) Tryz.func35 rfl Tryz.ntmps35 mixed (T := tl35) tk35 (by kernel_rfl) (by simp) rfl rfl rfl rfl rfl ?_; rintro o2 ho2 P hP c K hK; have hm : P.follows .mixedOrders = true := hP ▸ mixed; have hT : TOk P tl35 := hP ▸ tk35; (try rw [← ho2]); have e2 : o = o2 := ho.trans ho2.symm; subst e2; cbv; (repeat (refine StopN.mk ?_; cbv)))
  repeat' (first | (refine Br.mk (fun hb => ?_) (fun hb => ?_) <;> ((try rw [ho] at hb); (try dsimp only [Ar.real, IX.vo] at hb); (try simp only [QP1, QB7, QSyVa] at hb); (try simp only [QBo, beq_iff_eq, beq_eq_false_iff_ne, ne_eq] at hb))) | (refine StopN.mk ?_; cbv) | (refine hK _ _ ?_) | (refine NeedT.mk ?_ ?_))
  refine FinX_bOr ?_ rfl
  rw [ho]
  exact eqIB_eq _ _
theorem x_bsumS (o : Ar) (ho : o = Ar.real) (b : Bk) (hbk : BkOk b) (r : Int) : XC Tryz.prog 34 [.agg (Bk.X o b), .fn (.func 35) [] [.ptr (.out 0) 0]] (sOb r) (.agg (S4.X o (sumW b (eqF r)))) (sOb r) := by
  have hq := fun f => x_sum1 o ho r f
  have n1 := hbk.n_of
  have n2 := hbk.n_tk
  have hO := fun i => x_sumsOf (b.of.getD i default).vec (hbk.o1 i)
  have hT1 := fun i => x_sumsOf (b.tk.getD i default).vec (hbk.t1 i)
  have a0 : sumF b.of (fun x => eqF r x.frame) (·.vec) s40 0 = s40 := rfl
  have a1 : ∀ i, sumF b.of (fun x => eqF r x.frame) (·.vec) s40 (i + 1) = if eqF r (b.of.getD i default).frame = true then (sumsAdd (sumF b.of (fun x => eqF r x.frame) (·.vec) s40 i) (sumsOf (b.of.getD i default).vec)).1 else sumF b.of (fun x => eqF r x.frame) (·.vec) s40 i := fun _ => rfl
  have c0 : sumF b.tk (fun x => eqF r x.frame) (·.vec) (sumF b.of (fun x => eqF r x.frame) (·.vec) s40 b.of.length) 0 = sumF b.of (fun x => eqF r x.frame) (·.vec) s40 b.of.length := rfl
  have c1 : ∀ i, sumF b.tk (fun x => eqF r x.frame) (·.vec) (sumF b.of (fun x => eqF r x.frame) (·.vec) s40 b.of.length) (i + 1) = if eqF r (b.tk.getD i default).frame = true then (sumsAdd (sumF b.tk (fun x => eqF r x.frame) (·.vec) (sumF b.of (fun x => eqF r x.frame) (·.vec) s40 b.of.length) i) (sumsOf (b.tk.getD i default).vec)).1 else sumF b.tk (fun x => eqF r x.frame) (·.vec) (sumF b.of (fun x => eqF r x.frame) (·.vec) s40 b.of.length) i := fun _ => rfl
  have hres : sumW b (eqF r) = sumF b.tk (fun x => eqF r x.frame) (·.vec) (sumF b.of (fun x => eqF r x.frame) (·.vec) s40 b.of.length) b.tk.length := rfl
  generalize sumW b (eqF r) = res at *
  generalize sumF b.tk (fun x => eqF r x.frame) (·.vec) (sumF b.of (fun x => eqF r x.frame) (·.vec) s40 b.of.length) = M2 at *
  generalize sumF b.of (fun x => eqF r x.frame) (·.vec) s40 = M1 at *
  generalize eqF r = q at *
  obtain ⟨⟨k1, k2, k3, k4, k5, ⟨k6, k7, k8, k9⟩⟩, now, last, fr, ag, of, tk, fl⟩ := b
  clear hbk
  dsimp only at *
  (refine XC.of_body (dt34) Tryz.func34 rfl Tryz.ntmps34 mixed (T := tl34) tk34 (by kernel_rfl) (by simp) rfl rfl rfl rfl rfl ?_; rintro o2 ho2 P hP c K hK; have hm : P.follows .mixedOrders = true := hP ▸ mixed; have hT : TOk P tl34 := hP ▸ tk34; (try rw [← ho2]); have e2 : o = o2 := ho.trans ho2.symm; subst e2; cbv; (repeat (refine StopN.mk ?_; cbv)))
  refine LoopN.over (o := o) (D := dt34) ho hm hT (by kernel_rfl) (fun i : Nat => [(13, xn i)]) (fun i => [(2, .var (S4.X o (M1 i)) 35)]) (fun _ => []) (fun i => i ≤ of.length) (fun i => of.length - i) 0 (Nat.zero_le _) ?_ ?_
  · rw [a0]
    (refine ⟨?_, ?_, ?_, ?_⟩ <;> cbv <;> repeat' (first | trivial | exact EqX.rfl' | exact EqO.rfl' | apply And.intro | ((try clear hR3); (try clear hR2); (try clear hR); (try clear hK); (try simp only [ncCast] at *); (try simp only [castI_eq] at *); refine EqX.i ?_; (try rw [ho]); (try dsimp only [Ar.real, IX.vo, IX.val, BX.val, IX.toN]); (try simp only [QP1, QB7, QSyVa]); (repeat rw [wrap_i64 (by omega) (by omega)]); omega) | exact ⟨rfl⟩))
  · intro i hi R hR
    have ei : o.nth of i = of.getD i default := by rw [ho, real_nth]
    have h1 := hO i
    have h2 := x_sumsAdd (M1 i) (sumsOf (of.getD i default).vec)
    have h3 := a1 i
    have h4 := hq (of.getD i default).frame
    generalize sumsOf (of.getD i default).vec = sv at *
    generalize sumsAdd (M1 i) sv = sa at *
    obtain ⟨sa, sb⟩ := sa
    generalize hMs : M1 (i + 1) = s' at *
    have hT9 : q (of.getD i default).frame = true → s' = sa := fun h => by rw [h3, if_pos h]
    have hF9 : q (of.getD i default).frame = false → s' = M1 i := fun h => by rw [h3, if_neg (by rw [h]; decide)]
    have hE : of.length ≤ i → M1 i = M2 0 := fun h => by
      obtain rfl : i = of.length := by omega
      exact c0.symm
    generalize q (of.getD i default).frame = qb at *
    generalize M1 i = s at *
    obtain ⟨x1, x2, x3, x4⟩ := s
    obtain ⟨z1, z2, z3, z4⟩ := sv
    obtain ⟨y1, y2, y3, y4⟩ := sa
    rw [← ei, ← ho] at h1
    rw [← ei] at h4
    rw [← ho] at h2
    clear h3
    cbv
    repeat' (first | (refine Br.mk (fun hb => ?_) (fun hb => ?_) <;> ((try rw [ho] at hb); (try dsimp only [Ar.real, IX.vo] at hb); (try simp only [QP1, QB7, QSyVa] at hb); (try simp only [QBo, beq_iff_eq, beq_eq_false_iff_ne, ne_eq] at hb))) | (refine StopN.mk ?_; cbv) | ((first | refine CallI.objs [.out 0] hP h4 fn35 rfl rfl rfl rfl (by rfl) rfl rfl rfl rfl (by rfl) ⟨⟨_, rfl, rfl⟩, trivial⟩ ?_ | refine CallN.pure hP h1 fn32 rfl rfl rfl ?_ | refine CallN.pure hP h2 fn31 rfl rfl rfl ?_); cbv) | (refine hK _ _ ?_) | (refine NeedT.mk ?_ ?_))
    any_goals (((try clear hR3); (try clear hR2); (try clear hR); (try clear hK); (try simp only [ncCast] at *); (try simp only [castI_eq] at *); (try rw [ho]); (try dsimp only [Ar.real, IX.vo, IX.val, BX.val, IX.toN]); (try simp only [QP1, QB7, QSyVa]); (try simp only [decide_eq_true_eq]); (all_goals (repeat rw [wrap_i64 (by omega) (by omega)])); (all_goals (first | omega | (simp only [Int.ofNat_eq_natCast]; omega)))); done)
    · obtain rfl := hT9 (by assumption)
      refine hR _ (i + 1) (by show of.length - (i + 1) < of.length - i; ((try clear hR3); (try clear hR2); (try clear hR); (try clear hK); (try simp only [ncCast] at *); (try simp only [castI_eq] at *)); omega) (by show i + 1 ≤ of.length; ((try clear hR3); (try clear hR2); (try clear hR); (try clear hK); (try simp only [ncCast] at *); (try simp only [castI_eq] at *)); omega) ?_
      rw [hMs]
      (refine ⟨?_, ?_, ?_, ?_⟩ <;> cbv <;> repeat' (first | trivial | exact EqX.rfl' | exact EqO.rfl' | apply And.intro | ((try clear hR3); (try clear hR2); (try clear hR); (try clear hK); (try simp only [ncCast] at *); (try simp only [castI_eq] at *); refine EqX.i ?_; (try rw [ho]); (try dsimp only [Ar.real, IX.vo, IX.val, BX.val, IX.toN]); (try simp only [QP1, QB7, QSyVa]); (repeat rw [wrap_i64 (by omega) (by omega)]); omega)))
    · obtain rfl := hF9 (by assumption)
      refine hR _ (i + 1) (by show of.length - (i + 1) < of.length - i; ((try clear hR3); (try clear hR2); (try clear hR); (try clear hK); (try simp only [ncCast] at *); (try simp only [castI_eq] at *)); omega) (by show i + 1 ≤ of.length; ((try clear hR3); (try clear hR2); (try clear hR); (try clear hK); (try simp only [ncCast] at *); (try simp only [castI_eq] at *)); omega) ?_
      rw [hMs]
      (refine ⟨?_, ?_, ?_, ?_⟩ <;> cbv <;> repeat' (first | trivial | exact EqX.rfl' | exact EqO.rfl' | apply And.intro | ((try clear hR3); (try clear hR2); (try clear hR); (try clear hK); (try simp only [ncCast] at *); (try simp only [castI_eq] at *); refine EqX.i ?_; (try rw [ho]); (try dsimp only [Ar.real, IX.vo, IX.val, BX.val, IX.toN]); (try simp only [QP1, QB7, QSyVa]); (repeat rw [wrap_i64 (by omega) (by omega)]); omega)))
    · have hE := hE (by assumption)
      clear hT9 hF9 hR h1 h2 h4 hMs
      refine LoopN.over (o := o) (D := dt34) ho hm hT (by kernel_rfl) (fun i : Nat => [(33, xn i)]) (fun i => [(2, .var (S4.X o (M2 i)) 35)]) (fun _ => []) (fun i => i ≤ tk.length) (fun i => tk.length - i) 0 (Nat.zero_le _) ?_ ?_
      · rw [← hE]
        (refine ⟨?_, ?_, ?_, ?_⟩ <;> cbv <;> repeat' (first | trivial | exact EqX.rfl' | exact EqO.rfl' | apply And.intro | ((try clear hR3); (try clear hR2); (try clear hR); (try clear hK); (try simp only [ncCast] at *); (try simp only [castI_eq] at *); refine EqX.i ?_; (try rw [ho]); (try dsimp only [Ar.real, IX.vo, IX.val, BX.val, IX.toN]); (try simp only [QP1, QB7, QSyVa]); (repeat rw [wrap_i64 (by omega) (by omega)]); omega)))
      · clear hE
        intro i hi R hR
        have ei : o.nth tk i = tk.getD i default := by rw [ho, real_nth]
        have h1 := hT1 i
        have h2 := x_sumsAdd (M2 i) (sumsOf (tk.getD i default).vec)
        have h3 := c1 i
        have h4 := hq (tk.getD i default).frame
        generalize sumsOf (tk.getD i default).vec = sv at *
        generalize sumsAdd (M2 i) sv = sa at *
        obtain ⟨sa, sb⟩ := sa
        generalize hMs : M2 (i + 1) = s' at *
        have hT9 : q (tk.getD i default).frame = true → s' = sa := fun h => by rw [h3, if_pos h]
        have hF9 : q (tk.getD i default).frame = false → s' = M2 i := fun h => by rw [h3, if_neg (by rw [h]; decide)]
        have hE : tk.length ≤ i → res = M2 i := fun h => by
          obtain rfl : i = tk.length := by omega
          exact hres
        generalize q (tk.getD i default).frame = qb at *
        generalize M2 i = s at *
        obtain ⟨x1, x2, x3, x4⟩ := s
        obtain ⟨z1, z2, z3, z4⟩ := sv
        obtain ⟨y1, y2, y3, y4⟩ := sa
        rw [← ei, ← ho] at h1
        rw [← ei] at h4
        rw [← ho] at h2
        clear h3
        cbv
        repeat' (first | (refine Br.mk (fun hb => ?_) (fun hb => ?_) <;> ((try rw [ho] at hb); (try dsimp only [Ar.real, IX.vo] at hb); (try simp only [QP1, QB7, QSyVa] at hb); (try simp only [QBo, beq_iff_eq, beq_eq_false_iff_ne, ne_eq] at hb))) | (refine StopN.mk ?_; cbv) | ((first | refine CallI.objs [.out 0] hP h4 fn35 rfl rfl rfl rfl (by rfl) rfl rfl rfl rfl (by rfl) ⟨⟨_, rfl, rfl⟩, trivial⟩ ?_ | refine CallN.pure hP h1 fn32 rfl rfl rfl ?_ | refine CallN.pure hP h2 fn31 rfl rfl rfl ?_); cbv) | (refine hK _ _ ?_) | (refine NeedT.mk ?_ ?_))
        any_goals (((try clear hR3); (try clear hR2); (try clear hR); (try clear hK); (try simp only [ncCast] at *); (try simp only [castI_eq] at *); (try rw [ho]); (try dsimp only [Ar.real, IX.vo, IX.val, BX.val, IX.toN]); (try simp only [QP1, QB7, QSyVa]); (try simp only [decide_eq_true_eq]); (all_goals (repeat rw [wrap_i64 (by omega) (by omega)])); (all_goals (first | omega | (simp only [Int.ofNat_eq_natCast]; omega)))); done)
        · obtain rfl := hT9 (by assumption)
          refine hR _ (i + 1) (by show tk.length - (i + 1) < tk.length - i; ((try clear hR3); (try clear hR2); (try clear hR); (try clear hK); (try simp only [ncCast] at *); (try simp only [castI_eq] at *)); omega) (by show i + 1 ≤ tk.length; ((try clear hR3); (try clear hR2); (try clear hR); (try clear hK); (try simp only [ncCast] at *); (try simp only [castI_eq] at *)); omega) ?_
          rw [hMs]
          (refine ⟨?_, ?_, ?_, ?_⟩ <;> cbv <;> repeat' (first | trivial | exact EqX.rfl' | exact EqO.rfl' | apply And.intro | ((try clear hR3); (try clear hR2); (try clear hR); (try clear hK); (try simp only [ncCast] at *); (try simp only [castI_eq] at *); refine EqX.i ?_; (try rw [ho]); (try dsimp only [Ar.real, IX.vo, IX.val, BX.val, IX.toN]); (try simp only [QP1, QB7, QSyVa]); (repeat rw [wrap_i64 (by omega) (by omega)]); omega)))
        · obtain rfl := hF9 (by assumption)
          refine hR _ (i + 1) (by show tk.length - (i + 1) < tk.length - i; ((try clear hR3); (try clear hR2); (try clear hR); (try clear hK); (try simp only [ncCast] at *); (try simp only [castI_eq] at *)); omega) (by show i + 1 ≤ tk.length; ((try clear hR3); (try clear hR2); (try clear hR); (try clear hK); (try simp only [ncCast] at *); (try simp only [castI_eq] at *)); omega) ?_
          rw [hMs]
          (refine ⟨?_, ?_, ?_, ?_⟩ <;> cbv <;> repeat' (first | trivial | exact EqX.rfl' | exact EqO.rfl' | apply And.intro | ((try clear hR3); (try clear hR2); (try clear hR); (try clear hK); (try simp only [ncCast] at *); (try simp only [castI_eq] at *); refine EqX.i ?_; (try rw [ho]); (try dsimp only [Ar.real, IX.vo, IX.val, BX.val, IX.toN]); (try simp only [QP1, QB7, QSyVa]); (repeat rw [wrap_i64 (by omega) (by omega)]); omega)))
        · rw [hE (by assumption)]
          exact ⟨fun _ => rfl, upLb _⟩
theorem x_bSum (b : Bk) (hbk : BkOk b) (n : Int) : XC Tryz.prog 9 [.agg (Bk.X Ar.real b), xi n] [] (.agg (S4.X Ar.real (sumW b (eqF n)))) [] := by
  have h := fun o ho => x_bsumS o ho b hbk n
  generalize sumW b (eqF n) = s at *
  obtain ⟨⟨k1, k2, k3, k4, k5, ⟨k6, k7, k8, k9⟩⟩, now, last, fr, ag, of, tk, fl⟩ := b
  obtain ⟨x1, x2, x3, x4⟩ := s
  clear hbk
  (refine XC.of_body ([]) Tryz.func9 rfl Tryz.ntmps9 mixed (T := tl9) tk9 (by kernel_rfl) (by simp) rfl rfl rfl rfl rfl ?_; rintro o ho P hP c K hK; have hm : P.follows .mixedOrders = true := hP ▸ mixed; have hT : TOk P tl9 := hP ▸ tk9; (try rw [← ho]); cbv; (repeat (refine StopN.mk ?_; cbv)))
  have h := h o ho
  repeat' (first | (refine Br.mk (fun hb => ?_) (fun hb => ?_) <;> ((try rw [ho] at hb); (try dsimp only [Ar.real, IX.vo] at hb); (try simp only [QP1, QB7, QSyVa] at hb); (try simp only [QBo, beq_iff_eq, beq_eq_false_iff_ne, ne_eq] at hb))) | (refine StopN.mk ?_; cbv) | (refine CallI.objs [.loc 1] hP h fn34 rfl rfl rfl rfl (by rfl) rfl rfl rfl rfl (by rfl) ⟨⟨_, rfl, rfl⟩, trivial⟩ ?_; cbv) | (refine hK _ _ ?_) | (refine NeedT.mk ?_ ?_))
  exact .pure fun _ => rfl
theorem x_Roles (b : Bk) (hbk : BkOk b) : XC Tryz.prog 13 [.agg (Bk.X Ar.real b)] [] (.ro (SL Ar.real Go.Sy.encI (rolesP b))) [] := by
  have n1 := hbk.n_fr
  have hr : ∀ l, l = b.fr.map (·.role) → rolesP b = cpcI (sortI l) := fun l h => by rw [h]; rfl
  have hM0 : (b.fr.map (·.role)).take 0 = [] := rfl
  have hM1 : ∀ i, i < b.fr.length → (b.fr.map (·.role)).take (i + 1) = (b.fr.map (·.role)).take i ++ [(b.fr.getD i default).role] := fun i hi => by
    rw [List.take_succ_eq_append_getElem (by rw [List.length_map]; exact hi), List.getElem_map, getD_el hi]
  have hMl : ∀ i, ((b.fr.map (·.role)).take i).length ≤ 1048576 := fun i => by rw [List.length_take, List.length_map]; omega
  have hMe : ∀ i, b.fr.length ≤ i → (b.fr.map (·.role)).take i = b.fr.map (·.role) := fun i hi => List.take_of_length_le (by rw [List.length_map]; exact hi)
  generalize rolesP b = rs at *
  generalize b.fr.map (·.role) = ml at *
  obtain ⟨⟨k1, k2, k3, k4, k5, ⟨k6, k7, k8, k9⟩⟩, now, last, fr, ag, of, tk, fl⟩ := b
  clear hbk
  dsimp only at *
  obtain ⟨M, hM⟩ : ∃ M : Nat → List Int, M = fun i => ml.take i := ⟨_, rfl⟩
  have hM' : ∀ i, ml.take i = M i := fun i => by rw [hM]
  simp only [hM'] at hM0 hM1 hMl hMe
  clear hM hM'
  (refine XC.of_body ([]) Tryz.func13 rfl Tryz.ntmps13 mixed (T := tl13) tk13 (by kernel_rfl) (by simp) rfl rfl rfl rfl rfl ?_; rintro o ho P hP c K hK; have hm : P.follows .mixedOrders = true := hP ▸ mixed; have hT : TOk P tl13 := hP ▸ tk13; (try rw [← ho]); cbv; (repeat (refine StopN.mk ?_; cbv)))
  refine LoopN.ghost 3 3 1 rfl ?_
  refine LoopN.over (o := o) (D := []) ho hm hT (by kernel_rfl) (fun s : StL Int => [(9, xn s.i), (3, .own (.loc 1) s.rv)]) (fun s => [(1, .row s.rv 3 1 (SL o Go.Sy.encI s.out))]) (fun _ => []) (fun s => s.i ≤ fr.length ∧ s.out = M s.i) (fun s => fr.length - s.i) ⟨0, 0, []⟩ ⟨Nat.zero_le _, hM0.symm⟩ ?_ ?_
  · (refine ⟨?_, ?_, ?_, ?_⟩ <;> cbv <;> repeat' (first | trivial | exact EqX.rfl' | exact EqO.rfl' | apply And.intro | ((try clear hR3); (try clear hR2); (try clear hR); (try clear hK); (try simp only [ncCast] at *); (try simp only [castI_eq] at *); refine EqX.i ?_; (try rw [ho]); (try dsimp only [Ar.real, IX.vo, IX.val, BX.val, IX.toN]); (try simp only [QP1, QB7, QSyVa]); (repeat rw [wrap_i64 (by omega) (by omega)]); omega) | exact EqO.row rfl (rows_nil_SL o ho Go.Sy.encI)))
  · rintro ⟨i, rv, out⟩ ⟨hi, hout⟩ R hR
    dsimp only at hi hout
    have e1 := hM1 i
    have hol := hMl i
    have he := hMe i
    rw [← hout] at e1 hol he
    have hS1 := XC.sortI sortsI o ho rv 3 out hol
    have hS2 := XC.cpcI compactsI o ho rv 3 (sortI out) (by rw [sortI_len]; exact hol)
    have hres : fr.length ≤ i → rs = cpcI (sortI out) := fun h => hr out (he h)
    generalize cpcI (sortI out) = s2 at *
    generalize sortI out = s1 at *
    generalize hz : M (i + 1) = z at *
    cbv
    repeat' (first | (refine Br.mk (fun hb => ?_) (fun hb => ?_) <;> ((try rw [ho] at hb); (try dsimp only [Ar.real, IX.vo] at hb); (try simp only [QP1, QB7, QSyVa] at hb); (try simp only [QBo, beq_iff_eq, beq_eq_false_iff_ne, ne_eq] at hb))) | (refine StopN.mk ?_; cbv) | ((first | (refine FrzN.done ?_; refine CallI.objs [.loc 1] hP hS1 fn39 rfl rfl rfl rfl (by rfl) rfl rfl rfl rfl (by rfl) ⟨⟨_, rfl, rfl⟩, trivial⟩ ?_) | (refine FrzN.done ?_; refine CallI.objs [.loc 1] hP hS2 fn40 rfl rfl rfl rfl (by rfl) rfl rfl rfl rfl (by rfl) ⟨⟨_, rfl, rfl⟩, trivial⟩ ?_)); cbv) | (refine hK _ _ ?_) | (refine NeedT.mk ?_ ?_))
    any_goals (((try clear hR3); (try clear hR2); (try clear hR); (try clear hK); (try simp only [ncCast] at *); (try simp only [castI_eq] at *); (try rw [ho]); (try dsimp only [Ar.real, IX.vo, IX.val, BX.val, IX.toN]); (try simp only [QP1, QB7, QSyVa]); (try simp only [decide_eq_true_eq]); (all_goals (repeat rw [wrap_i64 (by omega) (by omega)])); (all_goals (first | omega | (simp only [Int.ofNat_eq_natCast]; omega)))); done)
    · refine hR _ ⟨i + 1, rv + 1, z⟩ (by show fr.length - (i + 1) < fr.length - i; ((try clear hR3); (try clear hR2); (try clear hR); (try clear hK); (try simp only [ncCast] at *); (try simp only [castI_eq] at *)); omega) ⟨by show i + 1 ≤ fr.length; ((try clear hR3); (try clear hR2); (try clear hR); (try clear hK); (try simp only [ncCast] at *); (try simp only [castI_eq] at *)); omega, hz.symm⟩ ?_
      have hs := e1 (by assumption)
      (refine ⟨?_, ?_, ?_, ?_⟩ <;> cbv <;> repeat' (first | trivial | exact EqX.rfl' | exact EqO.rfl' | apply And.intro | ((try clear hR3); (try clear hR2); (try clear hR); (try clear hK); (try simp only [ncCast] at *); (try simp only [castI_eq] at *); refine EqX.i ?_; (try rw [ho]); (try dsimp only [Ar.real, IX.vo, IX.val, BX.val, IX.toN]); (try simp only [QP1, QB7, QSyVa]); (repeat rw [wrap_i64 (by omega) (by omega)]); omega) | (refine EqO.snoc ho Go.Sy.encI out _ _ _ rfl hs ?_; rw [ho]; rfl)))
    · rw [hres (by assumption)]
      exact .ro (by rw [ho])
end Go.Proofs.YtlblpbahoblihaaGreat.Sy
namespace Go.Proofs.YtlblpbahoblihaaGreat.Sy
open Go Go.Sy Go.Proofs.YtlblpbahoblihaaGreat
def rsF (b : Bk) (r : Int) : Nat → S4
  | 0 => s40
  | i + 1 => if (b.fr.getD i default).role = r then (sumsAdd (rsF b r i) (sumW b (eqF (b.fr.getD i default).id))).1 else rsF b r i
theorem hS_or {α : Type} [Inhabited α] {l : List α} {p q s : α → Bool} {v : α → List Part} (h : ∀ x, s x = (p x || q x) ∧ (p x && q x) = false) (k : Int) : ∀ i, hS l s v k i = hS l p v k i + hS l q v k i
  | 0 => rfl
  | i + 1 => by
    have h1 := h (l.getD i default)
    simp only [hS, hS_or h k i]
    cases hp : p (l.getD i default) <;> cases hq : q (l.getD i default) <;> rw [hp, hq] at h1 <;> rw [h1.1] <;> simp at h1 ⊢ <;> omega
theorem heldK_or {b : Bk} {p q s : Int → Bool} (h : ∀ x, s x = (p x || q x) ∧ (p x && q x) = false) (k : Int) : heldK b s k = heldK b p k + heldK b q k := by
  unfold heldK
  rw [hS_or (p := fun x : Ofr => p x.frame) (q := fun x : Ofr => q x.frame) (fun x => h x.frame), hS_or (p := fun x : Tsk => p x.frame) (q := fun x : Tsk => q x.frame) (fun x => h x.frame)]
  omega
def roleU (b : Bk) (r : Int) (i : Nat) (f : Int) : Bool := roleB b r f && decide (atFrame b.fr f < i)
theorem atFrame_self {b : Bk} (h : RightB b) {i : Nat} (hi : i < b.fr.length) : atFrame b.fr (b.fr.getD i default).id = i := by
  refine ixR_hit hi (fun j hj => decide_eq_false fun e => ?_) (decide_eq_true rfl)
  have := fids_lt (pB_iff.1 h.fr).1 i hi j hj
  omega
theorem atFrame_id {l : List Frm} {f : Int} {i : Nat} (h : atFrame l f = i) : (l.getD i default).id = f := by
  have hsp := ixR_spec (fun x : Frm => decide (x.id = f)) l
  change (atFrame l f = -1 ∧ _) ∨ (∃ i, i < l.length ∧ atFrame l f = (i : Int) ∧ _) at hsp
  rcases hsp with ⟨e, _⟩ | ⟨j, _, e, h1⟩
  · omega
  · obtain rfl : j = i := by omega
    exact of_decide_eq_true h1
theorem roleU_succ {b : Bk} (h : RightB b) (r : Int) {i : Nat} (hi : i < b.fr.length) (f : Int) :
    ((b.fr.getD i default).role = r → roleU b r (i + 1) f = (roleU b r i f || eqF (b.fr.getD i default).id f) ∧ (roleU b r i f && eqF (b.fr.getD i default).id f) = false) ∧ ((b.fr.getD i default).role ≠ r → roleU b r (i + 1) f = roleU b r i f) := by
  unfold roleU roleB eqF
  have h1 := atFrame_self h hi
  by_cases he : f = (b.fr.getD i default).id
  · subst he
    rw [h1, Int.toNat_natCast]
    clear h1
    generalize (b.fr.getD i default).role = w
    have h5 : (i : Int) < ((i + 1 : Nat) : Int) := by omega
    have h6 : ¬ (i : Int) < (i : Int) := by omega
    rw [decide_eq_true h5, decide_eq_false h6, decide_eq_true (Int.natCast_nonneg i)]
    refine ⟨fun e => ?_, fun e => ?_⟩
    · rw [decide_eq_true e]
      simp
    · rw [decide_eq_false e]
      rfl
  · have h2 : atFrame b.fr f ≠ i := fun e => he (atFrame_id e).symm
    have h3 : (atFrame b.fr f < ((i + 1 : Nat) : Int)) ↔ atFrame b.fr f < (i : Int) := by omega
    simp only [h3, decide_eq_false he, Bool.or_false, Bool.and_false, and_self, implies_true]
theorem roleU_zero (b : Bk) (r f : Int) : roleU b r 0 f = false := by
  unfold roleU roleB
  by_cases h : 0 ≤ atFrame b.fr f
  · rw [decide_eq_false (p := atFrame b.fr f < ((0 : Nat) : Int)) (by omega), Bool.and_false]
  · rw [decide_eq_false h]
    rfl
theorem roleU_all (b : Bk) (r f : Int) : roleU b r b.fr.length f = roleB b r f := by
  unfold roleU roleB
  by_cases h : 0 ≤ atFrame b.fr f
  · have := atFrame_lt b.fr f h
    rw [decide_eq_true (p := atFrame b.fr f < (b.fr.length : Int)) (by omega), Bool.and_true]
  · rw [decide_eq_false h]
    rfl
theorem hS_none {α : Type} [Inhabited α] {l : List α} {v : α → List Part} (k : Int) : ∀ i, hS l (fun _ => false) v k i = 0
  | 0 => rfl
  | i + 1 => by simp [hS, hS_none k i]
theorem RightB.rsF {b : Bk} (h : RightB b) (r : Int) : ∀ i, i ≤ b.fr.length → rsF b r i = S4.of fun k => heldK b (roleU b r i) k
  | 0, _ => by
    have e : roleU b r 0 = fun _ => false := funext fun f => roleU_zero b r f
    have e2 : (fun k => heldK b (roleU b r 0) k) = fun _ => 0 := by
      funext k
      rw [e]
      unfold heldK
      rw [hS_none, hS_none]
      rfl
    rw [e2]
    rfl
  | i + 1, hi => by
    have ih := RightB.rsF h r i (by omega)
    have h1 := fun f => roleU_succ h r (show i < b.fr.length by omega) f
    simp only [Sy.rsF]
    split
    · rename_i e
      have h2 := fun k => heldK_or (b := b) (fun f => (h1 f).1 e) k
      rw [ih, h.sumW, sumsAdd_of (fun k hk => (h.held _ k hk).1) (fun k hk => (h.held _ k hk).1) fun k hk => ?_]
      · exact S4.of_congr fun k _ => (h2 k).symm
      · have h3 := (h.held (roleU b r (i + 1)) k hk).2
        rw [h2 k] at h3
        omega
    · rename_i e
      rw [ih, show roleU b r (i + 1) = roleU b r i from funext fun f => (h1 f).2 e]
theorem RightB.rsAll {b : Bk} (h : RightB b) (r : Int) : Sy.rsF b r b.fr.length = Sy.sumW b (roleB b r) := by
  rw [h.rsF r _ (Nat.le_refl _), h.sumW, show roleU b r b.fr.length = roleB b r from funext fun f => roleU_all b r f]
def atRole (l : List Frm) (r : Int) : Int := ixR (fun a : Frm => decide (a.role = r)) l
def whF (l : List Frm) (r : Int) : Int := if 0 ≤ atRole l r then (l.getD (atRole l r).toNat default).weight else 0
theorem atRole_lt (l : List Frm) (r : Int) (h : 0 ≤ atRole l r) : (atRole l r).toNat < l.length := by
  have hsp := ixR_spec (fun x : Frm => decide (x.role = r)) l
  change (atRole l r = -1 ∧ _) ∨ (∃ i, i < l.length ∧ atRole l r = (i : Int) ∧ _) at hsp
  rcases hsp with ⟨e, _⟩ | ⟨i, h1, e, _⟩ <;> omega
theorem atRole_mem (b : Bk) (r : Int) : 0 ≤ atRole b.fr r ↔ r ∈ rolesP b := by
  have hsp := ixR_spec (fun x : Frm => decide (x.role = r)) b.fr
  change (atRole b.fr r = -1 ∧ _) ∨ (∃ i, i < b.fr.length ∧ atRole b.fr r = (i : Int) ∧ _) at hsp
  rw [rolesP_mem]
  rcases hsp with ⟨e, h⟩ | ⟨i, h1, e, h2⟩
  · refine ⟨fun h0 => by omega, ?_⟩
    rintro ⟨f, hf, hr⟩
    obtain ⟨j, hj, rfl⟩ := List.mem_iff_getElem.1 hf
    have := of_decide_eq_false (h j hj)
    rw [getD_el hj] at this
    exact absurd hr this
  · refine ⟨fun _ => ⟨b.fr.getD i default, ?_, of_decide_eq_true h2⟩, fun _ => by omega⟩
    rw [getD_el h1]
    exact List.getElem_mem _
theorem RightB.whF {b : Bk} (h : RightB b) (r : Int) : (0 < Sy.whF b.fr r ↔ r ∈ rolesP b) ∧ (0 < Sy.whF b.fr r ↔ 0 ≤ atRole b.fr r) := by
  have h1 : 0 < Sy.whF b.fr r ↔ 0 ≤ atRole b.fr r := by
    unfold Sy.whF
    split
    · rename_i h0
      have h2 := ((pB_iff.1 h.fr).1 _ (atRole_lt b.fr r h0)).w0
      omega
    · omega
  exact ⟨h1.trans (atRole_mem b r), h1⟩
theorem RightB.role_bd {b : Bk} (h : RightB b) {r : Int} (hr : r ∈ rolesP b) : 1 ≤ r ∧ r ≤ 32 := by
  obtain ⟨f, hf, rfl⟩ := (rolesP_mem b r).1 hr
  obtain ⟨j, hj, rfl⟩ := List.mem_iff_getElem.1 hf
  have := (pB_iff.1 h.fr).1 j hj
  have h0 := this.r0
  have h1 := this.r1
  rw [getD_el hj] at h0 h1
  exact ⟨h0, h1⟩
def belowN (l : List Int) (n : Nat) (k : Nat) : Prop := k ≤ l.length ∧ (∀ j, j < k → l.getD j 0 < n) ∧ ∀ j, k ≤ j → j < l.length → (n : Int) ≤ l.getD j 0
theorem getD_up {l : List Int} (h : l.Pairwise (· < ·)) {i j : Nat} (hi : i < j) (hj : j < l.length) : l.getD i 0 < l.getD j 0 := by
  have := List.pairwise_iff_getElem.1 h i j (by omega) hj hi
  rw [List.getD_eq_getElem?_getD, List.getD_eq_getElem?_getD, List.getElem?_eq_getElem hj, List.getElem?_eq_getElem (by omega)]
  exact this
theorem belowN_in {l : List Int} (h : l.Pairwise (· < ·)) {n k : Nat} (hb : belowN l n k) (hm : (n : Int) ∈ l) : k < l.length ∧ l.getD k 0 = n ∧ belowN l (n + 1) (k + 1) := by
  obtain ⟨j, hj, e⟩ := List.mem_iff_getElem.1 hm
  have e : l.getD j 0 = n := by rw [List.getD_eq_getElem?_getD, List.getElem?_eq_getElem hj]; exact e
  obtain ⟨h1, h2, h3⟩ := hb
  have hjk : j = k := by
    rcases Nat.lt_trichotomy j k with h4 | h4 | h4
    · have := h2 j h4
      omega
    · exact h4
    · have h5 := getD_up h h4 hj
      have h6 := h3 k (Nat.le_refl _) (by omega)
      omega
  subst hjk
  refine ⟨hj, e, hj, fun i hi => ?_, fun i hi hil => ?_⟩
  · rcases Nat.lt_or_ge i j with h4 | h4
    · have := h2 i h4
      omega
    · obtain rfl : i = j := by omega
      omega
  · have := getD_up h (show j < i by omega) hil
    omega
theorem belowN_out {l : List Int} {n k : Nat} (hb : belowN l n k) (hm : (n : Int) ∉ l) : belowN l (n + 1) k := by
  obtain ⟨h1, h2, h3⟩ := hb
  refine ⟨h1, fun i hi => by have := h2 i hi; omega, fun i hi hil => ?_⟩
  have h4 := h3 i hi hil
  have h5 : l.getD i 0 ≠ n := fun e => hm (by
    rw [List.getD_eq_getElem?_getD, List.getElem?_eq_getElem hil] at e
    rw [← e]
    exact List.getElem_mem hil)
  omega
theorem belowN_end {l : List Int} {k : Nat} (hb : belowN l 33 k) (hl : ∀ r ∈ l, r ≤ 32) : k = l.length := by
  obtain ⟨h1, h2, h3⟩ := hb
  rcases Nat.lt_or_ge k l.length with h4 | h4
  · have h5 := h3 k (Nat.le_refl _) h4
    rw [List.getD_eq_getElem?_getD, List.getElem?_eq_getElem h4] at h5
    have h6 := hl _ (List.getElem_mem h4)
    change ((33 : Nat) : Int) ≤ l[k] at h5
    omega
  · omega
end Go.Proofs.YtlblpbahoblihaaGreat.Sy
namespace Go.Proofs.YtlblpbahoblihaaGreat.Sy
open Go Go.Sy Go.Proofs.YtlblpbahoblihaaGreat
theorem FinX_shrb {a b u : IX} {y : BX} {s : Shr} {r : Bool} (h1 : a.val = s.num) (h2 : b.val = s.den) (h3 : u.val = s.weight) (h4 : y.val = r) : FinX (.tup [.agg (Shr.X Ar.real s), xb r]) [] (.tup [.agg [.i .i64 a, .i .i64 b, .i .i64 u], .b y]) [] := .pure fun _ => by simp only [Shr.X, X.toD, X.toDL, h1, h2, h3, h4]; rfl
def rshR (b : Bk) (r : Int) : Shr := if 0 ≤ atRole b.fr r then shrOf (sumW b (roleB b r)) (totF b) (whF b.fr r) else ⟨0, 0, 0⟩
def fshR (b : Bk) (f : Int) : Shr := if 0 ≤ atFrame b.fr f then shrOf (sumW b (eqF f)) (totF b) 1 else ⟨0, 0, 0⟩
theorem x_RoleShare (b : Bk) (hbk : BkOk b) (r : Int) : XC Tryz.prog 16 [.agg (Bk.X Ar.real b), xi r] [] (.tup [.agg (Shr.X Ar.real (rshR b r)), xb (decide (0 ≤ atRole b.fr r))]) [] := by
  have hI := x_IxFrm (fun a : Frm => decide (a.role = r)) 43 r 3 fn43 (x_RoleShare1 r) b.fr hbk.n_fr
  have hSm := x_bRoleSum b hbk r
  have hTo := x_bTotal b hbk
  have n1 := hbk.n_fr
  have hlt := atRole_lt b.fr r
  have hSh := x_shrOf (sumW b (roleB b r)) (totF b) (b.fr.getD (atRole b.fr r).toNat default).weight
  unfold rshR whF
  change XC _ _ _ _ (xi (atRole b.fr r)) _ at hI
  generalize sumW b (roleB b r) = s at *
  generalize totF b = t at *
  generalize atRole b.fr r = z at *
  generalize hq : shrOf s t (b.fr.getD z.toNat default).weight = q at *
  have h0 : 0 ≤ z → (if 0 ≤ z then shrOf s t (if 0 ≤ z then (b.fr.getD z.toNat default).weight else 0) else ⟨0, 0, 0⟩) = q ∧ decide (0 ≤ z) = true := fun h => by rw [if_pos h, if_pos h, hq, decide_eq_true h]; exact ⟨rfl, rfl⟩
  have h9 : ¬ 0 ≤ z → (if 0 ≤ z then shrOf s t (if 0 ≤ z then (b.fr.getD z.toNat default).weight else 0) else ⟨0, 0, 0⟩) = (⟨0, 0, 0⟩ : Shr) ∧ decide (0 ≤ z) = false := fun h => by rw [if_neg h, decide_eq_false h]; exact ⟨rfl, rfl⟩
  generalize (if 0 ≤ z then shrOf s t (if 0 ≤ z then (b.fr.getD z.toNat default).weight else 0) else ⟨0, 0, 0⟩) = res at *
  generalize decide (0 ≤ z) = rb at *
  clear hq
  obtain ⟨⟨k1, k2, k3, k4, k5, ⟨k6, k7, k8, k9⟩⟩, now, last, fr, ag, of, tk, fl⟩ := b
  obtain ⟨x1, x2, x3, x4⟩ := s
  obtain ⟨y1, y2, y3, y4⟩ := t
  obtain ⟨q1, q2, q3⟩ := q
  clear hbk
  dsimp only at *
  (refine XC.of_body (dt16) Tryz.func16 rfl Tryz.ntmps16 mixed (T := tl16) tk16 (by kernel_rfl) (by simp) rfl rfl rfl rfl rfl ?_; rintro o ho P hP c K hK; have hm : P.follows .mixedOrders = true := hP ▸ mixed; have hT : TOk P tl16 := hP ▸ tk16; (try rw [← ho]); cbv; (repeat (refine StopN.mk ?_; cbv)))
  have ez : o.nth fr (o.toNat z) = fr.getD z.toNat default := by rw [ho, real_nth]; rfl
  rw [← ez, ← ho] at hSh
  rw [← ho] at hI hSm hTo
  have hz : z < (fr.length : Int) := by
    by_cases h : 0 ≤ z
    · have := hlt h
      omega
    · omega
  repeat' (first | (refine Br.mk (fun hb => ?_) (fun hb => ?_) <;> ((try rw [ho] at hb); (try dsimp only [Ar.real, IX.vo] at hb); (try simp only [QP1, QB7, QSyVa] at hb); (try simp only [QBo, beq_iff_eq, beq_eq_false_iff_ne, ne_eq] at hb))) | (refine StopN.mk ?_; cbv) | (first | refine CallI.objs [.loc 1] hP hI fn42 rfl rfl rfl rfl (by rfl) rfl rfl rfl rfl (by rfl) ⟨⟨_, rfl, rfl⟩, trivial⟩ ?_ | refine CallN.pure hP hSm fn11 rfl rfl rfl ?_ | refine CallN.pure hP hTo fn7 rfl rfl rfl ?_ | refine CallN.pure hP hSh fn41 rfl rfl rfl ?_); cbv | (refine hK _ _ ?_) | (refine NeedT.mk ?_ ?_))
  any_goals (((try clear hR3); (try clear hR2); (try clear hR); (try clear hK); (try simp only [ncCast] at *); (try simp only [castI_eq] at *); (try rw [ho]); (try dsimp only [Ar.real, IX.vo, IX.val, BX.val, IX.toN]); (try simp only [QP1, QB7, QSyVa]); (try simp only [decide_eq_true_eq]); (all_goals (repeat rw [wrap_i64 (by omega) (by omega)])); (all_goals (first | omega | (simp only [Int.ofNat_eq_natCast]; omega)))); done)
  · obtain ⟨rfl, rfl⟩ := h9 (by omega)
    exact FinX_shrb rfl rfl rfl rfl
  · obtain ⟨rfl, rfl⟩ := h0 (by omega)
    exact FinX_shrb rfl rfl rfl rfl
theorem x_Share (b : Bk) (hbk : BkOk b) (f : Int) : XC Tryz.prog 15 [.agg (Bk.X Ar.real b), xi f] [] (.tup [.agg (Shr.X Ar.real (fshR b f)), xb (decide (0 ≤ atFrame b.fr f))]) [] := by
  have hI := x_Frame b hbk f
  have hSm := x_bSum b hbk f
  have hTo := x_bTotal b hbk
  have hSh := x_shrOf (sumW b (eqF f)) (totF b) 1
  unfold fshR
  generalize sumW b (eqF f) = s at *
  generalize totF b = t at *
  generalize atFrame b.fr f = z at *
  generalize shrOf s t 1 = q at *
  have h0 : 0 ≤ z → (if 0 ≤ z then q else ⟨0, 0, 0⟩) = q ∧ decide (0 ≤ z) = true := fun h => by rw [if_pos h, decide_eq_true h]; exact ⟨rfl, rfl⟩
  have h9 : ¬ 0 ≤ z → (if 0 ≤ z then q else ⟨0, 0, 0⟩) = (⟨0, 0, 0⟩ : Shr) ∧ decide (0 ≤ z) = false := fun h => by rw [if_neg h, decide_eq_false h]; exact ⟨rfl, rfl⟩
  generalize (if 0 ≤ z then q else ⟨0, 0, 0⟩) = res at *
  generalize decide (0 ≤ z) = rb at *
  obtain ⟨⟨k1, k2, k3, k4, k5, ⟨k6, k7, k8, k9⟩⟩, now, last, fr, ag, of, tk, fl⟩ := b
  obtain ⟨x1, x2, x3, x4⟩ := s
  obtain ⟨y1, y2, y3, y4⟩ := t
  obtain ⟨q1, q2, q3⟩ := q
  clear hbk
  (refine XC.of_body (dt15) Tryz.func15 rfl Tryz.ntmps15 mixed (T := tl15) tk15 (by kernel_rfl) (by simp) rfl rfl rfl rfl rfl ?_; rintro o ho P hP c K hK; have hm : P.follows .mixedOrders = true := hP ▸ mixed; have hT : TOk P tl15 := hP ▸ tk15; (try rw [← ho]); cbv; (repeat (refine StopN.mk ?_; cbv)))
  rw [← ho] at hI hSm hTo hSh
  repeat' (first | (refine Br.mk (fun hb => ?_) (fun hb => ?_) <;> ((try rw [ho] at hb); (try dsimp only [Ar.real, IX.vo] at hb); (try simp only [QP1, QB7, QSyVa] at hb); (try simp only [QBo, beq_iff_eq, beq_eq_false_iff_ne, ne_eq] at hb))) | (refine StopN.mk ?_; cbv) | (first | refine CallI.pure hP hI fn38 rfl rfl rfl ?_ | refine CallN.pure hP hSm fn9 rfl rfl rfl ?_ | refine CallN.pure hP hTo fn7 rfl rfl rfl ?_ | refine CallN.pure hP hSh fn41 rfl rfl rfl ?_); cbv | (refine hK _ _ ?_) | (refine NeedT.mk ?_ ?_))
  · obtain ⟨rfl, rfl⟩ := h9 (by omega)
    exact FinX_shrb rfl rfl rfl rfl
  · obtain ⟨rfl, rfl⟩ := h0 (by omega)
    exact FinX_shrb rfl rfl rfl rfl
end Go.Proofs.YtlblpbahoblihaaGreat.Sy
namespace Go.Proofs.YtlblpbahoblihaaGreat.Sy
open Go Go.Sy Go.Proofs.YtlblpbahoblihaaGreat
theorem x_r06Add (s t : S4) : XC Tryz.prog 36 [.agg (S4.X Ar.real s), .agg (S4.X Ar.real t)] [] (.tup [.agg (S4.X Ar.real (sumsAdd s t).1), xb (sumsAdd s t).2]) [] := by
  have hs := x_r06Right s
  have ht := x_r06Right t
  have hu := x_r06Right ⟨s.a + t.a, s.b + t.b, s.c + t.c, s.d + t.d⟩
  have is := sumsRight_iff s
  have it := sumsRight_iff t
  unfold sumsAdd
  by_cases h0 : sumsRight s = true ∧ sumsRight t = true
  · have i1 := is.1 h0.1
    have i2 := it.1 h0.2
    rw [h0.1] at hs
    rw [h0.2] at ht
    simp only [h0.1, h0.2, true_and]
    clear is it h0
    obtain ⟨u, hu0⟩ : ∃ q : S4, q = ⟨s.a + t.a, s.b + t.b, s.c + t.c, s.d + t.d⟩ := ⟨_, rfl⟩
    rw [← hu0] at hu ⊢
    generalize sumsRight u = ru at *
    obtain ⟨a, b, p, d⟩ := s
    obtain ⟨a', b', p', d'⟩ := t
    obtain ⟨a2, b2, p2, d2⟩ := u
    simp only [S4.mk.injEq] at hu0
    obtain ⟨e1, e2, e3, e4⟩ := hu0
    dsimp only at i1 i2
    have w1 : IntKind.i64.wrap (a + a') = a2 := by rw [wrap_i64 (by omega) (by omega), e1]
    have w2 : IntKind.i64.wrap (b + b') = b2 := by rw [wrap_i64 (by omega) (by omega), e2]
    have w3 : IntKind.i64.wrap (p + p') = p2 := by rw [wrap_i64 (by omega) (by omega), e3]
    have w4 : IntKind.i64.wrap (d + d') = d2 := by rw [wrap_i64 (by omega) (by omega), e4]
    (refine XC.of_body (dt36) Tryz.func36 rfl Tryz.ntmps36 mixed (T := tl36) tk36 (by kernel_rfl) (by simp) rfl rfl rfl rfl rfl ?_; rintro o ho P hP c K hK; have hm : P.follows .mixedOrders = true := hP ▸ mixed; have hT : TOk P tl36 := hP ▸ tk36; (try rw [← ho]); cbv; (repeat (refine StopN.mk ?_; cbv)))
    repeat' (first | (refine Br.mk (fun hb => ?_) (fun hb => ?_) <;> ((try rw [ho] at hb); (try dsimp only [Ar.real, IX.vo] at hb); (try simp only [QP1, QB7, QSyVa, QR3] at hb); (try simp only [QBo, beq_iff_eq, beq_eq_false_iff_ne, ne_eq] at hb))) | (refine StopN.mk ?_; cbv) | (first | refine CallI.pure hP hs fn70 rfl rfl rfl ?_ | refine CallI.pure hP ht fn70 rfl rfl rfl ?_ | refine CallI.pure hP hu fn70 rfl rfl (by (rw [ho]; (try dsimp only [Ar.real, IX.vo, IX.val]); (try simp only [castI_eq]); (repeat rw [wrap_i64 (by omega) (by omega)])); rw [← e1, ← e2, ← e3, ← e4]; rfl) ?_); cbv | (refine hK _ _ ?_) | (refine NeedT.mk ?_ ?_) | (refine LoopN.lay (o := o) (D := dt36) 5 ho hm hT (by kernel_rfl) ?_; cbv))
    · exact absurd ‹true = false› (by decide)
    · exact absurd ‹true = false› (by decide)
    · rw [‹ru = false›]
      exact FinX_S4b rfl rfl rfl rfl rfl
    · rw [‹ru = true›]
      refine FinX_S4b ?_ ?_ ?_ ?_ rfl <;> ((rw [ho]; (try dsimp only [Ar.real, IX.vo, IX.val]); (try simp only [castI_eq]); (repeat rw [wrap_i64 (by omega) (by omega)])); (first | exact e1.symm | exact e2.symm | exact e3.symm | exact e4.symm))
  · rw [if_neg (fun h => h0 ⟨h.1, h.2.1⟩)]
    generalize sumsRight s = rs at *
    generalize sumsRight t = rt at *
    clear hu
    obtain ⟨a, b, p, d⟩ := s
    obtain ⟨a', b', p', d'⟩ := t
    (refine XC.of_body (dt36) Tryz.func36 rfl Tryz.ntmps36 mixed (T := tl36) tk36 (by kernel_rfl) (by simp) rfl rfl rfl rfl rfl ?_; rintro o ho P hP c K hK; have hm : P.follows .mixedOrders = true := hP ▸ mixed; have hT : TOk P tl36 := hP ▸ tk36; (try rw [← ho]); cbv; (repeat (refine StopN.mk ?_; cbv)))
    repeat' (first | (refine Br.mk (fun hb => ?_) (fun hb => ?_) <;> ((try rw [ho] at hb); (try dsimp only [Ar.real, IX.vo] at hb); (try simp only [QP1, QB7, QSyVa, QR3] at hb); (try simp only [QBo, beq_iff_eq, beq_eq_false_iff_ne, ne_eq] at hb))) | (refine StopN.mk ?_; cbv) | (first | refine CallI.pure hP hs fn70 rfl rfl rfl ?_ | refine CallI.pure hP ht fn70 rfl rfl rfl ?_); cbv | (refine hK _ _ ?_) | (refine NeedT.mk ?_ ?_))
    all_goals first
      | exact FinX_S4b rfl rfl rfl rfl rfl
      | (exfalso; simp_all; done)
      | trace_state
theorem x_r16Sum (b : Bk) (hbk : BkOk b) (n : Int) : XC Tryz.prog 10 [.agg (Bk.X Ar.real b), xi n] [] (.agg (S4.X Ar.real (sumW b (eqF n)))) [] := by
  have n1 := hbk.n_of
  have n2 := hbk.n_tk
  have hO := fun i => x_r06Of (b.of.getD i default).vec (hbk.o1 i)
  have hT1 := fun i => x_r06Of (b.tk.getD i default).vec (hbk.t1 i)
  have a0 : sumF b.of (fun x => eqF n x.frame) (·.vec) s40 0 = s40 := rfl
  have a1 : ∀ i, sumF b.of (fun x => eqF n x.frame) (·.vec) s40 (i + 1) = if (b.of.getD i default).frame = n then (sumsAdd (sumF b.of (fun x => eqF n x.frame) (·.vec) s40 i) (sumsOf (b.of.getD i default).vec)).1 else sumF b.of (fun x => eqF n x.frame) (·.vec) s40 i := fun i => by simp only [sumF, eqF, decide_eq_true_eq]
  have c0 : sumF b.tk (fun x => eqF n x.frame) (·.vec) (sumF b.of (fun x => eqF n x.frame) (·.vec) s40 b.of.length) 0 = sumF b.of (fun x => eqF n x.frame) (·.vec) s40 b.of.length := rfl
  have c1 : ∀ i, sumF b.tk (fun x => eqF n x.frame) (·.vec) (sumF b.of (fun x => eqF n x.frame) (·.vec) s40 b.of.length) (i + 1) = if (b.tk.getD i default).frame = n then (sumsAdd (sumF b.tk (fun x => eqF n x.frame) (·.vec) (sumF b.of (fun x => eqF n x.frame) (·.vec) s40 b.of.length) i) (sumsOf (b.tk.getD i default).vec)).1 else sumF b.tk (fun x => eqF n x.frame) (·.vec) (sumF b.of (fun x => eqF n x.frame) (·.vec) s40 b.of.length) i := fun i => by simp only [sumF, eqF, decide_eq_true_eq]
  have hres : sumW b (eqF n) = sumF b.tk (fun x => eqF n x.frame) (·.vec) (sumF b.of (fun x => eqF n x.frame) (·.vec) s40 b.of.length) b.tk.length := rfl
  generalize sumW b (eqF n) = res at *
  generalize sumF b.tk (fun x => eqF n x.frame) (·.vec) (sumF b.of (fun x => eqF n x.frame) (·.vec) s40 b.of.length) = M2 at *
  generalize sumF b.of (fun x => eqF n x.frame) (·.vec) s40 = M1 at *
  obtain ⟨⟨k1, k2, k3, k4, k5, ⟨k6, k7, k8, k9⟩⟩, now, last, fr, ag, of, tk, fl⟩ := b
  clear hbk
  dsimp only at *
  (refine XC.of_body (dt10) Tryz.func10 rfl Tryz.ntmps10 mixed (T := tl10) tk10 (by kernel_rfl) (by simp) rfl rfl rfl rfl rfl ?_; rintro o ho P hP c K hK; have hm : P.follows .mixedOrders = true := hP ▸ mixed; have hT : TOk P tl10 := hP ▸ tk10; (try rw [← ho]); cbv; (repeat (refine StopN.mk ?_; cbv)))
  refine LoopN.over (o := o) (D := dt10) ho hm hT (by kernel_rfl) (fun i : Nat => [(6, xn i)]) (fun i => [(2, .var (S4.X o (M1 i)) 22)]) (fun _ => []) (fun i => i ≤ of.length) (fun i => of.length - i) 0 (Nat.zero_le _) ?_ ?_
  · rw [a0]
    (refine ⟨?_, ?_, ?_, ?_⟩ <;> cbv <;> repeat' (first | trivial | exact EqX.rfl' | exact EqO.rfl' | apply And.intro | ((try clear hR3); (try clear hR2); (try clear hR); (try clear hK); (try simp only [ncCast] at *); (try simp only [castI_eq] at *); refine EqX.i ?_; (try rw [ho]); (try dsimp only [Ar.real, IX.vo, IX.val, BX.val, IX.toN]); (try simp only [QP1, QB7, QSyVa, QR3]); (repeat rw [wrap_i64 (by omega) (by omega)]); omega) | exact ⟨rfl⟩))
  · intro i hi R hR
    have ei : o.nth of i = of.getD i default := by rw [ho, real_nth]
    have h1 := hO i
    have h2 := x_r06Add (M1 i) (sumsOf (of.getD i default).vec)
    have h3 := a1 i
    rw [← ei] at h1 h2 h3
    generalize sumsOf (o.nth of i).vec = sv at *
    generalize sumsAdd (M1 i) sv = sa at *
    obtain ⟨sa, sb⟩ := sa
    generalize hMs : M1 (i + 1) = s' at *
    have hT9 : (o.nth of i).frame = n → s' = sa := fun h => by rw [h3, if_pos h]
    have hF9 : ¬ (o.nth of i).frame = n → s' = M1 i := fun h => by rw [h3, if_neg h]
    have hE : of.length ≤ i → M1 i = M2 0 := fun h => by
      obtain rfl : i = of.length := by omega
      exact c0.symm
    generalize M1 i = s at *
    obtain ⟨x1, x2, x3, x4⟩ := s
    obtain ⟨z1, z2, z3, z4⟩ := sv
    obtain ⟨y1, y2, y3, y4⟩ := sa
    rw [← ho] at h1 h2
    clear h3
    cbv
    repeat' (first | (refine Br.mk (fun hb => ?_) (fun hb => ?_) <;> ((try rw [ho] at hb); (try dsimp only [Ar.real, IX.vo] at hb); (try simp only [QP1, QB7, QSyVa, QR3] at hb); (try simp only [QBo, beq_iff_eq, beq_eq_false_iff_ne, ne_eq] at hb))) | (refine StopN.mk ?_; cbv) | ((first | refine CallN.pure hP h1 fn33 rfl rfl rfl ?_ | refine CallN.pure hP h2 fn36 rfl rfl rfl ?_ | refine CallI.pure hP h1 fn33 rfl rfl rfl ?_ | refine CallI.pure hP h2 fn36 rfl rfl rfl ?_); cbv) | (refine hK _ _ ?_) | (refine NeedT.mk ?_ ?_))
    any_goals (((try clear hR3); (try clear hR2); (try clear hR); (try clear hK); (try simp only [ncCast] at *); (try simp only [castI_eq] at *); (try rw [ho]); (try dsimp only [Ar.real, IX.vo, IX.val, BX.val, IX.toN]); (try simp only [QP1, QB7, QSyVa, QR3]); (try simp only [decide_eq_true_eq]); (all_goals (repeat rw [wrap_i64 (by omega) (by omega)])); (all_goals (first | omega | (simp only [Int.ofNat_eq_natCast]; omega)))); done)
    · obtain rfl := hT9 (by rw [ei]; assumption)
      refine hR _ (i + 1) (by show of.length - (i + 1) < of.length - i; ((try clear hR3); (try clear hR2); (try clear hR); (try clear hK); (try simp only [ncCast] at *); (try simp only [castI_eq] at *)); omega) (by show i + 1 ≤ of.length; ((try clear hR3); (try clear hR2); (try clear hR); (try clear hK); (try simp only [ncCast] at *); (try simp only [castI_eq] at *)); omega) ?_
      rw [hMs]
      (refine ⟨?_, ?_, ?_, ?_⟩ <;> cbv <;> repeat' (first | trivial | exact EqX.rfl' | exact EqO.rfl' | apply And.intro | ((try clear hR3); (try clear hR2); (try clear hR); (try clear hK); (try simp only [ncCast] at *); (try simp only [castI_eq] at *); refine EqX.i ?_; (try rw [ho]); (try dsimp only [Ar.real, IX.vo, IX.val, BX.val, IX.toN]); (try simp only [QP1, QB7, QSyVa, QR3]); (repeat rw [wrap_i64 (by omega) (by omega)]); omega)))
    · obtain rfl := hF9 (by rw [ei]; assumption)
      refine hR _ (i + 1) (by show of.length - (i + 1) < of.length - i; ((try clear hR3); (try clear hR2); (try clear hR); (try clear hK); (try simp only [ncCast] at *); (try simp only [castI_eq] at *)); omega) (by show i + 1 ≤ of.length; ((try clear hR3); (try clear hR2); (try clear hR); (try clear hK); (try simp only [ncCast] at *); (try simp only [castI_eq] at *)); omega) ?_
      rw [hMs]
      (refine ⟨?_, ?_, ?_, ?_⟩ <;> cbv <;> repeat' (first | trivial | exact EqX.rfl' | exact EqO.rfl' | apply And.intro | ((try clear hR3); (try clear hR2); (try clear hR); (try clear hK); (try simp only [ncCast] at *); (try simp only [castI_eq] at *); refine EqX.i ?_; (try rw [ho]); (try dsimp only [Ar.real, IX.vo, IX.val, BX.val, IX.toN]); (try simp only [QP1, QB7, QSyVa, QR3]); (repeat rw [wrap_i64 (by omega) (by omega)]); omega)))
    · have hE := hE (by assumption)
      clear hT9 hF9 hR h1 h2 hMs
      refine LoopN.over (o := o) (D := dt10) ho hm hT (by kernel_rfl) (fun i : Nat => [(7, xn i)]) (fun i => [(2, .var (S4.X o (M2 i)) 22)]) (fun _ => []) (fun i => i ≤ tk.length) (fun i => tk.length - i) 0 (Nat.zero_le _) ?_ ?_
      · rw [← hE]
        (refine ⟨?_, ?_, ?_, ?_⟩ <;> cbv <;> repeat' (first | trivial | exact EqX.rfl' | exact EqO.rfl' | apply And.intro | ((try clear hR3); (try clear hR2); (try clear hR); (try clear hK); (try simp only [ncCast] at *); (try simp only [castI_eq] at *); refine EqX.i ?_; (try rw [ho]); (try dsimp only [Ar.real, IX.vo, IX.val, BX.val, IX.toN]); (try simp only [QP1, QB7, QSyVa, QR3]); (repeat rw [wrap_i64 (by omega) (by omega)]); omega)))
      · clear hE
        intro i hi R hR
        have ei : o.nth tk i = tk.getD i default := by rw [ho, real_nth]
        have h1 := hT1 i
        have h2 := x_r06Add (M2 i) (sumsOf (tk.getD i default).vec)
        have h3 := c1 i
        rw [← ei] at h1 h2 h3
        generalize sumsOf (o.nth tk i).vec = sv at *
        generalize sumsAdd (M2 i) sv = sa at *
        obtain ⟨sa, sb⟩ := sa
        generalize hMs : M2 (i + 1) = s' at *
        have hT9 : (o.nth tk i).frame = n → s' = sa := fun h => by rw [h3, if_pos h]
        have hF9 : ¬ (o.nth tk i).frame = n → s' = M2 i := fun h => by rw [h3, if_neg h]
        have hE : tk.length ≤ i → res = M2 i := fun h => by
          obtain rfl : i = tk.length := by omega
          exact hres
        generalize M2 i = s at *
        obtain ⟨x1, x2, x3, x4⟩ := s
        obtain ⟨z1, z2, z3, z4⟩ := sv
        obtain ⟨y1, y2, y3, y4⟩ := sa
        rw [← ho] at h1 h2
        clear h3
        cbv
        repeat' (first | (refine Br.mk (fun hb => ?_) (fun hb => ?_) <;> ((try rw [ho] at hb); (try dsimp only [Ar.real, IX.vo] at hb); (try simp only [QP1, QB7, QSyVa, QR3] at hb); (try simp only [QBo, beq_iff_eq, beq_eq_false_iff_ne, ne_eq] at hb))) | (refine StopN.mk ?_; cbv) | ((first | refine CallN.pure hP h1 fn33 rfl rfl rfl ?_ | refine CallN.pure hP h2 fn36 rfl rfl rfl ?_ | refine CallI.pure hP h1 fn33 rfl rfl rfl ?_ | refine CallI.pure hP h2 fn36 rfl rfl rfl ?_); cbv) | (refine hK _ _ ?_) | (refine NeedT.mk ?_ ?_))
        any_goals (((try clear hR3); (try clear hR2); (try clear hR); (try clear hK); (try simp only [ncCast] at *); (try simp only [castI_eq] at *); (try rw [ho]); (try dsimp only [Ar.real, IX.vo, IX.val, BX.val, IX.toN]); (try simp only [QP1, QB7, QSyVa, QR3]); (try simp only [decide_eq_true_eq]); (all_goals (repeat rw [wrap_i64 (by omega) (by omega)])); (all_goals (first | omega | (simp only [Int.ofNat_eq_natCast]; omega)))); done)
        · obtain rfl := hT9 (by rw [ei]; assumption)
          refine hR _ (i + 1) (by show tk.length - (i + 1) < tk.length - i; ((try clear hR3); (try clear hR2); (try clear hR); (try clear hK); (try simp only [ncCast] at *); (try simp only [castI_eq] at *)); omega) (by show i + 1 ≤ tk.length; ((try clear hR3); (try clear hR2); (try clear hR); (try clear hK); (try simp only [ncCast] at *); (try simp only [castI_eq] at *)); omega) ?_
          rw [hMs]
          (refine ⟨?_, ?_, ?_, ?_⟩ <;> cbv <;> repeat' (first | trivial | exact EqX.rfl' | exact EqO.rfl' | apply And.intro | ((try clear hR3); (try clear hR2); (try clear hR); (try clear hK); (try simp only [ncCast] at *); (try simp only [castI_eq] at *); refine EqX.i ?_; (try rw [ho]); (try dsimp only [Ar.real, IX.vo, IX.val, BX.val, IX.toN]); (try simp only [QP1, QB7, QSyVa, QR3]); (repeat rw [wrap_i64 (by omega) (by omega)]); omega)))
        · obtain rfl := hF9 (by rw [ei]; assumption)
          refine hR _ (i + 1) (by show tk.length - (i + 1) < tk.length - i; ((try clear hR3); (try clear hR2); (try clear hR); (try clear hK); (try simp only [ncCast] at *); (try simp only [castI_eq] at *)); omega) (by show i + 1 ≤ tk.length; ((try clear hR3); (try clear hR2); (try clear hR); (try clear hK); (try simp only [ncCast] at *); (try simp only [castI_eq] at *)); omega) ?_
          rw [hMs]
          (refine ⟨?_, ?_, ?_, ?_⟩ <;> cbv <;> repeat' (first | trivial | exact EqX.rfl' | exact EqO.rfl' | apply And.intro | ((try clear hR3); (try clear hR2); (try clear hR); (try clear hK); (try simp only [ncCast] at *); (try simp only [castI_eq] at *); refine EqX.i ?_; (try rw [ho]); (try dsimp only [Ar.real, IX.vo, IX.val, BX.val, IX.toN]); (try simp only [QP1, QB7, QSyVa, QR3]); (repeat rw [wrap_i64 (by omega) (by omega)]); omega)))
        · rw [hE (by assumption)]
          exact .pure fun _ => rfl
theorem x_r16RoleSum (b : Bk) (hbk : BkOk b) (r : Int) : XC Tryz.prog 12 [.agg (Bk.X Ar.real b), xi r] [] (.agg (S4.X Ar.real (rsF b r b.fr.length))) [] := by
  have n1 := hbk.n_fr
  have hq := fun n => x_r16Sum b hbk n
  have a0 : rsF b r 0 = s40 := rfl
  have a1 : ∀ i, rsF b r (i + 1) = if (b.fr.getD i default).role = r then (sumsAdd (rsF b r i) (sumW b (eqF (b.fr.getD i default).id))).1 else rsF b r i := fun _ => rfl
  have hres : ∃ x, x = rsF b r b.fr.length := ⟨_, rfl⟩
  obtain ⟨res, hres⟩ := hres
  rw [← hres]
  generalize rsF b r = M1 at *
  obtain ⟨W, hW⟩ : ∃ W : Int → S4, W = fun n => sumW b (eqF n) := ⟨_, rfl⟩
  have hW' : ∀ n, sumW b (eqF n) = W n := fun n => by rw [hW]
  simp only [hW'] at hq a1
  clear hW hW'
  obtain ⟨⟨k1, k2, k3, k4, k5, ⟨k6, k7, k8, k9⟩⟩, now, last, fr, ag, of, tk, fl⟩ := b
  clear hbk
  dsimp only at *
  (refine XC.of_body (dt12) Tryz.func12 rfl Tryz.ntmps12 mixed (T := tl12) tk12 (by kernel_rfl) (by simp) rfl rfl rfl rfl rfl ?_; rintro o ho P hP c K hK; have hm : P.follows .mixedOrders = true := hP ▸ mixed; have hT : TOk P tl12 := hP ▸ tk12; (try rw [← ho]); cbv; (repeat (refine StopN.mk ?_; cbv)))
  refine LoopN.over (o := o) (D := dt12) ho hm hT (by kernel_rfl) (fun i : Nat => [(6, xn i)]) (fun i => [(2, .var (S4.X o (M1 i)) 22)]) (fun _ => []) (fun i => i ≤ fr.length) (fun i => fr.length - i) 0 (Nat.zero_le _) ?_ ?_
  · rw [a0]
    (refine ⟨?_, ?_, ?_, ?_⟩ <;> cbv <;> repeat' (first | trivial | exact EqX.rfl' | exact EqO.rfl' | apply And.intro | ((try clear hR3); (try clear hR2); (try clear hR); (try clear hK); (try simp only [ncCast] at *); (try simp only [castI_eq] at *); refine EqX.i ?_; (try rw [ho]); (try dsimp only [Ar.real, IX.vo, IX.val, BX.val, IX.toN]); (try simp only [QP1, QB7, QSyVa, QR3]); (repeat rw [wrap_i64 (by omega) (by omega)]); omega) | exact ⟨rfl⟩))
  · intro i hi R hR
    have ei : o.nth fr i = fr.getD i default := by rw [ho, real_nth]
    have h1 := hq (fr.getD i default).id
    have h2 := x_r06Add (M1 i) (W (fr.getD i default).id)
    have h3 := a1 i
    rw [← ei] at h1 h2 h3
    generalize W (o.nth fr i).id = sv at *
    generalize sumsAdd (M1 i) sv = sa at *
    obtain ⟨sa, sb⟩ := sa
    generalize hMs : M1 (i + 1) = s' at *
    have hT9 : (o.nth fr i).role = r → s' = sa := fun h => by rw [h3, if_pos h]
    have hF9 : ¬ (o.nth fr i).role = r → s' = M1 i := fun h => by rw [h3, if_neg h]
    have hE : fr.length ≤ i → res = M1 i := fun h => by
      obtain rfl : i = fr.length := by omega
      exact hres
    generalize M1 i = s at *
    obtain ⟨x1, x2, x3, x4⟩ := s
    obtain ⟨z1, z2, z3, z4⟩ := sv
    obtain ⟨y1, y2, y3, y4⟩ := sa
    rw [← ho] at h1 h2
    clear h3
    cbv
    repeat' (first | (refine Br.mk (fun hb => ?_) (fun hb => ?_) <;> ((try rw [ho] at hb); (try dsimp only [Ar.real, IX.vo] at hb); (try simp only [QP1, QB7, QSyVa, QR3] at hb); (try simp only [QBo, beq_iff_eq, beq_eq_false_iff_ne, ne_eq] at hb))) | (refine StopN.mk ?_; cbv) | ((first | refine CallN.pure hP h1 fn10 rfl rfl rfl ?_ | refine CallN.pure hP h2 fn36 rfl rfl rfl ?_); cbv) | (refine hK _ _ ?_) | (refine NeedT.mk ?_ ?_))
    any_goals (((try clear hR3); (try clear hR2); (try clear hR); (try clear hK); (try simp only [ncCast] at *); (try simp only [castI_eq] at *); (try rw [ho]); (try dsimp only [Ar.real, IX.vo, IX.val, BX.val, IX.toN]); (try simp only [QP1, QB7, QSyVa, QR3]); (try simp only [decide_eq_true_eq]); (all_goals (repeat rw [wrap_i64 (by omega) (by omega)])); (all_goals (first | omega | (simp only [Int.ofNat_eq_natCast]; omega)))); done)
    · obtain rfl := hT9 (by rw [ei]; assumption)
      refine hR _ (i + 1) (by show fr.length - (i + 1) < fr.length - i; ((try clear hR3); (try clear hR2); (try clear hR); (try clear hK); (try simp only [ncCast] at *); (try simp only [castI_eq] at *)); omega) (by show i + 1 ≤ fr.length; ((try clear hR3); (try clear hR2); (try clear hR); (try clear hK); (try simp only [ncCast] at *); (try simp only [castI_eq] at *)); omega) ?_
      rw [hMs]
      (refine ⟨?_, ?_, ?_, ?_⟩ <;> cbv <;> repeat' (first | trivial | exact EqX.rfl' | exact EqO.rfl' | apply And.intro | ((try clear hR3); (try clear hR2); (try clear hR); (try clear hK); (try simp only [ncCast] at *); (try simp only [castI_eq] at *); refine EqX.i ?_; (try rw [ho]); (try dsimp only [Ar.real, IX.vo, IX.val, BX.val, IX.toN]); (try simp only [QP1, QB7, QSyVa, QR3]); (repeat rw [wrap_i64 (by omega) (by omega)]); omega)))
    · obtain rfl := hF9 (by rw [ei]; assumption)
      refine hR _ (i + 1) (by show fr.length - (i + 1) < fr.length - i; ((try clear hR3); (try clear hR2); (try clear hR); (try clear hK); (try simp only [ncCast] at *); (try simp only [castI_eq] at *)); omega) (by show i + 1 ≤ fr.length; ((try clear hR3); (try clear hR2); (try clear hR); (try clear hK); (try simp only [ncCast] at *); (try simp only [castI_eq] at *)); omega) ?_
      rw [hMs]
      (refine ⟨?_, ?_, ?_, ?_⟩ <;> cbv <;> repeat' (first | trivial | exact EqX.rfl' | exact EqO.rfl' | apply And.intro | ((try clear hR3); (try clear hR2); (try clear hR); (try clear hK); (try simp only [ncCast] at *); (try simp only [castI_eq] at *); refine EqX.i ?_; (try rw [ho]); (try dsimp only [Ar.real, IX.vo, IX.val, BX.val, IX.toN]); (try simp only [QP1, QB7, QSyVa, QR3]); (repeat rw [wrap_i64 (by omega) (by omega)]); omega)))
    · rw [hE (by assumption)]
      exact .pure fun _ => rfl
theorem x_r16Weight (b : Bk) (hbk : BkOk b) (r : Int) : XC Tryz.prog 14 [.agg (Bk.X Ar.real b), xi r] [] (xi (whF b.fr r)) [] := by
  have h1 := fun i => ixR_hit (q := fun a : Frm => decide (a.role = r)) (l := b.fr) (i := i)
  have h2 := ixR_none (q := fun a : Frm => decide (a.role = r)) (l := b.fr)
  have hn := hbk.n_fr
  have hw : ∀ i : Nat, ixR (fun a : Frm => decide (a.role = r)) b.fr = (i : Int) → whF b.fr r = (b.fr.getD i default).weight := fun i h => by
    unfold whF atRole
    rw [h, if_pos (Int.natCast_nonneg i), Int.toNat_natCast]
  have hw0 : ixR (fun a : Frm => decide (a.role = r)) b.fr = -1 → whF b.fr r = 0 := fun h => by
    unfold whF atRole
    rw [h]
    rfl
  generalize whF b.fr r = w at *
  generalize ixR (fun a : Frm => decide (a.role = r)) b.fr = z at *
  obtain ⟨⟨c1, c2, c3, c4, c5, ⟨c6, c7, c8, c9⟩⟩, now, last, fr, ag, of, tk, fl⟩ := b
  dsimp only at *
  (refine XC.of_body ([]) Tryz.func14 rfl Tryz.ntmps14 mixed (T := tl14) tk14 (by kernel_rfl) (by simp) rfl rfl rfl rfl rfl ?_; rintro o ho P hP c K hK; have hm : P.follows .mixedOrders = true := hP ▸ mixed; have hT : TOk P tl14 := hP ▸ tk14; (try rw [← ho]); cbv; (repeat (refine StopN.mk ?_; cbv)))
  refine LoopN.over (o := o) (D := []) ho hm hT (by kernel_rfl) (fun i : Nat => [(5, xn i)]) (fun _ => []) (fun _ => []) (fun i => i ≤ fr.length ∧ ∀ j, j < i → decide ((fr.getD j default).role = r) = false) (fun i => fr.length - i) 0 ⟨Nat.zero_le _, fun j hj => by omega⟩ ?_ ?_
  · (refine ⟨?_, ?_, ?_, ?_⟩ <;> cbv <;> repeat' (first | trivial | exact EqX.rfl' | exact EqO.rfl' | apply And.intro | ((try clear hR3); (try clear hR2); (try clear hR); (try clear hK); (try simp only [ncCast] at *); (try simp only [castI_eq] at *); refine EqX.i ?_; (try rw [ho]); (try dsimp only [Ar.real, IX.vo, IX.val, BX.val, IX.toN]); (try simp only [QP1, QB7, QSyVa, QR3]); (repeat rw [wrap_i64 (by omega) (by omega)]); omega)))
  · rintro i ⟨hi, hno⟩ R hR
    have e2 := h1 i
    have e3 := hw i
    cbv
    repeat' (first | (refine Br.mk (fun hb => ?_) (fun hb => ?_) <;> ((try rw [ho] at hb); (try dsimp only [Ar.real, IX.vo] at hb); (try simp only [QP1, QB7, QSyVa, QR3] at hb); (try simp only [QBo, beq_iff_eq, beq_eq_false_iff_ne, ne_eq] at hb))) | (refine StopN.mk ?_; cbv) | (refine hK _ _ ?_) | (refine NeedT.mk ?_ ?_))
    any_goals (((try clear hR3); (try clear hR2); (try clear hR); (try clear hK); (try simp only [ncCast] at *); (try simp only [castI_eq] at *); (try rw [ho]); (try dsimp only [Ar.real, IX.vo, IX.val, BX.val, IX.toN]); (try simp only [QP1, QB7, QSyVa, QR3]); (try simp only [decide_eq_true_eq]); (all_goals (repeat rw [wrap_i64 (by omega) (by omega)])); (all_goals (first | omega | (simp only [Int.ofNat_eq_natCast]; omega)))); done)
    · rw [e3 (e2 (by assumption) hno (decide_eq_true (by assumption)))]
      refine .i ?_
      (rw [ho]; (try dsimp only [Ar.real, IX.vo, IX.val]); (try simp only [castI_eq]); (repeat rw [wrap_i64 (by omega) (by omega)]))
      rfl
    · refine hR _ (i + 1) (by show fr.length - (i + 1) < fr.length - i; omega) ⟨by show i + 1 ≤ fr.length; omega, all_step hno (decide_eq_false (by assumption))⟩ ?_
      (refine ⟨?_, ?_, ?_, ?_⟩ <;> cbv <;> repeat' (first | trivial | exact EqX.rfl' | exact EqO.rfl' | apply And.intro | ((try clear hR3); (try clear hR2); (try clear hR); (try clear hK); (try simp only [ncCast] at *); (try simp only [castI_eq] at *); refine EqX.i ?_; (try rw [ho]); (try dsimp only [Ar.real, IX.vo, IX.val, BX.val, IX.toN]); (try simp only [QP1, QB7, QSyVa, QR3]); (repeat rw [wrap_i64 (by omega) (by omega)]); omega)))
    · obtain rfl : i = fr.length := by ((try clear hR3); (try clear hR2); (try clear hR); (try clear hK); (try simp only [ncCast] at *); (try simp only [castI_eq] at *)); omega
      rw [hw0 (h2 hno)]
      exact .i rfl
theorem x_r16Total (b : Bk) (hbk : BkOk b) (hrb : RightB b) : XC Tryz.prog 8 [.agg (Bk.X Ar.real b)] [] (.agg (S4.X Ar.real (totF b))) [] := by
  have hn0 := hbk.n_ag
  have hA := hrb.agent
  have hO := fun i => x_r06Of (b.ag.getD i default).total (hbk.a1 i)
  have hS := fun i hi => agT_succ (hA i hi)
  have hB := fun i hi => sumsOf_bd (hA i hi)
  have hnn := fun i (hi : i ≤ b.ag.length) => And.intro (agS_nn hA 0 i hi) (And.intro (agS_nn hA 1 i hi) (And.intro (agS_nn hA 2 i hi) (agS_nn hA 3 i hi)))
  change ∀ i, i ≤ b.ag.length → 0 ≤ (agT b.ag i).a ∧ 0 ≤ (agT b.ag i).b ∧ 0 ≤ (agT b.ag i).c ∧ 0 ≤ (agT b.ag i).d at hnn
  have hle : ∀ i, i ≤ b.ag.length → leM (agT b.ag i) b.cfg.most := fun i hi => pB_iff.1 hrb.most i hi
  have hm := (cfgB_iff.1 (setB_true hrb.set).1).most
  have hT0 : agT b.ag 0 = ⟨0, 0, 0, 0⟩ := rfl
  have hres : totF b = agT b.ag b.ag.length := hrb.totF
  generalize totF b = res at *
  obtain ⟨⟨c1, c2, c3, c4, c5, ⟨c6, c7, c8, c9⟩⟩, now, last, fr, ag, of, tk, fl⟩ := b
  dsimp only at *
  clear hbk hA hrb
  generalize agT ag = M at *
  (refine XC.of_body (dt8) Tryz.func8 rfl Tryz.ntmps8 mixed (T := tl8) tk8 (by kernel_rfl) (by simp) rfl rfl rfl rfl rfl ?_; rintro o ho P hP c K hK; have hm : P.follows .mixedOrders = true := hP ▸ mixed; have hT : TOk P tl8 := hP ▸ tk8; (try rw [← ho]); cbv; (repeat (refine StopN.mk ?_; cbv)))
  refine LoopN.over (o := o) (D := dt8) ho hm hT (by kernel_rfl) (fun i : Nat => [(4, xn i)]) (fun i => [(2, .var [xi (M i).a, xi (M i).b, xi (M i).c, xi (M i).d] 22)]) (fun _ => []) (fun i => i ≤ ag.length) (fun i => ag.length - i) 0 (Nat.zero_le _) ?_ ?_
  · rw [hT0]
    (refine ⟨?_, ?_, ?_, ?_⟩ <;> cbv <;> repeat' (first | trivial | exact EqX.rfl' | exact EqO.rfl' | apply And.intro | ((try clear hR3); (try clear hR2); (try clear hR); (try clear hK); (try simp only [ncCast] at *); (try simp only [castI_eq] at *); refine EqX.i ?_; (try rw [ho]); (try dsimp only [Ar.real, IX.vo, IX.val, BX.val, IX.toN]); (try simp only [QP1, QB7, QSyVa, QR3]); (repeat rw [wrap_i64 (by omega) (by omega)]); omega) | exact ⟨rfl⟩))
  · rintro i hi R hR
    have ei : o.nth ag i = ag.getD i default := by rw [ho, real_nth]
    rcases Nat.lt_or_ge i ag.length with hlt | hge
    · have h1 := hO i
      have h2 := hS i hlt
      have h3 := hB i hlt
      have h4 := hnn i hi
      have h5 := hle i hi
      generalize sumsOf (ag.getD i default).total = sv at *
      generalize hMs : M (i + 1) = s' at *
      generalize M i = s at *
      obtain ⟨x1, x2, x3, x4⟩ := s
      obtain ⟨z1, z2, z3, z4⟩ := sv
      obtain ⟨l1, l2, l3, l4⟩ := h5
      dsimp only at h2 h3 h4 l1 l2 l3 l4
      subst h2
      have w1 : IntKind.i64.wrap (x1 + z1) = x1 + z1 := wrap_i64 (by omega) (by omega)
      have w2 : IntKind.i64.wrap (x2 + z2) = x2 + z2 := wrap_i64 (by omega) (by omega)
      have w3 : IntKind.i64.wrap (x3 + z3) = x3 + z3 := wrap_i64 (by omega) (by omega)
      have w4 : IntKind.i64.wrap (x4 + z4) = x4 + z4 := wrap_i64 (by omega) (by omega)
      rw [← ei, ← ho] at h1
      cbv
      repeat' (first | (refine Br.mk (fun hb => ?_) (fun hb => ?_) <;> ((try rw [ho] at hb); (try dsimp only [Ar.real, IX.vo] at hb); (try simp only [QP1, QB7, QSyVa, QR3] at hb); (try simp only [QBo, beq_iff_eq, beq_eq_false_iff_ne, ne_eq] at hb))) | (refine StopN.mk ?_; cbv) | ((first | refine CallI.pure hP h1 fn33 rfl rfl rfl ?_ | refine CallN.pure hP h1 fn33 rfl rfl rfl ?_); cbv) | (refine hK _ _ ?_) | (refine NeedT.mk ?_ ?_) | (refine LoopN.lay (o := o) (D := dt8) 5 ho hm hT (by kernel_rfl) ?_; cbv))
      any_goals (((try clear hR3); (try clear hR2); (try clear hR); (try clear hK); (try simp only [ncCast] at *); (try simp only [castI_eq] at *); (try rw [ho]); (try dsimp only [Ar.real, IX.vo, IX.val, BX.val, IX.toN]); (try simp only [QP1, QB7, QSyVa, QR3]); (try simp only [decide_eq_true_eq]); (all_goals (repeat rw [wrap_i64 (by omega) (by omega)])); (all_goals (first | omega | (simp only [Int.ofNat_eq_natCast]; omega)))); done)
      have e5 : OX.toOb c (.var [xi (IntKind.i64.wrap (x1 + z1)), xi (IntKind.i64.wrap (x2 + z2)), xi (IntKind.i64.wrap (x3 + z3)), xi (IntKind.i64.wrap (x4 + z4))] 22) = OX.toOb c (.var [xi (x1 + z1), xi (x2 + z2), xi (x3 + z3), xi (x4 + z4)] 22) := by rw [w1, w2, w3, w4]
      refine hR _ (i + 1) (by show ag.length - (i + 1) < ag.length - i; ((try clear hR3); (try clear hR2); (try clear hR); (try clear hK); (try simp only [ncCast] at *); (try simp only [castI_eq] at *)); omega) hlt ?_
      rw [hMs]
      (refine ⟨?_, ?_, ?_, ?_⟩ <;> cbv <;> repeat' (first | trivial | exact EqX.rfl' | exact EqO.rfl' | apply And.intro | ((try clear hR3); (try clear hR2); (try clear hR); (try clear hK); (try simp only [ncCast] at *); (try simp only [castI_eq] at *); refine EqX.i ?_; (try rw [ho]); (try dsimp only [Ar.real, IX.vo, IX.val, BX.val, IX.toN]); (try simp only [QP1, QB7, QSyVa, QR3]); (repeat rw [wrap_i64 (by omega) (by omega)]); omega) | (exact ⟨by subst ho; exact e5⟩)))
    · have e6 : res = M i := by rw [hres, show ag.length = i by omega]
      generalize M i = s at *
      obtain ⟨x1, x2, x3, x4⟩ := s
      subst e6
      cbv
      repeat' (first | (refine Br.mk (fun hb => ?_) (fun hb => ?_) <;> ((try rw [ho] at hb); (try dsimp only [Ar.real, IX.vo] at hb); (try simp only [QP1, QB7, QSyVa, QR3] at hb); (try simp only [QBo, beq_iff_eq, beq_eq_false_iff_ne, ne_eq] at hb))) | (refine StopN.mk ?_; cbv) | ((first | refine CallI.pure hP (x_r06Of _ ‹_›) fn33 (by first | rfl | (rw [ho]; try rfl)) (by rfl) (by first | rfl | (rw [ho]; try rfl)) ?_ | refine CallN.pure hP (x_r06Of _ ‹_›) fn33 (by first | rfl | (rw [ho]; try rfl)) (by rfl) (by first | rfl | (rw [ho]; try rfl)) ?_); (try rw [← ho]); generalize hr : sumsOf _ = r; (try rw [ho] at hr); (try dsimp only [Ar.real, IX.vo] at hr); (try simp only [QP1, QB7, QSyVa, QR3] at hr); cbv) | (refine hK _ _ ?_) | (refine NeedT.mk ?_ ?_))
      any_goals (((try clear hR3); (try clear hR2); (try clear hR); (try clear hK); (try simp only [ncCast] at *); (try simp only [castI_eq] at *); (try rw [ho]); (try dsimp only [Ar.real, IX.vo, IX.val, BX.val, IX.toN]); (try simp only [QP1, QB7, QSyVa, QR3]); (try simp only [decide_eq_true_eq]); (all_goals (repeat rw [wrap_i64 (by omega) (by omega)])); (all_goals (first | omega | (simp only [Int.ofNat_eq_natCast]; omega)))); done)
      exact .pure fun _ => rfl
theorem x_r16Part (b : Bk) (hbk : BkOk b) (hrb : RightB b) (s : S4) : XC Tryz.prog 18 [.agg (Bk.X Ar.real b), .agg (S4.X Ar.real s)] [] (.agg [xi (sumsDom s (totF b)).num, xi (sumsDom s (totF b)).den]) [] := by
  have hTo := x_r16Total b hbk hrb
  have hD := x_rDom s (totF b)
  rw [rDom_eq] at hD
  generalize sumsDom s (totF b) = d at *
  generalize totF b = t at *
  obtain ⟨⟨c1, c2, c3, c4, c5, ⟨c6, c7, c8, c9⟩⟩, now, last, fr, ag, of, tk, fl⟩ := b
  obtain ⟨x1, x2, x3, x4⟩ := s
  obtain ⟨y1, y2, y3, y4⟩ := t
  clear hbk hrb
  (refine XC.of_body (dt18) Tryz.func18 rfl Tryz.ntmps18 mixed (T := tl18) tk18 (by kernel_rfl) (by simp) rfl rfl rfl rfl rfl ?_; rintro o ho P hP c K hK; have hm : P.follows .mixedOrders = true := hP ▸ mixed; have hT : TOk P tl18 := hP ▸ tk18; (try rw [← ho]); cbv; (repeat (refine StopN.mk ?_; cbv)))
  rw [← ho] at hTo hD
  repeat' (first | (refine Br.mk (fun hb => ?_) (fun hb => ?_) <;> ((try rw [ho] at hb); (try dsimp only [Ar.real, IX.vo] at hb); (try simp only [QP1, QB7, QSyVa, QR3] at hb); (try simp only [QBo, beq_iff_eq, beq_eq_false_iff_ne, ne_eq] at hb))) | (refine StopN.mk ?_; cbv) | ((first | refine CallN.pure hP hTo fn8 rfl rfl rfl ?_ | refine CallN.pure hP hD fn44 rfl rfl rfl ?_); cbv) | (refine hK _ _ ?_) | (refine NeedT.mk ?_ ?_))
  exact .pure fun _ => rfl
end Go.Proofs.YtlblpbahoblihaaGreat.Sy
namespace Go.Proofs.YtlblpbahoblihaaGreat.Sy
open Go Go.Sy Go.Proofs.YtlblpbahoblihaaGreat
structure StNk where
  n : Nat
  k : Nat
structure SharesF (rs : List Int) (W : Int → Int) : Prop where
  b0 : belowN rs 1 0
  b1 : ∀ n k : Nat, belowN rs n k → 0 < W n → k < rs.length ∧ rs.getD k default = n ∧ belowN rs (n + 1) (k + 1)
  b2 : ∀ n k : Nat, belowN rs n k → W n ≤ 0 → belowN rs (n + 1) k
  b3 : ∀ k, belowN rs 33 k → k = rs.length
theorem RightB.shares {b : Bk} (h : RightB b) : SharesF (rolesP b) (Sy.whF b.fr) where
  b0 := ⟨Nat.zero_le _, fun j hj => by omega, fun j _ hj => by
    have := (h.role_bd (List.getElem_mem hj)).1
    rw [List.getD_eq_getElem?_getD, List.getElem?_eq_getElem hj]
    exact this⟩
  b1 n k hb hw := belowN_in (rolesP_up b) hb ((h.whF n).1.1 hw)
  b2 n k hb hw := belowN_out hb fun hm => by
    have := (h.whF n).1.2 hm
    omega
  b3 k hb := belowN_end hb fun r hr => (h.role_bd hr).2
theorem x_BookShares (b : Bk) (hbk : BkOk b) (f r : Int) : XC Tryz.prog 3 [.agg (Bk.X Ar.real b), xi f, xi r] [] (xb true) [] := by
  have hWk := XC_at x_works16 (fun _ => rfl) (r' := .b .t) (fun _ => rfl)
  have hFw := x_Few b hbk
  have hRl := x_r16Rule b hbk
  generalize fewR b = few at *
  by_cases h0 : ruleP b = 0
  · have hrb := ruleP_right h0
    rw [h0] at hRl
    replace hRl := XC_at hRl (fun _ => rfl) (r' := xi 0) (fun _ => rfl)
    have hT1 := x_bTotal b hbk
    have hT2 := x_r16Total b hbk hrb
    have hS1 := x_bSum b hbk f
    have hS2 := x_r16Sum b hbk f
    have hR1 := x_bRoleSum b hbk r
    have hR2 := x_r16RoleSum b hbk r
    rw [hrb.rsAll] at hR2
    have hRo := x_Roles b hbk
    have hWt := fun n => x_r16Weight b hbk n
    have hSh := x_Share b hbk f
    have hRs := x_RoleShare b hbk r
    have hFr := x_r16Frame b hbk f
    have hP1 := x_r16Part b hbk hrb (sumW b (eqF f))
    have hP2 := x_r16Part b hbk hrb (sumW b (roleB b r))
    have hF := hrb.shares
    have hw2 := (hrb.whF r).2
    have hf1 : 0 ≤ atFrame b.fr f → fshR b f = ⟨(sumsDom (sumW b (eqF f)) (totF b)).num, (sumsDom (sumW b (eqF f)) (totF b)).den, 1⟩ := fun h => by
      unfold fshR
      rw [if_pos h]
      rfl
    have hf2 : 0 ≤ atRole b.fr r → rshR b r = ⟨(sumsDom (sumW b (roleB b r)) (totF b)).num, (sumsDom (sumW b (roleB b r)) (totF b)).den, whF b.fr r⟩ := fun h => by
      unfold rshR
      rw [if_pos h]
      rfl
    have hrl : (rolesP b).length ≤ 1048576 := by
      have h1 := cpcI_len (sortI (b.fr.map (·.role)))
      have := hbk.n_fr
      rw [sortI_len, List.length_map] at h1
      unfold rolesP
      omega
    clear hrb h0
    generalize sumsDom (sumW b (eqF f)) (totF b) = d1 at *
    generalize sumsDom (sumW b (roleB b r)) (totF b) = d2 at *
    generalize sumW b (eqF f) = s1 at *
    generalize sumW b (roleB b r) = s2 at *
    generalize totF b = s3 at *
    generalize fshR b f = g1 at *
    generalize rshR b r = g2 at *
    generalize hz1 : decide (0 ≤ atFrame b.fr f) = e1 at *
    generalize hz2 : decide (0 ≤ atRole b.fr r) = e2 at *
    generalize atFrame b.fr f = z1 at *
    generalize atRole b.fr r = z2 at *
    generalize whF b.fr = W at *
    generalize rolesP b = rs at *
    obtain ⟨b0, b1, b2, b3⟩ := hF
    obtain ⟨⟨k1, k2, k3, k4, k5, ⟨k6, k7, k8, k9⟩⟩, now, last, fr, ag, of, tk, fl⟩ := b
    obtain ⟨x1, x2, x3, x4⟩ := s1
    obtain ⟨y1, y2, y3, y4⟩ := s2
    obtain ⟨u1, u2, u3, u4⟩ := s3
    obtain ⟨n1, m1, a1⟩ := d1
    obtain ⟨n2, m2, a2⟩ := d2
    obtain ⟨p1, p2, p3⟩ := g1
    obtain ⟨q1, q2, q3⟩ := g2
    clear hbk
    dsimp only at *
    simp only [Shr.mk.injEq] at hf1 hf2
    (refine XC.of_body (dt3) Tryz.func3 rfl Tryz.ntmps3 mixed (T := tl3) tk3 (by kernel_rfl) (by simp) rfl rfl rfl rfl rfl ?_; rintro o ho P hP c K hK; have hm : P.follows .mixedOrders = true := hP ▸ mixed; have hT : TOk P tl3 := hP ▸ tk3; (try rw [← ho]); cbv; (repeat (refine StopN.mk ?_; cbv)))
    rw [← ho] at hFw hRl hT1 hT2 hS1 hS2 hR1 hR2 hRo hSh hRs hFr hP1 hP2
    repeat' (first | (refine Br.mk (fun hb => ?_) (fun hb => ?_) <;> ((try rw [ho] at hb); (try dsimp only [Ar.real, IX.vo] at hb); (try simp only [QP1, QB7, QSyVa, QR3] at hb); (try simp only [QBo, beq_iff_eq, beq_eq_false_iff_ne, ne_eq] at hb))) | (refine StopN.mk ?_; cbv) | ((first | refine CallI.pure hP hFw fn4 rfl rfl rfl ?_ | refine CallI.pure hP hRl fn5 rfl rfl rfl ?_ | refine CallI.pure hP hWk fn6 rfl rfl rfl ?_ | refine CallN.pure hP hT1 fn7 rfl rfl rfl ?_ | refine CallN.pure hP hT2 fn8 rfl rfl rfl ?_ | refine CallN.pure hP hS1 fn9 rfl rfl rfl ?_ | refine CallN.pure hP hS2 fn10 rfl rfl rfl ?_ | refine CallN.pure hP hR1 fn11 rfl rfl rfl ?_ | refine CallN.pure hP hR2 fn12 rfl rfl rfl ?_ | refine CallI.pure hP hRo fn13 rfl rfl rfl ?_); cbv) | ((first | refine CallI.pure hP (x_r16Weight _ ‹_› _) fn14 (by first | rfl | (rw [ho]; try rfl)) (by rfl) (by first | rfl | (rw [ho]; try rfl)) ?_ | refine CallN.pure hP (x_r16Weight _ ‹_› _) fn14 (by first | rfl | (rw [ho]; try rfl)) (by rfl) (by first | rfl | (rw [ho]; try rfl)) ?_); (try rw [← ho]); cbv) | ((first | refine CallI.pure hP (x_Share _ ‹_› _) fn15 (by first | rfl | (rw [ho]; try rfl)) (by rfl) (by first | rfl | (rw [ho]; try rfl)) ?_ | refine CallN.pure hP (x_Share _ ‹_› _) fn15 (by first | rfl | (rw [ho]; try rfl)) (by rfl) (by first | rfl | (rw [ho]; try rfl)) ?_); (try rw [← ho]); cbv) | ((first | refine CallI.pure hP (x_RoleShare _ ‹_› _) fn16 (by first | rfl | (rw [ho]; try rfl)) (by rfl) (by first | rfl | (rw [ho]; try rfl)) ?_ | refine CallN.pure hP (x_RoleShare _ ‹_› _) fn16 (by first | rfl | (rw [ho]; try rfl)) (by rfl) (by first | rfl | (rw [ho]; try rfl)) ?_); (try rw [← ho]); cbv) | ((first | refine CallI.pure hP (x_r16Frame _ ‹_› _) fn17 (by first | rfl | (rw [ho]; try rfl)) (by rfl) (by first | rfl | (rw [ho]; try rfl)) ?_ | refine CallN.pure hP (x_r16Frame _ ‹_› _) fn17 (by first | rfl | (rw [ho]; try rfl)) (by rfl) (by first | rfl | (rw [ho]; try rfl)) ?_); (try rw [← ho]); generalize hr : atFrame _ _ = r; (try rw [ho] at hr); (try dsimp only [Ar.real, IX.vo] at hr); (try simp only [QP1, QB7, QSyVa, QR3] at hr); cbv) | ((first | refine CallI.pure hP (x_r16Part _ ‹_› ‹_› _) fn18 (by first | rfl | (rw [ho]; try rfl)) (by rfl) (by first | rfl | (rw [ho]; try rfl)) ?_ | refine CallN.pure hP (x_r16Part _ ‹_› ‹_› _) fn18 (by first | rfl | (rw [ho]; try rfl)) (by rfl) (by first | rfl | (rw [ho]; try rfl)) ?_); (try rw [← ho]); cbv) | (refine hK _ _ ?_) | (refine NeedT.mk ?_ ?_))
    all_goals try first | exact .b rfl | exact absurd hb (by decide) | fail
    refine LoopN.over (o := o) (D := dt3) ho hm hT (by kernel_rfl) (fun s : StNk => [(9, xn s.n), (8, xn s.k)]) (fun _ => []) (fun _ => []) (fun s => (1 ≤ s.n ∧ s.n ≤ 33) ∧ belowN rs s.n s.k) (fun s => 33 - s.n) ⟨1, 0⟩ ⟨⟨Nat.le_refl _, by decide⟩, b0⟩ ?_ ?_
    · (refine ⟨?_, ?_, ?_, ?_⟩ <;> cbv <;> repeat' (first | trivial | exact EqX.rfl' | exact EqO.rfl' | apply And.intro | ((try clear hR3); (try clear hR2); (try clear hR); (try clear hK); (try simp only [ncCast] at *); (try simp only [castI_eq] at *); refine EqX.i ?_; (try rw [ho]); (try dsimp only [Ar.real, IX.vo, IX.val, BX.val, IX.toN]); (try simp only [QP1, QB7, QSyVa, QR3]); (repeat rw [wrap_i64 (by omega) (by omega)]); omega)))
    · rintro ⟨n, k⟩ ⟨hn, hbl⟩ R hR
      dsimp only at hn hbl
      have ek : o.nth rs k = rs.getD k default := by rw [ho, real_nth]
      have hkl : k ≤ rs.length := hbl.1
      have c1 := b1 n k hbl
      have c2 := b2 n k hbl
      have h1 := hWt n
      have c3 : 32 < n → k = rs.length := fun h => b3 k ((show n = 33 by omega) ▸ hbl)
      rw [← ho] at h1
      have h2 := hWt r
      rw [← ho] at h2
      have A1 : e1 = decide (0 ≤ z1) := hz1.symm
      have A2 : e2 = decide (0 < W r) := by
        rw [← hz2, Bool.eq_iff_iff, decide_eq_true_eq, decide_eq_true_eq]
        exact hw2.symm
      have A3 : e1 = true → p1 = n1 ∧ p2 = m1 ∧ p3 = 1 := fun h => hf1 (of_decide_eq_true (hz1.trans h))
      have A5 : e2 = true → q1 = n2 ∧ q2 = m2 ∧ q3 = W r := fun h => hf2 (of_decide_eq_true (hz2.trans h))
      have A4 : e1 = true → (decide (p1 = n1) && decide (p2 = m1)) = true := fun h => by rw [decide_eq_true (A3 h).1, decide_eq_true (A3 h).2.1]; rfl
      have A6 : e2 = true → (decide (q1 = n2) && decide (q2 = m2)) = true := fun h => by rw [decide_eq_true (A5 h).1, decide_eq_true (A5 h).2.1]; rfl
      clear hf1 hf2 hz1 hz2 hw2
      generalize hwn : W n = w at *
      generalize W r = wr at *
      clear b0 b1 b2 b3 hWt
      cbv
      repeat' (first | (refine Br.mk (fun hb => ?_) (fun hb => ?_) <;> ((try rw [ho] at hb); (try dsimp only [Ar.real, IX.vo] at hb); (try simp only [QP1, QB7, QSyVa, QR3] at hb); (try simp only [QBo, beq_iff_eq, beq_eq_false_iff_ne, ne_eq] at hb))) | (refine StopN.mk ?_; cbv) | ((first | refine CallI.pure hP h1 fn14 rfl rfl rfl ?_ | refine CallI.pure hP h2 fn14 rfl rfl rfl ?_ | refine CallI.pure hP hSh fn15 rfl rfl rfl ?_ | refine CallI.pure hP hRs fn16 rfl rfl rfl ?_ | refine CallI.pure hP hFr fn17 rfl rfl rfl ?_ | refine CallN.pure hP hS2 fn10 rfl rfl rfl ?_ | refine CallN.pure hP hR2 fn12 rfl rfl rfl ?_ | refine CallN.pure hP hP1 fn18 rfl rfl rfl ?_ | refine CallN.pure hP hP2 fn18 rfl rfl rfl ?_ | refine CallN.pure hP h2 fn14 rfl rfl rfl ?_ | refine CallI.pure hP hWk fn6 rfl rfl rfl ?_); cbv) | ((first | refine CallI.pure hP (x_Few _ ‹_›) fn4 (by first | rfl | (rw [ho]; try rfl)) (by rfl) (by first | rfl | (rw [ho]; try rfl)) ?_ | refine CallN.pure hP (x_Few _ ‹_›) fn4 (by first | rfl | (rw [ho]; try rfl)) (by rfl) (by first | rfl | (rw [ho]; try rfl)) ?_); (try rw [← ho]); generalize hr : fewR _ = r; (try rw [ho] at hr); (try dsimp only [Ar.real, IX.vo] at hr); (try simp only [QP1, QB7, QSyVa, QR3] at hr); cbv) | ((first | refine CallI.pure hP (x_r16Rule _ ‹_›) fn5 (by first | rfl | (rw [ho]; try rfl)) (by rfl) (by first | rfl | (rw [ho]; try rfl)) ?_ | refine CallN.pure hP (x_r16Rule _ ‹_›) fn5 (by first | rfl | (rw [ho]; try rfl)) (by rfl) (by first | rfl | (rw [ho]; try rfl)) ?_); (try rw [← ho]); cbv) | ((first | refine CallI.pure hP (x_bTotal _ ‹_›) fn7 (by first | rfl | (rw [ho]; try rfl)) (by rfl) (by first | rfl | (rw [ho]; try rfl)) ?_ | refine CallN.pure hP (x_bTotal _ ‹_›) fn7 (by first | rfl | (rw [ho]; try rfl)) (by rfl) (by first | rfl | (rw [ho]; try rfl)) ?_); (try rw [← ho]); cbv) | ((first | refine CallI.pure hP (x_r16Total _ ‹_› ‹_›) fn8 (by first | rfl | (rw [ho]; try rfl)) (by rfl) (by first | rfl | (rw [ho]; try rfl)) ?_ | refine CallN.pure hP (x_r16Total _ ‹_› ‹_›) fn8 (by first | rfl | (rw [ho]; try rfl)) (by rfl) (by first | rfl | (rw [ho]; try rfl)) ?_); (try rw [← ho]); cbv) | ((first | refine CallI.pure hP (x_bSum _ ‹_› _) fn9 (by first | rfl | (rw [ho]; try rfl)) (by rfl) (by first | rfl | (rw [ho]; try rfl)) ?_ | refine CallN.pure hP (x_bSum _ ‹_› _) fn9 (by first | rfl | (rw [ho]; try rfl)) (by rfl) (by first | rfl | (rw [ho]; try rfl)) ?_); (try rw [← ho]); cbv) | ((first | refine CallI.pure hP (x_bRoleSum _ ‹_› _) fn11 (by first | rfl | (rw [ho]; try rfl)) (by rfl) (by first | rfl | (rw [ho]; try rfl)) ?_ | refine CallN.pure hP (x_bRoleSum _ ‹_› _) fn11 (by first | rfl | (rw [ho]; try rfl)) (by rfl) (by first | rfl | (rw [ho]; try rfl)) ?_); (try rw [← ho]); cbv) | ((first | refine CallI.pure hP (x_Roles _ ‹_›) fn13 (by first | rfl | (rw [ho]; try rfl)) (by rfl) (by first | rfl | (rw [ho]; try rfl)) ?_ | refine CallN.pure hP (x_Roles _ ‹_›) fn13 (by first | rfl | (rw [ho]; try rfl)) (by rfl) (by first | rfl | (rw [ho]; try rfl)) ?_); (try rw [← ho]); generalize hr : rolesP _ = r; (try rw [ho] at hr); (try dsimp only [Ar.real, IX.vo] at hr); (try simp only [QP1, QB7, QSyVa, QR3] at hr); cbv) | (refine hK _ _ ?_) | (refine NeedT.mk ?_ ?_))
      any_goals (((try clear hR3); (try clear hR2); (try clear hR); (try clear hK); (try simp only [ncCast] at *); (try simp only [castI_eq] at *); (try rw [ho]); (try dsimp only [Ar.real, IX.vo, IX.val, BX.val, IX.toN]); (try simp only [QP1, QB7, QSyVa, QR3]); (try simp only [decide_eq_true_eq]); (all_goals (repeat rw [wrap_i64 (by omega) (by omega)])); (all_goals (first | omega | (simp only [Int.ofNat_eq_natCast]; omega)))); done)
      · exact absurd (c1 ‹0 < w›).2.1 hb
      · refine hR _ ⟨n + 1, k + 1⟩ (by show 33 - (n + 1) < 33 - n; ((try clear hR3); (try clear hR2); (try clear hR); (try clear hK); (try simp only [ncCast] at *); (try simp only [castI_eq] at *)); omega) ⟨⟨by show 1 ≤ n + 1; omega, by show n + 1 ≤ 33; ((try clear hR3); (try clear hR2); (try clear hR); (try clear hK); (try simp only [ncCast] at *); (try simp only [castI_eq] at *)); omega⟩, (c1 ‹0 < w›).2.2⟩ ?_
        (refine ⟨?_, ?_, ?_, ?_⟩ <;> cbv <;> repeat' (first | trivial | exact EqX.rfl' | exact EqO.rfl' | apply And.intro | ((try clear hR3); (try clear hR2); (try clear hR); (try clear hK); (try simp only [ncCast] at *); (try simp only [castI_eq] at *); refine EqX.i ?_; (try rw [ho]); (try dsimp only [Ar.real, IX.vo, IX.val, BX.val, IX.toN]); (try simp only [QP1, QB7, QSyVa, QR3]); (repeat rw [wrap_i64 (by omega) (by omega)]); omega)))
      · refine hR _ ⟨n + 1, k⟩ (by show 33 - (n + 1) < 33 - n; ((try clear hR3); (try clear hR2); (try clear hR); (try clear hK); (try simp only [ncCast] at *); (try simp only [castI_eq] at *)); omega) ⟨⟨by show 1 ≤ n + 1; omega, by show n + 1 ≤ 33; ((try clear hR3); (try clear hR2); (try clear hR); (try clear hK); (try simp only [ncCast] at *); (try simp only [castI_eq] at *)); omega⟩, c2 hb⟩ ?_
        (refine ⟨?_, ?_, ?_, ?_⟩ <;> cbv <;> repeat' (first | trivial | exact EqX.rfl' | exact EqO.rfl' | apply And.intro | ((try clear hR3); (try clear hR2); (try clear hR); (try clear hK); (try simp only [ncCast] at *); (try simp only [castI_eq] at *); refine EqX.i ?_; (try rw [ho]); (try dsimp only [Ar.real, IX.vo, IX.val, BX.val, IX.toN]); (try simp only [QP1, QB7, QSyVa, QR3]); (repeat rw [wrap_i64 (by omega) (by omega)]); omega)))
      all_goals first
        | exact .b rfl
        | exact absurd A1 hb
        | exact absurd A2 hb
        | exact absurd ((A4 (by assumption)).symm.trans hb) (by decide)
        | exact absurd ((A6 (by assumption)).symm.trans hb) (by decide)
        | exact absurd (A3 (by assumption)).2.2 hb
        | exact absurd (A5 (by assumption)).2.2 hb
  · generalize ruleP b = rl at *
    obtain ⟨⟨k1, k2, k3, k4, k5, ⟨k6, k7, k8, k9⟩⟩, now, last, fr, ag, of, tk, fl⟩ := b
    clear hbk
    (refine XC.of_body (dt3) Tryz.func3 rfl Tryz.ntmps3 mixed (T := tl3) tk3 (by kernel_rfl) (by simp) rfl rfl rfl rfl rfl ?_; rintro o ho P hP c K hK; have hm : P.follows .mixedOrders = true := hP ▸ mixed; have hT : TOk P tl3 := hP ▸ tk3; (try rw [← ho]); cbv; (repeat (refine StopN.mk ?_; cbv)))
    rw [← ho] at hFw hRl
    repeat' (first | (refine Br.mk (fun hb => ?_) (fun hb => ?_) <;> ((try rw [ho] at hb); (try dsimp only [Ar.real, IX.vo] at hb); (try simp only [QP1, QB7, QSyVa, QR3] at hb); (try simp only [QBo, beq_iff_eq, beq_eq_false_iff_ne, ne_eq] at hb))) | (refine StopN.mk ?_; cbv) | ((first | refine CallI.pure hP hFw fn4 rfl rfl rfl ?_ | refine CallI.pure hP hRl fn5 rfl rfl rfl ?_ | refine CallI.pure hP hWk fn6 rfl rfl rfl ?_); cbv) | ((first | refine CallI.pure hP (x_bTotal _ ‹_›) fn7 (by first | rfl | (rw [ho]; try rfl)) (by rfl) (by first | rfl | (rw [ho]; try rfl)) ?_ | refine CallN.pure hP (x_bTotal _ ‹_›) fn7 (by first | rfl | (rw [ho]; try rfl)) (by rfl) (by first | rfl | (rw [ho]; try rfl)) ?_); (try rw [← ho]); cbv) | ((first | refine CallI.pure hP (x_r16Total _ ‹_› ‹_›) fn8 (by first | rfl | (rw [ho]; try rfl)) (by rfl) (by first | rfl | (rw [ho]; try rfl)) ?_ | refine CallN.pure hP (x_r16Total _ ‹_› ‹_›) fn8 (by first | rfl | (rw [ho]; try rfl)) (by rfl) (by first | rfl | (rw [ho]; try rfl)) ?_); (try rw [← ho]); cbv) | ((first | refine CallI.pure hP (x_bSum _ ‹_› _) fn9 (by first | rfl | (rw [ho]; try rfl)) (by rfl) (by first | rfl | (rw [ho]; try rfl)) ?_ | refine CallN.pure hP (x_bSum _ ‹_› _) fn9 (by first | rfl | (rw [ho]; try rfl)) (by rfl) (by first | rfl | (rw [ho]; try rfl)) ?_); (try rw [← ho]); cbv) | ((first | refine CallI.pure hP (x_r16Sum _ ‹_› _) fn10 (by first | rfl | (rw [ho]; try rfl)) (by rfl) (by first | rfl | (rw [ho]; try rfl)) ?_ | refine CallN.pure hP (x_r16Sum _ ‹_› _) fn10 (by first | rfl | (rw [ho]; try rfl)) (by rfl) (by first | rfl | (rw [ho]; try rfl)) ?_); (try rw [← ho]); cbv) | ((first | refine CallI.pure hP (x_bRoleSum _ ‹_› _) fn11 (by first | rfl | (rw [ho]; try rfl)) (by rfl) (by first | rfl | (rw [ho]; try rfl)) ?_ | refine CallN.pure hP (x_bRoleSum _ ‹_› _) fn11 (by first | rfl | (rw [ho]; try rfl)) (by rfl) (by first | rfl | (rw [ho]; try rfl)) ?_); (try rw [← ho]); cbv) | ((first | refine CallI.pure hP (x_r16RoleSum _ ‹_› _) fn12 (by first | rfl | (rw [ho]; try rfl)) (by rfl) (by first | rfl | (rw [ho]; try rfl)) ?_ | refine CallN.pure hP (x_r16RoleSum _ ‹_› _) fn12 (by first | rfl | (rw [ho]; try rfl)) (by rfl) (by first | rfl | (rw [ho]; try rfl)) ?_); (try rw [← ho]); cbv) | ((first | refine CallI.pure hP (x_Roles _ ‹_›) fn13 (by first | rfl | (rw [ho]; try rfl)) (by rfl) (by first | rfl | (rw [ho]; try rfl)) ?_ | refine CallN.pure hP (x_Roles _ ‹_›) fn13 (by first | rfl | (rw [ho]; try rfl)) (by rfl) (by first | rfl | (rw [ho]; try rfl)) ?_); (try rw [← ho]); generalize hr : rolesP _ = r; (try rw [ho] at hr); (try dsimp only [Ar.real, IX.vo] at hr); (try simp only [QP1, QB7, QSyVa, QR3] at hr); cbv) | ((first | refine CallI.pure hP (x_r16Weight _ ‹_› _) fn14 (by first | rfl | (rw [ho]; try rfl)) (by rfl) (by first | rfl | (rw [ho]; try rfl)) ?_ | refine CallN.pure hP (x_r16Weight _ ‹_› _) fn14 (by first | rfl | (rw [ho]; try rfl)) (by rfl) (by first | rfl | (rw [ho]; try rfl)) ?_); (try rw [← ho]); cbv) | ((first | refine CallI.pure hP (x_Share _ ‹_› _) fn15 (by first | rfl | (rw [ho]; try rfl)) (by rfl) (by first | rfl | (rw [ho]; try rfl)) ?_ | refine CallN.pure hP (x_Share _ ‹_› _) fn15 (by first | rfl | (rw [ho]; try rfl)) (by rfl) (by first | rfl | (rw [ho]; try rfl)) ?_); (try rw [← ho]); cbv) | ((first | refine CallI.pure hP (x_RoleShare _ ‹_› _) fn16 (by first | rfl | (rw [ho]; try rfl)) (by rfl) (by first | rfl | (rw [ho]; try rfl)) ?_ | refine CallN.pure hP (x_RoleShare _ ‹_› _) fn16 (by first | rfl | (rw [ho]; try rfl)) (by rfl) (by first | rfl | (rw [ho]; try rfl)) ?_); (try rw [← ho]); cbv) | ((first | refine CallI.pure hP (x_r16Frame _ ‹_› _) fn17 (by first | rfl | (rw [ho]; try rfl)) (by rfl) (by first | rfl | (rw [ho]; try rfl)) ?_ | refine CallN.pure hP (x_r16Frame _ ‹_› _) fn17 (by first | rfl | (rw [ho]; try rfl)) (by rfl) (by first | rfl | (rw [ho]; try rfl)) ?_); (try rw [← ho]); generalize hr : atFrame _ _ = r; (try rw [ho] at hr); (try dsimp only [Ar.real, IX.vo] at hr); (try simp only [QP1, QB7, QSyVa, QR3] at hr); cbv) | ((first | refine CallI.pure hP (x_r16Part _ ‹_› ‹_› _) fn18 (by first | rfl | (rw [ho]; try rfl)) (by rfl) (by first | rfl | (rw [ho]; try rfl)) ?_ | refine CallN.pure hP (x_r16Part _ ‹_› ‹_› _) fn18 (by first | rfl | (rw [ho]; try rfl)) (by rfl) (by first | rfl | (rw [ho]; try rfl)) ?_); (try rw [← ho]); cbv) | (refine hK _ _ ?_) | (refine NeedT.mk ?_ ?_))
    all_goals first
      | exact .b rfl
      | exact absurd hb h0
      | exact absurd hb.symm h0
end Go.Proofs.YtlblpbahoblihaaGreat.Sy

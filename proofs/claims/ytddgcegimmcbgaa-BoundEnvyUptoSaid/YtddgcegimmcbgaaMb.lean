/-
  Numbers by words of 32 bits. Plain theorems.
-/
import Derived.Test.YtddgcegimmcbgaaMa
set_option linter.unusedSectionVars false
set_option maxRecDepth 100000
set_option maxHeartbeats 8000000
set_option linter.unusedVariables false
set_option linter.unusedSimpArgs false
namespace Go.Proofs.Ytddgcegimmcbgaa.Sy
open Go Go.Sy Go.Proofs.Ytddgcegimmcbgaa
def wd (n : Nat) : List Nat := if n = 0 then [] else n % 4294967296 :: wd (n / 4294967296)
termination_by n
decreasing_by omega
def vl : List Nat → Nat
  | [] => 0
  | d :: l => d + 4294967296 * vl l
def WOk (l : List Nat) : Prop := ∀ j, l.getD j 0 < 4294967296
theorem wd_zero : wd 0 = [] := by rw [wd, if_pos rfl]
theorem wd_pos {n : Nat} (h : n ≠ 0) : wd n = n % 4294967296 :: wd (n / 4294967296) := by rw [wd, if_neg h]
theorem WOk.tail {d : Nat} {l : List Nat} (h : WOk (d :: l)) : WOk l := fun j => by
  have := h (j + 1)
  simpa using this
theorem WOk.head {d : Nat} {l : List Nat} (h : WOk (d :: l)) : d < 4294967296 := by
  have := h 0
  simpa using this
theorem wd_at : ∀ (i n : Nat), (wd n).getD i 0 = n / 4294967296 ^ i % 4294967296
  | 0, n => by
    by_cases h : n = 0
    · subst h; rw [wd_zero]; rfl
    · rw [wd_pos h, List.getD_cons_zero, Nat.pow_zero, Nat.div_one]
  | i + 1, n => by
    by_cases h : n = 0
    · subst h; rw [wd_zero]; simp
    · rw [wd_pos h, List.getD_cons_succ, wd_at i, Nat.div_div_eq_div_mul, Nat.pow_succ, Nat.mul_comm]
theorem wd_ok (n : Nat) : WOk (wd n) := fun j => by rw [wd_at]; exact Nat.mod_lt _ (by decide)
theorem wpow_pos (n : Nat) : 0 < 4294967296 ^ n := Nat.pow_pos (by decide)
theorem wd_lt (n : Nat) : n < 4294967296 ^ (wd n).length := by
  induction n using Nat.strongRecOn with
  | ind n ih =>
    by_cases h : n = 0
    · subst h; exact wpow_pos _
    · have := ih (n / 4294967296) (by omega)
      rw [wd_pos h, List.length_cons, Nat.pow_succ]
      omega
theorem wd_len {n k : Nat} (h : n < 4294967296 ^ k) : (wd n).length ≤ k := by
  induction k generalizing n with
  | zero =>
    obtain rfl : n = 0 := by simpa using h
    rw [wd_zero]
    exact Nat.le_refl _
  | succ k ih =>
    by_cases h0 : n = 0
    · subst h0; rw [wd_zero]; exact Nat.zero_le _
    · rw [wd_pos h0, List.length_cons]
      have := ih (n := n / 4294967296) (by rw [Nat.pow_succ] at h; omega)
      omega
theorem wd_mod {n : Nat} : n % 4294967296 ^ (wd n).length = n := Nat.mod_eq_of_lt (wd_lt n)
theorem mod_succ (n i : Nat) : n % 4294967296 ^ (i + 1) = n % 4294967296 ^ i + (wd n).getD i 0 * 4294967296 ^ i := by
  rw [wd_at, Nat.mod_pow_succ, Nat.mul_comm]
theorem div_succ (n i : Nat) : n / 4294967296 ^ i = n / 4294967296 ^ (i + 1) * 4294967296 + (wd n).getD i 0 := by
  rw [wd_at, Nat.pow_succ, ← Nat.div_div_eq_div_mul]
  omega
theorem vl_take (l : List Nat) : ∀ n, vl (l.take (n + 1)) = vl (l.take n) + l.getD n 0 * 4294967296 ^ n := by
  induction l with
  | nil => intro n; simp [vl]
  | cons d l ih =>
    intro n
    cases n with
    | zero => simp [vl]
    | succ n =>
      simp only [List.take_succ_cons, vl, ih n, List.getD_cons_succ, Nat.pow_succ]
      grind
theorem vl_bd {l : List Nat} (h : WOk l) : ∀ n, vl (l.take n) < 4294967296 ^ n
  | 0 => by simp [vl]
  | n + 1 => by
    have h1 := vl_bd h n
    have h2 := h n
    rw [vl_take, Nat.pow_succ]
    have h6 : l.getD n 0 * 4294967296 ^ n ≤ 4294967295 * 4294967296 ^ n := Nat.mul_le_mul_right _ (by omega)
    omega
theorem vl_lt {l : List Nat} (h : WOk l) : vl l < 4294967296 ^ l.length := by
  have := vl_bd h l.length
  rwa [List.take_length] at this
theorem getD_setN (l : List Nat) (j k : Nat) (x : Nat) (hj : j < l.length) : (l.set j x).getD k 0 = if j = k then x else l.getD k 0 := by
  rw [List.getD_eq_getElem?_getD, List.getElem?_set, List.getD_eq_getElem?_getD]
  split
  · first | rfl | (rw [if_pos (by omega)]; rfl)
  · rfl
theorem WOk.set {l : List Nat} (h : WOk l) {j : Nat} {x : Nat} (hx : x < 4294967296) : WOk (l.set j x) := fun k => by
  by_cases hj : j < l.length
  · rw [getD_setN l j k x hj]
    split
    · exact hx
    · exact h k
  · rw [List.set_eq_of_length_le (by omega)]
    exact h k
theorem vl_set (l : List Nat) : ∀ (j : Nat) (x : Nat), j < l.length → vl (l.set j x) + l.getD j 0 * 4294967296 ^ j = vl l + x * 4294967296 ^ j := by
  induction l with
  | nil => intro j x h; simp at h
  | cons d l ih =>
    intro j x h
    cases j with
    | zero => simp only [List.set_cons_zero, vl, List.getD_cons_zero, Nat.pow_zero]; omega
    | succ j =>
      have := ih j x (by simpa using h)
      simp only [List.set_cons_succ, vl, List.getD_cons_succ, Nat.pow_succ]
      grind
theorem take_set_ge (l : List Nat) {i j : Nat} (x : Nat) (h : i ≤ j) : (l.set j x).take i = l.take i := by
  rw [List.take_set_of_le h]
theorem vl_rep (n : Nat) : vl (List.replicate n 0) = 0 := by
  induction n with
  | zero => rfl
  | succ n ih => simp [List.replicate_succ, vl, ih]
theorem WOk_rep (n : Nat) : WOk (List.replicate n 0) := fun j => by
  simp only [List.getD_eq_getElem?_getD, List.getElem?_replicate]
  split <;> simp
theorem wd_unique : ∀ (l : List Nat), WOk l → (l ≠ [] → l.getD (l.length - 1) 0 ≠ 0) → wd (vl l) = l
  | [], _, _ => wd_zero
  | d :: l, hk, hz => by
    have hd := hk.head
    by_cases hl : l = []
    · subst hl
      have : d ≠ 0 := by simpa using hz (by simp)
      simp only [vl, Nat.mul_zero, Nat.add_zero]
      rw [wd_pos this, Nat.mod_eq_of_lt hd, Nat.div_eq_of_lt hd, wd_zero]
    · have ih := wd_unique l hk.tail fun _ => by
        have := hz (by simp)
        have hp : 0 < l.length := List.length_pos_iff.2 hl
        rw [List.length_cons, show l.length + 1 - 1 = (l.length - 1) + 1 by omega, List.getD_cons_succ] at this
        exact this
      have hv : vl l ≠ 0 := fun h => by
        rw [h, wd_zero] at ih
        exact hl ih.symm
      simp only [vl]
      rw [wd_pos (by omega), show (d + 4294967296 * vl l) % 4294967296 = d by omega, show (d + 4294967296 * vl l) / 4294967296 = vl l by omega, ih]
theorem vl_zeros (l : List Nat) {n : Nat} (h : ∀ j, n ≤ j → l.getD j 0 = 0) : vl l = vl (l.take n) := by
  have : ∀ k, vl (l.take (n + k)) = vl (l.take n) := by
    intro k
    induction k with
    | zero => rfl
    | succ k ih =>
      rw [show n + (k + 1) = (n + k) + 1 by omega, vl_take, h (n + k) (by omega), ih]
      omega
  have h1 := this l.length
  rwa [List.take_of_length_le (by omega)] at h1
theorem trim_eq {l : List Nat} (hk : WOk l) {n : Nat} (hn : n ≤ l.length) (hz : ∀ j, n ≤ j → l.getD j 0 = 0) (hl : n = 0 ∨ l.getD (n - 1) 0 ≠ 0) : l.take n = wd (vl l) := by
  rw [vl_zeros l hz]
  symm
  refine wd_unique _ (fun j => ?_) fun h => ?_
  · rw [List.getD_eq_getElem?_getD, List.getElem?_take]
    split
    · rw [← List.getD_eq_getElem?_getD]; exact hk j
    · decide
  · have hlen : (l.take n).length = n := by simp; omega
    have : n ≠ 0 := fun e => h (by rw [e]; rfl)
    rw [hlen, List.getD_eq_getElem?_getD, List.getElem?_take, if_pos (by omega), ← List.getD_eq_getElem?_getD]
    rcases hl with h1 | h1
    · omega
    · exact h1
end Go.Proofs.Ytddgcegimmcbgaa.Sy
namespace Go.Proofs.Ytddgcegimmcbgaa.Sy
open Go Go.Sy Go.Proofs.Ytddgcegimmcbgaa
def roleAt (v : List Part) (i : Nat) : Bool := !decide ((v.getD i default).role = 0)
def rBare (v : List Part) : Bool := (nextAt (roleAt v) 0 v.length).isNone && (decide (0 < v.length) && vecRight v)
theorem x_r35bare (v : List Part) (hv : v.length ≤ 1048576) : XC Try.prog 75 [.ro (SL Ar.real Part.X v)] [] (xb (rBare v)) [] := by
  have hx := x_r05Right v hv
  have h1 : ∀ i, i < v.length → (∀ j, j < i → roleAt v j = false) → roleAt v i = true → rBare v = false := fun i hi hlt h => by
    unfold rBare
    rw [nextAt_some (Nat.zero_le _) hi h (fun j _ hj => hlt j hj)]
    rfl
  have h2 : (∀ j, j < v.length → roleAt v j = false) → rBare v = (decide (0 < v.length) && vecRight v) := fun hlt => by
    unfold rBare
    rw [nextAt_none (fun j _ hj => hlt j hj)]
    rfl
  have h3 : ∀ i, roleAt v i = !decide ((v.getD i default).role = 0) := fun _ => rfl
  generalize rBare v = g at *
  generalize roleAt v = G at *
  generalize vecRight v = rv at *
  (refine XC.of_body ([]) Try.func75 rfl Try.ntmps75 mixed (T := [(2, ti2), (3, ti3), (31, ti31), (123, ti123)]) (.cons tok2 (.cons tok3 (.cons tok31 (.cons tok123 .nil)))) (by kernel_rfl) (by simp) rfl rfl rfl rfl rfl ?_; rintro o ho P hP c K hK; have hm : P.follows .mixedOrders = true := hP ▸ mixed; have hT : TOk P [(2, ti2), (3, ti3), (31, ti31), (123, ti123)] := hP ▸ (.cons tok2 (.cons tok3 (.cons tok31 (.cons tok123 .nil)))); (try rw [← ho]); cbv; (repeat (refine StopN.mk ?_; cbv)))
  rw [← ho] at hx
  refine LoopN.over (o := o) (D := []) ho hm hT (by kernel_rfl) (fun i : Nat => [(3, xn i)]) (fun _ => []) (fun _ => []) (fun i => i ≤ v.length ∧ ∀ j, j < i → G j = false) (fun i => v.length - i) 0 ⟨Nat.zero_le _, fun j hj => by omega⟩ ?_ ?_
  · refine ⟨(by cbv), by cbv; repeat' (first | trivial | exact EqX.rfl' | exact EqO.rfl' | apply And.intro | ((try clear hR3); (try clear hR2); (try clear hR); (try clear hK); (try simp only [ncCast] at *); (try simp only [castI_eq] at *); refine EqX.i ?_; (try rw [ho]); (try dsimp only [Ar.real, IX.vo, IX.val, BX.val, IX.toN]); (try simp only [QB7]); (repeat rw [wrap_i64 (by omega) (by omega)]); omega)), by cbv; repeat' (first | trivial | exact EqO.rfl' | apply And.intro), by cbv; repeat' (first | trivial | exact EqO.rfl' | apply And.intro)⟩
  · rintro i ⟨hi, hno⟩ R hR
    have e1 := h1 i
    have e3 := h3 i
    cbv
    repeat' (first | (refine Br.mk (fun hb => ?_) (fun hb => ?_) <;> ((try rw [ho] at hb); (try dsimp only [Ar.real, IX.vo] at hb); (try simp only [QB7] at hb); (try simp only [QBo, beq_iff_eq, beq_eq_false_iff_ne, ne_eq] at hb))) | (refine StopN.mk ?_; cbv) | ((first | refine CallI.pure hP hx fn96 rfl rfl rfl ?_ | refine CallN.pure hP hx fn96 rfl rfl rfl ?_); cbv) | ((first | refine CallI.pure hP (x_r05Right _ ‹_›) fn96 (by first | rfl | (rw [ho]; done) | (rw [ho]; rfl)) (by rfl) (by first | rfl | (rw [ho]; done) | (rw [ho]; rfl)) ?_ | refine CallN.pure hP (x_r05Right _ ‹_›) fn96 (by first | rfl | (rw [ho]; done) | (rw [ho]; rfl)) (by rfl) (by first | rfl | (rw [ho]; done) | (rw [ho]; rfl)) ?_); (try rw [← ho]); generalize hr : vecRight _ = r; (try rw [ho] at hr); (try dsimp only [Ar.real, IX.vo] at hr); (try simp only [QB7] at hr); cbv) | (refine hK _ _ ?_) | (refine NeedT.mk ?_ ?_))
    any_goals (((try clear hR3); (try clear hR2); (try clear hR); (try clear hK); (try simp only [ncCast] at *); (try simp only [castI_eq] at *); (try rw [ho]); (try dsimp only [Ar.real, IX.vo, IX.val, BX.val, IX.toN]); (try simp only [QB7]); (try simp only [decide_eq_true_eq]); (all_goals (repeat rw [wrap_i64 (by omega) (by omega)])); (all_goals (first | omega | (simp only [Int.ofNat_eq_natCast]; omega)))); done)
    · rw [e1 (by assumption) hno (by rw [e3, decide_eq_false (by assumption)]; rfl)]
      exact .b rfl
    · refine hR _ (i + 1) (by show v.length - (i + 1) < v.length - i; ((try clear hR3); (try clear hR2); (try clear hR); (try clear hK); (try simp only [ncCast] at *); (try simp only [castI_eq] at *)); omega) ⟨by show i + 1 ≤ v.length; ((try clear hR3); (try clear hR2); (try clear hR); (try clear hK); (try simp only [ncCast] at *); (try simp only [castI_eq] at *)); omega, fun k' hk => ?_⟩ ?_
      · rcases Nat.lt_or_ge k' i with h5 | h5
        · exact hno k' h5
        · obtain rfl : k' = i := by
            have hk' : k' < i + 1 := hk
            clear hk
            ((try clear hR3); (try clear hR2); (try clear hR); (try clear hK); (try simp only [ncCast] at *); (try simp only [castI_eq] at *))
            omega
          rw [e3, decide_eq_true (by assumption)]
          rfl
      · refine ⟨(by cbv), by cbv; repeat' (first | trivial | exact EqX.rfl' | exact EqO.rfl' | apply And.intro | ((try clear hR3); (try clear hR2); (try clear hR); (try clear hK); (try simp only [ncCast] at *); (try simp only [castI_eq] at *); refine EqX.i ?_; (try rw [ho]); (try dsimp only [Ar.real, IX.vo, IX.val, BX.val, IX.toN]); (try simp only [QB7]); (repeat rw [wrap_i64 (by omega) (by omega)]); omega)), by cbv; repeat' (first | trivial | exact EqO.rfl' | apply And.intro), by cbv; repeat' (first | trivial | exact EqO.rfl' | apply And.intro)⟩
    · obtain rfl : i = v.length := by ((try clear hR3); (try clear hR2); (try clear hR); (try clear hK); (try simp only [ncCast] at *); (try simp only [castI_eq] at *)); omega
      rw [h2 hno, decide_eq_true (by ((try clear hR3); (try clear hR2); (try clear hR); (try clear hK); (try simp only [ncCast] at *); (try simp only [castI_eq] at *)); omega)]
      exact .b rfl
    · obtain rfl : i = v.length := by ((try clear hR3); (try clear hR2); (try clear hR); (try clear hK); (try simp only [ncCast] at *); (try simp only [castI_eq] at *)); omega
      rw [h2 hno, decide_eq_false (by ((try clear hR3); (try clear hR2); (try clear hR); (try clear hK); (try simp only [ncCast] at *); (try simp only [castI_eq] at *)); omega)]
      exact .b rfl
end Go.Proofs.Ytddgcegimmcbgaa.Sy
namespace Go.Proofs.Ytddgcegimmcbgaa.Sy
open Go Go.Sy Go.Proofs.Ytddgcegimmcbgaa
theorem take_getD {α : Type} [Inhabited α] {l : List α} {i : Nat} (h : i < l.length) : l.take (i + 1) = l.take i ++ [l.getD i default] := by
  have e : l.getD i default = l[i] := by simp [List.getD_eq_getElem?_getD, h]
  rw [List.take_succ_eq_append_getElem h, e]
theorem x_Own (l : List Want) (hl : l.length ≤ 1048576) : XC Try.prog 22 [.ro (SL Ar.real Want.X l)] [] (.ro (SL Ar.real Want.X l)) [] := by
  have hM0 : l.take 0 = [] := rfl
  have hM1 : ∀ i, i < l.length → l.take (i + 1) = l.take i ++ [l.getD i default] := fun i h => take_getD h
  have hMl : ∀ i, i ≤ l.length → (l.take i).length = i := fun i h => by simp; omega
  have hend : l.take l.length = l := List.take_length
  generalize hM : (fun i => l.take i) = M at *
  have eM : ∀ i, l.take i = M i := fun i => by rw [← hM]
  simp only [eM] at hM0 hM1 hMl hend
  clear eM hM
  (refine XC.of_body ([(5, [])]) Try.func22 rfl Try.ntmps22 mixed (T := [(2, ti2), (3, ti3), (31, ti31), (42, ti42), (47, ti47), (88, ti88), (123, ti123), (132, ti132)]) (.cons tok2 (.cons tok3 (.cons tok31 (.cons tok42 (.cons tok47 (.cons tok88 (.cons tok123 (.cons tok132 .nil)))))))) (by kernel_rfl) (by simp) rfl rfl rfl rfl rfl ?_; rintro o ho P hP c K hK; have hm : P.follows .mixedOrders = true := hP ▸ mixed; have hT : TOk P [(2, ti2), (3, ti3), (31, ti31), (42, ti42), (47, ti47), (88, ti88), (123, ti123), (132, ti132)] := hP ▸ (.cons tok2 (.cons tok3 (.cons tok31 (.cons tok42 (.cons tok47 (.cons tok88 (.cons tok123 (.cons tok132 .nil)))))))); (try rw [← ho]); cbv; (repeat (refine StopN.mk ?_; cbv)))
  refine LoopN.ghost 3 88 2 rfl ?_
  refine LoopN.over (o := o) (D := [(5, [])]) ho hm hT (by kernel_rfl) (fun a : StL Want => [(4, xn a.i), (3, .own (.loc 0) a.rv)]) (fun a => [(0, .row a.rv 88 2 (SL o Want.X a.out))]) (fun _ => []) (fun s => s.i ≤ l.length ∧ s.out = M s.i) (fun s => l.length - s.i) ⟨0, 0, []⟩ ⟨Nat.zero_le _, hM0.symm⟩ ?_ ?_
  · refine ⟨(by cbv), by cbv; repeat' (first | trivial | exact EqX.rfl' | exact EqO.rfl' | apply And.intro | ((try clear hR3); (try clear hR2); (try clear hR); (try clear hK); (try simp only [ncCast] at *); (try simp only [castI_eq] at *); refine EqX.i ?_; (try rw [ho]); (try dsimp only [Ar.real, IX.vo, IX.val, BX.val, IX.toN]); (try simp only [QB7]); (repeat rw [wrap_i64 (by omega) (by omega)]); omega) | exact EqO.row rfl (rows_nil_SL o ho Want.X)), by cbv; repeat' (first | trivial | exact EqO.rfl' | apply And.intro | exact EqO.row rfl (rows_nil_SL o ho Want.X)), by cbv; repeat' (first | trivial | exact EqO.rfl' | apply And.intro | exact EqO.row rfl (rows_nil_SL o ho Want.X))⟩
  · rintro ⟨i, rv, out⟩ ⟨hi, hout⟩ R hR
    dsimp only at hi hout
    have e1 := hM1 i
    have hol := hMl i hi
    rw [← hout] at e1 hol
    obtain ⟨out', hout'⟩ : ∃ q, q = M (i + 1) := ⟨_, rfl⟩
    rw [← hout'] at e1
    cbv
    repeat' (first | (refine Br.mk (fun hb => ?_) (fun hb => ?_) <;> ((try rw [ho] at hb); (try dsimp only [Ar.real, IX.vo] at hb); (try simp only [QB7] at hb); (try simp only [QBo, beq_iff_eq, beq_eq_false_iff_ne, ne_eq] at hb))) | (refine StopN.mk ?_; cbv) | (refine hK _ _ ?_) | (refine NeedT.mk ?_ ?_))
    any_goals (((try clear hR3); (try clear hR2); (try clear hR); (try clear hK); (try simp only [ncCast] at *); (try simp only [castI_eq] at *); (try rw [ho]); (try dsimp only [Ar.real, IX.vo, IX.val, BX.val, IX.toN]); (try simp only [QB7]); (try simp only [decide_eq_true_eq]); (all_goals (repeat rw [wrap_i64 (by omega) (by omega)])); (all_goals (first | omega | (simp only [Int.ofNat_eq_natCast]; omega)))); done)
    · have e2 := e1 (by assumption)
      refine hR _ ⟨i + 1, rv + 1, out'⟩ (by dsimp only; omega) ⟨by dsimp only; omega, hout'⟩ ?_
      refine ⟨(by cbv), by cbv; repeat' (first | trivial | exact EqX.rfl' | exact EqO.rfl' | apply And.intro | ((try clear hR3); (try clear hR2); (try clear hR); (try clear hK); (try simp only [ncCast] at *); (try simp only [castI_eq] at *); refine EqX.i ?_; (try rw [ho]); (try dsimp only [Ar.real, IX.vo, IX.val, BX.val, IX.toN]); (try simp only [QB7]); (repeat rw [wrap_i64 (by omega) (by omega)]); omega) | (refine EqO.snoc ho Want.X _ _ _ _ rfl e2 ?_; rw [ho]; rfl)), by cbv; repeat' (first | trivial | exact EqO.rfl' | apply And.intro | (refine EqO.snoc ho Want.X _ _ _ _ rfl e2 ?_; rw [ho]; rfl)), by cbv; repeat' (first | trivial | exact EqO.rfl' | apply And.intro | (refine EqO.snoc ho Want.X _ _ _ _ rfl e2 ?_; rw [ho]; rfl))⟩
    · obtain rfl : i = l.length := by ((try clear hR3); (try clear hR2); (try clear hR); (try clear hK); (try simp only [ncCast] at *); (try simp only [castI_eq] at *)); omega
      rw [hend] at hout
      subst hout
      exact .ro (by rw [ho])
end Go.Proofs.Ytddgcegimmcbgaa.Sy
namespace Go.Proofs.Ytddgcegimmcbgaa.Sy
open Go Go.Sy Go.Proofs.Ytddgcegimmcbgaa
def rManyStep (n x y : Int) : Int := if 0 < y ∧ (n < 0 ∨ IntKind.i64.wrap (x.tdiv y) < n) then IntKind.i64.wrap (x.tdiv y) else n
def rManyTo (s t : S4) : Nat → Int
  | 0 => -1
  | k + 1 => rManyStep (rManyTo s t k) (s.at_ k) (t.at_ k)
def rMany (s t : S4) : Int := max 0 (rManyTo s t 4)
theorem x_r35Many (s t : S4) : XC Try.prog 115 [.agg (S4.X Ar.real s), .agg (S4.X Ar.real t)] [] (xi (rMany s t)) [] := by
  unfold rMany
  have hm0 : rManyTo s t 0 = -1 := rfl
  have hm1 : ∀ k, rManyTo s t (k + 1) = rManyStep (rManyTo s t k) (s.at_ k) (t.at_ k) := fun _ => rfl
  have ha : ∀ k : Nat, s.at_ k = [s.a, s.b, s.c, s.d].getD k 0 ∧ t.at_ k = [t.a, t.b, t.c, t.d].getD k 0 := fun _ => ⟨rfl, rfl⟩
  generalize hM : rManyTo s t = M at *
  generalize hS : s.at_ = sa at *
  generalize hT2 : t.at_ = ta at *
  clear hM hS hT2
  obtain ⟨a, b, p, d⟩ := s
  obtain ⟨a', b', p', d'⟩ := t
  dsimp only at ha
  obtain ⟨res, hres⟩ : ∃ q, q = max 0 (M 4) := ⟨_, rfl⟩
  rw [← hres]
  (refine XC.of_body ([(5, []), (6, [])]) Try.func115 rfl Try.ntmps115 mixed (T := [(2, ti2), (3, ti3), (52, ti52)]) (.cons tok2 (.cons tok3 (.cons tok52 .nil))) (by kernel_rfl) (by simp) rfl rfl rfl rfl rfl ?_; rintro o ho P hP c K hK; have hm : P.follows .mixedOrders = true := hP ▸ mixed; have hT : TOk P [(2, ti2), (3, ti3), (52, ti52)] := hP ▸ (.cons tok2 (.cons tok3 (.cons tok52 .nil))); (try rw [← ho]); cbv; (repeat (refine StopN.mk ?_; cbv)))
  refine LoopN.over (o := o) (D := [(5, []), (6, [])]) ho hm hT (by kernel_rfl) (fun a : Nat => [(6, xn a), (5, xi (M a))]) (fun _ => []) (fun _ => []) (fun a => a ≤ 4) (fun a => 4 - a) 0 (by omega) ?_ ?_
  · refine ⟨(by cbv), by cbv; repeat' (first | trivial | exact EqX.rfl' | exact EqO.rfl' | apply And.intro | ((try clear hR3); (try clear hR2); (try clear hR); (try clear hK); (try simp only [ncCast] at *); (try simp only [castI_eq] at *); refine EqX.i ?_; (try rw [ho]); (try dsimp only [Ar.real, IX.vo, IX.val, BX.val, IX.toN]); (try simp only [QB7]); (repeat rw [wrap_i64 (by omega) (by omega)]); omega) | (refine EqX.i ?_; rw [hm0]; rfl)), by cbv; repeat' (first | trivial | exact EqO.rfl' | apply And.intro | (refine EqX.i ?_; rw [hm0]; rfl)), by cbv; repeat' (first | trivial | exact EqO.rfl' | apply And.intro | (refine EqX.i ?_; rw [hm0]; rfl))⟩
  · rintro i hi R hR
    have h3 : 0 < [a', b', p', d'].getD ((i : Int).toNat) 0 → (M i < 0 ∨ IntKind.i64.wrap (([a, b, p, d].getD ((i : Int).toNat) 0).tdiv ([a', b', p', d'].getD ((i : Int).toNat) 0)) < M i) → M (i + 1) = IntKind.i64.wrap (([a, b, p, d].getD ((i : Int).toNat) 0).tdiv ([a', b', p', d'].getD ((i : Int).toNat) 0)) := fun h' h'' => by
      rw [Int.toNat_natCast] at h' h'' ⊢
      rw [hm1 i, (ha i).1, (ha i).2]
      exact if_pos ⟨h', h''⟩
    have h4 : ([a', b', p', d'].getD ((i : Int).toNat) 0 ≤ 0 ∨ (0 ≤ M i ∧ M i ≤ IntKind.i64.wrap (([a, b, p, d].getD ((i : Int).toNat) 0).tdiv ([a', b', p', d'].getD ((i : Int).toNat) 0)))) → M (i + 1) = M i := fun h' => by
      rw [Int.toNat_natCast] at h'
      rw [hm1 i, (ha i).1, (ha i).2]
      exact if_neg (by omega)
    cbv
    repeat' (first | (refine Br.mk (fun hb => ?_) (fun hb => ?_) <;> ((try rw [ho] at hb); (try dsimp only [Ar.real, IX.vo] at hb); (try simp only [QB7] at hb); (try simp only [QBo, beq_iff_eq, beq_eq_false_iff_ne, ne_eq] at hb))) | (refine StopN.mk ?_; cbv) | (refine hK _ _ ?_) | (refine NeedT.mk ?_ ?_))
    any_goals (((try clear hR3); (try clear hR2); (try clear hR); (try clear hK); (try simp only [ncCast] at *); (try simp only [castI_eq] at *); (try rw [ho]); (try dsimp only [Ar.real, IX.vo, IX.val, BX.val, IX.toN]); (try simp only [QB7]); (try simp only [decide_eq_true_eq]); (all_goals (repeat rw [wrap_i64 (by omega) (by omega)])); (all_goals (first | omega | (simp only [Int.ofNat_eq_natCast]; omega)))); done)
    · ((try clear hR3); (try clear hR2); (try clear hR); (try clear hK); (try simp only [ncCast] at *); (try simp only [castI_eq] at *); (try rw [ho]); (try dsimp only [Ar.real, IX.vo, IX.val, BX.val, IX.toN]); (try simp only [QB7]))
      simp only [Bool.not_eq_true', decide_eq_false_iff_not]
      omega
    · have h5 := h3 (by assumption) (.inl (by assumption))
      refine hR _ (i + 1) (by show 4 - (i + 1) < 4 - i; ((try clear hR3); (try clear hR2); (try clear hR); (try clear hK); (try simp only [ncCast] at *); (try simp only [castI_eq] at *)); omega) (by show i + 1 ≤ 4; ((try clear hR3); (try clear hR2); (try clear hR); (try clear hK); (try simp only [ncCast] at *); (try simp only [castI_eq] at *)); omega) ?_
      refine ⟨(by cbv), by cbv; repeat' (first | trivial | exact EqX.rfl' | exact EqO.rfl' | apply And.intro | ((try clear hR3); (try clear hR2); (try clear hR); (try clear hK); (try simp only [ncCast] at *); (try simp only [castI_eq] at *); refine EqX.i ?_; (try rw [ho]); (try dsimp only [Ar.real, IX.vo, IX.val, BX.val, IX.toN]); (try simp only [QB7]); (repeat rw [wrap_i64 (by omega) (by omega)]); omega) | (refine EqX.i ?_; rw [h5]; (try rw [ho]); rfl)), by cbv; repeat' (first | trivial | exact EqO.rfl' | apply And.intro | (refine EqX.i ?_; rw [h5]; (try rw [ho]); rfl)), by cbv; repeat' (first | trivial | exact EqO.rfl' | apply And.intro | (refine EqX.i ?_; rw [h5]; (try rw [ho]); rfl))⟩
    · ((try clear hR3); (try clear hR2); (try clear hR); (try clear hK); (try simp only [ncCast] at *); (try simp only [castI_eq] at *); (try rw [ho]); (try dsimp only [Ar.real, IX.vo, IX.val, BX.val, IX.toN]); (try simp only [QB7]))
      simp only [Bool.not_eq_true', decide_eq_false_iff_not]
      omega
    · ((try clear hR3); (try clear hR2); (try clear hR); (try clear hK); (try simp only [ncCast] at *); (try simp only [castI_eq] at *); (try rw [ho]); (try dsimp only [Ar.real, IX.vo, IX.val, BX.val, IX.toN]); (try simp only [QB7]))
      simp only [Bool.not_eq_true', decide_eq_false_iff_not]
      omega
    · have h5 := h3 (by assumption) (.inr (by assumption))
      refine hR _ (i + 1) (by show 4 - (i + 1) < 4 - i; ((try clear hR3); (try clear hR2); (try clear hR); (try clear hK); (try simp only [ncCast] at *); (try simp only [castI_eq] at *)); omega) (by show i + 1 ≤ 4; ((try clear hR3); (try clear hR2); (try clear hR); (try clear hK); (try simp only [ncCast] at *); (try simp only [castI_eq] at *)); omega) ?_
      refine ⟨(by cbv), by cbv; repeat' (first | trivial | exact EqX.rfl' | exact EqO.rfl' | apply And.intro | ((try clear hR3); (try clear hR2); (try clear hR); (try clear hK); (try simp only [ncCast] at *); (try simp only [castI_eq] at *); refine EqX.i ?_; (try rw [ho]); (try dsimp only [Ar.real, IX.vo, IX.val, BX.val, IX.toN]); (try simp only [QB7]); (repeat rw [wrap_i64 (by omega) (by omega)]); omega) | (refine EqX.i ?_; rw [h5]; (try rw [ho]); rfl)), by cbv; repeat' (first | trivial | exact EqO.rfl' | apply And.intro | (refine EqX.i ?_; rw [h5]; (try rw [ho]); rfl)), by cbv; repeat' (first | trivial | exact EqO.rfl' | apply And.intro | (refine EqX.i ?_; rw [h5]; (try rw [ho]); rfl))⟩
    · have h5 := h4 (.inr ⟨by assumption, by assumption⟩)
      refine hR _ (i + 1) (by show 4 - (i + 1) < 4 - i; ((try clear hR3); (try clear hR2); (try clear hR); (try clear hK); (try simp only [ncCast] at *); (try simp only [castI_eq] at *)); omega) (by show i + 1 ≤ 4; ((try clear hR3); (try clear hR2); (try clear hR); (try clear hK); (try simp only [ncCast] at *); (try simp only [castI_eq] at *)); omega) ?_
      refine ⟨(by cbv), by cbv; repeat' (first | trivial | exact EqX.rfl' | exact EqO.rfl' | apply And.intro | ((try clear hR3); (try clear hR2); (try clear hR); (try clear hK); (try simp only [ncCast] at *); (try simp only [castI_eq] at *); refine EqX.i ?_; (try rw [ho]); (try dsimp only [Ar.real, IX.vo, IX.val, BX.val, IX.toN]); (try simp only [QB7]); (repeat rw [wrap_i64 (by omega) (by omega)]); omega) | (refine EqX.i ?_; rw [h5]; (try rw [ho]); rfl)), by cbv; repeat' (first | trivial | exact EqO.rfl' | apply And.intro | (refine EqX.i ?_; rw [h5]; (try rw [ho]); rfl)), by cbv; repeat' (first | trivial | exact EqO.rfl' | apply And.intro | (refine EqX.i ?_; rw [h5]; (try rw [ho]); rfl))⟩
    · have h5 := h4 (.inl (by assumption))
      refine hR _ (i + 1) (by show 4 - (i + 1) < 4 - i; ((try clear hR3); (try clear hR2); (try clear hR); (try clear hK); (try simp only [ncCast] at *); (try simp only [castI_eq] at *)); omega) (by show i + 1 ≤ 4; ((try clear hR3); (try clear hR2); (try clear hR); (try clear hK); (try simp only [ncCast] at *); (try simp only [castI_eq] at *)); omega) ?_
      refine ⟨(by cbv), by cbv; repeat' (first | trivial | exact EqX.rfl' | exact EqO.rfl' | apply And.intro | ((try clear hR3); (try clear hR2); (try clear hR); (try clear hK); (try simp only [ncCast] at *); (try simp only [castI_eq] at *); refine EqX.i ?_; (try rw [ho]); (try dsimp only [Ar.real, IX.vo, IX.val, BX.val, IX.toN]); (try simp only [QB7]); (repeat rw [wrap_i64 (by omega) (by omega)]); omega) | (refine EqX.i ?_; rw [h5]; (try rw [ho]); rfl)), by cbv; repeat' (first | trivial | exact EqO.rfl' | apply And.intro | (refine EqX.i ?_; rw [h5]; (try rw [ho]); rfl)), by cbv; repeat' (first | trivial | exact EqO.rfl' | apply And.intro | (refine EqX.i ?_; rw [h5]; (try rw [ho]); rfl))⟩
    · obtain rfl : i = 4 := by ((try clear hR3); (try clear hR2); (try clear hR); (try clear hK); (try simp only [ncCast] at *); (try simp only [castI_eq] at *)); omega
      refine .i ?_
      rw [hres, ho]
      rfl
end Go.Proofs.Ytddgcegimmcbgaa.Sy
namespace Go.Proofs.Ytddgcegimmcbgaa.Sy
open Go Go.Sy Go.Proofs.Ytddgcegimmcbgaa
def rBndW (a : List Part) (ws : List Want) (n : Int) : Nat → Int
  | 0 => n
  | k + 1 => min 9007199254740992 (IntKind.i64.wrap (rBndW a ws n k + rMany (sumsOf a) (sumsOf (ws.getD k default).need)))
def rBndA (l : List (List Part)) (ws : List Want) : Nat → Int
  | 0 => IntKind.i64.wrap ((l.length : Int) * ws.length)
  | i + 1 => rBndW (l.getD i default) ws (rBndA l ws i) ws.length
theorem x_r35Bound (l : List (List Part)) (ws : List Want) (hl : l.length ≤ 1048576) (hws : ws.length ≤ 1048576) (hla : ∀ k, (l.getD k default).length ≤ 1048576) (hwa : ∀ k, (ws.getD k default).need.length ≤ 1048576) : XC Try.prog 76 [.ro (SL Ar.real PV.X l), .ro (SL Ar.real Want.X ws)] [] (xi (rBndA l ws l.length)) [] := by
  have hsa := fun k => x_r06Of (l.getD k default) (hla k)
  have hsw := fun k => x_r06Of (ws.getD k default).need (hwa k)
  have hM0 : rBndA l ws 0 = IntKind.i64.wrap ((l.length : Int) * ws.length) := rfl
  have hM1 : ∀ i, rBndA l ws (i + 1) = rBndW (l.getD i default) ws (rBndA l ws i) ws.length := fun _ => rfl
  generalize rBndA l ws = M at *
  (refine XC.of_body ([(9, [(6, 9), (6, 10), (6, 11)])]) Try.func76 rfl Try.ntmps76 mixed (T := [(2, ti2), (3, ti3), (31, ti31), (47, ti47), (57, ti57), (88, ti88), (123, ti123)]) (.cons tok2 (.cons tok3 (.cons tok31 (.cons tok47 (.cons tok57 (.cons tok88 (.cons tok123 .nil))))))) (by kernel_rfl) (by simp) rfl rfl rfl rfl rfl ?_; rintro o ho P hP c K hK; have hm : P.follows .mixedOrders = true := hP ▸ mixed; have hT : TOk P [(2, ti2), (3, ti3), (31, ti31), (47, ti47), (57, ti57), (88, ti88), (123, ti123)] := hP ▸ (.cons tok2 (.cons tok3 (.cons tok31 (.cons tok47 (.cons tok57 (.cons tok88 (.cons tok123 .nil))))))); (try rw [← ho]); cbv; (repeat (refine StopN.mk ?_; cbv)))
  refine LoopN.over (o := o) (D := [(9, [(6, 9), (6, 10), (6, 11)])]) ho hm hT (by kernel_rfl) (fun a : Nat => [(7, xn a), (6, xi (M a))]) (fun _ => []) (fun _ => []) (fun a => a ≤ l.length) (fun a => l.length - a) 0 (Nat.zero_le _) ?_ ?_
  · refine ⟨(by cbv), by cbv; repeat' (first | trivial | exact EqX.rfl' | exact EqO.rfl' | apply And.intro | ((try clear hR3); (try clear hR2); (try clear hR); (try clear hK); (try simp only [ncCast] at *); (try simp only [castI_eq] at *); refine EqX.i ?_; (try rw [ho]); (try dsimp only [Ar.real, IX.vo, IX.val, BX.val, IX.toN]); (try simp only [QB7]); (repeat rw [wrap_i64 (by omega) (by omega)]); omega) | (refine EqX.i ?_; rw [hM0, ho]; rfl)), by cbv; repeat' (first | trivial | exact EqO.rfl' | apply And.intro | (refine EqX.i ?_; rw [hM0, ho]; rfl)), by cbv; repeat' (first | trivial | exact EqO.rfl' | apply And.intro | (refine EqX.i ?_; rw [hM0, ho]; rfl))⟩
  · rintro i hi R hR
    have e1 := hM1 i
    have hN0 : rBndW (l.getD i default) ws (M i) 0 = M i := rfl
    have hN1 : ∀ k, rBndW (l.getD i default) ws (M i) (k + 1) = min 9007199254740992 (IntKind.i64.wrap (rBndW (l.getD i default) ws (M i) k + rMany (sumsOf (l.getD i default)) (sumsOf (ws.getD k default).need))) := fun _ => rfl
    generalize rBndW (l.getD i default) ws (M i) = N at *
    have hs := hsa i
    have en : o.nth l i = l.getD i default := by rw [ho, real_nth]
    generalize sumsOf (l.getD i default) = sv at *
    rw [← en, ← ho] at hs
    cbv
    repeat' (first | (refine Br.mk (fun hb => ?_) (fun hb => ?_) <;> ((try rw [ho] at hb); (try dsimp only [Ar.real, IX.vo] at hb); (try simp only [QB7] at hb); (try simp only [QBo, beq_iff_eq, beq_eq_false_iff_ne, ne_eq] at hb))) | (refine StopN.mk ?_; cbv) | ((first | refine CallI.pure hP (x_r06Of _ ‹_›) fn45 (by first | rfl | (rw [ho]; done) | (rw [ho]; rfl)) (by rfl) (by first | rfl | (rw [ho]; done) | (rw [ho]; rfl)) ?_ | refine CallN.pure hP (x_r06Of _ ‹_›) fn45 (by first | rfl | (rw [ho]; done) | (rw [ho]; rfl)) (by rfl) (by first | rfl | (rw [ho]; done) | (rw [ho]; rfl)) ?_); (try rw [← ho]); generalize hr : sumsOf _ = r; (try rw [ho] at hr); (try dsimp only [Ar.real, IX.vo] at hr); (try simp only [QB7] at hr); cbv) | ((first | refine CallI.pure hP (x_r35Many _ _) fn115 (by first | rfl | (rw [ho]; done) | (rw [ho]; rfl)) (by rfl) (by first | rfl | (rw [ho]; done) | (rw [ho]; rfl)) ?_ | refine CallN.pure hP (x_r35Many _ _) fn115 (by first | rfl | (rw [ho]; done) | (rw [ho]; rfl)) (by rfl) (by first | rfl | (rw [ho]; done) | (rw [ho]; rfl)) ?_); (try rw [← ho]); generalize hr : rMany _ _ = r; (try rw [ho] at hr); (try dsimp only [Ar.real, IX.vo] at hr); (try simp only [QB7] at hr); cbv) | (refine hK _ _ ?_) | (refine NeedT.mk ?_ ?_))
    · refine LoopN.over (o := o) (D := [(9, [(6, 9), (6, 10), (6, 11)])]) ho hm hT (by kernel_rfl) (fun a : Nat => [(8, xn a), (6, xi (N a))]) (fun _ => []) (fun _ => []) (fun a => a ≤ ws.length) (fun a => ws.length - a) 0 (Nat.zero_le _) ?_ ?_
      · refine ⟨(by cbv), by cbv; repeat' (first | trivial | exact EqX.rfl' | exact EqO.rfl' | apply And.intro | ((try clear hR3); (try clear hR2); (try clear hR); (try clear hK); (try simp only [ncCast] at *); (try simp only [castI_eq] at *); refine EqX.i ?_; (try rw [ho]); (try dsimp only [Ar.real, IX.vo, IX.val, BX.val, IX.toN]); (try simp only [QB7]); (repeat rw [wrap_i64 (by omega) (by omega)]); omega) | (refine EqX.i ?_; rw [hN0])), by cbv; repeat' (first | trivial | exact EqO.rfl' | apply And.intro | (refine EqX.i ?_; rw [hN0])), by cbv; repeat' (first | trivial | exact EqO.rfl' | apply And.intro | (refine EqX.i ?_; rw [hN0]))⟩
      · rintro k hk R' hR'
        have e3 := hN1 k
        have hs2 := hsw k
        have hmn := x_r35Many sv (sumsOf (ws.getD k default).need)
        have en2 : o.nth ws k = ws.getD k default := by rw [ho, real_nth]
        generalize sumsOf (ws.getD k default).need = tv at *
        generalize rMany sv tv = q at *
        rw [← en2, ← ho] at hs2
        rw [← ho] at hmn
        cbv
        repeat' (first | (refine Br.mk (fun hb => ?_) (fun hb => ?_) <;> ((try rw [ho] at hb); (try dsimp only [Ar.real, IX.vo] at hb); (try simp only [QB7] at hb); (try simp only [QBo, beq_iff_eq, beq_eq_false_iff_ne, ne_eq] at hb))) | (refine StopN.mk ?_; cbv) | ((first | refine CallN.pure hP hs fn45 rfl rfl rfl ?_ | refine CallN.pure hP hs2 fn45 rfl rfl rfl ?_ | refine CallN.pure hP hmn fn115 rfl rfl rfl ?_); cbv) | ((first | refine CallI.pure hP (x_r06Of _ ‹_›) fn45 (by first | rfl | (rw [ho]; done) | (rw [ho]; rfl)) (by rfl) (by first | rfl | (rw [ho]; done) | (rw [ho]; rfl)) ?_ | refine CallN.pure hP (x_r06Of _ ‹_›) fn45 (by first | rfl | (rw [ho]; done) | (rw [ho]; rfl)) (by rfl) (by first | rfl | (rw [ho]; done) | (rw [ho]; rfl)) ?_); (try rw [← ho]); generalize hr : sumsOf _ = r; (try rw [ho] at hr); (try dsimp only [Ar.real, IX.vo] at hr); (try simp only [QB7] at hr); cbv) | ((first | refine CallI.pure hP (x_r35Many _ _) fn115 (by first | rfl | (rw [ho]; done) | (rw [ho]; rfl)) (by rfl) (by first | rfl | (rw [ho]; done) | (rw [ho]; rfl)) ?_ | refine CallN.pure hP (x_r35Many _ _) fn115 (by first | rfl | (rw [ho]; done) | (rw [ho]; rfl)) (by rfl) (by first | rfl | (rw [ho]; done) | (rw [ho]; rfl)) ?_); (try rw [← ho]); generalize hr : rMany _ _ = r; (try rw [ho] at hr); (try dsimp only [Ar.real, IX.vo] at hr); (try simp only [QB7] at hr); cbv) | (refine hK _ _ ?_) | (refine NeedT.mk ?_ ?_))
        any_goals (((try clear hR3); (try clear hR2); (try clear hR); (try clear hK); (try simp only [ncCast] at *); (try simp only [castI_eq] at *); (try rw [ho]); (try dsimp only [Ar.real, IX.vo, IX.val, BX.val, IX.toN]); (try simp only [QB7]); (try simp only [decide_eq_true_eq]); (all_goals (repeat rw [wrap_i64 (by omega) (by omega)])); (all_goals (first | omega | (simp only [Int.ofNat_eq_natCast]; omega)))); done)
        · refine hR' _ (k + 1) (by show ws.length - (k + 1) < ws.length - k; ((try clear hR3); (try clear hR2); (try clear hR); (try clear hK); (try simp only [ncCast] at *); (try simp only [castI_eq] at *)); omega) (by show k + 1 ≤ ws.length; ((try clear hR3); (try clear hR2); (try clear hR); (try clear hK); (try simp only [ncCast] at *); (try simp only [castI_eq] at *)); omega) ?_
          refine ⟨(by cbv), by cbv; repeat' (first | trivial | exact EqX.rfl' | exact EqO.rfl' | apply And.intro | ((try clear hR3); (try clear hR2); (try clear hR); (try clear hK); (try simp only [ncCast] at *); (try simp only [castI_eq] at *); refine EqX.i ?_; (try rw [ho]); (try dsimp only [Ar.real, IX.vo, IX.val, BX.val, IX.toN]); (try simp only [QB7]); (repeat rw [wrap_i64 (by omega) (by omega)]); omega) | (refine EqX.i ?_; rw [e3, ho]; rfl)), by cbv; repeat' (first | trivial | exact EqO.rfl' | apply And.intro | (refine EqX.i ?_; rw [e3, ho]; rfl)), by cbv; repeat' (first | trivial | exact EqO.rfl' | apply And.intro | (refine EqX.i ?_; rw [e3, ho]; rfl))⟩
        · obtain rfl : k = ws.length := by ((try clear hR3); (try clear hR2); (try clear hR); (try clear hK); (try simp only [ncCast] at *); (try simp only [castI_eq] at *)); omega
          refine hR _ (i + 1) (by show l.length - (i + 1) < l.length - i; ((try clear hR3); (try clear hR2); (try clear hR); (try clear hK); (try simp only [ncCast] at *); (try simp only [castI_eq] at *)); omega) (by show i + 1 ≤ l.length; ((try clear hR3); (try clear hR2); (try clear hR); (try clear hK); (try simp only [ncCast] at *); (try simp only [castI_eq] at *)); omega) ?_
          refine ⟨(by cbv), by cbv; repeat' (first | trivial | exact EqX.rfl' | exact EqO.rfl' | apply And.intro | ((try clear hR3); (try clear hR2); (try clear hR); (try clear hK); (try simp only [ncCast] at *); (try simp only [castI_eq] at *); refine EqX.i ?_; (try rw [ho]); (try dsimp only [Ar.real, IX.vo, IX.val, BX.val, IX.toN]); (try simp only [QB7]); (repeat rw [wrap_i64 (by omega) (by omega)]); omega) | (refine EqX.i ?_; rw [e1])), by cbv; repeat' (first | trivial | exact EqO.rfl' | apply And.intro | (refine EqX.i ?_; rw [e1])), by cbv; repeat' (first | trivial | exact EqO.rfl' | apply And.intro | (refine EqX.i ?_; rw [e1]))⟩
    · obtain rfl : i = l.length := by ((try clear hR3); (try clear hR2); (try clear hR); (try clear hK); (try simp only [ncCast] at *); (try simp only [castI_eq] at *)); omega
      exact .i rfl
end Go.Proofs.Ytddgcegimmcbgaa.Sy
namespace Go.Proofs.Ytddgcegimmcbgaa.Sy
open Go Go.Sy Go.Proofs.Ytddgcegimmcbgaa
end Go.Proofs.Ytddgcegimmcbgaa.Sy
namespace Go.Proofs.Ytddgcegimmcbgaa.Sy
open Go Go.Sy Go.Proofs.Ytddgcegimmcbgaa
end Go.Proofs.Ytddgcegimmcbgaa.Sy
namespace Go.Proofs.Ytddgcegimmcbgaa.Sy
open Go Go.Sy Go.Proofs.Ytddgcegimmcbgaa
end Go.Proofs.Ytddgcegimmcbgaa.Sy
namespace Go.Proofs.Ytddgcegimmcbgaa.Sy
open Go Go.Sy Go.Proofs.Ytddgcegimmcbgaa
def rAgTo (l : List (List Part)) : Nat → S4
  | 0 => ⟨9007199254740992, 9007199254740992, 9007199254740992, 9007199254740992⟩
  | i + 1 => ⟨IntKind.i64.wrap ((rAgTo l i).a - (sumsOf (l.getD i default)).a), IntKind.i64.wrap ((rAgTo l i).b - (sumsOf (l.getD i default)).b), IntKind.i64.wrap ((rAgTo l i).c - (sumsOf (l.getD i default)).c), IntKind.i64.wrap ((rAgTo l i).d - (sumsOf (l.getD i default)).d)⟩
def nnS (s : S4) : Bool := decide (0 ≤ s.a ∧ 0 ≤ s.b ∧ 0 ≤ s.c ∧ 0 ≤ s.d)
def rAgOk (l : List (List Part)) (i : Nat) : Bool := nnS (rAgTo l (i + 1)) && rBare (l.getD i default)
def rWok (lo : S4) (w : Want) : Bool := rBare w.need && (decide (1 ≤ w.weight ∧ w.weight ≤ 1000) && sumsHolds (sumsOf w.need) lo)
def rFine (p : Prof) : Bool :=
  decide (1 ≤ p.ags.length ∧ p.ags.length ≤ 16 ∧ 1 ≤ p.wants.length ∧ p.wants.length ≤ 32) && ((nextAt (fun i => !rAgOk p.ags i) 0 p.ags.length).isNone && (okLo p.lo && (nextAt (fun i => !rWok p.lo (p.wants.getD i default)) 0 p.wants.length).isNone))
def rCheck (p : Prof) : Int := if rFine p = true then (if 4096 < rBndA p.ags p.wants p.ags.length then 32 else 0) else 41
theorem isNone_all {p : Nat → Bool} {n : Nat} (h : ∀ i, i < n → p i = false) : (nextAt p 0 n).isNone = true := by
  rw [nextAt_none (fun i _ hi => h i hi)]
  rfl
theorem isNone_no {p : Nat → Bool} {n i : Nat} (hi : i < n) (h : p i = true) : (nextAt p 0 n).isNone = false := by
  cases e : (nextAt p 0 n).isNone with
  | false => rfl
  | true =>
    rw [Option.isNone_iff_eq_none] at e
    unfold nextAt at e
    rw [List.find?_range'_eq_none] at e
    exact absurd h (by simpa using e i (Nat.zero_le _) (by omega))
theorem r41 {p : Prof} (h : rFine p = false) : rCheck p = 41 := by
  unfold rCheck
  rw [h]
  rfl
theorem r41_len {p : Prof} (h : ¬ (1 ≤ p.ags.length ∧ p.ags.length ≤ 16 ∧ 1 ≤ p.wants.length ∧ p.wants.length ≤ 32)) : rCheck p = 41 := r41 (by
  unfold rFine
  rw [decide_eq_false h]
  rfl)
theorem r41_ag {p : Prof} {i : Nat} (hi : i < p.ags.length) (h : rAgOk p.ags i = false) : rCheck p = 41 := r41 (by
  unfold rFine
  rw [isNone_no (p := fun i => !rAgOk p.ags i) hi (by simp only [h, Bool.not_false]), Bool.false_and, Bool.and_false])
theorem r41_lo {p : Prof} (h : okLo p.lo = false) : rCheck p = 41 := r41 (by
  unfold rFine
  rw [h, Bool.false_and, Bool.and_false, Bool.and_false])
theorem r41_w {p : Prof} {i : Nat} (hi : i < p.wants.length) (h : rWok p.lo (p.wants.getD i default) = false) : rCheck p = 41 := r41 (by
  unfold rFine
  rw [isNone_no (p := fun i => !rWok p.lo (p.wants.getD i default)) hi (by simp only [h, Bool.not_false]), Bool.and_false, Bool.and_false, Bool.and_false])
theorem r_ok {p : Prof} (h : 1 ≤ p.ags.length ∧ p.ags.length ≤ 16 ∧ 1 ≤ p.wants.length ∧ p.wants.length ≤ 32) (ha : ∀ i, i < p.ags.length → rAgOk p.ags i = true) (hlo : okLo p.lo = true) (hw : ∀ i, i < p.wants.length → rWok p.lo (p.wants.getD i default) = true) : rCheck p = if 4096 < rBndA p.ags p.wants p.ags.length then 32 else 0 := by
  unfold rCheck rFine
  rw [decide_eq_true h, isNone_all (fun i hi => by simp only [ha i hi, Bool.not_true]), hlo, isNone_all (fun i hi => by simp only [hw i hi, Bool.not_true])]
  rfl
theorem x_r35Check (p : Prof) (hp : ProfOk p) : XC Try.prog 28 [.ro (SL Ar.real PV.X p.ags), .ro (SL Ar.real Want.X p.wants), .agg (S4.X Ar.real p.lo)] [] (xi (rCheck p)) [] := by
  have q0 := r41_len (p := p)
  have q1 := fun i => r41_ag (p := p) (i := i)
  have q2 := r41_lo (p := p)
  have q3 := fun i => r41_w (p := p) (i := i)
  have q4 := r_ok (p := p)
  generalize rCheck p = res at *
  obtain ⟨l, ws, lo⟩ := p
  obtain ⟨hl, hws, hla, hwa⟩ := hp
  dsimp only at hl hws hla hwa q0 q1 q2 q3 q4 ⊢
  have hbd := x_r35Bound l ws hl hws hla hwa
  have hM0 : rAgTo l 0 = ⟨9007199254740992, 9007199254740992, 9007199254740992, 9007199254740992⟩ := rfl
  have hM1 : ∀ i, rAgTo l (i + 1) = ⟨IntKind.i64.wrap ((rAgTo l i).a - (sumsOf (l.getD i default)).a), IntKind.i64.wrap ((rAgTo l i).b - (sumsOf (l.getD i default)).b), IntKind.i64.wrap ((rAgTo l i).c - (sumsOf (l.getD i default)).c), IntKind.i64.wrap ((rAgTo l i).d - (sumsOf (l.getD i default)).d)⟩ := fun _ => rfl
  have hG : ∀ i, rAgOk l i = (nnS (rAgTo l (i + 1)) && rBare (l.getD i default)) := fun _ => rfl
  have hW : ∀ i, rWok lo (ws.getD i default) = (rBare (ws.getD i default).need && (decide (1 ≤ (ws.getD i default).weight ∧ (ws.getD i default).weight ≤ 1000) && sumsHolds (sumsOf (ws.getD i default).need) lo)) := fun _ => rfl
  have hLO : okLo lo = true ↔ (0 ≤ lo.a ∧ lo.a ≤ 9007199254740992) ∧ (0 ≤ lo.b ∧ lo.b ≤ 9007199254740992) ∧ (0 ≤ lo.c ∧ lo.c ≤ 9007199254740992) ∧ (0 ≤ lo.d ∧ lo.d ≤ 9007199254740992) := by
    simp [okLo, inTop]
  have hS1 := fun k => x_r06Of (l.getD k default) (hla k)
  have hB1 := fun k => x_r35bare (l.getD k default) (hla k)
  have hS2 := fun k => x_r06Of (ws.getD k default).need (hwa k)
  have hB2 := fun k => x_r35bare (ws.getD k default).need (hwa k)
  have hH2 := fun s => x_r06Holds s lo
  generalize rAgOk l = G at *
  generalize rAgTo l = M at *
  generalize rBndA l ws l.length = bnd at *
  generalize rWok lo = W at *
  generalize okLo lo = LO at *
  obtain ⟨a0, b0, c0, d0⟩ := lo
  dsimp only at hLO
  (refine XC.of_body ([(12, []), (23, [(29, 30)])]) Try.func28 rfl Try.ntmps28 mixed (T := [(2, ti2), (3, ti3), (4, ti4), (31, ti31), (47, ti47), (52, ti52), (57, ti57), (88, ti88), (123, ti123)]) (.cons tok2 (.cons tok3 (.cons tok4 (.cons tok31 (.cons tok47 (.cons tok52 (.cons tok57 (.cons tok88 (.cons tok123 .nil))))))))) (by kernel_rfl) (by simp) rfl rfl rfl rfl rfl ?_; rintro o ho P hP c K hK; have hm : P.follows .mixedOrders = true := hP ▸ mixed; have hT : TOk P [(2, ti2), (3, ti3), (4, ti4), (31, ti31), (47, ti47), (52, ti52), (57, ti57), (88, ti88), (123, ti123)] := hP ▸ (.cons tok2 (.cons tok3 (.cons tok4 (.cons tok31 (.cons tok47 (.cons tok52 (.cons tok57 (.cons tok88 (.cons tok123 .nil))))))))); (try rw [← ho]); cbv; (repeat (refine StopN.mk ?_; cbv)))
  repeat' (first | (refine Br.mk (fun hb => ?_) (fun hb => ?_) <;> ((try rw [ho] at hb); (try dsimp only [Ar.real, IX.vo] at hb); (try simp only [QB7] at hb); (try simp only [QBo, beq_iff_eq, beq_eq_false_iff_ne, ne_eq] at hb))) | (refine StopN.mk ?_; cbv) | ((first | refine CallI.pure hP (x_r06Holds _ _) fn35 (by first | rfl | (rw [ho]; done) | (rw [ho]; rfl)) (by rfl) (by first | rfl | (rw [ho]; done) | (rw [ho]; rfl)) ?_ | refine CallN.pure hP (x_r06Holds _ _) fn35 (by first | rfl | (rw [ho]; done) | (rw [ho]; rfl)) (by rfl) (by first | rfl | (rw [ho]; done) | (rw [ho]; rfl)) ?_); (try rw [← ho]); generalize hr : sumsHolds _ _ = r; (try rw [ho] at hr); (try dsimp only [Ar.real, IX.vo] at hr); (try simp only [QB7] at hr); cbv) | ((first | refine CallI.pure hP (x_r06Of _ ‹_›) fn45 (by first | rfl | (rw [ho]; done) | (rw [ho]; rfl)) (by rfl) (by first | rfl | (rw [ho]; done) | (rw [ho]; rfl)) ?_ | refine CallN.pure hP (x_r06Of _ ‹_›) fn45 (by first | rfl | (rw [ho]; done) | (rw [ho]; rfl)) (by rfl) (by first | rfl | (rw [ho]; done) | (rw [ho]; rfl)) ?_); (try rw [← ho]); generalize hr : sumsOf _ = r; (try rw [ho] at hr); (try dsimp only [Ar.real, IX.vo] at hr); (try simp only [QB7] at hr); cbv) | ((first | refine CallI.pure hP (x_r35bare _ ‹_›) fn75 (by first | rfl | (rw [ho]; done) | (rw [ho]; rfl)) (by rfl) (by first | rfl | (rw [ho]; done) | (rw [ho]; rfl)) ?_ | refine CallN.pure hP (x_r35bare _ ‹_›) fn75 (by first | rfl | (rw [ho]; done) | (rw [ho]; rfl)) (by rfl) (by first | rfl | (rw [ho]; done) | (rw [ho]; rfl)) ?_); (try rw [← ho]); generalize hr : rBare _ = r; (try rw [ho] at hr); (try dsimp only [Ar.real, IX.vo] at hr); (try simp only [QB7] at hr); cbv) | ((first | refine CallI.pure hP (x_r35Bound _ _ ‹_› ‹_› ‹_› ‹_›) fn76 (by first | rfl | (rw [ho]; done) | (rw [ho]; rfl)) (by rfl) (by first | rfl | (rw [ho]; done) | (rw [ho]; rfl)) ?_ | refine CallN.pure hP (x_r35Bound _ _ ‹_› ‹_› ‹_› ‹_›) fn76 (by first | rfl | (rw [ho]; done) | (rw [ho]; rfl)) (by rfl) (by first | rfl | (rw [ho]; done) | (rw [ho]; rfl)) ?_); (try rw [← ho]); generalize hr : rBndA _ _ _ = r; (try rw [ho] at hr); (try dsimp only [Ar.real, IX.vo] at hr); (try simp only [QB7] at hr); cbv) | (refine hK _ _ ?_) | (refine NeedT.mk ?_ ?_))
  iterate 4
    · rw [q0 (fun h => by ((try clear hR3); (try clear hR2); (try clear hR); (try clear hK); (try simp only [ncCast] at *); (try simp only [castI_eq] at *)); omega)]
      exact .i rfl
  have hlen : 1 ≤ l.length ∧ l.length ≤ 16 ∧ 1 ≤ ws.length ∧ ws.length ≤ 32 := by ((try clear hR3); (try clear hR2); (try clear hR); (try clear hK); (try simp only [ncCast] at *); (try simp only [castI_eq] at *)); omega
  refine LoopN.over (o := o) (D := [(12, []), (23, [(29, 30)])]) ho hm hT (by kernel_rfl) (fun a : Nat => [(9, xn a)]) (fun a => [(1, .var [xi (M a).a, xi (M a).b, xi (M a).c, xi (M a).d] 52)]) (fun _ => []) (fun a => a ≤ l.length ∧ ∀ k, k < a → G k = true) (fun a => l.length - a) 0 ⟨by omega, fun k hk => absurd hk (Nat.not_lt_zero k)⟩ ?_ ?_
  · refine ⟨(by cbv), by cbv; repeat' (first | trivial | exact EqX.rfl' | exact EqO.rfl' | apply And.intro | ((try clear hR3); (try clear hR2); (try clear hR); (try clear hK); (try simp only [ncCast] at *); (try simp only [castI_eq] at *); refine EqX.i ?_; (try rw [ho]); (try dsimp only [Ar.real, IX.vo, IX.val, BX.val, IX.toN]); (try simp only [QB7]); (repeat rw [wrap_i64 (by omega) (by omega)]); omega) | exact ⟨by rw [hM0]; rfl⟩), by cbv; repeat' (first | trivial | exact EqO.rfl' | apply And.intro | exact ⟨by rw [hM0]; rfl⟩), by cbv; repeat' (first | trivial | exact EqO.rfl' | apply And.intro | exact ⟨by rw [hM0]; rfl⟩)⟩
  · rintro i ⟨hi, hlt⟩ R hR
    have e1 := hM1 i
    have hg := hG i
    have hs := hS1 i
    have hb1 := hB1 i
    have en : o.nth l i = l.getD i default := by rw [ho, real_nth]
    generalize sumsOf (l.getD i default) = sv at *
    generalize rBare (l.getD i default) = b at *
    rw [← en, ← ho] at hs hb1
    generalize M i = mi at *
    obtain ⟨m1, m2, m3, m4⟩ := mi
    obtain ⟨s1, s2, s3, s4⟩ := sv
    dsimp only at e1
    rw [e1] at hg
    cbv
    repeat' (first | (refine Br.mk (fun hb => ?_) (fun hb => ?_) <;> ((try rw [ho] at hb); (try dsimp only [Ar.real, IX.vo] at hb); (try simp only [QB7] at hb); (try simp only [QBo, beq_iff_eq, beq_eq_false_iff_ne, ne_eq] at hb))) | (refine StopN.mk ?_; cbv) | (first | refine CallI.pure hP hs fn45 rfl rfl rfl ?_); cbv | ((first | refine CallI.pure hP (x_r06Holds _ _) fn35 (by first | rfl | (rw [ho]; done) | (rw [ho]; rfl)) (by rfl) (by first | rfl | (rw [ho]; done) | (rw [ho]; rfl)) ?_ | refine CallN.pure hP (x_r06Holds _ _) fn35 (by first | rfl | (rw [ho]; done) | (rw [ho]; rfl)) (by rfl) (by first | rfl | (rw [ho]; done) | (rw [ho]; rfl)) ?_); (try rw [← ho]); generalize hr : sumsHolds _ _ = r; (try rw [ho] at hr); (try dsimp only [Ar.real, IX.vo] at hr); (try simp only [QB7] at hr); cbv) | ((first | refine CallI.pure hP (x_r06Of _ ‹_›) fn45 (by first | rfl | (rw [ho]; done) | (rw [ho]; rfl)) (by rfl) (by first | rfl | (rw [ho]; done) | (rw [ho]; rfl)) ?_ | refine CallN.pure hP (x_r06Of _ ‹_›) fn45 (by first | rfl | (rw [ho]; done) | (rw [ho]; rfl)) (by rfl) (by first | rfl | (rw [ho]; done) | (rw [ho]; rfl)) ?_); (try rw [← ho]); generalize hr : sumsOf _ = r; (try rw [ho] at hr); (try dsimp only [Ar.real, IX.vo] at hr); (try simp only [QB7] at hr); cbv) | ((first | refine CallI.pure hP (x_r35bare _ ‹_›) fn75 (by first | rfl | (rw [ho]; done) | (rw [ho]; rfl)) (by rfl) (by first | rfl | (rw [ho]; done) | (rw [ho]; rfl)) ?_ | refine CallN.pure hP (x_r35bare _ ‹_›) fn75 (by first | rfl | (rw [ho]; done) | (rw [ho]; rfl)) (by rfl) (by first | rfl | (rw [ho]; done) | (rw [ho]; rfl)) ?_); (try rw [← ho]); generalize hr : rBare _ = r; (try rw [ho] at hr); (try dsimp only [Ar.real, IX.vo] at hr); (try simp only [QB7] at hr); cbv) | ((first | refine CallI.pure hP (x_r35Bound _ _ ‹_› ‹_› ‹_› ‹_›) fn76 (by first | rfl | (rw [ho]; done) | (rw [ho]; rfl)) (by rfl) (by first | rfl | (rw [ho]; done) | (rw [ho]; rfl)) ?_ | refine CallN.pure hP (x_r35Bound _ _ ‹_› ‹_› ‹_› ‹_›) fn76 (by first | rfl | (rw [ho]; done) | (rw [ho]; rfl)) (by rfl) (by first | rfl | (rw [ho]; done) | (rw [ho]; rfl)) ?_); (try rw [← ho]); generalize hr : rBndA _ _ _ = r; (try rw [ho] at hr); (try dsimp only [Ar.real, IX.vo] at hr); (try simp only [QB7] at hr); cbv) | (refine hK _ _ ?_) | (refine NeedT.mk ?_ ?_))
    any_goals (((try clear hR3); (try clear hR2); (try clear hR); (try clear hK); (try simp only [ncCast] at *); (try simp only [castI_eq] at *); (try rw [ho]); (try dsimp only [Ar.real, IX.vo, IX.val, BX.val, IX.toN]); (try simp only [QB7]); (try simp only [decide_eq_true_eq]); (all_goals (repeat rw [wrap_i64 (by omega) (by omega)])); (all_goals (first | omega | (simp only [Int.ofNat_eq_natCast]; omega)))); done)
    · (refine LoopN.lay (o := o) (D := [(12, []), (23, [(29, 30)])]) 5 ho hm hT (by kernel_rfl) ?_; cbv)
      repeat' (first | (refine Br.mk (fun hb => ?_) (fun hb => ?_) <;> ((try rw [ho] at hb); (try dsimp only [Ar.real, IX.vo] at hb); (try simp only [QB7] at hb); (try simp only [QBo, beq_iff_eq, beq_eq_false_iff_ne, ne_eq] at hb))) | (refine StopN.mk ?_; cbv) | (first | refine CallN.pure hP hb1 fn75 rfl rfl rfl ?_ | refine CallI.pure hP hb1 fn75 rfl rfl rfl ?_); cbv | ((first | refine CallI.pure hP (x_r06Holds _ _) fn35 (by first | rfl | (rw [ho]; done) | (rw [ho]; rfl)) (by rfl) (by first | rfl | (rw [ho]; done) | (rw [ho]; rfl)) ?_ | refine CallN.pure hP (x_r06Holds _ _) fn35 (by first | rfl | (rw [ho]; done) | (rw [ho]; rfl)) (by rfl) (by first | rfl | (rw [ho]; done) | (rw [ho]; rfl)) ?_); (try rw [← ho]); generalize hr : sumsHolds _ _ = r; (try rw [ho] at hr); (try dsimp only [Ar.real, IX.vo] at hr); (try simp only [QB7] at hr); cbv) | ((first | refine CallI.pure hP (x_r06Of _ ‹_›) fn45 (by first | rfl | (rw [ho]; done) | (rw [ho]; rfl)) (by rfl) (by first | rfl | (rw [ho]; done) | (rw [ho]; rfl)) ?_ | refine CallN.pure hP (x_r06Of _ ‹_›) fn45 (by first | rfl | (rw [ho]; done) | (rw [ho]; rfl)) (by rfl) (by first | rfl | (rw [ho]; done) | (rw [ho]; rfl)) ?_); (try rw [← ho]); generalize hr : sumsOf _ = r; (try rw [ho] at hr); (try dsimp only [Ar.real, IX.vo] at hr); (try simp only [QB7] at hr); cbv) | ((first | refine CallI.pure hP (x_r35bare _ ‹_›) fn75 (by first | rfl | (rw [ho]; done) | (rw [ho]; rfl)) (by rfl) (by first | rfl | (rw [ho]; done) | (rw [ho]; rfl)) ?_ | refine CallN.pure hP (x_r35bare _ ‹_›) fn75 (by first | rfl | (rw [ho]; done) | (rw [ho]; rfl)) (by rfl) (by first | rfl | (rw [ho]; done) | (rw [ho]; rfl)) ?_); (try rw [← ho]); generalize hr : rBare _ = r; (try rw [ho] at hr); (try dsimp only [Ar.real, IX.vo] at hr); (try simp only [QB7] at hr); cbv) | ((first | refine CallI.pure hP (x_r35Bound _ _ ‹_› ‹_› ‹_› ‹_›) fn76 (by first | rfl | (rw [ho]; done) | (rw [ho]; rfl)) (by rfl) (by first | rfl | (rw [ho]; done) | (rw [ho]; rfl)) ?_ | refine CallN.pure hP (x_r35Bound _ _ ‹_› ‹_› ‹_› ‹_›) fn76 (by first | rfl | (rw [ho]; done) | (rw [ho]; rfl)) (by rfl) (by first | rfl | (rw [ho]; done) | (rw [ho]; rfl)) ?_); (try rw [← ho]); generalize hr : rBndA _ _ _ = r; (try rw [ho] at hr); (try dsimp only [Ar.real, IX.vo] at hr); (try simp only [QB7] at hr); cbv) | (refine hK _ _ ?_) | (refine NeedT.mk ?_ ?_))
      any_goals (((try clear hR3); (try clear hR2); (try clear hR); (try clear hK); (try simp only [ncCast] at *); (try simp only [castI_eq] at *); (try rw [ho]); (try dsimp only [Ar.real, IX.vo, IX.val, BX.val, IX.toN]); (try simp only [QB7]); (try simp only [decide_eq_true_eq]); (all_goals (repeat rw [wrap_i64 (by omega) (by omega)])); (all_goals (first | omega | (simp only [Int.ofNat_eq_natCast]; omega)))); done)
      iterate 8
        · rw [q1 i (by ((try clear hR3); (try clear hR2); (try clear hR); (try clear hK); (try simp only [ncCast] at *); (try simp only [castI_eq] at *)); omega) (by
            rw [hg, Bool.and_eq_false_iff]
            first
              | exact .inr (by assumption)
              | (left
                 ((try clear hR3); (try clear hR2); (try clear hR); (try clear hK); (try simp only [ncCast] at *); (try simp only [castI_eq] at *))
                 refine decide_eq_false fun h => ?_
                 dsimp only at h
                 omega))]
          exact .i rfl
      refine hR _ (i + 1) (by show l.length - (i + 1) < l.length - i; ((try clear hR3); (try clear hR2); (try clear hR); (try clear hK); (try simp only [ncCast] at *); (try simp only [castI_eq] at *)); omega) ⟨by show i + 1 ≤ l.length; ((try clear hR3); (try clear hR2); (try clear hR); (try clear hK); (try simp only [ncCast] at *); (try simp only [castI_eq] at *)); omega, fun k hk => ?_⟩ ?_
      · rcases Nat.lt_or_ge k i with h5 | h5
        · exact hlt k h5
        · obtain rfl : k = i := by
            have hk' : k < i + 1 := hk
            clear hk
            ((try clear hR3); (try clear hR2); (try clear hR); (try clear hK); (try simp only [ncCast] at *); (try simp only [castI_eq] at *))
            omega
          ((try clear hR3); (try clear hR2); (try clear hR); (try clear hK); (try simp only [ncCast] at *); (try simp only [castI_eq] at *))
          rw [hg, ‹b = true›, Bool.and_true]
          refine decide_eq_true ⟨?_, ?_, ?_, ?_⟩ <;> dsimp only <;> omega
      · refine ⟨(by cbv), by cbv; repeat' (first | trivial | exact EqX.rfl' | exact EqO.rfl' | apply And.intro | ((try clear hR3); (try clear hR2); (try clear hR); (try clear hK); (try simp only [ncCast] at *); (try simp only [castI_eq] at *); refine EqX.i ?_; (try rw [ho]); (try dsimp only [Ar.real, IX.vo, IX.val, BX.val, IX.toN]); (try simp only [QB7]); (repeat rw [wrap_i64 (by omega) (by omega)]); omega) | exact ⟨by rw [e1, ho]; rfl⟩), by cbv; repeat' (first | trivial | exact EqO.rfl' | apply And.intro | exact ⟨by rw [e1, ho]; rfl⟩), by cbv; repeat' (first | trivial | exact EqO.rfl' | apply And.intro | exact ⟨by rw [e1, ho]; rfl⟩)⟩
    · obtain rfl : i = l.length := by ((try clear hR3); (try clear hR2); (try clear hR); (try clear hK); (try simp only [ncCast] at *); (try simp only [castI_eq] at *)); omega
      (refine LoopN.lay (o := o) (D := [(12, []), (23, [(29, 30)])]) 5 ho hm hT (by kernel_rfl) ?_; cbv)
      repeat' (first | (refine Br.mk (fun hb => ?_) (fun hb => ?_) <;> ((try rw [ho] at hb); (try dsimp only [Ar.real, IX.vo] at hb); (try simp only [QB7] at hb); (try simp only [QBo, beq_iff_eq, beq_eq_false_iff_ne, ne_eq] at hb))) | (refine StopN.mk ?_; cbv) | ((first | refine CallI.pure hP (x_r06Holds _ _) fn35 (by first | rfl | (rw [ho]; done) | (rw [ho]; rfl)) (by rfl) (by first | rfl | (rw [ho]; done) | (rw [ho]; rfl)) ?_ | refine CallN.pure hP (x_r06Holds _ _) fn35 (by first | rfl | (rw [ho]; done) | (rw [ho]; rfl)) (by rfl) (by first | rfl | (rw [ho]; done) | (rw [ho]; rfl)) ?_); (try rw [← ho]); generalize hr : sumsHolds _ _ = r; (try rw [ho] at hr); (try dsimp only [Ar.real, IX.vo] at hr); (try simp only [QB7] at hr); cbv) | ((first | refine CallI.pure hP (x_r06Of _ ‹_›) fn45 (by first | rfl | (rw [ho]; done) | (rw [ho]; rfl)) (by rfl) (by first | rfl | (rw [ho]; done) | (rw [ho]; rfl)) ?_ | refine CallN.pure hP (x_r06Of _ ‹_›) fn45 (by first | rfl | (rw [ho]; done) | (rw [ho]; rfl)) (by rfl) (by first | rfl | (rw [ho]; done) | (rw [ho]; rfl)) ?_); (try rw [← ho]); generalize hr : sumsOf _ = r; (try rw [ho] at hr); (try dsimp only [Ar.real, IX.vo] at hr); (try simp only [QB7] at hr); cbv) | ((first | refine CallI.pure hP (x_r35bare _ ‹_›) fn75 (by first | rfl | (rw [ho]; done) | (rw [ho]; rfl)) (by rfl) (by first | rfl | (rw [ho]; done) | (rw [ho]; rfl)) ?_ | refine CallN.pure hP (x_r35bare _ ‹_›) fn75 (by first | rfl | (rw [ho]; done) | (rw [ho]; rfl)) (by rfl) (by first | rfl | (rw [ho]; done) | (rw [ho]; rfl)) ?_); (try rw [← ho]); generalize hr : rBare _ = r; (try rw [ho] at hr); (try dsimp only [Ar.real, IX.vo] at hr); (try simp only [QB7] at hr); cbv) | ((first | refine CallI.pure hP (x_r35Bound _ _ ‹_› ‹_› ‹_› ‹_›) fn76 (by first | rfl | (rw [ho]; done) | (rw [ho]; rfl)) (by rfl) (by first | rfl | (rw [ho]; done) | (rw [ho]; rfl)) ?_ | refine CallN.pure hP (x_r35Bound _ _ ‹_› ‹_› ‹_› ‹_›) fn76 (by first | rfl | (rw [ho]; done) | (rw [ho]; rfl)) (by rfl) (by first | rfl | (rw [ho]; done) | (rw [ho]; rfl)) ?_); (try rw [← ho]); generalize hr : rBndA _ _ _ = r; (try rw [ho] at hr); (try dsimp only [Ar.real, IX.vo] at hr); (try simp only [QB7] at hr); cbv) | (refine hK _ _ ?_) | (refine NeedT.mk ?_ ?_))
      iterate 8
        · rw [q2 (Bool.eq_false_iff.2 fun h => by
            rw [hLO] at h
            ((try clear hR3); (try clear hR2); (try clear hR); (try clear hK); (try simp only [ncCast] at *); (try simp only [castI_eq] at *))
            omega)]
          exact .i rfl
      have hLO1 : LO = true := hLO.2 (by ((try clear hR3); (try clear hR2); (try clear hR); (try clear hK); (try simp only [ncCast] at *); (try simp only [castI_eq] at *)); omega)
      clear hR R
      refine LoopN.over (o := o) (D := [(12, []), (23, [(29, 30)])]) ho hm hT (by kernel_rfl) (fun a : Nat => [(13, xn a)]) (fun _ => []) (fun _ => []) (fun a => a ≤ ws.length ∧ ∀ k, k < a → W (ws.getD k default) = true) (fun a => ws.length - a) 0 ⟨by omega, fun k hk => absurd hk (Nat.not_lt_zero k)⟩ ?_ ?_
      · refine ⟨(by cbv), by cbv; repeat' (first | trivial | exact EqX.rfl' | exact EqO.rfl' | apply And.intro | ((try clear hR3); (try clear hR2); (try clear hR); (try clear hK); (try simp only [ncCast] at *); (try simp only [castI_eq] at *); refine EqX.i ?_; (try rw [ho]); (try dsimp only [Ar.real, IX.vo, IX.val, BX.val, IX.toN]); (try simp only [QB7]); (repeat rw [wrap_i64 (by omega) (by omega)]); omega)), by cbv; repeat' (first | trivial | exact EqO.rfl' | apply And.intro), by cbv; repeat' (first | trivial | exact EqO.rfl' | apply And.intro)⟩
      · rintro j ⟨hj, hlw⟩ R hR
        have hw := hW j
        have hs := hS2 j
        have hb1 := hB2 j
        have hh := hH2 (sumsOf (ws.getD j default).need)
        have en : o.nth ws j = ws.getD j default := by rw [ho, real_nth]
        generalize rBare (ws.getD j default).need = b at *
        generalize sumsOf (ws.getD j default).need = sv at *
        generalize sumsHolds sv _ = hd at *
        rw [← en, ← ho] at hs hb1
        rw [← ho] at hh hbd
        cbv
        repeat' (first | (refine Br.mk (fun hb => ?_) (fun hb => ?_) <;> ((try rw [ho] at hb); (try dsimp only [Ar.real, IX.vo] at hb); (try simp only [QB7] at hb); (try simp only [QBo, beq_iff_eq, beq_eq_false_iff_ne, ne_eq] at hb))) | (refine StopN.mk ?_; cbv) | (first | refine CallN.pure hP hs fn45 rfl rfl rfl ?_ | refine CallN.pure hP hb1 fn75 rfl rfl rfl ?_ | refine CallN.pure hP hh fn35 rfl rfl rfl ?_ | refine CallI.pure hP hbd fn76 rfl rfl rfl ?_); cbv | ((first | refine CallI.pure hP (x_r06Holds _ _) fn35 (by first | rfl | (rw [ho]; done) | (rw [ho]; rfl)) (by rfl) (by first | rfl | (rw [ho]; done) | (rw [ho]; rfl)) ?_ | refine CallN.pure hP (x_r06Holds _ _) fn35 (by first | rfl | (rw [ho]; done) | (rw [ho]; rfl)) (by rfl) (by first | rfl | (rw [ho]; done) | (rw [ho]; rfl)) ?_); (try rw [← ho]); generalize hr : sumsHolds _ _ = r; (try rw [ho] at hr); (try dsimp only [Ar.real, IX.vo] at hr); (try simp only [QB7] at hr); cbv) | ((first | refine CallI.pure hP (x_r06Of _ ‹_›) fn45 (by first | rfl | (rw [ho]; done) | (rw [ho]; rfl)) (by rfl) (by first | rfl | (rw [ho]; done) | (rw [ho]; rfl)) ?_ | refine CallN.pure hP (x_r06Of _ ‹_›) fn45 (by first | rfl | (rw [ho]; done) | (rw [ho]; rfl)) (by rfl) (by first | rfl | (rw [ho]; done) | (rw [ho]; rfl)) ?_); (try rw [← ho]); generalize hr : sumsOf _ = r; (try rw [ho] at hr); (try dsimp only [Ar.real, IX.vo] at hr); (try simp only [QB7] at hr); cbv) | ((first | refine CallI.pure hP (x_r35bare _ ‹_›) fn75 (by first | rfl | (rw [ho]; done) | (rw [ho]; rfl)) (by rfl) (by first | rfl | (rw [ho]; done) | (rw [ho]; rfl)) ?_ | refine CallN.pure hP (x_r35bare _ ‹_›) fn75 (by first | rfl | (rw [ho]; done) | (rw [ho]; rfl)) (by rfl) (by first | rfl | (rw [ho]; done) | (rw [ho]; rfl)) ?_); (try rw [← ho]); generalize hr : rBare _ = r; (try rw [ho] at hr); (try dsimp only [Ar.real, IX.vo] at hr); (try simp only [QB7] at hr); cbv) | ((first | refine CallI.pure hP (x_r35Bound _ _ ‹_› ‹_› ‹_› ‹_›) fn76 (by first | rfl | (rw [ho]; done) | (rw [ho]; rfl)) (by rfl) (by first | rfl | (rw [ho]; done) | (rw [ho]; rfl)) ?_ | refine CallN.pure hP (x_r35Bound _ _ ‹_› ‹_› ‹_› ‹_›) fn76 (by first | rfl | (rw [ho]; done) | (rw [ho]; rfl)) (by rfl) (by first | rfl | (rw [ho]; done) | (rw [ho]; rfl)) ?_); (try rw [← ho]); generalize hr : rBndA _ _ _ = r; (try rw [ho] at hr); (try dsimp only [Ar.real, IX.vo] at hr); (try simp only [QB7] at hr); cbv) | (refine hK _ _ ?_) | (refine NeedT.mk ?_ ?_))
        any_goals (((try clear hR3); (try clear hR2); (try clear hR); (try clear hK); (try simp only [ncCast] at *); (try simp only [castI_eq] at *); (try rw [ho]); (try dsimp only [Ar.real, IX.vo, IX.val, BX.val, IX.toN]); (try simp only [QB7]); (try simp only [decide_eq_true_eq]); (all_goals (repeat rw [wrap_i64 (by omega) (by omega)])); (all_goals (first | omega | (simp only [Int.ofNat_eq_natCast]; omega)))); done)
        iterate 4
          · rw [q3 j (by ((try clear hR3); (try clear hR2); (try clear hR); (try clear hK); (try simp only [ncCast] at *); (try simp only [castI_eq] at *)); omega) (by
              rw [hw]
              refine Bool.eq_false_iff.2 fun h => ?_
              simp only [Bool.and_eq_true, decide_eq_true_eq] at h
              ((try clear hR3); (try clear hR2); (try clear hR); (try clear hK); (try simp only [ncCast] at *); (try simp only [castI_eq] at *))
              first | omega | (rw [‹b = false›] at h; exact absurd h.1 (by decide)) | (rw [‹hd = false›] at h; exact absurd h.2.2 (by decide)))]
            exact .i rfl
        · refine hR _ (j + 1) (by show ws.length - (j + 1) < ws.length - j; ((try clear hR3); (try clear hR2); (try clear hR); (try clear hK); (try simp only [ncCast] at *); (try simp only [castI_eq] at *)); omega) ⟨by show j + 1 ≤ ws.length; ((try clear hR3); (try clear hR2); (try clear hR); (try clear hK); (try simp only [ncCast] at *); (try simp only [castI_eq] at *)); omega, fun k hk => ?_⟩ ?_
          · rcases Nat.lt_or_ge k j with h5 | h5
            · exact hlw k h5
            · obtain rfl : k = j := by
                have hk' : k < j + 1 := hk
                clear hk
                ((try clear hR3); (try clear hR2); (try clear hR); (try clear hK); (try simp only [ncCast] at *); (try simp only [castI_eq] at *))
                omega
              rw [hw, ‹b = true›, ‹hd = true›, Bool.true_and, Bool.and_true]
              exact decide_eq_true (by ((try clear hR3); (try clear hR2); (try clear hR); (try clear hK); (try simp only [ncCast] at *); (try simp only [castI_eq] at *)); omega)
          · refine ⟨(by cbv), by cbv; repeat' (first | trivial | exact EqX.rfl' | exact EqO.rfl' | apply And.intro | ((try clear hR3); (try clear hR2); (try clear hR); (try clear hK); (try simp only [ncCast] at *); (try simp only [castI_eq] at *); refine EqX.i ?_; (try rw [ho]); (try dsimp only [Ar.real, IX.vo, IX.val, BX.val, IX.toN]); (try simp only [QB7]); (repeat rw [wrap_i64 (by omega) (by omega)]); omega)), by cbv; repeat' (first | trivial | exact EqO.rfl' | apply And.intro), by cbv; repeat' (first | trivial | exact EqO.rfl' | apply And.intro)⟩
        all_goals
          obtain rfl : j = ws.length := by ((try clear hR3); (try clear hR2); (try clear hR); (try clear hK); (try simp only [ncCast] at *); (try simp only [castI_eq] at *)); omega
          rw [q4 hlen hlt hLO1 hlw]
        · rw [if_pos (by ((try clear hR3); (try clear hR2); (try clear hR); (try clear hK); (try simp only [ncCast] at *); (try simp only [castI_eq] at *)); omega)]
          exact .i rfl
        · rw [if_neg (by ((try clear hR3); (try clear hR2); (try clear hR); (try clear hK); (try simp only [ncCast] at *); (try simp only [castI_eq] at *)); omega)]
          exact .i rfl
end Go.Proofs.Ytddgcegimmcbgaa.Sy
namespace Go.Proofs.Ytddgcegimmcbgaa.Sy
open Go Go.Sy Go.Proofs.Ytddgcegimmcbgaa
structure Fil where
  total : S4
  wants : List Want
  left : List Part
  have_ : List S4
  ver : Nat
@[reducible] def Fil.O (o : Ar) (f : Fil) : List OX := [.var [xi f.total.a, xi f.total.b, xi f.total.c, xi f.total.d, .ro (SL o Want.X f.wants), .ro (SL o Part.X f.left), .own (.out 1) f.ver] 198, .row f.ver 61 4 (SL o S4.X f.have_)]
theorem upLr : ∀ l : List OX, upL l l
  | [] => trivial
  | a :: l => ⟨fun c => upO_refl _, upLr l⟩
theorem FinX_bOr {r : Bool} {x : BX} {O O' : List OX} (h : x.val = r) (hO : O' = O) : FinX (xb r) O (.b x) O' := by
  subst hO
  exact ⟨fun _ => by simp only [X.toD, h]; rfl, upLr _⟩
def Fil.need (f : Fil) (i : Int) : List Part := (f.wants.getD i.toNat default).need
def setH (f : Fil) (i : Int) : List S4 := f.have_.set i.toNat (sumsAdd (f.have_.getD i.toNat default) (sumsOf (f.need i))).1
end Go.Proofs.Ytddgcegimmcbgaa.Sy
namespace Go.Proofs.Ytddgcegimmcbgaa.Sy
open Go Go.Sy Go.Proofs.Ytddgcegimmcbgaa
end Go.Proofs.Ytddgcegimmcbgaa.Sy
namespace Go.Proofs.Ytddgcegimmcbgaa.Sy
open Go Go.Sy Go.Proofs.Ytddgcegimmcbgaa
theorem FinX_ib' {n : Int} {b : Bool} {x : IX} {y : BX} (h : x.val = n) (h' : y.val = b) : FinX (.tup [xi n, xb b]) [] (.tup [.i .i64 x, .b y]) [] := .pure fun _ => by simp only [X.toD, X.toDL, h, h']; rfl
end Go.Proofs.Ytddgcegimmcbgaa.Sy
namespace Go.Proofs.Ytddgcegimmcbgaa.Sy
open Go Go.Sy Go.Proofs.Ytddgcegimmcbgaa
@[reducible] def Fil.O3 (o : Ar) (f : Fil) : List OX := f.O o ++ [.var [.ptr (.out 0) 0] 127]
end Go.Proofs.Ytddgcegimmcbgaa.Sy
namespace Go.Proofs.Ytddgcegimmcbgaa.Sy
open Go Go.Sy Go.Proofs.Ytddgcegimmcbgaa
structure StX where
  i : Nat
  rv : Nat
  out : List Int
end Go.Proofs.Ytddgcegimmcbgaa.Sy
namespace Go.Proofs.Ytddgcegimmcbgaa.Sy
open Go Go.Sy Go.Proofs.Ytddgcegimmcbgaa
end Go.Proofs.Ytddgcegimmcbgaa.Sy
namespace Go.Proofs.Ytddgcegimmcbgaa.Sy
open Go Go.Sy Go.Proofs.Ytddgcegimmcbgaa
def encU (_ : Ar) (n : Nat) : List X := [.i .u32 (.nat n)]
theorem fits_U (o : Ar) (ho : o = Ar.real) (l : List Nat) : (SL o encU l).fits 1 := by
  intro row hr
  rw [rows_SL o ho] at hr
  obtain ⟨a, _, rfl⟩ := List.mem_map.1 hr
  exact ⟨rfl, rfl⟩
theorem rows_takeU {o : Ar} (ho : o = Ar.real) {l l' : List Nat} {i k : Nat} (hi : i ≤ l.length) (hk : k = i) (h : l' = l.take i) : (RR.fn k fun j => encU o (o.nth l j)).rows = (SL o encU l').rows := by
  subst ho
  subst h
  subst hk
  refine rows_fn_SL _ rfl encU _ _ _ (by rw [List.length_take]; omega) ?_
  intro j hj
  have e : l.getD j default = (l.take k).getD j default := by
    simp only [List.getD_eq_getElem?_getD, List.getElem?_take]
    rw [if_pos hj]
  show X.toCL (encU Ar.real (l.getD j default)) = _
  rw [e]
theorem fits_takeU {o : Ar} (ho : o = Ar.real) {l : List Nat} {n : Nat} (hn : n ≤ l.length) : (RR.fn n fun j => encU o (o.nth l j)).fits 1 := by
  intro row hr
  rw [rows_takeU ho hn rfl rfl] at hr
  exact fits_U o ho _ row hr
theorem FinX_u {k : IntKind} {r : Int} {x : IX} (h : x.val = r) : FinX (.i k (.s r)) [] (.i k x) [] := .pure fun _ => by simp only [X.toD, h]; rfl
theorem x_trim (l : List Nat) (hw : WOk l) (hl : l.length ≤ 1048576) : XC Try.prog 185 [.ro (SL Ar.real encU l)] [] (.ro (SL Ar.real encU (wd (vl l)))) [] := by
  have key := fun n => trim_eq (n := n) hw
  have hwd : ∀ j, l.getD j 0 < 4294967296 := hw
  generalize wd (vl l) = res at *
  (refine XC.of_body ([]) Try.func185 rfl Try.ntmps185 mixed (T := [(3, ti3), (142, ti142), (220, ti220)]) (.cons tok3 (.cons tok142 (.cons tok220 .nil))) (by kernel_rfl) (by simp) rfl rfl rfl rfl rfl ?_; rintro o ho P hP c K hK; have hm : P.follows .mixedOrders = true := hP ▸ mixed; have hT : TOk P [(3, ti3), (142, ti142), (220, ti220)] := hP ▸ (.cons tok3 (.cons tok142 (.cons tok220 .nil))); (try rw [← ho]); cbv; (repeat (refine StopN.mk ?_; cbv)))
  obtain ⟨n0, hn0⟩ : ∃ n, n = l.length := ⟨_, rfl⟩
  refine LoopN.over (o := o) (D := []) ho hm hT (by kernel_rfl) (fun n : Nat => [(0, .ro (.fn n fun j => encU o (o.nth l j)))]) (fun _ => []) (fun _ => []) (fun n => n ≤ l.length ∧ ∀ j, n ≤ j → l.getD j 0 = 0) (fun n => n) n0 ⟨by omega, fun j hj => by rw [List.getD_eq_getElem?_getD, List.getElem?_eq_none (by omega)]; rfl⟩ ?_ ?_
  · refine ⟨(by cbv), by cbv; repeat' (first | trivial | exact EqX.rfl' | exact EqO.rfl' | apply And.intro | ((try clear hR3); (try clear hR2); (try clear hR); (try clear hK); (try simp only [ncCast] at *); (try simp only [castI_eq] at *); refine EqX.i ?_; (try rw [ho]); (try dsimp only [Ar.real, IX.vo, IX.val, BX.val, IX.toN]); (try simp only [QB7]); (repeat rw [wrap_i64 (by omega) (by omega)]); omega) | (rw [hn0, ho]; exact EqX.rfl')), by cbv; repeat' (first | trivial | exact EqO.rfl' | apply And.intro | (rw [hn0, ho]; exact EqX.rfl')), by cbv; repeat' (first | trivial | exact EqO.rfl' | apply And.intro | (rw [hn0, ho]; exact EqX.rfl'))⟩
  · rintro n ⟨hn, hz⟩ R hR
    have e1 := key n hn hz
    have hw1 : (0 : Int) < n → (IntKind.i64.wrap ((n : Int) - 1)).toNat = n - 1 := fun h => by rw [wrap_i64 (by omega) (by omega)]; omega
    have hw2 : (0 : Int) < n → IntKind.i64.wrap ((n : Int) - 1) = (n : Int) - 1 := fun h => wrap_i64 (by omega) (by omega)
    cbv
    repeat' (first | (refine Br.mk (fun hb => ?_) (fun hb => ?_) <;> ((try rw [ho] at hb); (try dsimp only [Ar.real, IX.vo] at hb); (try simp only [QB7] at hb); (try simp only [QBo, beq_iff_eq, beq_eq_false_iff_ne, ne_eq] at hb))) | (refine StopN.mk ?_; cbv) | (refine hK _ _ ?_) | (refine NeedT.mk ?_ ?_) | (refine NeedP.mk (fits_takeU ho hn) ?_))
    · ((try clear hR3); (try clear hR2); (try clear hR); (try clear hK); (try simp only [ncCast] at *); (try simp only [castI_eq] at *); (try rw [ho]); (try dsimp only [Ar.real, IX.vo, IX.val, BX.val, IX.toN]); (try simp only [QB7]); (try simp only [decide_eq_true_eq]); (all_goals (repeat rw [wrap_i64 (by omega) (by omega)])); (all_goals (first | omega | (simp only [Int.ofNat_eq_natCast]; omega))))
    · have h1 := hw2 (by assumption)
      ((try clear hR3); (try clear hR2); (try clear hR); (try clear hK); (try simp only [ncCast] at *); (try simp only [castI_eq] at *); (try rw [ho]); (try dsimp only [Ar.real, IX.vo, IX.val, BX.val, IX.toN]); (try simp only [QB7]))
      rw [h1]
      simp
      omega
    · have h1 := hw1 (by assumption)
      have h2 : l.getD (n - 1) 0 = 0 := by
        have h3 := hb
        rw [h1] at h3
        have h4 : ((l.getD (n - 1) 0 : Nat) : Int) = 0 := h3
        omega
      refine hR _ (n - 1) (by ((try clear hR3); (try clear hR2); (try clear hR); (try clear hK); (try simp only [ncCast] at *); (try simp only [castI_eq] at *)); omega) ⟨by ((try clear hR3); (try clear hR2); (try clear hR); (try clear hK); (try simp only [ncCast] at *); (try simp only [castI_eq] at *)); omega, fun j hj => ?_⟩ ?_
      · rcases Nat.lt_or_ge j n with h5 | h5
        · obtain rfl : j = n - 1 := by omega
          exact h2
        · exact hz j h5
      · refine ⟨(by cbv), by cbv; repeat' (first | trivial | exact EqX.rfl' | exact EqO.rfl' | apply And.intro | ((try clear hR3); (try clear hR2); (try clear hR); (try clear hK); (try simp only [ncCast] at *); (try simp only [castI_eq] at *); refine EqX.i ?_; (try rw [ho]); (try dsimp only [Ar.real, IX.vo, IX.val, BX.val, IX.toN]); (try simp only [QB7]); (repeat rw [wrap_i64 (by omega) (by omega)]); omega) | (refine EqX.ro ?_; rw [ho]; show (RR.fn (IntKind.i64.wrap ((n : Int) - 1)).toNat _).rows = _; rw [h1])), by cbv; repeat' (first | trivial | exact EqO.rfl' | apply And.intro | (refine EqX.ro ?_; rw [ho]; show (RR.fn (IntKind.i64.wrap ((n : Int) - 1)).toNat _).rows = _; rw [h1])), by cbv; repeat' (first | trivial | exact EqO.rfl' | apply And.intro | (refine EqX.ro ?_; rw [ho]; show (RR.fn (IntKind.i64.wrap ((n : Int) - 1)).toNat _).rows = _; rw [h1]))⟩
    · have h1 := hw1 (by assumption)
      have h2 : l.getD (n - 1) 0 ≠ 0 := fun h => hb (by
        rw [h1]
        show ((l.getD (n - 1) 0 : Nat) : Int) = 0
        omega)
      have e2 := e1 (.inr h2)
      exact .ro (by rw [rows_takeU ho hn rfl e2.symm, ho])
    · have e2 := e1 (.inl (by ((try clear hR3); (try clear hR2); (try clear hR); (try clear hK); (try simp only [ncCast] at *); (try simp only [castI_eq] at *)); omega))
      exact .ro (by rw [rows_takeU ho hn rfl e2.symm, ho])
theorem x_nat (l : List Nat) (i : Nat) (hw : WOk l) (hl : l.length ≤ 1048576) : XC Try.prog 186 [.ro (SL Ar.real encU l), xn i] [] (xu ((l.getD i 0 : Nat) : Int)) [] := by
  obtain ⟨r, hr0⟩ : ∃ r, r = ((l.getD i 0 : Nat) : Int) := ⟨_, rfl⟩
  rw [← hr0]
  have hz : l.length ≤ i → r = 0 := fun h => by rw [hr0, List.getD_eq_getElem?_getD, List.getElem?_eq_none h]; rfl
  have hwi := hw i
  (refine XC.of_body ([]) Try.func186 rfl Try.ntmps186 mixed (T := [(3, ti3), (142, ti142), (155, ti155), (220, ti220)]) (.cons tok3 (.cons tok142 (.cons tok155 (.cons tok220 .nil)))) (by kernel_rfl) (by simp) rfl rfl rfl rfl rfl ?_; rintro o ho P hP c K hK; have hm : P.follows .mixedOrders = true := hP ▸ mixed; have hT : TOk P [(3, ti3), (142, ti142), (155, ti155), (220, ti220)] := hP ▸ (.cons tok3 (.cons tok142 (.cons tok155 (.cons tok220 .nil)))); (try rw [← ho]); cbv; (repeat (refine StopN.mk ?_; cbv)))
  repeat' (first | (refine Br.mk (fun hb => ?_) (fun hb => ?_) <;> ((try rw [ho] at hb); (try dsimp only [Ar.real, IX.vo] at hb); (try simp only [QB7] at hb); (try simp only [QBo, beq_iff_eq, beq_eq_false_iff_ne, ne_eq] at hb))) | (refine StopN.mk ?_; cbv) | (refine hK _ _ ?_) | (refine NeedT.mk ?_ ?_))
  · rw [hz (by ((try clear hR3); (try clear hR2); (try clear hR); (try clear hK); (try simp only [ncCast] at *); (try simp only [castI_eq] at *)); omega)]
    exact FinX_u rfl
  · ((try clear hR3); (try clear hR2); (try clear hR); (try clear hK); (try simp only [ncCast] at *); (try simp only [castI_eq] at *); (try rw [ho]); (try dsimp only [Ar.real, IX.vo, IX.val, BX.val, IX.toN]); (try simp only [QB7]); (try simp only [decide_eq_true_eq]); (all_goals (repeat rw [wrap_i64 (by omega) (by omega)])); (all_goals (first | omega | (simp only [Int.ofNat_eq_natCast]; omega))))
  · refine FinX_u ?_
    rw [ho, hr0]
    show IntKind.u64.wrap ((l.getD i 0 : Nat) : Int) = _
    exact wrap_u64 (by omega) (by omega)
theorem wrap_u32 {a : Int} (h0 : 0 ≤ a) (h1 : a < 4294967296) : IntKind.u32.wrap a = a := by
  have e : IntKind.u32.wrap a = a % 4294967296 := by
    first | rfl | simp [IntKind.wrap]
  rw [e]; omega
theorem wrap_u32_mod (a : Int) : IntKind.u32.wrap a = a % 4294967296 := by
  first | rfl | simp [IntKind.wrap]
theorem and_mask {w : Nat} (n m : Nat) (hn : n < 2 ^ w) (hm : m ≤ w) : ((BitVec.ofInt w (n : Int) &&& BitVec.ofInt w ((2 ^ m - 1 : Nat) : Int)).toNat : Int) = ((n % 2 ^ m : Nat) : Int) := by
  have h1 : 2 ^ m ≤ 2 ^ w := Nat.pow_le_pow_right (by decide) hm
  have h2 : 0 < 2 ^ m := Nat.pow_pos (by decide)
  rw [BitVec.ofInt_natCast, BitVec.ofInt_natCast, BitVec.toNat_and, BitVec.toNat_ofNat, BitVec.toNat_ofNat, Nat.mod_eq_of_lt hn, Nat.mod_eq_of_lt (by omega), Nat.and_two_pow_sub_one_eq_mod]
theorem toDL2i {c : Cx} {r : RR} {k : IntKind} {x y : IX} (h : x.val = y.val) : X.toDL c [.ro r, .i k x] = X.toDL c [.ro r, .i k y] := by simp only [X.toDL, X.toD, h]
theorem shr_nat (k : IntKind) (x n : Nat) (h : n ≤ k.bits) : (x : Int).fdiv (2 ^ min (Int.toNat n) k.bits) = ((x / 2 ^ n : Nat) : Int) := by
  rw [Int.toNat_natCast, Nat.min_eq_left h, Int.fdiv_eq_ediv_of_nonneg _ (Int.pow_nonneg (by decide))]
  norm_cast
theorem x_nbit (l : List Nat) (i : Nat) (hw : WOk l) (hl : l.length ≤ 1048576) (hi : i ≤ 1073741824) : XC Try.prog 212 [.ro (SL Ar.real encU l), xn i] [] (.i .u32 (.s ((l.getD (i / 32) 0 / 2 ^ (i % 32) % 2 : Nat) : Int))) [] := by
  obtain ⟨r, hr0⟩ : ∃ r, r = ((l.getD (i / 32) 0 / 2 ^ (i % 32) % 2 : Nat) : Int) := ⟨_, rfl⟩
  rw [← hr0]
  have hA := x_nat l (i / 32) hw hl
  obtain ⟨q, hq⟩ : ∃ q, q = i / 32 := ⟨_, rfl⟩
  obtain ⟨x, hx⟩ : ∃ x, x = l.getD q 0 := ⟨_, rfl⟩
  rw [← hq, ← hx] at hA
  have hdiv : (q : Int) = IntKind.i64.wrap ((i : Int).tdiv 32) := by rw [Int.tdiv_eq_ediv_of_nonneg (by omega), wrap_i64 (by omega) (by omega)]; omega
  have hrem : (i : Int).tmod 32 = ((i % 32 : Nat) : Int) := by rw [Int.tmod_eq_emod_of_nonneg (by omega)]; omega
  (refine XC.of_body ([]) Try.func212 rfl Try.ntmps212 mixed (T := [(3, ti3), (155, ti155), (220, ti220)]) (.cons tok3 (.cons tok155 (.cons tok220 .nil))) (by kernel_rfl) (by simp) rfl rfl rfl rfl rfl ?_; rintro o ho P hP c K hK; have hm : P.follows .mixedOrders = true := hP ▸ mixed; have hT : TOk P [(3, ti3), (155, ti155), (220, ti220)] := hP ▸ (.cons tok3 (.cons tok155 (.cons tok220 .nil))); (try rw [← ho]); cbv; (repeat (refine StopN.mk ?_; cbv)))
  rw [← ho] at hA
  have hdv : (IX.s (o.wrap .i64 (o.quo (o.ofNat i) 32))).val = (IX.nat q).val := by rw [ho]; exact hdiv.symm
  repeat' (first | (refine Br.mk (fun hb => ?_) (fun hb => ?_) <;> ((try rw [ho] at hb); (try dsimp only [Ar.real, IX.vo] at hb); (try simp only [QB7] at hb); (try simp only [QBo, beq_iff_eq, beq_eq_false_iff_ne, ne_eq] at hb))) | (refine StopN.mk ?_; cbv) | (first | refine CallI.pure hP hA fn186 rfl rfl (toDL2i hdv) ?_); cbv | ((first | refine CallI.pure hP (x_nat _ _ ‹_› ‹_›) fn186 (by first | rfl | (rw [ho]; done) | (rw [ho]; rfl)) (by rfl) (by first | rfl | (rw [ho]; done) | (rw [ho]; rfl)) ?_ | refine CallN.pure hP (x_nat _ _ ‹_› ‹_›) fn186 (by first | rfl | (rw [ho]; done) | (rw [ho]; rfl)) (by rfl) (by first | rfl | (rw [ho]; done) | (rw [ho]; rfl)) ?_); (try rw [← ho]); cbv) | (refine hK _ _ ?_) | (refine NeedT.mk ?_ ?_))
  · ((try clear hR3); (try clear hR2); (try clear hR); (try clear hK); (try simp only [ncCast] at *); (try simp only [castI_eq] at *); (try rw [ho]); (try dsimp only [Ar.real, IX.vo, IX.val, BX.val, IX.toN]); (try simp only [QB7]); (try simp only [decide_eq_true_eq]); (all_goals (repeat rw [wrap_i64 (by omega) (by omega)])); (all_goals (first | omega | (simp only [Int.ofNat_eq_natCast]; omega))))
  · refine FinX_u ?_
    have hxb : x < 4294967296 := by rw [hx]; exact hw q
    have e1 : ((x : Nat) : Int).fdiv (2 ^ min (Int.toNat (((i % 32 : Nat) : Int))) IntKind.u64.bits) = ((x / 2 ^ (i % 32) : Nat) : Int) := shr_nat .u64 x (i % 32) (by show i % 32 ≤ 64; omega)
    have hy : x / 2 ^ (i % 32) ≤ x := Nat.div_le_self _ _
    rw [← hq, ← hx] at hr0
    generalize x / 2 ^ (i % 32) = y at *
    have e2 := and_mask (w := 32) y 1 (by omega) (by decide)
    rw [ho]
    show IntKind.u32.wrap ((BitVec.ofInt 32 (IntKind.u32.wrap ((x : Int).fdiv (2 ^ min (Int.toNat ((i : Int).tmod 32)) IntKind.u64.bits))) &&& BitVec.ofInt 32 1).toNat : Int) = r
    have w1 : IntKind.u32.wrap (y : Int) = (y : Int) := wrap_u32 (by omega) (by omega)
    rw [hrem, e1, w1]
    have e3 : ((BitVec.ofInt 32 (y : Int) &&& BitVec.ofInt 32 1).toNat : Int) = ((y % 2 ^ 1 : Nat) : Int) := e2
    rw [e3, wrap_u32 (by omega) (by omega), hr0]
theorem rows_two {a b : Nat} {x y : IX} (hx : x.val = a) (hy : y.val = b) : (RR.lits [[.i .u32 x], [.i .u32 y]]).rows = (SL Ar.real encU [a, b]).rows := by
  rw [rows_SL Ar.real rfl encU]
  simp only [RR.rows, X.toCLL, X.toCL, X.toC, encU, List.map, hx, hy, val_nat]
theorem toDL1 {c : Cx} {r s : RR} (h : r.rows = s.rows) : X.toDL c [.ro r] = X.toDL c [.ro s] := by simp only [X.toDL, X.toD, h]
theorem x_natOf (n : Nat) (hn : n < 18446744073709551616) : XC Try.prog 141 [xu (n : Int)] [] (.ro (SL Ar.real encU (wd n))) [] := by
  have hok : WOk [n % 4294967296, n / 4294967296] := fun j => by
    match j with
    | 0 | 1 => simp only [List.getD_cons_zero, List.getD_cons_succ]; omega
    | j + 2 => simp
  have hT0 := x_trim [n % 4294967296, n / 4294967296] hok (show (2 : Nat) ≤ 1048576 by decide)
  have hv : vl [n % 4294967296, n / 4294967296] = n := by simp only [vl]; omega
  rw [hv] at hT0
  have e1 : IntKind.u32.wrap (n : Int) = ((n % 4294967296 : Nat) : Int) := by rw [wrap_u32_mod]; omega
  have e2 : IntKind.u32.wrap ((n : Int).fdiv (2 ^ min (Int.toNat 32) IntKind.u64.bits)) = ((n / 4294967296 : Nat) : Int) := by
    have := shr_nat .u64 n 32 (by decide)
    have e3 : (n : Int).fdiv (2 ^ min (Int.toNat 32) IntKind.u64.bits) = ((n / 2 ^ 32 : Nat) : Int) := this
    rw [e3, wrap_u32 (by omega) (by omega)]
  generalize wd n = res at *
  obtain ⟨a, ha⟩ : ∃ a, a = n % 4294967296 := ⟨_, rfl⟩
  obtain ⟨b, hb0⟩ : ∃ b, b = n / 4294967296 := ⟨_, rfl⟩
  rw [← ha] at e1 hT0
  rw [← hb0] at e2 hT0
  clear hok hv
  (refine XC.of_body ([]) Try.func141 rfl Try.ntmps141 mixed (T := [(142, ti142), (155, ti155), (220, ti220)]) (.cons tok142 (.cons tok155 (.cons tok220 .nil))) (by kernel_rfl) (by simp) rfl rfl rfl rfl rfl ?_; rintro o ho P hP c K hK; have hm : P.follows .mixedOrders = true := hP ▸ mixed; have hT : TOk P [(142, ti142), (155, ti155), (220, ti220)] := hP ▸ (.cons tok142 (.cons tok155 (.cons tok220 .nil))); (try rw [← ho]); cbv; (repeat (refine StopN.mk ?_; cbv)))
  rw [← ho] at hT0
  have hrw : (RR.lits [[.i .u32 (.s (o.wrap .u32 (n : Int)))], [.i .u32 (.s (o.wrap .u32 (o.shr .u64 (n : Int) 32)))]]).rows = (SL o encU [a, b]).rows := by
    rw [ho]
    exact rows_two e1 e2
  repeat' (first | (refine Br.mk (fun hb => ?_) (fun hb => ?_) <;> ((try rw [ho] at hb); (try dsimp only [Ar.real, IX.vo] at hb); (try simp only [QB7] at hb); (try simp only [QBo, beq_iff_eq, beq_eq_false_iff_ne, ne_eq] at hb))) | (refine StopN.mk ?_; cbv) | (first | refine CallI.pure hP hT0 fn185 rfl rfl (toDL1 hrw) ?_); cbv | ((first | refine CallI.pure hP (x_trim _ ‹_› ‹_›) fn185 (by first | rfl | (rw [ho]; done) | (rw [ho]; rfl)) (by rfl) (by first | rfl | (rw [ho]; done) | (rw [ho]; rfl)) ?_ | refine CallN.pure hP (x_trim _ ‹_› ‹_›) fn185 (by first | rfl | (rw [ho]; done) | (rw [ho]; rfl)) (by rfl) (by first | rfl | (rw [ho]; done) | (rw [ho]; rfl)) ?_); (try rw [← ho]); cbv) | (refine hK _ _ ?_) | (refine NeedT.mk ?_ ?_))
  · ((try clear hR3); (try clear hR2); (try clear hR); (try clear hK); (try simp only [ncCast] at *); (try simp only [castI_eq] at *); (try rw [ho]); (try dsimp only [Ar.real, IX.vo, IX.val, BX.val, IX.toN]); (try simp only [QB7]); (try simp only [decide_eq_true_eq]); (all_goals (repeat rw [wrap_i64 (by omega) (by omega)])); (all_goals (first | omega | (simp only [Int.ofNat_eq_natCast]; omega))))
  · exact .ro (by rw [ho])
end Go.Proofs.Ytddgcegimmcbgaa.Sy
namespace Go.Proofs.Ytddgcegimmcbgaa.Sy
open Go Go.Sy Go.Proofs.Ytddgcegimmcbgaa
theorem x_natI (l : List Nat) (i : Nat) (hw : WOk l) (hl : l.length ≤ 1048576) (p : Int) (hp : p = ((l.getD i 0 : Nat) : Int)) : XC Try.prog 186 [.ro (SL Ar.real encU l), xn i] [] (xu p) [] := by
  rw [hp]
  exact x_nat l i hw hl
def ncmp (a b : Nat) : Int := if a < b then -1 else if b < a then 1 else 0
theorem div_lt {a b m : Nat} (h : a / 4294967296 ^ m < b / 4294967296 ^ m) : a < b := by
  apply Classical.byContradiction
  intro hn
  have := Nat.div_le_div_right (c := 4294967296 ^ m) (show b ≤ a by omega)
  omega
theorem cmp_step {a b m : Nat} (h : a / 4294967296 ^ (m + 1) = b / 4294967296 ^ (m + 1)) : ((wd a).getD m 0 < (wd b).getD m 0 → a < b) ∧ ((wd a).getD m 0 = (wd b).getD m 0 → a / 4294967296 ^ m = b / 4294967296 ^ m) := by
  have ha := div_succ a m
  have hb := div_succ b m
  rw [h] at ha
  exact ⟨fun h1 => div_lt (m := m) (by omega), fun h1 => by omega⟩
structure InC (a b M : Nat) (s : StE) : Prop where
  n : s.n ≤ M
  i : s.i = (s.n : Int) - 1
  to : a / 4294967296 ^ s.n = b / 4294967296 ^ s.n
theorem div_ge {a n : Nat} (h : (wd a).length ≤ n) : a / 4294967296 ^ n = 0 := Nat.div_eq_of_lt (Nat.lt_of_lt_of_le (wd_lt a) (Nat.pow_le_pow_right (by decide) h))
theorem x_ncmp (a b : Nat) (ha : (wd a).length ≤ 524288) (hb' : (wd b).length ≤ 524288) : XC Try.prog 138 [.ro (SL Ar.real encU (wd a)), .ro (SL Ar.real encU (wd b))] [] (xi (ncmp a b)) [] := by
  obtain ⟨pa, hpa⟩ : ∃ f : Nat → Int, ∀ i, f i = (((wd a).getD i 0 : Nat) : Int) := ⟨_, fun _ => rfl⟩
  obtain ⟨pb, hpb⟩ : ∃ f : Nat → Int, ∀ i, f i = (((wd b).getD i 0 : Nat) : Int) := ⟨_, fun _ => rfl⟩
  have hA := fun i => x_natI (wd a) i (wd_ok a) (by omega) (pa i) (hpa i)
  have hB := fun i => x_natI (wd b) i (wd_ok b) (by omega) (pb i) (hpb i)
  have c1 : a < b → ncmp a b = -1 := fun h => if_pos h
  have c2 : b < a → ncmp a b = 1 := fun h => by unfold ncmp; rw [if_neg (by omega), if_pos h]
  have c3 : a = b → ncmp a b = 0 := fun h => by unfold ncmp; rw [if_neg (by omega), if_neg (by omega)]
  have st := fun m => cmp_step (a := a) (b := b) (m := m)
  have st2 := fun m => cmp_step (a := b) (b := a) (m := m)
  have z1 := fun n => div_ge (a := a) (n := n)
  have z2 := fun n => div_ge (a := b) (n := n)
  have e0 : a / 4294967296 ^ 0 = b / 4294967296 ^ 0 → a = b := fun h => by simpa using h
  generalize ncmp a b = res at *
  generalize wd a = x at *
  generalize wd b = y at *
  obtain ⟨M, hM⟩ : ∃ M, M = max x.length y.length := ⟨_, rfl⟩
  obtain ⟨i0, hi0⟩ : ∃ q, q = (M : Int) - 1 := ⟨_, rfl⟩
  have h0 : InC a b M ⟨M, i0⟩ := ⟨Nat.le_refl _, hi0, by rw [z1 M (by omega), z2 M (by omega)]⟩
  have hM2 : M ≤ 524288 := by omega
  have hi1 : IntKind.i64.wrap (max (x.length : Int) (y.length : Int) - 1) = i0 := by
    rw [hi0, hM, wrap_i64 (by omega) (by omega)]
    omega
  clear z1 z2
  (refine XC.of_body ([]) Try.func138 rfl Try.ntmps138 mixed (T := [(3, ti3), (142, ti142), (155, ti155), (220, ti220)]) (.cons tok3 (.cons tok142 (.cons tok155 (.cons tok220 .nil)))) (by kernel_rfl) (by simp) rfl rfl rfl rfl rfl ?_; rintro o ho P hP c K hK; have hm : P.follows .mixedOrders = true := hP ▸ mixed; have hT : TOk P [(3, ti3), (142, ti142), (155, ti155), (220, ti220)] := hP ▸ (.cons tok3 (.cons tok142 (.cons tok155 (.cons tok220 .nil)))); (try rw [← ho]); cbv; (repeat (refine StopN.mk ?_; cbv)))
  repeat' (first | (refine Br.mk (fun hb => ?_) (fun hb => ?_) <;> ((try rw [ho] at hb); (try dsimp only [Ar.real, IX.vo] at hb); (try simp only [QB7] at hb); (try simp only [QBo, beq_iff_eq, beq_eq_false_iff_ne, ne_eq] at hb))) | (refine StopN.mk ?_; cbv) | ((first | refine CallI.pure hP (x_nat _ _ ‹_› ‹_›) fn186 (by first | rfl | (rw [ho]; done) | (rw [ho]; rfl)) (by rfl) (by first | rfl | (rw [ho]; done) | (rw [ho]; rfl)) ?_ | refine CallN.pure hP (x_nat _ _ ‹_› ‹_›) fn186 (by first | rfl | (rw [ho]; done) | (rw [ho]; rfl)) (by rfl) (by first | rfl | (rw [ho]; done) | (rw [ho]; rfl)) ?_); (try rw [← ho]); cbv) | (refine hK _ _ ?_) | (refine NeedT.mk ?_ ?_))
  refine LoopN.over (o := o) (D := []) ho hm hT (by kernel_rfl) (fun s : StE => [(5, xi s.i)]) (fun _ => []) (fun _ => []) (InC a b M) (fun s => s.n) ⟨M, i0⟩ h0 ?_ ?_
  · refine ⟨(by cbv), by cbv; repeat' (first | trivial | exact EqX.rfl' | exact EqO.rfl' | apply And.intro | ((try clear hR3); (try clear hR2); (try clear hR); (try clear hK); (try simp only [ncCast] at *); (try simp only [castI_eq] at *); refine EqX.i ?_; (try rw [ho]); (try dsimp only [Ar.real, IX.vo, IX.val, BX.val, IX.toN]); (try simp only [QB7]); (repeat rw [wrap_i64 (by omega) (by omega)]); omega) | (refine EqX.i ?_; rw [ho]; exact hi1)), by cbv; repeat' (first | trivial | exact EqO.rfl' | apply And.intro | (refine EqX.i ?_; rw [ho]; exact hi1)), by cbv; repeat' (first | trivial | exact EqO.rfl' | apply And.intro | (refine EqX.i ?_; rw [ho]; exact hi1))⟩
  · rintro ⟨n, i⟩ ⟨hn, hi, hto⟩ R hR
    dsimp only at hn hi hto
    have hN : 0 ≤ i → (IX.s i).val = (IX.nat i.toNat).val := fun h => by show i = (i.toNat : Int); omega
    have hAi := hA i.toNat
    have hBi := hB i.toNat
    have s1 := st i.toNat
    have s2 := st2 i.toNat
    have hp1 := hpa i.toNat
    have hq1 := hpb i.toNat
    generalize x.getD i.toNat 0 = p at *
    generalize y.getD i.toNat 0 = q at *
    generalize pa i.toNat = p' at *
    generalize pb i.toNat = q' at *
    rw [← ho] at hAi hBi
    obtain ⟨i', hi'⟩ : ∃ q, q = (n : Int) - 2 := ⟨_, rfl⟩
    cbv
    repeat' (first | (refine Br.mk (fun hb => ?_) (fun hb => ?_) <;> ((try rw [ho] at hb); (try dsimp only [Ar.real, IX.vo] at hb); (try simp only [QB7] at hb); (try simp only [QBo, beq_iff_eq, beq_eq_false_iff_ne, ne_eq] at hb))) | (refine StopN.mk ?_; cbv) | (first | refine CallI.pure hP hAi fn186 rfl rfl (toDL2i (hN ‹_›)) ?_ | refine CallI.pure hP hBi fn186 rfl rfl (toDL2i (hN ‹_›)) ?_); cbv | ((first | refine CallI.pure hP (x_nat _ _ ‹_› ‹_›) fn186 (by first | rfl | (rw [ho]; done) | (rw [ho]; rfl)) (by rfl) (by first | rfl | (rw [ho]; done) | (rw [ho]; rfl)) ?_ | refine CallN.pure hP (x_nat _ _ ‹_› ‹_›) fn186 (by first | rfl | (rw [ho]; done) | (rw [ho]; rfl)) (by rfl) (by first | rfl | (rw [ho]; done) | (rw [ho]; rfl)) ?_); (try rw [← ho]); cbv) | (refine hK _ _ ?_) | (refine NeedT.mk ?_ ?_))
    all_goals have hn0 : n = 0 ∨ n = i.toNat + 1 := by ((try clear hR3); (try clear hR2); (try clear hR); (try clear hK); (try simp only [ncCast] at *); (try simp only [castI_eq] at *)); omega
    · have hm : n = i.toNat + 1 := by ((try clear hR3); (try clear hR2); (try clear hR); (try clear hK); (try simp only [ncCast] at *); (try simp only [castI_eq] at *)); omega
      rw [hm] at hto
      rw [c1 ((s1 hto).1 (by ((try clear hR3); (try clear hR2); (try clear hR); (try clear hK); (try simp only [ncCast] at *); (try simp only [castI_eq] at *)); omega))]
      exact .i rfl
    · have hm : n = i.toNat + 1 := by ((try clear hR3); (try clear hR2); (try clear hR); (try clear hK); (try simp only [ncCast] at *); (try simp only [castI_eq] at *)); omega
      rw [hm] at hto
      rw [c2 ((s2 hto.symm).1 (by ((try clear hR3); (try clear hR2); (try clear hR); (try clear hK); (try simp only [ncCast] at *); (try simp only [castI_eq] at *)); omega))]
      exact .i rfl
    · have hm : n = i.toNat + 1 := by ((try clear hR3); (try clear hR2); (try clear hR); (try clear hK); (try simp only [ncCast] at *); (try simp only [castI_eq] at *)); omega
      rw [hm] at hto
      have e1 : i' = (i.toNat : Int) - 1 := by ((try clear hR3); (try clear hR2); (try clear hR); (try clear hK); (try simp only [ncCast] at *); (try simp only [castI_eq] at *)); omega
      refine hR _ ⟨i.toNat, i'⟩ (by show i.toNat < n; ((try clear hR3); (try clear hR2); (try clear hR); (try clear hK); (try simp only [ncCast] at *); (try simp only [castI_eq] at *)); omega) ⟨by show i.toNat ≤ M; ((try clear hR3); (try clear hR2); (try clear hR); (try clear hK); (try simp only [ncCast] at *); (try simp only [castI_eq] at *)); omega, e1, (s1 hto).2 (by ((try clear hR3); (try clear hR2); (try clear hR); (try clear hK); (try simp only [ncCast] at *); (try simp only [castI_eq] at *)); omega)⟩ ?_
      refine ⟨(by cbv), by cbv; repeat' (first | trivial | exact EqX.rfl' | exact EqO.rfl' | apply And.intro | ((try clear hR3); (try clear hR2); (try clear hR); (try clear hK); (try simp only [ncCast] at *); (try simp only [castI_eq] at *); refine EqX.i ?_; (try rw [ho]); (try dsimp only [Ar.real, IX.vo, IX.val, BX.val, IX.toN]); (try simp only [QB7]); (repeat rw [wrap_i64 (by omega) (by omega)]); omega)), by cbv; repeat' (first | trivial | exact EqO.rfl' | apply And.intro), by cbv; repeat' (first | trivial | exact EqO.rfl' | apply And.intro)⟩
    · have hm : n = 0 := by ((try clear hR3); (try clear hR2); (try clear hR); (try clear hK); (try simp only [ncCast] at *); (try simp only [castI_eq] at *)); omega
      rw [hm] at hto
      rw [c3 (e0 hto)]
      exact .i rfl
structure StA where
  i : Nat
  c : Int
  out : List Nat
structure InA (a b M : Nat) (s : StA) : Prop where
  i : s.i ≤ M
  len : s.out.length = M
  ok : WOk s.out
  c : 0 ≤ s.c ∧ s.c ≤ 1
  val : vl (s.out.take s.i) + s.c.toNat * 4294967296 ^ s.i = a % 4294967296 ^ s.i + b % 4294967296 ^ s.i
theorem add_step {a b c i : Nat} {out : List Nat} {p q : Nat} (hp : (wd a).getD i 0 = p) (hq : (wd b).getD i 0 = q) (hi : i < out.length) (hv : vl (out.take i) + c * 4294967296 ^ i = a % 4294967296 ^ i + b % 4294967296 ^ i) :
    vl ((out.set i ((c + (p + q)) % 4294967296)).take (i + 1)) + (c + (p + q)) / 4294967296 * 4294967296 ^ (i + 1) = a % 4294967296 ^ (i + 1) + b % 4294967296 ^ (i + 1) := by
  rw [vl_take, take_set_ge _ _ (Nat.le_refl i), getD_setN _ _ _ _ hi, if_pos rfl, mod_succ a, mod_succ b, hp, hq, Nat.pow_succ]
  have e : (c + (p + q)) % 4294967296 + 4294967296 * ((c + (p + q)) / 4294967296) = c + (p + q) := by omega
  generalize (c + (p + q)) % 4294967296 = r at *
  generalize (c + (p + q)) / 4294967296 = d at *
  generalize 4294967296 ^ i = P at *
  grind
theorem low_u32w {n : Nat} (h : n < 18446744073709551616) : IntKind.u32.wrap (IntKind.u64.wrap ((BitVec.ofInt 64 (n : Int) &&& BitVec.ofInt 64 4294967295).toNat : Int)) = ((n % 4294967296 : Nat) : Int) := by
  have e := and_mask (w := 64) n 32 (by omega) (by decide)
  have e2 : (((BitVec.ofInt 64 (n : Int) &&& BitVec.ofInt 64 4294967295).toNat : Int)) = ((n % 4294967296 : Nat) : Int) := e
  rw [e2, wrap_u64 (by omega) (by omega), wrap_u32 (by omega) (by omega)]
theorem rows_zeroU {o : Ar} (ho : o = Ar.real) {l : List Nat} {n m : Nat} (hl : l = List.replicate m 0) (hn : n = m) : (RR.fn n fun _ => [X.i .u32 (.lit 0)]).rows = (SL o encU l).rows := by
  subst hn
  refine rows_fn_SL o ho encU _ _ _ (by rw [hl, List.length_replicate]) ?_
  intro j hj
  have e : l.getD j default = 0 := by
    rw [hl, List.getD_eq_getElem?_getD, List.getElem?_replicate]
    split <;> rfl
  rw [e]
  rfl
theorem x_nadd (a b : Nat) (ha : (wd a).length ≤ 262144) (hb' : (wd b).length ≤ 262144) : XC Try.prog 137 [.ro (SL Ar.real encU (wd a)), .ro (SL Ar.real encU (wd b))] [] (.ro (SL Ar.real encU (wd (a + b)))) [] := by
  obtain ⟨pa, hpa⟩ : ∃ f : Nat → Int, ∀ i, f i = (((wd a).getD i 0 : Nat) : Int) := ⟨_, fun _ => rfl⟩
  obtain ⟨pb, hpb⟩ : ∃ f : Nat → Int, ∀ i, f i = (((wd b).getD i 0 : Nat) : Int) := ⟨_, fun _ => rfl⟩
  have hA := fun i => x_natI (wd a) i (wd_ok a) (by omega) (pa i) (hpa i)
  have hB := fun i => x_natI (wd b) i (wd_ok b) (by omega) (pb i) (hpb i)
  have st := fun i c out (h : i < out.length) => add_step (a := a) (b := b) (c := c) (i := i) (out := out) rfl rfl h
  have za := fun n => Nat.mod_eq_of_lt (Nat.lt_of_lt_of_le (wd_lt a) (Nat.pow_le_pow_right (show 0 < 4294967296 by decide) (show (wd a).length ≤ n + (wd a).length by omega)))
  have wa := wd_ok a
  have wb := wd_ok b
  obtain ⟨M, hM⟩ : ∃ M, M = max (wd a).length (wd b).length + 1 := ⟨_, rfl⟩
  have hend : ∀ out c, InA a b M ⟨M, c, out⟩ → vl out = a + b := by
    rintro out c ⟨_, h1, h2, h3, h4⟩
    dsimp only at h1 h2 h3 h4
    rw [List.take_of_length_le (by omega)] at h4
    have l1 : a < 4294967296 ^ (M - 1) := Nat.lt_of_lt_of_le (wd_lt a) (Nat.pow_le_pow_right (by decide) (by omega))
    have l2 : b < 4294967296 ^ (M - 1) := Nat.lt_of_lt_of_le (wd_lt b) (Nat.pow_le_pow_right (by decide) (by omega))
    have l3 : 4294967296 ^ M = 4294967296 ^ (M - 1) * 4294967296 := by rw [← Nat.pow_succ]; congr 1; omega
    rw [Nat.mod_eq_of_lt (show a < 4294967296 ^ M by omega), Nat.mod_eq_of_lt (show b < 4294967296 ^ M by omega)] at h4
    rcases (show c = 0 ∨ c = 1 by omega) with rfl | rfl
    · simp at h4; omega
    · simp at h4; omega
  have hTr := fun out (h : WOk out) (hl : out.length ≤ 1048576) => x_trim out h hl
  clear za
  obtain ⟨ml, hml⟩ : ∃ q, q = IntKind.i64.wrap (max ((wd a).length : Int) ((wd b).length : Int) + 1) := ⟨_, rfl⟩
  have hml2 : ml = (M : Int) := by rw [hml, wrap_i64 (by omega) (by omega), hM]; omega
  have hM2 : M ≤ 524289 := by omega
  obtain ⟨s, hs⟩ : ∃ s, s = a + b := ⟨_, rfl⟩
  rw [← hs] at hend ⊢
  generalize hres : wd s = res at *
  generalize hx : wd a = x at *
  generalize hy : wd b = y at *
  obtain ⟨z, hz⟩ : ∃ q, q = List.replicate M (0 : Nat) := ⟨_, rfl⟩
  have h0 : InA a b M ⟨0, 0, z⟩ := ⟨Nat.zero_le _, by rw [hz, List.length_replicate], by rw [hz]; exact WOk_rep M, ⟨Int.le_refl 0, show (0 : Int) ≤ 1 by decide⟩, by simp [vl, Nat.mod_one]⟩
  have hmb : 0 ≤ ml ∧ ml ≤ 524289 := by omega
  have hz1 : (IntKind.i64.wrap (max (x.length : Int) (y.length : Int) + 1)).toNat = M := by rw [← hml]; omega
  (refine XC.of_body ([]) Try.func137 rfl Try.ntmps137 mixed (T := [(3, ti3), (142, ti142), (155, ti155), (220, ti220)]) (.cons tok3 (.cons tok142 (.cons tok155 (.cons tok220 .nil)))) (by kernel_rfl) (by simp) rfl rfl rfl rfl rfl ?_; rintro o ho P hP c K hK; have hm : P.follows .mixedOrders = true := hP ▸ mixed; have hT : TOk P [(3, ti3), (142, ti142), (155, ti155), (220, ti220)] := hP ▸ (.cons tok3 (.cons tok142 (.cons tok155 (.cons tok220 .nil)))); (try rw [← ho]); cbv; (repeat (refine StopN.mk ?_; cbv)))
  repeat' (first | (refine Br.mk (fun hb => ?_) (fun hb => ?_) <;> ((try rw [ho] at hb); (try dsimp only [Ar.real, IX.vo] at hb); (try simp only [QB7] at hb); (try simp only [QBo, beq_iff_eq, beq_eq_false_iff_ne, ne_eq] at hb))) | (refine StopN.mk ?_; cbv) | ((first | refine CallI.pure hP (x_trim _ ‹_› ‹_›) fn185 (by first | rfl | (rw [ho]; done) | (rw [ho]; rfl)) (by rfl) (by first | rfl | (rw [ho]; done) | (rw [ho]; rfl)) ?_ | refine CallN.pure hP (x_trim _ ‹_› ‹_›) fn185 (by first | rfl | (rw [ho]; done) | (rw [ho]; rfl)) (by rfl) (by first | rfl | (rw [ho]; done) | (rw [ho]; rfl)) ?_); (try rw [← ho]); cbv) | ((first | refine CallI.pure hP (x_nat _ _ ‹_› ‹_›) fn186 (by first | rfl | (rw [ho]; done) | (rw [ho]; rfl)) (by rfl) (by first | rfl | (rw [ho]; done) | (rw [ho]; rfl)) ?_ | refine CallN.pure hP (x_nat _ _ ‹_› ‹_›) fn186 (by first | rfl | (rw [ho]; done) | (rw [ho]; rfl)) (by rfl) (by first | rfl | (rw [ho]; done) | (rw [ho]; rfl)) ?_); (try rw [← ho]); cbv) | (refine hK _ _ ?_) | (refine NeedT.mk ?_ ?_))
  · rw [ho]
    exact decide_eq_true rfl
  · rw [ho]
    show decide (0 ≤ IntKind.i64.wrap (max (x.length : Int) (y.length : Int) + 1)) = true
    rw [← hml]
    exact decide_eq_true (by omega)
  · rw [ho]
    show decide (IntKind.i64.wrap (max (x.length : Int) (y.length : Int) + 1) * 4 ≤ 140737488355328) = true
    rw [← hml]
    exact decide_eq_true (by omega)
  · ((try clear hR3); (try clear hR2); (try clear hR); (try clear hK); (try simp only [ncCast] at *); (try simp only [castI_eq] at *); (try rw [ho]); (try dsimp only [Ar.real, IX.vo, IX.val, BX.val, IX.toN]); (try simp only [QB7]); (try simp only [decide_eq_true_eq]); (all_goals (repeat rw [wrap_i64 (by omega) (by omega)])); (all_goals (first | omega | (simp only [Int.ofNat_eq_natCast]; omega))))
  refine LoopN.over (o := o) (D := []) ho hm hT (by kernel_rfl) (fun s : StA => [(17, xn s.i), (6, xu s.c)]) (fun s => [(0, .row 0 220 1 (SL o encU s.out))]) (fun _ => []) (InA a b M) (fun s => M - s.i) ⟨0, 0, z⟩ h0 ?_ ?_
  · refine ⟨(by cbv), by cbv; repeat' (first | trivial | exact EqX.rfl' | exact EqO.rfl' | apply And.intro | ((try clear hR3); (try clear hR2); (try clear hR); (try clear hK); (try simp only [ncCast] at *); (try simp only [castI_eq] at *); refine EqX.i ?_; (try rw [ho]); (try dsimp only [Ar.real, IX.vo, IX.val, BX.val, IX.toN]); (try simp only [QB7]); (repeat rw [wrap_i64 (by omega) (by omega)]); omega) | (refine EqX.i ?_; rfl) | (refine EqO.row rfl (rows_zeroU ho hz ?_); rw [ho]; exact hz1)), by cbv; repeat' (first | trivial | exact EqO.rfl' | apply And.intro | (refine EqX.i ?_; rfl) | (refine EqO.row rfl (rows_zeroU ho hz ?_); rw [ho]; exact hz1)), by cbv; repeat' (first | trivial | exact EqO.rfl' | apply And.intro | (refine EqX.i ?_; rfl) | (refine EqO.row rfl (rows_zeroU ho hz ?_); rw [ho]; exact hz1))⟩
  · rintro ⟨i, c, out⟩ ⟨hi, hlen, hok, hcb, hval⟩ R hR
    dsimp only at hi hlen hok hcb hval
    have hAi := hA i
    have hBi := hB i
    have s1 := fun h => st i c.toNat out h hval
    have hpw := wa i
    have hqw := wb i
    have hp1 := hpa i
    have hq1 := hpb i
    generalize x.getD i 0 = p at *
    generalize y.getD i 0 = q at *
    generalize pa i = p' at *
    generalize pb i = q' at *
    rw [← ho] at hAi hBi
    cbv
    repeat' (first | (refine Br.mk (fun hb => ?_) (fun hb => ?_) <;> ((try rw [ho] at hb); (try dsimp only [Ar.real, IX.vo] at hb); (try simp only [QB7] at hb); (try simp only [QBo, beq_iff_eq, beq_eq_false_iff_ne, ne_eq] at hb))) | (refine StopN.mk ?_; cbv) | (first | refine CallI.pure hP hAi fn186 rfl rfl rfl ?_ | refine CallI.pure hP hBi fn186 rfl rfl rfl ?_ | refine FrzN.frz 0 [38] rfl (fun t ht => by rw [List.mem_singleton.1 ht]; rfl) (.done ?_)); cbv | ((first | refine CallI.pure hP (x_trim _ ‹_› ‹_›) fn185 (by first | rfl | (rw [ho]; done) | (rw [ho]; rfl)) (by rfl) (by first | rfl | (rw [ho]; done) | (rw [ho]; rfl)) ?_ | refine CallN.pure hP (x_trim _ ‹_› ‹_›) fn185 (by first | rfl | (rw [ho]; done) | (rw [ho]; rfl)) (by rfl) (by first | rfl | (rw [ho]; done) | (rw [ho]; rfl)) ?_); (try rw [← ho]); cbv) | ((first | refine CallI.pure hP (x_nat _ _ ‹_› ‹_›) fn186 (by first | rfl | (rw [ho]; done) | (rw [ho]; rfl)) (by rfl) (by first | rfl | (rw [ho]; done) | (rw [ho]; rfl)) ?_ | refine CallN.pure hP (x_nat _ _ ‹_› ‹_›) fn186 (by first | rfl | (rw [ho]; done) | (rw [ho]; rfl)) (by rfl) (by first | rfl | (rw [ho]; done) | (rw [ho]; rfl)) ?_); (try rw [← ho]); cbv) | (refine hK _ _ ?_) | (refine NeedT.mk ?_ ?_))
    any_goals (((try clear hR3); (try clear hR2); (try clear hR); (try clear hK); (try simp only [ncCast] at *); (try simp only [castI_eq] at *); (try rw [ho]); (try dsimp only [Ar.real, IX.vo, IX.val, BX.val, IX.toN]); (try simp only [QB7]); (try simp only [decide_eq_true_eq]); (all_goals (repeat rw [wrap_i64 (by omega) (by omega)])); (all_goals (first | omega | (simp only [Int.ofNat_eq_natCast]; omega)))); done)
    · have hil : i < M := by ((try clear hR3); (try clear hR2); (try clear hR); (try clear hK); (try simp only [ncCast] at *); (try simp only [castI_eq] at *)); omega
      have hs1 := s1 (by omega)
      have e1 : IntKind.u64.wrap (c + IntKind.u64.wrap (p' + q')) = ((c.toNat + (p + q) : Nat) : Int) := by
        ((try clear hR3); (try clear hR2); (try clear hR); (try clear hK); (try simp only [ncCast] at *); (try simp only [castI_eq] at *))
        rw [wrap_u64 (a := p' + q') (by omega) (by omega), wrap_u64 (by omega) (by omega)]
        omega
      have e2 := low_u32w (n := c.toNat + (p + q)) (by omega)
      have e3 := shr_nat .u64 (c.toNat + (p + q)) 32 (by decide)
      obtain ⟨out', hout'⟩ : ∃ o', o' = out.set i ((c.toNat + (p + q)) % 4294967296) := ⟨_, rfl⟩
      obtain ⟨c', hc'⟩ : ∃ c' : Int, c' = (((c.toNat + (p + q)) / 4294967296 : Nat) : Int) := ⟨_, rfl⟩
      rw [← hout'] at hs1
      have hv1 : X.toCL [.i .u32 (.s (o.wrap .u32 (o.wrap .u64 (o.band .u64 (o.wrap .u64 (o.add c (o.wrap .u64 (o.add p' q')))) 4294967295))))] = X.toCL (encU Ar.real ((c.toNat + (p + q)) % 4294967296)) := by
        rw [ho]
        show [C.v (.int .u32 (IntKind.u32.wrap (IntKind.u64.wrap ((BitVec.ofInt 64 (IntKind.u64.wrap (c + IntKind.u64.wrap (p' + q'))) &&& BitVec.ofInt 64 4294967295).toNat : Int))))] = [C.v (.int .u32 (((c.toNat + (p + q)) % 4294967296 : Nat) : Int))]
        rw [e1, e2]
      have hv2 : (IX.s (o.shr .u64 (o.wrap .u64 (o.add c (o.wrap .u64 (o.add p' q')))) 32)).val = c' := by
        rw [ho, hc']
        show (IntKind.u64.wrap (c + IntKind.u64.wrap (p' + q'))).fdiv (2 ^ min (Int.toNat 32) IntKind.u64.bits) = _
        rw [e1]
        exact e3
      refine hR _ ⟨i + 1, c', out'⟩ (by show M - (i + 1) < M - i; omega) ⟨by show i + 1 ≤ M; omega, by show out'.length = M; rw [hout', List.length_set]; exact hlen, by show WOk out'; rw [hout']; exact hok.set (Nat.mod_lt _ (by decide)), by show 0 ≤ c' ∧ c' ≤ 1; omega, by show _ + c'.toNat * _ = _; rw [hc', Int.toNat_natCast]; exact hs1⟩ ?_
      refine ⟨(by cbv), by cbv; repeat' (first | trivial | exact EqX.rfl' | exact EqO.rfl' | apply And.intro | ((try clear hR3); (try clear hR2); (try clear hR); (try clear hK); (try simp only [ncCast] at *); (try simp only [castI_eq] at *); refine EqX.i ?_; (try rw [ho]); (try dsimp only [Ar.real, IX.vo, IX.val, BX.val, IX.toN]); (try simp only [QB7]); (repeat rw [wrap_i64 (by omega) (by omega)]); omega) | (exact EqX.i hv2) | (exact EqO.set ho encU out _ _ i _ _ rfl hout' rfl hv1)), by cbv; repeat' (first | trivial | exact EqO.rfl' | apply And.intro | (exact EqX.i hv2) | (exact EqO.set ho encU out _ _ i _ _ rfl hout' rfl hv1)), by cbv; repeat' (first | trivial | exact EqO.rfl' | apply And.intro | (exact EqX.i hv2) | (exact EqO.set ho encU out _ _ i _ _ rfl hout' rfl hv1))⟩
    · obtain rfl : i = M := by ((try clear hR3); (try clear hR2); (try clear hR); (try clear hK); (try simp only [ncCast] at *); (try simp only [castI_eq] at *)); omega
      have hT1 := hTr out hok (by omega)
      rw [hend out c ⟨hi, hlen, hok, hcb, hval⟩, hres, ← ho] at hT1
      refine CallI.pure hP hT1 fn185 rfl rfl rfl ?_
      cbv
      repeat' (first | (refine Br.mk (fun hb => ?_) (fun hb => ?_) <;> ((try rw [ho] at hb); (try dsimp only [Ar.real, IX.vo] at hb); (try simp only [QB7] at hb); (try simp only [QBo, beq_iff_eq, beq_eq_false_iff_ne, ne_eq] at hb))) | (refine StopN.mk ?_; cbv) | ((first | refine CallI.pure hP (x_trim _ ‹_› ‹_›) fn185 (by first | rfl | (rw [ho]; done) | (rw [ho]; rfl)) (by rfl) (by first | rfl | (rw [ho]; done) | (rw [ho]; rfl)) ?_ | refine CallN.pure hP (x_trim _ ‹_› ‹_›) fn185 (by first | rfl | (rw [ho]; done) | (rw [ho]; rfl)) (by rfl) (by first | rfl | (rw [ho]; done) | (rw [ho]; rfl)) ?_); (try rw [← ho]); cbv) | ((first | refine CallI.pure hP (x_nat _ _ ‹_› ‹_›) fn186 (by first | rfl | (rw [ho]; done) | (rw [ho]; rfl)) (by rfl) (by first | rfl | (rw [ho]; done) | (rw [ho]; rfl)) ?_ | refine CallN.pure hP (x_nat _ _ ‹_› ‹_›) fn186 (by first | rfl | (rw [ho]; done) | (rw [ho]; rfl)) (by rfl) (by first | rfl | (rw [ho]; done) | (rw [ho]; rfl)) ?_); (try rw [← ho]); cbv) | (refine hK _ _ ?_) | (refine NeedT.mk ?_ ?_))
      exact .ro (by rw [ho])
end Go.Proofs.Ytddgcegimmcbgaa.Sy
namespace Go.Proofs.Ytddgcegimmcbgaa.Sy
open Go Go.Sy Go.Proofs.Ytddgcegimmcbgaa
structure InB (a b M : Nat) (s : StA) : Prop where
  i : s.i ≤ M
  len : s.out.length = M
  ok : WOk s.out
  c : 0 ≤ s.c ∧ s.c ≤ 1
  val : vl (s.out.take s.i) + b % 4294967296 ^ s.i = a % 4294967296 ^ s.i + s.c.toNat * 4294967296 ^ s.i
def dif (p q c : Nat) : Nat := (18446744073709551616 + p - q - c) % 18446744073709551616
theorem sub_step {a b c i : Nat} {out : List Nat} {p q : Nat} (hp : (wd a).getD i 0 = p) (hq : (wd b).getD i 0 = q) (hpb : p < 4294967296) (hqb : q < 4294967296) (hc : c ≤ 1) (hi : i < out.length) (hv : vl (out.take i) + b % 4294967296 ^ i = a % 4294967296 ^ i + c * 4294967296 ^ i) :
    vl ((out.set i (dif p q c % 4294967296)).take (i + 1)) + b % 4294967296 ^ (i + 1) = a % 4294967296 ^ (i + 1) + dif p q c / 9223372036854775808 * 4294967296 ^ (i + 1) := by
  rw [vl_take, take_set_ge _ _ (Nat.le_refl i), getD_setN _ _ _ _ hi, if_pos rfl, mod_succ a, mod_succ b, hp, hq, Nat.pow_succ]
  have e : dif p q c % 4294967296 + q + c = p + 4294967296 * (dif p q c / 9223372036854775808) := by unfold dif; omega
  generalize dif p q c % 4294967296 = r at *
  generalize dif p q c / 9223372036854775808 = d at *
  generalize 4294967296 ^ i = P at *
  have : (r + q + c) * P = (p + 4294967296 * d) * P := by rw [e]
  grind
theorem x_nsub (a b : Nat) (hba : b ≤ a) (ha : (wd a).length ≤ 262144) (hb' : (wd b).length ≤ 262144) : XC Try.prog 139 [.ro (SL Ar.real encU (wd a)), .ro (SL Ar.real encU (wd b))] [] (.ro (SL Ar.real encU (wd (a - b)))) [] := by
  obtain ⟨pa, hpa⟩ : ∃ f : Nat → Int, ∀ i, f i = (((wd a).getD i 0 : Nat) : Int) := ⟨_, fun _ => rfl⟩
  obtain ⟨pb, hpb⟩ : ∃ f : Nat → Int, ∀ i, f i = (((wd b).getD i 0 : Nat) : Int) := ⟨_, fun _ => rfl⟩
  have hA := fun i => x_natI (wd a) i (wd_ok a) (by omega) (pa i) (hpa i)
  have hB := fun i => x_natI (wd b) i (wd_ok b) (by omega) (pb i) (hpb i)
  have wa := wd_ok a
  have wb := wd_ok b
  have st := fun i c out (hc : c ≤ 1) (h : i < out.length) => sub_step (a := a) (b := b) (c := c) (i := i) (out := out) rfl rfl (wa i) (wb i) hc h
  obtain ⟨M, hM⟩ : ∃ M, M = (wd a).length := ⟨_, rfl⟩
  have hend : ∀ out c, InB a b M ⟨M, c, out⟩ → vl out = a - b := by
    rintro out c ⟨_, h1, h2, h3, h4⟩
    dsimp only at h1 h2 h3 h4
    have h5 := vl_lt h2
    rw [h1] at h5
    rw [List.take_of_length_le (by omega)] at h4
    have l1 : a < 4294967296 ^ M := by rw [hM]; exact wd_lt a
    rw [Nat.mod_eq_of_lt l1, Nat.mod_eq_of_lt (show b < 4294967296 ^ M by omega)] at h4
    rcases (show c = 0 ∨ c = 1 by omega) with rfl | rfl
    · simp at h4; omega
    · simp at h4; omega
  have hTr := fun out (h : WOk out) (hl : out.length ≤ 1048576) => x_trim out h hl
  have hM2 : M ≤ 262144 := by omega
  obtain ⟨s, hs⟩ : ∃ s, s = a - b := ⟨_, rfl⟩
  rw [← hs] at hend ⊢
  generalize hres : wd s = res at *
  generalize hx : wd a = x at *
  generalize hy : wd b = y at *
  obtain ⟨z, hz⟩ : ∃ q, q = List.replicate M (0 : Nat) := ⟨_, rfl⟩
  have h0 : InB a b M ⟨0, 0, z⟩ := ⟨Nat.zero_le _, by rw [hz, List.length_replicate], by rw [hz]; exact WOk_rep M, ⟨Int.le_refl 0, show (0 : Int) ≤ 1 by decide⟩, by simp [vl, Nat.mod_one]⟩
  (refine XC.of_body ([]) Try.func139 rfl Try.ntmps139 mixed (T := [(3, ti3), (142, ti142), (155, ti155), (220, ti220)]) (.cons tok3 (.cons tok142 (.cons tok155 (.cons tok220 .nil)))) (by kernel_rfl) (by simp) rfl rfl rfl rfl rfl ?_; rintro o ho P hP c K hK; have hm : P.follows .mixedOrders = true := hP ▸ mixed; have hT : TOk P [(3, ti3), (142, ti142), (155, ti155), (220, ti220)] := hP ▸ (.cons tok3 (.cons tok142 (.cons tok155 (.cons tok220 .nil)))); (try rw [← ho]); cbv; (repeat (refine StopN.mk ?_; cbv)))
  repeat' (first | (refine Br.mk (fun hb => ?_) (fun hb => ?_) <;> ((try rw [ho] at hb); (try dsimp only [Ar.real, IX.vo] at hb); (try simp only [QB7] at hb); (try simp only [QBo, beq_iff_eq, beq_eq_false_iff_ne, ne_eq] at hb))) | (refine StopN.mk ?_; cbv) | ((first | refine CallI.pure hP (x_trim _ ‹_› ‹_›) fn185 (by first | rfl | (rw [ho]; done) | (rw [ho]; rfl)) (by rfl) (by first | rfl | (rw [ho]; done) | (rw [ho]; rfl)) ?_ | refine CallN.pure hP (x_trim _ ‹_› ‹_›) fn185 (by first | rfl | (rw [ho]; done) | (rw [ho]; rfl)) (by rfl) (by first | rfl | (rw [ho]; done) | (rw [ho]; rfl)) ?_); (try rw [← ho]); cbv) | ((first | refine CallI.pure hP (x_nat _ _ ‹_› ‹_›) fn186 (by first | rfl | (rw [ho]; done) | (rw [ho]; rfl)) (by rfl) (by first | rfl | (rw [ho]; done) | (rw [ho]; rfl)) ?_ | refine CallN.pure hP (x_nat _ _ ‹_› ‹_›) fn186 (by first | rfl | (rw [ho]; done) | (rw [ho]; rfl)) (by rfl) (by first | rfl | (rw [ho]; done) | (rw [ho]; rfl)) ?_); (try rw [← ho]); cbv) | (refine hK _ _ ?_) | (refine NeedT.mk ?_ ?_))
  any_goals (((try clear hR3); (try clear hR2); (try clear hR); (try clear hK); (try simp only [ncCast] at *); (try simp only [castI_eq] at *); (try rw [ho]); (try dsimp only [Ar.real, IX.vo, IX.val, BX.val, IX.toN]); (try simp only [QB7]); (try simp only [decide_eq_true_eq]); (all_goals (repeat rw [wrap_i64 (by omega) (by omega)])); (all_goals (first | omega | (simp only [Int.ofNat_eq_natCast]; omega)))); done)
  refine LoopN.over (o := o) (D := []) ho hm hT (by kernel_rfl) (fun s : StA => [(14, xn s.i), (6, xu s.c)]) (fun s => [(0, .row 0 220 1 (SL o encU s.out))]) (fun _ => []) (InB a b M) (fun s => M - s.i) ⟨0, 0, z⟩ h0 ?_ ?_
  · refine ⟨(by cbv), by cbv; repeat' (first | trivial | exact EqX.rfl' | exact EqO.rfl' | apply And.intro | ((try clear hR3); (try clear hR2); (try clear hR); (try clear hK); (try simp only [ncCast] at *); (try simp only [castI_eq] at *); refine EqX.i ?_; (try rw [ho]); (try dsimp only [Ar.real, IX.vo, IX.val, BX.val, IX.toN]); (try simp only [QB7]); (repeat rw [wrap_i64 (by omega) (by omega)]); omega) | (refine EqX.i ?_; rfl) | (refine EqO.row rfl (rows_zeroU ho hz ?_); rw [ho]; exact hM.symm)), by cbv; repeat' (first | trivial | exact EqO.rfl' | apply And.intro | (refine EqX.i ?_; rfl) | (refine EqO.row rfl (rows_zeroU ho hz ?_); rw [ho]; exact hM.symm)), by cbv; repeat' (first | trivial | exact EqO.rfl' | apply And.intro | (refine EqX.i ?_; rfl) | (refine EqO.row rfl (rows_zeroU ho hz ?_); rw [ho]; exact hM.symm))⟩
  · rintro ⟨i, c, out⟩ ⟨hi, hlen, hok, hcb, hval⟩ R hR
    dsimp only at hi hlen hok hcb hval
    have hAi := hA i
    have hBi := hB i
    have s1 := fun h h' => st i c.toNat out h h' hval
    have hpw := wa i
    have hqw := wb i
    have hp1 := hpa i
    have hq1 := hpb i
    generalize x.getD i 0 = p at *
    generalize y.getD i 0 = q at *
    generalize pa i = p' at *
    generalize pb i = q' at *
    rw [← ho] at hAi hBi
    cbv
    repeat' (first | (refine Br.mk (fun hb => ?_) (fun hb => ?_) <;> ((try rw [ho] at hb); (try dsimp only [Ar.real, IX.vo] at hb); (try simp only [QB7] at hb); (try simp only [QBo, beq_iff_eq, beq_eq_false_iff_ne, ne_eq] at hb))) | (refine StopN.mk ?_; cbv) | (first | refine CallI.pure hP hAi fn186 rfl rfl rfl ?_ | refine CallI.pure hP hBi fn186 rfl rfl rfl ?_ | refine FrzN.frz 0 [35] rfl (fun t ht => by rw [List.mem_singleton.1 ht]; rfl) (.done ?_)); cbv | ((first | refine CallI.pure hP (x_trim _ ‹_› ‹_›) fn185 (by first | rfl | (rw [ho]; done) | (rw [ho]; rfl)) (by rfl) (by first | rfl | (rw [ho]; done) | (rw [ho]; rfl)) ?_ | refine CallN.pure hP (x_trim _ ‹_› ‹_›) fn185 (by first | rfl | (rw [ho]; done) | (rw [ho]; rfl)) (by rfl) (by first | rfl | (rw [ho]; done) | (rw [ho]; rfl)) ?_); (try rw [← ho]); cbv) | ((first | refine CallI.pure hP (x_nat _ _ ‹_› ‹_›) fn186 (by first | rfl | (rw [ho]; done) | (rw [ho]; rfl)) (by rfl) (by first | rfl | (rw [ho]; done) | (rw [ho]; rfl)) ?_ | refine CallN.pure hP (x_nat _ _ ‹_› ‹_›) fn186 (by first | rfl | (rw [ho]; done) | (rw [ho]; rfl)) (by rfl) (by first | rfl | (rw [ho]; done) | (rw [ho]; rfl)) ?_); (try rw [← ho]); cbv) | (refine hK _ _ ?_) | (refine NeedT.mk ?_ ?_))
    any_goals (((try clear hR3); (try clear hR2); (try clear hR); (try clear hK); (try simp only [ncCast] at *); (try simp only [castI_eq] at *); (try rw [ho]); (try dsimp only [Ar.real, IX.vo, IX.val, BX.val, IX.toN]); (try simp only [QB7]); (try simp only [decide_eq_true_eq]); (all_goals (repeat rw [wrap_i64 (by omega) (by omega)])); (all_goals (first | omega | (simp only [Int.ofNat_eq_natCast]; omega)))); done)
    · have hil : i < M := by ((try clear hR3); (try clear hR2); (try clear hR); (try clear hK); (try simp only [ncCast] at *); (try simp only [castI_eq] at *)); omega
      have hs1 := s1 (by omega) (by omega)
      have e1 : IntKind.u64.wrap (IntKind.u64.wrap (p' - q') - c) = ((dif p q c.toNat : Nat) : Int) := by
        ((try clear hR3); (try clear hR2); (try clear hR); (try clear hK); (try simp only [ncCast] at *); (try simp only [castI_eq] at *))
        rw [wrap_u64_mod, wrap_u64_mod]
        unfold dif
        omega
      have hd : dif p q c.toNat < 18446744073709551616 := by unfold dif; omega
      generalize dif p q c.toNat = d at *
      have e2 := low_u32w (n := d) hd
      have e3 := shr_nat .u64 d 63 (by decide)
      obtain ⟨out', hout'⟩ : ∃ o', o' = out.set i (d % 4294967296) := ⟨_, rfl⟩
      obtain ⟨c', hc'⟩ : ∃ c' : Int, c' = ((d / 9223372036854775808 : Nat) : Int) := ⟨_, rfl⟩
      rw [← hout'] at hs1
      have hv1 : X.toCL [.i .u32 (.s (o.wrap .u32 (o.wrap .u64 (o.band .u64 (o.wrap .u64 (o.sub (o.wrap .u64 (o.sub p' q')) c)) 4294967295))))] = X.toCL (encU Ar.real (d % 4294967296)) := by
        rw [ho]
        show [C.v (.int .u32 (IntKind.u32.wrap (IntKind.u64.wrap ((BitVec.ofInt 64 (IntKind.u64.wrap (IntKind.u64.wrap (p' - q') - c)) &&& BitVec.ofInt 64 4294967295).toNat : Int))))] = [C.v (.int .u32 ((d % 4294967296 : Nat) : Int))]
        rw [e1, e2]
      have hv2 : (IX.s (o.shr .u64 (o.wrap .u64 (o.sub (o.wrap .u64 (o.sub p' q')) c)) 63)).val = c' := by
        rw [ho, hc']
        show (IntKind.u64.wrap (IntKind.u64.wrap (p' - q') - c)).fdiv (2 ^ min (Int.toNat 63) IntKind.u64.bits) = _
        rw [e1]
        exact e3
      refine hR _ ⟨i + 1, c', out'⟩ (by show M - (i + 1) < M - i; omega) ⟨by show i + 1 ≤ M; omega, by show out'.length = M; rw [hout', List.length_set]; exact hlen, by show WOk out'; rw [hout']; exact hok.set (Nat.mod_lt _ (by decide)), by show 0 ≤ c' ∧ c' ≤ 1; omega, by show _ = _ + c'.toNat * _; rw [hc', Int.toNat_natCast]; exact hs1⟩ ?_
      refine ⟨(by cbv), by cbv; repeat' (first | trivial | exact EqX.rfl' | exact EqO.rfl' | apply And.intro | ((try clear hR3); (try clear hR2); (try clear hR); (try clear hK); (try simp only [ncCast] at *); (try simp only [castI_eq] at *); refine EqX.i ?_; (try rw [ho]); (try dsimp only [Ar.real, IX.vo, IX.val, BX.val, IX.toN]); (try simp only [QB7]); (repeat rw [wrap_i64 (by omega) (by omega)]); omega) | (exact EqX.i hv2) | (exact EqO.set ho encU out _ _ i _ _ rfl hout' rfl hv1)), by cbv; repeat' (first | trivial | exact EqO.rfl' | apply And.intro | (exact EqX.i hv2) | (exact EqO.set ho encU out _ _ i _ _ rfl hout' rfl hv1)), by cbv; repeat' (first | trivial | exact EqO.rfl' | apply And.intro | (exact EqX.i hv2) | (exact EqO.set ho encU out _ _ i _ _ rfl hout' rfl hv1))⟩
    · obtain rfl : i = M := by ((try clear hR3); (try clear hR2); (try clear hR); (try clear hK); (try simp only [ncCast] at *); (try simp only [castI_eq] at *)); omega
      have hT1 := hTr out hok (by omega)
      rw [hend out c ⟨hi, hlen, hok, hcb, hval⟩, hres, ← ho] at hT1
      refine CallI.pure hP hT1 fn185 rfl rfl rfl ?_
      cbv
      repeat' (first | (refine Br.mk (fun hb => ?_) (fun hb => ?_) <;> ((try rw [ho] at hb); (try dsimp only [Ar.real, IX.vo] at hb); (try simp only [QB7] at hb); (try simp only [QBo, beq_iff_eq, beq_eq_false_iff_ne, ne_eq] at hb))) | (refine StopN.mk ?_; cbv) | ((first | refine CallI.pure hP (x_trim _ ‹_› ‹_›) fn185 (by first | rfl | (rw [ho]; done) | (rw [ho]; rfl)) (by rfl) (by first | rfl | (rw [ho]; done) | (rw [ho]; rfl)) ?_ | refine CallN.pure hP (x_trim _ ‹_› ‹_›) fn185 (by first | rfl | (rw [ho]; done) | (rw [ho]; rfl)) (by rfl) (by first | rfl | (rw [ho]; done) | (rw [ho]; rfl)) ?_); (try rw [← ho]); cbv) | ((first | refine CallI.pure hP (x_nat _ _ ‹_› ‹_›) fn186 (by first | rfl | (rw [ho]; done) | (rw [ho]; rfl)) (by rfl) (by first | rfl | (rw [ho]; done) | (rw [ho]; rfl)) ?_ | refine CallN.pure hP (x_nat _ _ ‹_› ‹_›) fn186 (by first | rfl | (rw [ho]; done) | (rw [ho]; rfl)) (by rfl) (by first | rfl | (rw [ho]; done) | (rw [ho]; rfl)) ?_); (try rw [← ho]); cbv) | (refine hK _ _ ?_) | (refine NeedT.mk ?_ ?_))
      exact .ro (by rw [ho])
theorem mul_step {V A b c i k : Nat} {out : List Nat} {B X : Nat} (hB : (wd b).getD k 0 = B) (hX : out.getD (i + k) 0 = X) (hi : i + k < out.length) (hv : vl out + c * 4294967296 ^ (i + k) = V + A * (b % 4294967296 ^ k) * 4294967296 ^ i) :
    vl (out.set (i + k) ((c + (A * B + X)) % 4294967296)) + (c + (A * B + X)) / 4294967296 * 4294967296 ^ (i + (k + 1)) = V + A * (b % 4294967296 ^ (k + 1)) * 4294967296 ^ i := by
  have h1 := vl_set out (i + k) ((c + (A * B + X)) % 4294967296) hi
  rw [hX] at h1
  have e : (c + (A * B + X)) % 4294967296 + 4294967296 * ((c + (A * B + X)) / 4294967296) = c + (A * B + X) := by omega
  rw [mod_succ b, hB, show i + (k + 1) = (i + k) + 1 by omega, Nat.pow_succ]
  rw [Nat.pow_add] at *
  generalize (c + (A * B + X)) % 4294967296 = r at *
  generalize (c + (A * B + X)) / 4294967296 = d at *
  generalize 4294967296 ^ i = P at *
  generalize 4294967296 ^ k = Q at *
  generalize vl (out.set (i + k) r) = U at *
  generalize vl out = W at *
  generalize b % Q = T at *
  clear hB hX hi
  have e2 : (r + 4294967296 * d) * (P * Q) = (c + (A * B + X)) * (P * Q) := by rw [e]
  grind
structure StMu where
  i : Nat
  out : List Nat
structure InMu (a b M : Nat) (s : StMu) : Prop where
  i : s.i ≤ (wd a).length
  len : s.out.length = M
  ok : WOk s.out
  val : vl s.out = a % 4294967296 ^ s.i * b
  z : ∀ j, s.i + (wd b).length ≤ j → s.out.getD j 0 = 0
structure StMi where
  k : Nat
  c : Int
  out : List Nat
structure InMi (b M V A i : Nat) (out0 : List Nat) (s : StMi) : Prop where
  k : s.k ≤ (wd b).length
  len : s.out.length = M
  ok : WOk s.out
  c : 0 ≤ s.c ∧ s.c < 4294967296
  val : vl s.out + s.c.toNat * 4294967296 ^ (i + s.k) = V + A * (b % 4294967296 ^ s.k) * 4294967296 ^ i
  z : ∀ j, i + s.k ≤ j → s.out.getD j 0 = out0.getD j 0
theorem mul_end {a b M i : Nat} {out0 out : List Nat} {c : Int} (h : InMu a b M ⟨i, out0⟩) (hM : M = (wd a).length + (wd b).length) (hi : i < (wd a).length) (h2 : InMi b M (vl out0) ((wd a).getD i 0) i out0 ⟨(wd b).length, c, out⟩) : InMu a b M ⟨i + 1, out.set (i + (wd b).length) c.toNat⟩ := by
  obtain ⟨h1, h3, h4, h5, h6⟩ := h
  obtain ⟨k1, k2, k3, k4, k5, k6⟩ := h2
  dsimp only at *
  have hl : i + (wd b).length < out.length := by omega
  have hz : out.getD (i + (wd b).length) 0 = 0 := by rw [k6 _ (Nat.le_refl _), h6 _ (Nat.le_refl _)]
  refine ⟨by show i + 1 ≤ _; omega, by show (out.set _ _).length = M; rw [List.length_set]; exact k2, k3.set (by omega), ?_, fun j hj => ?_⟩
  · show vl (out.set _ _) = a % 4294967296 ^ (i + 1) * b
    have e := vl_set out (i + (wd b).length) c.toNat hl
    rw [hz] at e
    rw [wd_mod] at k5
    rw [mod_succ a, Nat.add_mul, ← h5]
    have : (wd a).getD i 0 * 4294967296 ^ i * b = (wd a).getD i 0 * b * 4294967296 ^ i := by rw [Nat.mul_assoc, Nat.mul_comm _ b, ← Nat.mul_assoc]
    omega
  · show (out.set _ _).getD j 0 = 0
    have hj' : i + 1 + (wd b).length ≤ j := hj
    rw [getD_setN _ _ _ _ hl, if_neg (by omega), k6 j (by omega), h6 j (by omega)]
end Go.Proofs.Ytddgcegimmcbgaa.Sy

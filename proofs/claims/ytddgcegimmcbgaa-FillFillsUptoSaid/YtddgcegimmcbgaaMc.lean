/-
  The law's own helpers: lists compared, wants handed over. Plain theorems.
-/
import Derived.Test.YtddgcegimmcbgaaMb
set_option linter.unusedSectionVars false
namespace Go.Proofs.Ytddgcegimmcbgaa.Sy
open Go Go.Sy Go.Proofs.Ytddgcegimmcbgaa
set_option maxRecDepth 100000
set_option maxHeartbeats 8000000
set_option linter.unusedVariables false
set_option linter.unusedSimpArgs false

theorem take_getD {α : Type} [Inhabited α] {l : List α} {i : Nat} (h : i < l.length) : l.take (i + 1) = l.take i ++ [l.getD i default] := by
  have e : l.getD i default = l[i] := by simp [List.getD_eq_getElem?_getD, h]
  rw [List.take_succ_eq_append_getElem h, e]
theorem x_Own (l : List Want) (hl : l.length ≤ 1048576) : XC Try.prog 22 [.ro (SL Ar.real Want.X l)] [] (.ro (SL Ar.real Want.X l)) [] := by
  have hM0 : l.take 0 = [] := rfl
  have hM1 : ∀ i, i < l.length → l.take (i + 1) = l.take i ++ [l.getD i default] := fun i h => take_getD h
  have hMl : ∀ i, i ≤ l.length → (l.take i).length = i := fun i h => by simp; omega
  have hend : l.take l.length = l := List.take_length
  generalize hM : (fun i => l.take i) = M at *
  have eM : ∀ i, l.take i = M i := fun i => by rw [← hM]
  simp only [eM] at hM0 hM1 hMl hend
  clear eM hM
  (refine XC.of_body ([(5, [])]) Try.func22 rfl Try.ntmps22 mixed (T := [(2, ti2), (3, ti3), (31, ti31), (42, ti42), (47, ti47), (88, ti88), (123, ti123), (132, ti132)]) (.cons tok2 (.cons tok3 (.cons tok31 (.cons tok42 (.cons tok47 (.cons tok88 (.cons tok123 (.cons tok132 .nil)))))))) (by kernel_rfl) (by simp) rfl rfl rfl rfl rfl ?_; rintro o ho P hP c K hK; have hm : P.follows .mixedOrders = true := hP ▸ mixed; have hT : TOk P [(2, ti2), (3, ti3), (31, ti31), (42, ti42), (47, ti47), (88, ti88), (123, ti123), (132, ti132)] := hP ▸ (.cons tok2 (.cons tok3 (.cons tok31 (.cons tok42 (.cons tok47 (.cons tok88 (.cons tok123 (.cons tok132 .nil)))))))); (try rw [← ho]); cbv; (repeat (refine StopN.mk ?_; cbv)))
  refine LoopN.ghost 3 88 2 rfl ?_
  refine LoopN.over (o := o) (D := [(5, [])]) ho hm hT (by kernel_rfl) (fun a : StL Want => [(4, xn a.i), (3, .own (.loc 0) a.rv)]) (fun a => [(0, .row a.rv 88 2 (SL o Want.X a.out))]) (fun _ => []) (fun s => s.i ≤ l.length ∧ s.out = M s.i) (fun s => l.length - s.i) ⟨0, 0, []⟩ ⟨Nat.zero_le _, hM0.symm⟩ ?_ ?_
  · refine ⟨(by cbv), by cbv; repeat' (first | trivial | exact EqX.rfl' | exact EqO.rfl' | apply And.intro | ((try clear hR3); (try clear hR2); (try clear hR); (try clear hK); (try simp only [ncCast] at *); (try simp only [castI_eq] at *); refine EqX.i ?_; (try rw [ho]); (try dsimp only [Ar.real, IX.vo, IX.val, BX.val, IX.toN]); (try simp only [QB7]); (repeat rw [wrap_i64 (by omega) (by omega)]); omega) | exact EqO.row rfl (rows_nil_SL o ho Want.X)), by cbv; repeat' (first | trivial | exact EqO.rfl' | apply And.intro | exact EqO.row rfl (rows_nil_SL o ho Want.X)), by cbv; repeat' (first | trivial | exact EqO.rfl' | apply And.intro | exact EqO.row rfl (rows_nil_SL o ho Want.X))⟩
  · rintro ⟨i, rv, out⟩ ⟨hi, hout⟩ R hR
    dsimp only at hi hout
    have e1 := hM1 i
    have hol := hMl i hi
    rw [← hout] at e1 hol
    obtain ⟨out', hout'⟩ : ∃ q, q = M (i + 1) := ⟨_, rfl⟩
    rw [← hout'] at e1
    cbv
    repeat' (first | (refine Br.mk (fun hb => ?_) (fun hb => ?_) <;> ((try rw [ho] at hb); (try dsimp only [Ar.real, IX.vo] at hb); (try simp only [QB7] at hb); (try simp only [QBo, beq_iff_eq, beq_eq_false_iff_ne, ne_eq] at hb))) | (refine StopN.mk ?_; cbv) | (refine hK _ _ ?_) | (refine NeedT.mk ?_ ?_))
    any_goals (((try clear hR3); (try clear hR2); (try clear hR); (try clear hK); (try simp only [ncCast] at *); (try simp only [castI_eq] at *); (try rw [ho]); (try dsimp only [Ar.real, IX.vo, IX.val, BX.val, IX.toN]); (try simp only [QB7]); (try simp only [decide_eq_true_eq]); (all_goals (repeat rw [wrap_i64 (by omega) (by omega)])); (all_goals (first | omega | (simp only [Int.ofNat_eq_natCast]; omega)))); done)
    · have e2 := e1 (by assumption)
      refine hR _ ⟨i + 1, rv + 1, out'⟩ (by dsimp only; omega) ⟨by dsimp only; omega, hout'⟩ ?_
      refine ⟨(by cbv), by cbv; repeat' (first | trivial | exact EqX.rfl' | exact EqO.rfl' | apply And.intro | ((try clear hR3); (try clear hR2); (try clear hR); (try clear hK); (try simp only [ncCast] at *); (try simp only [castI_eq] at *); refine EqX.i ?_; (try rw [ho]); (try dsimp only [Ar.real, IX.vo, IX.val, BX.val, IX.toN]); (try simp only [QB7]); (repeat rw [wrap_i64 (by omega) (by omega)]); omega) | (refine EqO.snoc ho Want.X _ _ _ _ rfl e2 ?_; rw [ho]; rfl)), by cbv; repeat' (first | trivial | exact EqO.rfl' | apply And.intro | (refine EqO.snoc ho Want.X _ _ _ _ rfl e2 ?_; rw [ho]; rfl)), by cbv; repeat' (first | trivial | exact EqO.rfl' | apply And.intro | (refine EqO.snoc ho Want.X _ _ _ _ rfl e2 ?_; rw [ho]; rfl))⟩
    · obtain rfl : i = l.length := by ((try clear hR3); (try clear hR2); (try clear hR); (try clear hK); (try simp only [ncCast] at *); (try simp only [castI_eq] at *)); omega
      rw [hend] at hout
      subst hout
      exact .ro (by rw [ho])
def sameL (a b : List Int) : Bool := decide (a = b)
theorem x_same37 (a b : List Int) (ha : a.length ≤ 1048576) (hb' : b.length ≤ 1048576) : XC Try.prog 23 [.ro (SL Ar.real encI a), .ro (SL Ar.real encI b)] [] (xb (sameL a b)) [] := by
  have h0 : a.length ≠ b.length → sameL a b = false := fun h => decide_eq_false fun e => h (by rw [e])
  have h1 : ∀ i, a.getD i 0 ≠ b.getD i 0 → sameL a b = false := fun i h => decide_eq_false fun e => h (by rw [e])
  have h2 : a.length = b.length → (∀ i, i < a.length → a.getD i 0 = b.getD i 0) → sameL a b = true := fun h h' => decide_eq_true (List.ext_getElem h fun i p q => by
    have := h' i p
    simpa [List.getD_eq_getElem?_getD, p, q] using this)
  generalize sameL a b = r at *
  (refine XC.of_body ([(6, [])]) Try.func23 rfl Try.ntmps23 mixed (T := [(3, ti3), (43, ti43)]) (.cons tok3 (.cons tok43 .nil)) (by kernel_rfl) (by simp) rfl rfl rfl rfl rfl ?_; rintro o ho P hP c K hK; have hm : P.follows .mixedOrders = true := hP ▸ mixed; have hT : TOk P [(3, ti3), (43, ti43)] := hP ▸ (.cons tok3 (.cons tok43 .nil)); (try rw [← ho]); cbv; (repeat (refine StopN.mk ?_; cbv)))
  repeat' (first | (refine Br.mk (fun hb => ?_) (fun hb => ?_) <;> ((try rw [ho] at hb); (try dsimp only [Ar.real, IX.vo] at hb); (try simp only [QB7] at hb); (try simp only [QBo, beq_iff_eq, beq_eq_false_iff_ne, ne_eq] at hb))) | (refine StopN.mk ?_; cbv) | (refine hK _ _ ?_) | (refine NeedT.mk ?_ ?_))
  · rw [h0 (fun h => by ((try clear hR3); (try clear hR2); (try clear hR); (try clear hK); (try simp only [ncCast] at *); (try simp only [castI_eq] at *)); omega)]
    exact .b rfl
  have hlen : a.length = b.length := by ((try clear hR3); (try clear hR2); (try clear hR); (try clear hK); (try simp only [ncCast] at *); (try simp only [castI_eq] at *)); omega
  refine LoopN.over (o := o) (D := [(6, [])]) ho hm hT (by kernel_rfl) (fun i : Nat => [(5, xn i)]) (fun _ => []) (fun _ => []) (fun i => i ≤ a.length ∧ ∀ j, j < i → a.getD j 0 = b.getD j 0) (fun i => a.length - i) 0 ⟨Nat.zero_le _, fun j hj => by omega⟩ ?_ ?_
  · refine ⟨(by cbv), by cbv; repeat' (first | trivial | exact EqX.rfl' | exact EqO.rfl' | apply And.intro | ((try clear hR3); (try clear hR2); (try clear hR); (try clear hK); (try simp only [ncCast] at *); (try simp only [castI_eq] at *); refine EqX.i ?_; (try rw [ho]); (try dsimp only [Ar.real, IX.vo, IX.val, BX.val, IX.toN]); (try simp only [QB7]); (repeat rw [wrap_i64 (by omega) (by omega)]); omega)), by cbv; repeat' (first | trivial | exact EqO.rfl' | apply And.intro), by cbv; repeat' (first | trivial | exact EqO.rfl' | apply And.intro)⟩
  · rintro i ⟨hi, hno⟩ R hR
    have e1 := h1 i
    cbv
    repeat' (first | (refine Br.mk (fun hb => ?_) (fun hb => ?_) <;> ((try rw [ho] at hb); (try dsimp only [Ar.real, IX.vo] at hb); (try simp only [QB7] at hb); (try simp only [QBo, beq_iff_eq, beq_eq_false_iff_ne, ne_eq] at hb))) | (refine StopN.mk ?_; cbv) | (refine hK _ _ ?_) | (refine NeedT.mk ?_ ?_))
    any_goals (((try clear hR3); (try clear hR2); (try clear hR); (try clear hK); (try simp only [ncCast] at *); (try simp only [castI_eq] at *); (try rw [ho]); (try dsimp only [Ar.real, IX.vo, IX.val, BX.val, IX.toN]); (try simp only [QB7]); (try simp only [decide_eq_true_eq]); (all_goals (repeat rw [wrap_i64 (by omega) (by omega)])); (all_goals (first | omega | (simp only [Int.ofNat_eq_natCast]; omega)))); done)
    · rw [e1 hb]
      exact .b rfl
    · refine hR _ (i + 1) (by show a.length - (i + 1) < a.length - i; ((try clear hR3); (try clear hR2); (try clear hR); (try clear hK); (try simp only [ncCast] at *); (try simp only [castI_eq] at *)); omega) ⟨by show i + 1 ≤ a.length; ((try clear hR3); (try clear hR2); (try clear hR); (try clear hK); (try simp only [ncCast] at *); (try simp only [castI_eq] at *)); omega, fun k' hk => ?_⟩ ?_
      · rcases Nat.lt_or_ge k' i with h5 | h5
        · exact hno k' h5
        · obtain rfl : k' = i := by
            have hk' : k' < i + 1 := hk
            clear hk
            ((try clear hR3); (try clear hR2); (try clear hR); (try clear hK); (try simp only [ncCast] at *); (try simp only [castI_eq] at *))
            omega
          assumption
      · refine ⟨(by cbv), by cbv; repeat' (first | trivial | exact EqX.rfl' | exact EqO.rfl' | apply And.intro | ((try clear hR3); (try clear hR2); (try clear hR); (try clear hK); (try simp only [ncCast] at *); (try simp only [castI_eq] at *); refine EqX.i ?_; (try rw [ho]); (try dsimp only [Ar.real, IX.vo, IX.val, BX.val, IX.toN]); (try simp only [QB7]); (repeat rw [wrap_i64 (by omega) (by omega)]); omega)), by cbv; repeat' (first | trivial | exact EqO.rfl' | apply And.intro), by cbv; repeat' (first | trivial | exact EqO.rfl' | apply And.intro)⟩
    · obtain rfl : i = a.length := by ((try clear hR3); (try clear hR2); (try clear hR); (try clear hK); (try simp only [ncCast] at *); (try simp only [castI_eq] at *)); omega
      rw [h2 hlen hno]
      exact .b rfl
end Go.Proofs.Ytddgcegimmcbgaa.Sy

set_option linter.unusedSectionVars false
namespace Go.Proofs.Ytddgcegimmcbgaa.Sy
open Go Go.Sy Go.Proofs.Ytddgcegimmcbgaa
set_option maxRecDepth 100000
set_option maxHeartbeats 8000000
set_option linter.unusedVariables false
set_option linter.unusedSimpArgs false

def rManyStep (n x y : Int) : Int := if 0 < y ∧ (n < 0 ∨ IntKind.i64.wrap (x.tdiv y) < n) then IntKind.i64.wrap (x.tdiv y) else n
def rManyTo (s t : S4) : Nat → Int
  | 0 => -1
  | k + 1 => rManyStep (rManyTo s t k) (s.at_ k) (t.at_ k)
def rMany (s t : S4) : Int := max 0 (rManyTo s t 4)
theorem x_r35Many (s t : S4) : XC Try.prog 115 [.agg (S4.X Ar.real s), .agg (S4.X Ar.real t)] [] (xi (rMany s t)) [] := by
  unfold rMany
  have hm0 : rManyTo s t 0 = -1 := rfl
  have hm1 : ∀ k, rManyTo s t (k + 1) = rManyStep (rManyTo s t k) (s.at_ k) (t.at_ k) := fun _ => rfl
  have ha : ∀ k : Nat, s.at_ k = [s.a, s.b, s.c, s.d].getD k 0 ∧ t.at_ k = [t.a, t.b, t.c, t.d].getD k 0 := fun _ => ⟨rfl, rfl⟩
  generalize hM : rManyTo s t = M at *
  generalize hS : s.at_ = sa at *
  generalize hT2 : t.at_ = ta at *
  clear hM hS hT2
  obtain ⟨a, b, p, d⟩ := s
  obtain ⟨a', b', p', d'⟩ := t
  dsimp only at ha
  obtain ⟨res, hres⟩ : ∃ q, q = max 0 (M 4) := ⟨_, rfl⟩
  rw [← hres]
  (refine XC.of_body ([(5, []), (6, [])]) Try.func115 rfl Try.ntmps115 mixed (T := [(2, ti2), (3, ti3), (52, ti52)]) (.cons tok2 (.cons tok3 (.cons tok52 .nil))) (by kernel_rfl) (by simp) rfl rfl rfl rfl rfl ?_; rintro o ho P hP c K hK; have hm : P.follows .mixedOrders = true := hP ▸ mixed; have hT : TOk P [(2, ti2), (3, ti3), (52, ti52)] := hP ▸ (.cons tok2 (.cons tok3 (.cons tok52 .nil))); (try rw [← ho]); cbv; (repeat (refine StopN.mk ?_; cbv)))
  refine LoopN.over (o := o) (D := [(5, []), (6, [])]) ho hm hT (by kernel_rfl) (fun a : Nat => [(6, xn a), (5, xi (M a))]) (fun _ => []) (fun _ => []) (fun a => a ≤ 4) (fun a => 4 - a) 0 (by omega) ?_ ?_
  · refine ⟨(by cbv), by cbv; repeat' (first | trivial | exact EqX.rfl' | exact EqO.rfl' | apply And.intro | ((try clear hR3); (try clear hR2); (try clear hR); (try clear hK); (try simp only [ncCast] at *); (try simp only [castI_eq] at *); refine EqX.i ?_; (try rw [ho]); (try dsimp only [Ar.real, IX.vo, IX.val, BX.val, IX.toN]); (try simp only [QB7]); (repeat rw [wrap_i64 (by omega) (by omega)]); omega) | (refine EqX.i ?_; rw [hm0]; rfl)), by cbv; repeat' (first | trivial | exact EqO.rfl' | apply And.intro | (refine EqX.i ?_; rw [hm0]; rfl)), by cbv; repeat' (first | trivial | exact EqO.rfl' | apply And.intro | (refine EqX.i ?_; rw [hm0]; rfl))⟩
  · rintro i hi R hR
    have h3 : 0 < [a', b', p', d'].getD ((i : Int).toNat) 0 → (M i < 0 ∨ IntKind.i64.wrap (([a, b, p, d].getD ((i : Int).toNat) 0).tdiv ([a', b', p', d'].getD ((i : Int).toNat) 0)) < M i) → M (i + 1) = IntKind.i64.wrap (([a, b, p, d].getD ((i : Int).toNat) 0).tdiv ([a', b', p', d'].getD ((i : Int).toNat) 0)) := fun h' h'' => by
      rw [Int.toNat_natCast] at h' h'' ⊢
      rw [hm1 i, (ha i).1, (ha i).2]
      exact if_pos ⟨h', h''⟩
    have h4 : ([a', b', p', d'].getD ((i : Int).toNat) 0 ≤ 0 ∨ (0 ≤ M i ∧ M i ≤ IntKind.i64.wrap (([a, b, p, d].getD ((i : Int).toNat) 0).tdiv ([a', b', p', d'].getD ((i : Int).toNat) 0)))) → M (i + 1) = M i := fun h' => by
      rw [Int.toNat_natCast] at h'
      rw [hm1 i, (ha i).1, (ha i).2]
      exact if_neg (by omega)
    cbv
    repeat' (first | (refine Br.mk (fun hb => ?_) (fun hb => ?_) <;> ((try rw [ho] at hb); (try dsimp only [Ar.real, IX.vo] at hb); (try simp only [QB7] at hb); (try simp only [QBo, beq_iff_eq, beq_eq_false_iff_ne, ne_eq] at hb))) | (refine StopN.mk ?_; cbv) | (refine hK _ _ ?_) | (refine NeedT.mk ?_ ?_))
    any_goals (((try clear hR3); (try clear hR2); (try clear hR); (try clear hK); (try simp only [ncCast] at *); (try simp only [castI_eq] at *); (try rw [ho]); (try dsimp only [Ar.real, IX.vo, IX.val, BX.val, IX.toN]); (try simp only [QB7]); (try simp only [decide_eq_true_eq]); (all_goals (repeat rw [wrap_i64 (by omega) (by omega)])); (all_goals (first | omega | (simp only [Int.ofNat_eq_natCast]; omega)))); done)
    · ((try clear hR3); (try clear hR2); (try clear hR); (try clear hK); (try simp only [ncCast] at *); (try simp only [castI_eq] at *); (try rw [ho]); (try dsimp only [Ar.real, IX.vo, IX.val, BX.val, IX.toN]); (try simp only [QB7]))
      simp only [Bool.not_eq_true', decide_eq_false_iff_not]
      omega
    · have h5 := h3 (by assumption) (.inl (by assumption))
      refine hR _ (i + 1) (by show 4 - (i + 1) < 4 - i; ((try clear hR3); (try clear hR2); (try clear hR); (try clear hK); (try simp only [ncCast] at *); (try simp only [castI_eq] at *)); omega) (by show i + 1 ≤ 4; ((try clear hR3); (try clear hR2); (try clear hR); (try clear hK); (try simp only [ncCast] at *); (try simp only [castI_eq] at *)); omega) ?_
      refine ⟨(by cbv), by cbv; repeat' (first | trivial | exact EqX.rfl' | exact EqO.rfl' | apply And.intro | ((try clear hR3); (try clear hR2); (try clear hR); (try clear hK); (try simp only [ncCast] at *); (try simp only [castI_eq] at *); refine EqX.i ?_; (try rw [ho]); (try dsimp only [Ar.real, IX.vo, IX.val, BX.val, IX.toN]); (try simp only [QB7]); (repeat rw [wrap_i64 (by omega) (by omega)]); omega) | (refine EqX.i ?_; rw [h5]; (try rw [ho]); rfl)), by cbv; repeat' (first | trivial | exact EqO.rfl' | apply And.intro | (refine EqX.i ?_; rw [h5]; (try rw [ho]); rfl)), by cbv; repeat' (first | trivial | exact EqO.rfl' | apply And.intro | (refine EqX.i ?_; rw [h5]; (try rw [ho]); rfl))⟩
    · ((try clear hR3); (try clear hR2); (try clear hR); (try clear hK); (try simp only [ncCast] at *); (try simp only [castI_eq] at *); (try rw [ho]); (try dsimp only [Ar.real, IX.vo, IX.val, BX.val, IX.toN]); (try simp only [QB7]))
      simp only [Bool.not_eq_true', decide_eq_false_iff_not]
      omega
    · ((try clear hR3); (try clear hR2); (try clear hR); (try clear hK); (try simp only [ncCast] at *); (try simp only [castI_eq] at *); (try rw [ho]); (try dsimp only [Ar.real, IX.vo, IX.val, BX.val, IX.toN]); (try simp only [QB7]))
      simp only [Bool.not_eq_true', decide_eq_false_iff_not]
      omega
    · have h5 := h3 (by assumption) (.inr (by assumption))
      refine hR _ (i + 1) (by show 4 - (i + 1) < 4 - i; ((try clear hR3); (try clear hR2); (try clear hR); (try clear hK); (try simp only [ncCast] at *); (try simp only [castI_eq] at *)); omega) (by show i + 1 ≤ 4; ((try clear hR3); (try clear hR2); (try clear hR); (try clear hK); (try simp only [ncCast] at *); (try simp only [castI_eq] at *)); omega) ?_
      refine ⟨(by cbv), by cbv; repeat' (first | trivial | exact EqX.rfl' | exact EqO.rfl' | apply And.intro | ((try clear hR3); (try clear hR2); (try clear hR); (try clear hK); (try simp only [ncCast] at *); (try simp only [castI_eq] at *); refine EqX.i ?_; (try rw [ho]); (try dsimp only [Ar.real, IX.vo, IX.val, BX.val, IX.toN]); (try simp only [QB7]); (repeat rw [wrap_i64 (by omega) (by omega)]); omega) | (refine EqX.i ?_; rw [h5]; (try rw [ho]); rfl)), by cbv; repeat' (first | trivial | exact EqO.rfl' | apply And.intro | (refine EqX.i ?_; rw [h5]; (try rw [ho]); rfl)), by cbv; repeat' (first | trivial | exact EqO.rfl' | apply And.intro | (refine EqX.i ?_; rw [h5]; (try rw [ho]); rfl))⟩
    · have h5 := h4 (.inr ⟨by assumption, by assumption⟩)
      refine hR _ (i + 1) (by show 4 - (i + 1) < 4 - i; ((try clear hR3); (try clear hR2); (try clear hR); (try clear hK); (try simp only [ncCast] at *); (try simp only [castI_eq] at *)); omega) (by show i + 1 ≤ 4; ((try clear hR3); (try clear hR2); (try clear hR); (try clear hK); (try simp only [ncCast] at *); (try simp only [castI_eq] at *)); omega) ?_
      refine ⟨(by cbv), by cbv; repeat' (first | trivial | exact EqX.rfl' | exact EqO.rfl' | apply And.intro | ((try clear hR3); (try clear hR2); (try clear hR); (try clear hK); (try simp only [ncCast] at *); (try simp only [castI_eq] at *); refine EqX.i ?_; (try rw [ho]); (try dsimp only [Ar.real, IX.vo, IX.val, BX.val, IX.toN]); (try simp only [QB7]); (repeat rw [wrap_i64 (by omega) (by omega)]); omega) | (refine EqX.i ?_; rw [h5]; (try rw [ho]); rfl)), by cbv; repeat' (first | trivial | exact EqO.rfl' | apply And.intro | (refine EqX.i ?_; rw [h5]; (try rw [ho]); rfl)), by cbv; repeat' (first | trivial | exact EqO.rfl' | apply And.intro | (refine EqX.i ?_; rw [h5]; (try rw [ho]); rfl))⟩
    · have h5 := h4 (.inl (by assumption))
      refine hR _ (i + 1) (by show 4 - (i + 1) < 4 - i; ((try clear hR3); (try clear hR2); (try clear hR); (try clear hK); (try simp only [ncCast] at *); (try simp only [castI_eq] at *)); omega) (by show i + 1 ≤ 4; ((try clear hR3); (try clear hR2); (try clear hR); (try clear hK); (try simp only [ncCast] at *); (try simp only [castI_eq] at *)); omega) ?_
      refine ⟨(by cbv), by cbv; repeat' (first | trivial | exact EqX.rfl' | exact EqO.rfl' | apply And.intro | ((try clear hR3); (try clear hR2); (try clear hR); (try clear hK); (try simp only [ncCast] at *); (try simp only [castI_eq] at *); refine EqX.i ?_; (try rw [ho]); (try dsimp only [Ar.real, IX.vo, IX.val, BX.val, IX.toN]); (try simp only [QB7]); (repeat rw [wrap_i64 (by omega) (by omega)]); omega) | (refine EqX.i ?_; rw [h5]; (try rw [ho]); rfl)), by cbv; repeat' (first | trivial | exact EqO.rfl' | apply And.intro | (refine EqX.i ?_; rw [h5]; (try rw [ho]); rfl)), by cbv; repeat' (first | trivial | exact EqO.rfl' | apply And.intro | (refine EqX.i ?_; rw [h5]; (try rw [ho]); rfl))⟩
    · obtain rfl : i = 4 := by ((try clear hR3); (try clear hR2); (try clear hR); (try clear hK); (try simp only [ncCast] at *); (try simp only [castI_eq] at *)); omega
      refine .i ?_
      rw [hres, ho]
      rfl
end Go.Proofs.Ytddgcegimmcbgaa.Sy

set_option linter.unusedSectionVars false
namespace Go.Proofs.Ytddgcegimmcbgaa.Sy
open Go Go.Sy Go.Proofs.Ytddgcegimmcbgaa
set_option maxRecDepth 100000
set_option maxHeartbeats 8000000
set_option linter.unusedVariables false
set_option linter.unusedSimpArgs false

def rBndW (a : List Part) (ws : List Want) (n : Int) : Nat → Int
  | 0 => n
  | k + 1 => min 9007199254740992 (IntKind.i64.wrap (rBndW a ws n k + rMany (sumsOf a) (sumsOf (ws.getD k default).need)))
def rBndA (l : List (List Part)) (ws : List Want) : Nat → Int
  | 0 => IntKind.i64.wrap ((l.length : Int) * ws.length)
  | i + 1 => rBndW (l.getD i default) ws (rBndA l ws i) ws.length
theorem x_r35Bound (l : List (List Part)) (ws : List Want) (hl : l.length ≤ 1048576) (hws : ws.length ≤ 1048576) (hla : ∀ k, (l.getD k default).length ≤ 1048576) (hwa : ∀ k, (ws.getD k default).need.length ≤ 1048576) : XC Try.prog 76 [.ro (SL Ar.real PV.X l), .ro (SL Ar.real Want.X ws)] [] (xi (rBndA l ws l.length)) [] := by
  have hsa := fun k => x_r06Of (l.getD k default) (hla k)
  have hsw := fun k => x_r06Of (ws.getD k default).need (hwa k)
  have hM0 : rBndA l ws 0 = IntKind.i64.wrap ((l.length : Int) * ws.length) := rfl
  have hM1 : ∀ i, rBndA l ws (i + 1) = rBndW (l.getD i default) ws (rBndA l ws i) ws.length := fun _ => rfl
  generalize rBndA l ws = M at *
  (refine XC.of_body ([(9, [(6, 9), (6, 10), (6, 11)])]) Try.func76 rfl Try.ntmps76 mixed (T := [(2, ti2), (3, ti3), (31, ti31), (47, ti47), (57, ti57), (88, ti88), (123, ti123)]) (.cons tok2 (.cons tok3 (.cons tok31 (.cons tok47 (.cons tok57 (.cons tok88 (.cons tok123 .nil))))))) (by kernel_rfl) (by simp) rfl rfl rfl rfl rfl ?_; rintro o ho P hP c K hK; have hm : P.follows .mixedOrders = true := hP ▸ mixed; have hT : TOk P [(2, ti2), (3, ti3), (31, ti31), (47, ti47), (57, ti57), (88, ti88), (123, ti123)] := hP ▸ (.cons tok2 (.cons tok3 (.cons tok31 (.cons tok47 (.cons tok57 (.cons tok88 (.cons tok123 .nil))))))); (try rw [← ho]); cbv; (repeat (refine StopN.mk ?_; cbv)))
  refine LoopN.over (o := o) (D := [(9, [(6, 9), (6, 10), (6, 11)])]) ho hm hT (by kernel_rfl) (fun a : Nat => [(7, xn a), (6, xi (M a))]) (fun _ => []) (fun _ => []) (fun a => a ≤ l.length) (fun a => l.length - a) 0 (Nat.zero_le _) ?_ ?_
  · refine ⟨(by cbv), by cbv; repeat' (first | trivial | exact EqX.rfl' | exact EqO.rfl' | apply And.intro | ((try clear hR3); (try clear hR2); (try clear hR); (try clear hK); (try simp only [ncCast] at *); (try simp only [castI_eq] at *); refine EqX.i ?_; (try rw [ho]); (try dsimp only [Ar.real, IX.vo, IX.val, BX.val, IX.toN]); (try simp only [QB7]); (repeat rw [wrap_i64 (by omega) (by omega)]); omega) | (refine EqX.i ?_; rw [hM0, ho]; rfl)), by cbv; repeat' (first | trivial | exact EqO.rfl' | apply And.intro | (refine EqX.i ?_; rw [hM0, ho]; rfl)), by cbv; repeat' (first | trivial | exact EqO.rfl' | apply And.intro | (refine EqX.i ?_; rw [hM0, ho]; rfl))⟩
  · rintro i hi R hR
    have e1 := hM1 i
    have hN0 : rBndW (l.getD i default) ws (M i) 0 = M i := rfl
    have hN1 : ∀ k, rBndW (l.getD i default) ws (M i) (k + 1) = min 9007199254740992 (IntKind.i64.wrap (rBndW (l.getD i default) ws (M i) k + rMany (sumsOf (l.getD i default)) (sumsOf (ws.getD k default).need))) := fun _ => rfl
    generalize rBndW (l.getD i default) ws (M i) = N at *
    have hs := hsa i
    have en : o.nth l i = l.getD i default := by rw [ho, real_nth]
    generalize sumsOf (l.getD i default) = sv at *
    rw [← en, ← ho] at hs
    cbv
    repeat' (first | (refine Br.mk (fun hb => ?_) (fun hb => ?_) <;> ((try rw [ho] at hb); (try dsimp only [Ar.real, IX.vo] at hb); (try simp only [QB7] at hb); (try simp only [QBo, beq_iff_eq, beq_eq_false_iff_ne, ne_eq] at hb))) | (refine StopN.mk ?_; cbv) | ((first | refine CallI.pure hP (x_r06Of _ ‹_›) fn45 (by first | rfl | (rw [ho]; done) | (rw [ho]; rfl)) (by rfl) (by first | rfl | (rw [ho]; done) | (rw [ho]; rfl)) ?_ | refine CallN.pure hP (x_r06Of _ ‹_›) fn45 (by first | rfl | (rw [ho]; done) | (rw [ho]; rfl)) (by rfl) (by first | rfl | (rw [ho]; done) | (rw [ho]; rfl)) ?_); (try rw [← ho]); generalize hr : sumsOf _ = r; (try rw [ho] at hr); (try dsimp only [Ar.real, IX.vo] at hr); (try simp only [QB7] at hr); cbv) | ((first | refine CallI.pure hP (x_r35Many _ _) fn115 (by first | rfl | (rw [ho]; done) | (rw [ho]; rfl)) (by rfl) (by first | rfl | (rw [ho]; done) | (rw [ho]; rfl)) ?_ | refine CallN.pure hP (x_r35Many _ _) fn115 (by first | rfl | (rw [ho]; done) | (rw [ho]; rfl)) (by rfl) (by first | rfl | (rw [ho]; done) | (rw [ho]; rfl)) ?_); (try rw [← ho]); generalize hr : rMany _ _ = r; (try rw [ho] at hr); (try dsimp only [Ar.real, IX.vo] at hr); (try simp only [QB7] at hr); cbv) | (refine hK _ _ ?_) | (refine NeedT.mk ?_ ?_))
    · refine LoopN.over (o := o) (D := [(9, [(6, 9), (6, 10), (6, 11)])]) ho hm hT (by kernel_rfl) (fun a : Nat => [(8, xn a), (6, xi (N a))]) (fun _ => []) (fun _ => []) (fun a => a ≤ ws.length) (fun a => ws.length - a) 0 (Nat.zero_le _) ?_ ?_
      · refine ⟨(by cbv), by cbv; repeat' (first | trivial | exact EqX.rfl' | exact EqO.rfl' | apply And.intro | ((try clear hR3); (try clear hR2); (try clear hR); (try clear hK); (try simp only [ncCast] at *); (try simp only [castI_eq] at *); refine EqX.i ?_; (try rw [ho]); (try dsimp only [Ar.real, IX.vo, IX.val, BX.val, IX.toN]); (try simp only [QB7]); (repeat rw [wrap_i64 (by omega) (by omega)]); omega) | (refine EqX.i ?_; rw [hN0])), by cbv; repeat' (first | trivial | exact EqO.rfl' | apply And.intro | (refine EqX.i ?_; rw [hN0])), by cbv; repeat' (first | trivial | exact EqO.rfl' | apply And.intro | (refine EqX.i ?_; rw [hN0]))⟩
      · rintro k hk R' hR'
        have e3 := hN1 k
        have hs2 := hsw k
        have hmn := x_r35Many sv (sumsOf (ws.getD k default).need)
        have en2 : o.nth ws k = ws.getD k default := by rw [ho, real_nth]
        generalize sumsOf (ws.getD k default).need = tv at *
        generalize rMany sv tv = q at *
        rw [← en2, ← ho] at hs2
        rw [← ho] at hmn
        cbv
        repeat' (first | (refine Br.mk (fun hb => ?_) (fun hb => ?_) <;> ((try rw [ho] at hb); (try dsimp only [Ar.real, IX.vo] at hb); (try simp only [QB7] at hb); (try simp only [QBo, beq_iff_eq, beq_eq_false_iff_ne, ne_eq] at hb))) | (refine StopN.mk ?_; cbv) | ((first | refine CallN.pure hP hs fn45 rfl rfl rfl ?_ | refine CallN.pure hP hs2 fn45 rfl rfl rfl ?_ | refine CallN.pure hP hmn fn115 rfl rfl rfl ?_); cbv) | ((first | refine CallI.pure hP (x_r06Of _ ‹_›) fn45 (by first | rfl | (rw [ho]; done) | (rw [ho]; rfl)) (by rfl) (by first | rfl | (rw [ho]; done) | (rw [ho]; rfl)) ?_ | refine CallN.pure hP (x_r06Of _ ‹_›) fn45 (by first | rfl | (rw [ho]; done) | (rw [ho]; rfl)) (by rfl) (by first | rfl | (rw [ho]; done) | (rw [ho]; rfl)) ?_); (try rw [← ho]); generalize hr : sumsOf _ = r; (try rw [ho] at hr); (try dsimp only [Ar.real, IX.vo] at hr); (try simp only [QB7] at hr); cbv) | ((first | refine CallI.pure hP (x_r35Many _ _) fn115 (by first | rfl | (rw [ho]; done) | (rw [ho]; rfl)) (by rfl) (by first | rfl | (rw [ho]; done) | (rw [ho]; rfl)) ?_ | refine CallN.pure hP (x_r35Many _ _) fn115 (by first | rfl | (rw [ho]; done) | (rw [ho]; rfl)) (by rfl) (by first | rfl | (rw [ho]; done) | (rw [ho]; rfl)) ?_); (try rw [← ho]); generalize hr : rMany _ _ = r; (try rw [ho] at hr); (try dsimp only [Ar.real, IX.vo] at hr); (try simp only [QB7] at hr); cbv) | (refine hK _ _ ?_) | (refine NeedT.mk ?_ ?_))
        any_goals (((try clear hR3); (try clear hR2); (try clear hR); (try clear hK); (try simp only [ncCast] at *); (try simp only [castI_eq] at *); (try rw [ho]); (try dsimp only [Ar.real, IX.vo, IX.val, BX.val, IX.toN]); (try simp only [QB7]); (try simp only [decide_eq_true_eq]); (all_goals (repeat rw [wrap_i64 (by omega) (by omega)])); (all_goals (first | omega | (simp only [Int.ofNat_eq_natCast]; omega)))); done)
        · refine hR' _ (k + 1) (by show ws.length - (k + 1) < ws.length - k; ((try clear hR3); (try clear hR2); (try clear hR); (try clear hK); (try simp only [ncCast] at *); (try simp only [castI_eq] at *)); omega) (by show k + 1 ≤ ws.length; ((try clear hR3); (try clear hR2); (try clear hR); (try clear hK); (try simp only [ncCast] at *); (try simp only [castI_eq] at *)); omega) ?_
          refine ⟨(by cbv), by cbv; repeat' (first | trivial | exact EqX.rfl' | exact EqO.rfl' | apply And.intro | ((try clear hR3); (try clear hR2); (try clear hR); (try clear hK); (try simp only [ncCast] at *); (try simp only [castI_eq] at *); refine EqX.i ?_; (try rw [ho]); (try dsimp only [Ar.real, IX.vo, IX.val, BX.val, IX.toN]); (try simp only [QB7]); (repeat rw [wrap_i64 (by omega) (by omega)]); omega) | (refine EqX.i ?_; rw [e3, ho]; rfl)), by cbv; repeat' (first | trivial | exact EqO.rfl' | apply And.intro | (refine EqX.i ?_; rw [e3, ho]; rfl)), by cbv; repeat' (first | trivial | exact EqO.rfl' | apply And.intro | (refine EqX.i ?_; rw [e3, ho]; rfl))⟩
        · obtain rfl : k = ws.length := by ((try clear hR3); (try clear hR2); (try clear hR); (try clear hK); (try simp only [ncCast] at *); (try simp only [castI_eq] at *)); omega
          refine hR _ (i + 1) (by show l.length - (i + 1) < l.length - i; ((try clear hR3); (try clear hR2); (try clear hR); (try clear hK); (try simp only [ncCast] at *); (try simp only [castI_eq] at *)); omega) (by show i + 1 ≤ l.length; ((try clear hR3); (try clear hR2); (try clear hR); (try clear hK); (try simp only [ncCast] at *); (try simp only [castI_eq] at *)); omega) ?_
          refine ⟨(by cbv), by cbv; repeat' (first | trivial | exact EqX.rfl' | exact EqO.rfl' | apply And.intro | ((try clear hR3); (try clear hR2); (try clear hR); (try clear hK); (try simp only [ncCast] at *); (try simp only [castI_eq] at *); refine EqX.i ?_; (try rw [ho]); (try dsimp only [Ar.real, IX.vo, IX.val, BX.val, IX.toN]); (try simp only [QB7]); (repeat rw [wrap_i64 (by omega) (by omega)]); omega) | (refine EqX.i ?_; rw [e1])), by cbv; repeat' (first | trivial | exact EqO.rfl' | apply And.intro | (refine EqX.i ?_; rw [e1])), by cbv; repeat' (first | trivial | exact EqO.rfl' | apply And.intro | (refine EqX.i ?_; rw [e1]))⟩
    · obtain rfl : i = l.length := by ((try clear hR3); (try clear hR2); (try clear hR); (try clear hK); (try simp only [ncCast] at *); (try simp only [castI_eq] at *)); omega
      exact .i rfl
end Go.Proofs.Ytddgcegimmcbgaa.Sy

set_option linter.unusedSectionVars false
namespace Go.Proofs.Ytddgcegimmcbgaa.Sy
open Go Go.Sy Go.Proofs.Ytddgcegimmcbgaa
set_option maxRecDepth 100000
set_option maxHeartbeats 8000000
set_option linter.unusedVariables false
set_option linter.unusedSimpArgs false

theorem x_r37in (l : List Int) (x : Int) (hl : l.length ≤ 1048576) : XC Try.prog 68 [.ro (SL Ar.real encI l), xi x] [] (xb (inR l x)) [] := by
  have h1 : ∀ i, i < l.length → l.getD i 0 = x → inR l x = true := fun i hi h => by
    have e : l.getD i 0 = l[i] := by simp [List.getD_eq_getElem?_getD, hi]
    exact decide_eq_true (h ▸ e ▸ List.getElem_mem hi)
  have h2 : (∀ i, i < l.length → l.getD i 0 ≠ x) → inR l x = false := fun h => decide_eq_false fun hm => by
    obtain ⟨i, hi, e⟩ := List.mem_iff_getElem.1 hm
    exact h i hi (by simp [List.getD_eq_getElem?_getD, hi, e])
  generalize inR l x = r at *
  (refine XC.of_body ([]) Try.func68 rfl Try.ntmps68 mixed (T := [(3, ti3), (43, ti43)]) (.cons tok3 (.cons tok43 .nil)) (by kernel_rfl) (by simp) rfl rfl rfl rfl rfl ?_; rintro o ho P hP c K hK; have hm : P.follows .mixedOrders = true := hP ▸ mixed; have hT : TOk P [(3, ti3), (43, ti43)] := hP ▸ (.cons tok3 (.cons tok43 .nil)); (try rw [← ho]); cbv; (repeat (refine StopN.mk ?_; cbv)))
  refine LoopN.over (o := o) (D := []) ho hm hT (by kernel_rfl) (fun i : Nat => [(5, xn i)]) (fun _ => []) (fun _ => []) (fun i => i ≤ l.length ∧ ∀ j, j < i → l.getD j 0 ≠ x) (fun i => l.length - i) 0 ⟨Nat.zero_le _, fun j hj => by omega⟩ ?_ ?_
  · refine ⟨(by cbv), by cbv; repeat' (first | trivial | exact EqX.rfl' | exact EqO.rfl' | apply And.intro | ((try clear hR3); (try clear hR2); (try clear hR); (try clear hK); (try simp only [ncCast] at *); (try simp only [castI_eq] at *); refine EqX.i ?_; (try rw [ho]); (try dsimp only [Ar.real, IX.vo, IX.val, BX.val, IX.toN]); (try simp only [QB7]); (repeat rw [wrap_i64 (by omega) (by omega)]); omega)), by cbv; repeat' (first | trivial | exact EqO.rfl' | apply And.intro), by cbv; repeat' (first | trivial | exact EqO.rfl' | apply And.intro)⟩
  · rintro i ⟨hi, hno⟩ R hR
    have e1 := h1 i
    cbv
    repeat' (first | (refine Br.mk (fun hb => ?_) (fun hb => ?_) <;> ((try rw [ho] at hb); (try dsimp only [Ar.real, IX.vo] at hb); (try simp only [QB7] at hb); (try simp only [QBo, beq_iff_eq, beq_eq_false_iff_ne, ne_eq] at hb))) | (refine StopN.mk ?_; cbv) | (refine hK _ _ ?_) | (refine NeedT.mk ?_ ?_))
    any_goals (((try clear hR3); (try clear hR2); (try clear hR); (try clear hK); (try simp only [ncCast] at *); (try simp only [castI_eq] at *); (try rw [ho]); (try dsimp only [Ar.real, IX.vo, IX.val, BX.val, IX.toN]); (try simp only [QB7]); (try simp only [decide_eq_true_eq]); (all_goals (repeat rw [wrap_i64 (by omega) (by omega)])); (all_goals (first | omega | (simp only [Int.ofNat_eq_natCast]; omega)))); done)
    · rw [e1 (by assumption) hb]
      exact .b rfl
    · refine hR _ (i + 1) (by show l.length - (i + 1) < l.length - i; ((try clear hR3); (try clear hR2); (try clear hR); (try clear hK); (try simp only [ncCast] at *); (try simp only [castI_eq] at *)); omega) ⟨by show i + 1 ≤ l.length; ((try clear hR3); (try clear hR2); (try clear hR); (try clear hK); (try simp only [ncCast] at *); (try simp only [castI_eq] at *)); omega, fun k' hk => ?_⟩ ?_
      · rcases Nat.lt_or_ge k' i with h5 | h5
        · exact hno k' h5
        · obtain rfl : k' = i := by
            have hk' : k' < i + 1 := hk
            clear hk
            ((try clear hR3); (try clear hR2); (try clear hR); (try clear hK); (try simp only [ncCast] at *); (try simp only [castI_eq] at *))
            omega
          assumption
      · refine ⟨(by cbv), by cbv; repeat' (first | trivial | exact EqX.rfl' | exact EqO.rfl' | apply And.intro | ((try clear hR3); (try clear hR2); (try clear hR); (try clear hK); (try simp only [ncCast] at *); (try simp only [castI_eq] at *); refine EqX.i ?_; (try rw [ho]); (try dsimp only [Ar.real, IX.vo, IX.val, BX.val, IX.toN]); (try simp only [QB7]); (repeat rw [wrap_i64 (by omega) (by omega)]); omega)), by cbv; repeat' (first | trivial | exact EqO.rfl' | apply And.intro), by cbv; repeat' (first | trivial | exact EqO.rfl' | apply And.intro)⟩
    · obtain rfl : i = l.length := by ((try clear hR3); (try clear hR2); (try clear hR); (try clear hK); (try simp only [ncCast] at *); (try simp only [castI_eq] at *)); omega
      rw [h2 hno]
      exact .b rfl
end Go.Proofs.Ytddgcegimmcbgaa.Sy

set_option linter.unusedSectionVars false
namespace Go.Proofs.Ytddgcegimmcbgaa.Sy
open Go Go.Sy Go.Proofs.Ytddgcegimmcbgaa
set_option maxRecDepth 100000
set_option maxHeartbeats 8000000
set_option linter.unusedVariables false
set_option linter.unusedSimpArgs false

def rLeftStep (ws : List Want) (r : List Part) (x : Int) : Option (List Part) :=
  if 0 ≤ x ∧ x < ws.length then (if (rSub r (ws.getD x.toNat default).need).2 = true then some (rSub r (ws.getD x.toNat default).need).1 else none) else none
def rLeftTo (v : List Part) (ws : List Want) (seq : List Int) : Nat → Option (List Part)
  | 0 => some v
  | i + 1 => (rLeftTo v ws seq i).bind fun r => rLeftStep ws r (seq.getD i 0)
def rLeft (v : List Part) (ws : List Want) (seq : List Int) : List Part × Bool := match rLeftTo v ws seq seq.length with | some r => (r, true) | none => ([], false)
theorem rSub_len (a b : List Part) : (rSub a b).1.length ≤ a.length := by
  unfold rSub
  split
  · exact rSubTo_len a b a.length
  · simp
theorem rLeftTo_none {v : List Part} {ws : List Want} {seq : List Int} {k : Nat} (h : rLeftTo v ws seq k = none) : ∀ {n}, k ≤ n → rLeftTo v ws seq n = none := by
  intro n hn
  induction n with
  | zero => obtain rfl : k = 0 := by omega
            exact h
  | succ n ih =>
    rcases Nat.lt_or_ge n k with h1 | h1
    · obtain rfl : k = n + 1 := by omega
      exact h
    · simp only [rLeftTo, ih h1, Option.bind_none]
structure StR where
  i : Nat
  r : List Part
theorem x_r37left (v : List Part) (ws : List Want) (seq : List Int) (hv : v.length ≤ 1048576) (hws : ws.length ≤ 1048576) (hwa : ∀ k, (ws.getD k default).need.length ≤ 1048576) (hseq : seq.length ≤ 1048576) : XC Try.prog 71 [.ro (SL Ar.real Part.X v), .ro (SL Ar.real Want.X ws), .ro (SL Ar.real encI seq)] [] (.tup [.ro (SL Ar.real Part.X (rLeft v ws seq).1), xb (rLeft v ws seq).2]) [] := by
  have h0 : rLeftTo v ws seq 0 = some v := rfl
  have h1 : ∀ i r, rLeftTo v ws seq i = some r → rLeftTo v ws seq (i + 1) = rLeftStep ws r (seq.getD i 0) := fun i r h => by simp only [rLeftTo, h, Option.bind_some]
  have hr0 : ∀ i, i ≤ seq.length → rLeftTo v ws seq i = none → rLeft v ws seq = ([], false) := fun i hi h => by
    unfold rLeft
    rw [rLeftTo_none h hi]
  have hr1 : ∀ r, rLeftTo v ws seq seq.length = some r → rLeft v ws seq = (r, true) := fun r h => by
    unfold rLeft
    rw [h]
  generalize rLeft v ws seq = g at *
  generalize rLeftTo v ws seq = M at *
  (refine XC.of_body ([]) Try.func71 rfl Try.ntmps71 mixed (T := [(2, ti2), (3, ti3), (4, ti4), (31, ti31), (43, ti43), (47, ti47), (88, ti88), (123, ti123)]) (.cons tok2 (.cons tok3 (.cons tok4 (.cons tok31 (.cons tok43 (.cons tok47 (.cons tok88 (.cons tok123 .nil)))))))) (by kernel_rfl) (by simp) rfl rfl rfl rfl rfl ?_; rintro o ho P hP c K hK; have hm : P.follows .mixedOrders = true := hP ▸ mixed; have hT : TOk P [(2, ti2), (3, ti3), (4, ti4), (31, ti31), (43, ti43), (47, ti47), (88, ti88), (123, ti123)] := hP ▸ (.cons tok2 (.cons tok3 (.cons tok4 (.cons tok31 (.cons tok43 (.cons tok47 (.cons tok88 (.cons tok123 .nil)))))))); (try rw [← ho]); cbv; (repeat (refine StopN.mk ?_; cbv)))
  refine LoopN.over (o := o) (D := []) ho hm hT (by kernel_rfl) (fun s : StR => [(9, xn s.i), (8, .ro (SL o Part.X s.r))]) (fun _ => []) (fun _ => []) (fun s => s.i ≤ seq.length ∧ M s.i = some s.r ∧ s.r.length ≤ 1048576) (fun s => seq.length - s.i) ⟨0, v⟩ ⟨Nat.zero_le _, h0, hv⟩ ?_ ?_
  · refine ⟨(by cbv), by cbv; repeat' (first | trivial | exact EqX.rfl' | exact EqO.rfl' | apply And.intro | ((try clear hR3); (try clear hR2); (try clear hR); (try clear hK); (try simp only [ncCast] at *); (try simp only [castI_eq] at *); refine EqX.i ?_; (try rw [ho]); (try dsimp only [Ar.real, IX.vo, IX.val, BX.val, IX.toN]); (try simp only [QB7]); (repeat rw [wrap_i64 (by omega) (by omega)]); omega)), by cbv; repeat' (first | trivial | exact EqO.rfl' | apply And.intro), by cbv; repeat' (first | trivial | exact EqO.rfl' | apply And.intro)⟩
  · rintro ⟨i, r⟩ ⟨hi, hM, hrl⟩ R hR
    dsimp only at hi hM hrl
    have e0 := hr0 (i + 1)
    have e1 := h1 i r hM
    obtain ⟨x, hx⟩ : ∃ q, q = seq.getD i 0 := ⟨_, rfl⟩
    rw [← hx] at e1
    have hS := x_r05Sub r (ws.getD x.toNat default).need hrl (hwa _)
    have hSl := rSub_len r (ws.getD x.toNat default).need
    unfold rLeftStep at e1
    generalize rSub r (ws.getD x.toNat default).need = q at *
    have en : o.nth ws (o.toNat (o.nth seq i)) = ws.getD x.toNat default := by rw [ho, hx, real_nth, real_nth]; rfl
    rw [← en, ← ho] at hS
    have g1 : i < seq.length → seq.getD i 0 < 0 → g = ([], false) := fun h h' => e0 h (by rw [e1, if_neg (by rw [hx]; omega)])
    have g2 : i < seq.length → (ws.length : Int) ≤ seq.getD i 0 → g = ([], false) := fun h h' => e0 h (by rw [e1, if_neg (by rw [hx]; omega)])
    have g3 : i < seq.length → q.2 = false → g = ([], false) := fun h h' => e0 h (by
      rw [e1]
      split
      · rw [if_neg (by rw [h']; decide)]
      · rfl)
    have g4 : 0 ≤ seq.getD i 0 → seq.getD i 0 < ws.length → q.2 = true → M (i + 1) = some q.1 := fun h h' h'' => by rw [e1, if_pos (by rw [hx]; exact ⟨h, h'⟩), if_pos h'']
    clear e0 e1
    cbv
    repeat' (first | (refine Br.mk (fun hb => ?_) (fun hb => ?_) <;> ((try rw [ho] at hb); (try dsimp only [Ar.real, IX.vo] at hb); (try simp only [QB7] at hb); (try simp only [QBo, beq_iff_eq, beq_eq_false_iff_ne, ne_eq] at hb))) | (refine StopN.mk ?_; cbv) | ((first | refine CallI.pure hP hS fn131 rfl rfl rfl ?_ | refine CallN.pure hP hS fn131 rfl rfl rfl ?_); cbv) | ((first | refine CallI.pure hP (x_r05Sub _ _ ‹_› ‹_›) fn131 (by first | rfl | (rw [ho]; done) | (rw [ho]; rfl)) (by rfl) (by first | rfl | (rw [ho]; done) | (rw [ho]; rfl)) ?_ | refine CallN.pure hP (x_r05Sub _ _ ‹_› ‹_›) fn131 (by first | rfl | (rw [ho]; done) | (rw [ho]; rfl)) (by rfl) (by first | rfl | (rw [ho]; done) | (rw [ho]; rfl)) ?_); (try rw [← ho]); generalize hr : rSub _ _ = r; (try rw [ho] at hr); (try dsimp only [Ar.real, IX.vo] at hr); (try simp only [QB7] at hr); cbv) | (refine hK _ _ ?_) | (refine NeedT.mk ?_ ?_))
    any_goals (((try clear hR3); (try clear hR2); (try clear hR); (try clear hK); (try simp only [ncCast] at *); (try simp only [castI_eq] at *); (try rw [ho]); (try dsimp only [Ar.real, IX.vo, IX.val, BX.val, IX.toN]); (try simp only [QB7]); (try simp only [decide_eq_true_eq]); (all_goals (repeat rw [wrap_i64 (by omega) (by omega)])); (all_goals (first | omega | (simp only [Int.ofNat_eq_natCast]; omega)))); done)
    · rw [g1 (by assumption) hb]
      exact FinX_rb2 (rows_nil_SL Ar.real rfl Part.X) rfl
    · rw [g2 (by assumption) hb]
      exact FinX_rb2 (rows_nil_SL Ar.real rfl Part.X) rfl
    · rw [g3 (by assumption) hb]
      exact FinX_rb2 (rows_nil_SL Ar.real rfl Part.X) rfl
    · have g5 := g4 (by assumption) (by assumption) (by assumption)
      refine hR _ ⟨i + 1, q.1⟩ (by show seq.length - (i + 1) < seq.length - i; ((try clear hR3); (try clear hR2); (try clear hR); (try clear hK); (try simp only [ncCast] at *); (try simp only [castI_eq] at *)); omega) ⟨by show i + 1 ≤ seq.length; ((try clear hR3); (try clear hR2); (try clear hR); (try clear hK); (try simp only [ncCast] at *); (try simp only [castI_eq] at *)); omega, g5, Nat.le_trans hSl hrl⟩ ?_
      refine ⟨(by cbv), by cbv; repeat' (first | trivial | exact EqX.rfl' | exact EqO.rfl' | apply And.intro | ((try clear hR3); (try clear hR2); (try clear hR); (try clear hK); (try simp only [ncCast] at *); (try simp only [castI_eq] at *); refine EqX.i ?_; (try rw [ho]); (try dsimp only [Ar.real, IX.vo, IX.val, BX.val, IX.toN]); (try simp only [QB7]); (repeat rw [wrap_i64 (by omega) (by omega)]); omega)), by cbv; repeat' (first | trivial | exact EqO.rfl' | apply And.intro), by cbv; repeat' (first | trivial | exact EqO.rfl' | apply And.intro)⟩
    · obtain rfl : i = seq.length := by ((try clear hR3); (try clear hR2); (try clear hR); (try clear hK); (try simp only [ncCast] at *); (try simp only [castI_eq] at *)); omega
      rw [hr1 r hM]
      exact FinX_rb2 (by rw [ho]) rfl
end Go.Proofs.Ytddgcegimmcbgaa.Sy

set_option linter.unusedSectionVars false
namespace Go.Proofs.Ytddgcegimmcbgaa.Sy
open Go Go.Sy Go.Proofs.Ytddgcegimmcbgaa
set_option maxRecDepth 100000
set_option maxHeartbeats 8000000
set_option linter.unusedVariables false
set_option linter.unusedSimpArgs false

def cntTo (seq : List Int) (x : Int) : Nat → Int
  | 0 => 0
  | i + 1 => if seq.getD i 0 = x then cntTo seq x i + 1 else cntTo seq x i
theorem cntTo_bd (seq : List Int) (x : Int) : ∀ i, 0 ≤ cntTo seq x i ∧ cntTo seq x i ≤ i
  | 0 => by simp [cntTo]
  | i + 1 => by
    have := cntTo_bd seq x i
    simp only [cntTo]
    split <;> omega
def S4.times (s : S4) (n : Int) : S4 := ⟨IntKind.i64.wrap (s.a * n), IntKind.i64.wrap (s.b * n), IntKind.i64.wrap (s.c * n), IntKind.i64.wrap (s.d * n)⟩
def rPart (v : List Part) (ws : List Want) (seq : List Int) (x : Int) : DomS := rDom ((sumsOf (ws.getD x.toNat default).need).times (cntTo seq x seq.length)) (sumsOf v)
theorem x_r37part (v : List Part) (ws : List Want) (seq : List Int) (x : Int) (hv : v.length ≤ 1048576) (hwa : ∀ k, (ws.getD k default).need.length ≤ 1048576) (hseq : seq.length ≤ 1048576) (hx : 0 ≤ x ∧ x < ws.length) : XC Try.prog 74 [.ro (SL Ar.real Part.X v), .ro (SL Ar.real Want.X ws), .ro (SL Ar.real encI seq), xi x] [] (.agg [xi (rPart v ws seq x).num, xi (rPart v ws seq x).den]) [] := by
  have hOf := x_r06Of (ws.getD x.toNat default).need (hwa _)
  have hOv := x_r06Of v hv
  have hD := x_rDom ((sumsOf (ws.getD x.toNat default).need).times (cntTo seq x seq.length)) (sumsOf v)
  have hC0 : cntTo seq x 0 = 0 := rfl
  have hC1 : ∀ i, cntTo seq x (i + 1) = if seq.getD i 0 = x then cntTo seq x i + 1 else cntTo seq x i := fun _ => rfl
  have hCb := cntTo_bd seq x
  unfold rPart
  generalize rDom ((sumsOf (ws.getD x.toNat default).need).times (cntTo seq x seq.length)) (sumsOf v) = dd at *
  generalize cntTo seq x = M at *
  generalize sumsOf (ws.getD x.toNat default).need = sn at *
  generalize sumsOf v = sv at *
  obtain ⟨a, b, p, d⟩ := sn
  obtain ⟨a', b', p', d'⟩ := sv
  (refine XC.of_body ([(12, [(0, 2), (0, 7), (2, 7), (3, 7)])]) Try.func74 rfl Try.ntmps74 mixed (T := [(2, ti2), (3, ti3), (31, ti31), (43, ti43), (47, ti47), (52, ti52), (64, ti64), (88, ti88), (123, ti123)]) (.cons tok2 (.cons tok3 (.cons tok31 (.cons tok43 (.cons tok47 (.cons tok52 (.cons tok64 (.cons tok88 (.cons tok123 .nil))))))))) (by kernel_rfl) (by simp) rfl rfl rfl rfl rfl ?_; rintro o ho P hP c K hK; have hm : P.follows .mixedOrders = true := hP ▸ mixed; have hT : TOk P [(2, ti2), (3, ti3), (31, ti31), (43, ti43), (47, ti47), (52, ti52), (64, ti64), (88, ti88), (123, ti123)] := hP ▸ (.cons tok2 (.cons tok3 (.cons tok31 (.cons tok43 (.cons tok47 (.cons tok52 (.cons tok64 (.cons tok88 (.cons tok123 .nil))))))))); (try rw [← ho]); cbv; (repeat (refine StopN.mk ?_; cbv)))
  refine LoopN.over (o := o) (D := [(12, [(0, 2), (0, 7), (2, 7), (3, 7)])]) ho hm hT (by kernel_rfl) (fun i : Nat => [(10, xn i), (9, xi (M i))]) (fun _ => []) (fun _ => []) (fun i => i ≤ seq.length) (fun i => seq.length - i) 0 (Nat.zero_le _) ?_ ?_
  · refine ⟨(by cbv), by cbv; repeat' (first | trivial | exact EqX.rfl' | exact EqO.rfl' | apply And.intro | ((try clear hR3); (try clear hR2); (try clear hR); (try clear hK); (try simp only [ncCast] at *); (try simp only [castI_eq] at *); refine EqX.i ?_; (try rw [ho]); (try dsimp only [Ar.real, IX.vo, IX.val, BX.val, IX.toN]); (try simp only [QB7]); (repeat rw [wrap_i64 (by omega) (by omega)]); omega) | (refine EqX.i ?_; rw [hC0]; rfl)), by cbv; repeat' (first | trivial | exact EqO.rfl' | apply And.intro | (refine EqX.i ?_; rw [hC0]; rfl)), by cbv; repeat' (first | trivial | exact EqO.rfl' | apply And.intro | (refine EqX.i ?_; rw [hC0]; rfl))⟩
  · rintro i hi R hR
    have e1 := hC1 i
    have hb1 := hCb i
    have en : o.nth ws (o.toNat x) = ws.getD x.toNat default := by rw [ho, real_nth]; rfl
    rw [← en, ← ho] at hOf
    rw [← ho] at hOv
    cbv
    repeat' (first | (refine Br.mk (fun hb => ?_) (fun hb => ?_) <;> ((try rw [ho] at hb); (try dsimp only [Ar.real, IX.vo] at hb); (try simp only [QB7] at hb); (try simp only [QBo, beq_iff_eq, beq_eq_false_iff_ne, ne_eq] at hb))) | (refine StopN.mk ?_; cbv) | ((first | refine CallI.pure hP hOf fn45 rfl rfl rfl ?_ | refine CallN.pure hP hOv fn45 rfl rfl rfl ?_); cbv) | ((first | refine CallI.pure hP (x_rDom _ _) fn34 (by first | rfl | (rw [ho]; done) | (rw [ho]; rfl)) (by rfl) (by first | rfl | (rw [ho]; done) | (rw [ho]; rfl)) ?_ | refine CallN.pure hP (x_rDom _ _) fn34 (by first | rfl | (rw [ho]; done) | (rw [ho]; rfl)) (by rfl) (by first | rfl | (rw [ho]; done) | (rw [ho]; rfl)) ?_); (try rw [← ho]); generalize hr : rDom _ _ = r; (try rw [ho] at hr); (try dsimp only [Ar.real, IX.vo] at hr); (try simp only [QB7] at hr); cbv) | ((first | refine CallI.pure hP (x_r06Of _ ‹_›) fn45 (by first | rfl | (rw [ho]; done) | (rw [ho]; rfl)) (by rfl) (by first | rfl | (rw [ho]; done) | (rw [ho]; rfl)) ?_ | refine CallN.pure hP (x_r06Of _ ‹_›) fn45 (by first | rfl | (rw [ho]; done) | (rw [ho]; rfl)) (by rfl) (by first | rfl | (rw [ho]; done) | (rw [ho]; rfl)) ?_); (try rw [← ho]); generalize hr : sumsOf _ = r; (try rw [ho] at hr); (try dsimp only [Ar.real, IX.vo] at hr); (try simp only [QB7] at hr); cbv) | (refine hK _ _ ?_) | (refine NeedT.mk ?_ ?_) | (refine LoopN.lay (o := o) (D := [(12, [(0, 2), (0, 7), (2, 7), (3, 7)])]) 5 ho hm hT (by kernel_rfl) ?_; cbv))
    any_goals (((try clear hR3); (try clear hR2); (try clear hR); (try clear hK); (try simp only [ncCast] at *); (try simp only [castI_eq] at *); (try rw [ho]); (try dsimp only [Ar.real, IX.vo, IX.val, BX.val, IX.toN]); (try simp only [QB7]); (try simp only [decide_eq_true_eq]); (all_goals (repeat rw [wrap_i64 (by omega) (by omega)])); (all_goals (first | omega | (simp only [Int.ofNat_eq_natCast]; omega)))); done)
    · have e2 := e1.trans (if_pos hb)
      refine hR _ (i + 1) (by show seq.length - (i + 1) < seq.length - i; ((try clear hR3); (try clear hR2); (try clear hR); (try clear hK); (try simp only [ncCast] at *); (try simp only [castI_eq] at *)); omega) (by show i + 1 ≤ seq.length; ((try clear hR3); (try clear hR2); (try clear hR); (try clear hK); (try simp only [ncCast] at *); (try simp only [castI_eq] at *)); omega) ?_
      refine ⟨(by cbv), by cbv; repeat' (first | trivial | exact EqX.rfl' | exact EqO.rfl' | apply And.intro | ((try clear hR3); (try clear hR2); (try clear hR); (try clear hK); (try simp only [ncCast] at *); (try simp only [castI_eq] at *); refine EqX.i ?_; (try rw [ho]); (try dsimp only [Ar.real, IX.vo, IX.val, BX.val, IX.toN]); (try simp only [QB7]); (repeat rw [wrap_i64 (by omega) (by omega)]); omega)), by cbv; repeat' (first | trivial | exact EqO.rfl' | apply And.intro), by cbv; repeat' (first | trivial | exact EqO.rfl' | apply And.intro)⟩
    · have e2 := e1.trans (if_neg hb)
      refine hR _ (i + 1) (by show seq.length - (i + 1) < seq.length - i; ((try clear hR3); (try clear hR2); (try clear hR); (try clear hK); (try simp only [ncCast] at *); (try simp only [castI_eq] at *)); omega) (by show i + 1 ≤ seq.length; ((try clear hR3); (try clear hR2); (try clear hR); (try clear hK); (try simp only [ncCast] at *); (try simp only [castI_eq] at *)); omega) ?_
      refine ⟨(by cbv), by cbv; repeat' (first | trivial | exact EqX.rfl' | exact EqO.rfl' | apply And.intro | ((try clear hR3); (try clear hR2); (try clear hR); (try clear hK); (try simp only [ncCast] at *); (try simp only [castI_eq] at *); refine EqX.i ?_; (try rw [ho]); (try dsimp only [Ar.real, IX.vo, IX.val, BX.val, IX.toN]); (try simp only [QB7]); (repeat rw [wrap_i64 (by omega) (by omega)]); omega) | (refine EqX.i ?_; rw [e2])), by cbv; repeat' (first | trivial | exact EqO.rfl' | apply And.intro | (refine EqX.i ?_; rw [e2])), by cbv; repeat' (first | trivial | exact EqO.rfl' | apply And.intro | (refine EqX.i ?_; rw [e2]))⟩
    · obtain rfl : i = seq.length := by ((try clear hR3); (try clear hR2); (try clear hR); (try clear hK); (try simp only [ncCast] at *); (try simp only [castI_eq] at *)); omega
      refine CallN.pure hP hD fn34 rfl rfl (by rw [ho]; rfl) ?_
      cbv
      repeat' (first | (refine Br.mk (fun hb => ?_) (fun hb => ?_) <;> ((try rw [ho] at hb); (try dsimp only [Ar.real, IX.vo] at hb); (try simp only [QB7] at hb); (try simp only [QBo, beq_iff_eq, beq_eq_false_iff_ne, ne_eq] at hb))) | (refine StopN.mk ?_; cbv) | ((first | refine CallI.pure hP (x_rDom _ _) fn34 (by first | rfl | (rw [ho]; done) | (rw [ho]; rfl)) (by rfl) (by first | rfl | (rw [ho]; done) | (rw [ho]; rfl)) ?_ | refine CallN.pure hP (x_rDom _ _) fn34 (by first | rfl | (rw [ho]; done) | (rw [ho]; rfl)) (by rfl) (by first | rfl | (rw [ho]; done) | (rw [ho]; rfl)) ?_); (try rw [← ho]); generalize hr : rDom _ _ = r; (try rw [ho] at hr); (try dsimp only [Ar.real, IX.vo] at hr); (try simp only [QB7] at hr); cbv) | ((first | refine CallI.pure hP (x_r06Of _ ‹_›) fn45 (by first | rfl | (rw [ho]; done) | (rw [ho]; rfl)) (by rfl) (by first | rfl | (rw [ho]; done) | (rw [ho]; rfl)) ?_ | refine CallN.pure hP (x_r06Of _ ‹_›) fn45 (by first | rfl | (rw [ho]; done) | (rw [ho]; rfl)) (by rfl) (by first | rfl | (rw [ho]; done) | (rw [ho]; rfl)) ?_); (try rw [← ho]); generalize hr : sumsOf _ = r; (try rw [ho] at hr); (try dsimp only [Ar.real, IX.vo] at hr); (try simp only [QB7] at hr); cbv) | (refine hK _ _ ?_) | (refine NeedT.mk ?_ ?_))
      exact FinX_agg2 rfl rfl
end Go.Proofs.Ytddgcegimmcbgaa.Sy

set_option linter.unusedSectionVars false
namespace Go.Proofs.Ytddgcegimmcbgaa.Sy
open Go Go.Sy Go.Proofs.Ytddgcegimmcbgaa
set_option maxRecDepth 100000
set_option maxHeartbeats 8000000
set_option linter.unusedVariables false
set_option linter.unusedSimpArgs false

def rAgTo (l : List (List Part)) : Nat → S4
  | 0 => ⟨9007199254740992, 9007199254740992, 9007199254740992, 9007199254740992⟩
  | i + 1 => ⟨IntKind.i64.wrap ((rAgTo l i).a - (sumsOf (l.getD i default)).a), IntKind.i64.wrap ((rAgTo l i).b - (sumsOf (l.getD i default)).b), IntKind.i64.wrap ((rAgTo l i).c - (sumsOf (l.getD i default)).c), IntKind.i64.wrap ((rAgTo l i).d - (sumsOf (l.getD i default)).d)⟩
def nnS (s : S4) : Bool := decide (0 ≤ s.a ∧ 0 ≤ s.b ∧ 0 ≤ s.c ∧ 0 ≤ s.d)
def rAgOk (l : List (List Part)) (i : Nat) : Bool := nnS (rAgTo l (i + 1)) && rBare (l.getD i default)
def rWok (lo : S4) (w : Want) : Bool := rBare w.need && (decide (1 ≤ w.weight ∧ w.weight ≤ 1000) && sumsHolds (sumsOf w.need) lo)
def rFine (p : Prof) : Bool :=
  decide (1 ≤ p.ags.length ∧ p.ags.length ≤ 16 ∧ 1 ≤ p.wants.length ∧ p.wants.length ≤ 32) && ((nextAt (fun i => !rAgOk p.ags i) 0 p.ags.length).isNone && (okLo p.lo && (nextAt (fun i => !rWok p.lo (p.wants.getD i default)) 0 p.wants.length).isNone))
def rCheck (p : Prof) : Int := if rFine p = true then (if 4096 < rBndA p.ags p.wants p.ags.length then 32 else 0) else 41
theorem isNone_all {p : Nat → Bool} {n : Nat} (h : ∀ i, i < n → p i = false) : (nextAt p 0 n).isNone = true := by
  rw [nextAt_none (fun i _ hi => h i hi)]
  rfl
theorem isNone_no {p : Nat → Bool} {n i : Nat} (hi : i < n) (h : p i = true) : (nextAt p 0 n).isNone = false := by
  cases e : (nextAt p 0 n).isNone with
  | false => rfl
  | true =>
    rw [Option.isNone_iff_eq_none] at e
    unfold nextAt at e
    rw [List.find?_range'_eq_none] at e
    exact absurd h (by simpa using e i (Nat.zero_le _) (by omega))
theorem r41 {p : Prof} (h : rFine p = false) : rCheck p = 41 := by
  unfold rCheck
  rw [h]
  rfl
theorem r41_len {p : Prof} (h : ¬ (1 ≤ p.ags.length ∧ p.ags.length ≤ 16 ∧ 1 ≤ p.wants.length ∧ p.wants.length ≤ 32)) : rCheck p = 41 := r41 (by
  unfold rFine
  rw [decide_eq_false h]
  rfl)
theorem r41_ag {p : Prof} {i : Nat} (hi : i < p.ags.length) (h : rAgOk p.ags i = false) : rCheck p = 41 := r41 (by
  unfold rFine
  rw [isNone_no (p := fun i => !rAgOk p.ags i) hi (by simp only [h, Bool.not_false]), Bool.false_and, Bool.and_false])
theorem r41_lo {p : Prof} (h : okLo p.lo = false) : rCheck p = 41 := r41 (by
  unfold rFine
  rw [h, Bool.false_and, Bool.and_false, Bool.and_false])
theorem r41_w {p : Prof} {i : Nat} (hi : i < p.wants.length) (h : rWok p.lo (p.wants.getD i default) = false) : rCheck p = 41 := r41 (by
  unfold rFine
  rw [isNone_no (p := fun i => !rWok p.lo (p.wants.getD i default)) hi (by simp only [h, Bool.not_false]), Bool.and_false, Bool.and_false, Bool.and_false])
theorem r_ok {p : Prof} (h : 1 ≤ p.ags.length ∧ p.ags.length ≤ 16 ∧ 1 ≤ p.wants.length ∧ p.wants.length ≤ 32) (ha : ∀ i, i < p.ags.length → rAgOk p.ags i = true) (hlo : okLo p.lo = true) (hw : ∀ i, i < p.wants.length → rWok p.lo (p.wants.getD i default) = true) : rCheck p = if 4096 < rBndA p.ags p.wants p.ags.length then 32 else 0 := by
  unfold rCheck rFine
  rw [decide_eq_true h, isNone_all (fun i hi => by simp only [ha i hi, Bool.not_true]), hlo, isNone_all (fun i hi => by simp only [hw i hi, Bool.not_true])]
  rfl
theorem x_r35Check (p : Prof) (hp : ProfOk p) : XC Try.prog 28 [.ro (SL Ar.real PV.X p.ags), .ro (SL Ar.real Want.X p.wants), .agg (S4.X Ar.real p.lo)] [] (xi (rCheck p)) [] := by
  have q0 := r41_len (p := p)
  have q1 := fun i => r41_ag (p := p) (i := i)
  have q2 := r41_lo (p := p)
  have q3 := fun i => r41_w (p := p) (i := i)
  have q4 := r_ok (p := p)
  generalize rCheck p = res at *
  obtain ⟨l, ws, lo⟩ := p
  obtain ⟨hl, hws, hla, hwa⟩ := hp
  dsimp only at hl hws hla hwa q0 q1 q2 q3 q4 ⊢
  have hbd := x_r35Bound l ws hl hws hla hwa
  have hM0 : rAgTo l 0 = ⟨9007199254740992, 9007199254740992, 9007199254740992, 9007199254740992⟩ := rfl
  have hM1 : ∀ i, rAgTo l (i + 1) = ⟨IntKind.i64.wrap ((rAgTo l i).a - (sumsOf (l.getD i default)).a), IntKind.i64.wrap ((rAgTo l i).b - (sumsOf (l.getD i default)).b), IntKind.i64.wrap ((rAgTo l i).c - (sumsOf (l.getD i default)).c), IntKind.i64.wrap ((rAgTo l i).d - (sumsOf (l.getD i default)).d)⟩ := fun _ => rfl
  have hG : ∀ i, rAgOk l i = (nnS (rAgTo l (i + 1)) && rBare (l.getD i default)) := fun _ => rfl
  have hW : ∀ i, rWok lo (ws.getD i default) = (rBare (ws.getD i default).need && (decide (1 ≤ (ws.getD i default).weight ∧ (ws.getD i default).weight ≤ 1000) && sumsHolds (sumsOf (ws.getD i default).need) lo)) := fun _ => rfl
  have hLO : okLo lo = true ↔ (0 ≤ lo.a ∧ lo.a ≤ 9007199254740992) ∧ (0 ≤ lo.b ∧ lo.b ≤ 9007199254740992) ∧ (0 ≤ lo.c ∧ lo.c ≤ 9007199254740992) ∧ (0 ≤ lo.d ∧ lo.d ≤ 9007199254740992) := by
    simp [okLo, inTop]
  have hS1 := fun k => x_r06Of (l.getD k default) (hla k)
  have hB1 := fun k => x_r35bare (l.getD k default) (hla k)
  have hS2 := fun k => x_r06Of (ws.getD k default).need (hwa k)
  have hB2 := fun k => x_r35bare (ws.getD k default).need (hwa k)
  have hH2 := fun s => x_r06Holds s lo
  generalize rAgOk l = G at *
  generalize rAgTo l = M at *
  generalize rBndA l ws l.length = bnd at *
  generalize rWok lo = W at *
  generalize okLo lo = LO at *
  obtain ⟨a0, b0, c0, d0⟩ := lo
  dsimp only at hLO
  (refine XC.of_body ([(12, []), (23, [(29, 30)])]) Try.func28 rfl Try.ntmps28 mixed (T := [(2, ti2), (3, ti3), (4, ti4), (31, ti31), (47, ti47), (52, ti52), (57, ti57), (88, ti88), (123, ti123)]) (.cons tok2 (.cons tok3 (.cons tok4 (.cons tok31 (.cons tok47 (.cons tok52 (.cons tok57 (.cons tok88 (.cons tok123 .nil))))))))) (by kernel_rfl) (by simp) rfl rfl rfl rfl rfl ?_; rintro o ho P hP c K hK; have hm : P.follows .mixedOrders = true := hP ▸ mixed; have hT : TOk P [(2, ti2), (3, ti3), (4, ti4), (31, ti31), (47, ti47), (52, ti52), (57, ti57), (88, ti88), (123, ti123)] := hP ▸ (.cons tok2 (.cons tok3 (.cons tok4 (.cons tok31 (.cons tok47 (.cons tok52 (.cons tok57 (.cons tok88 (.cons tok123 .nil))))))))); (try rw [← ho]); cbv; (repeat (refine StopN.mk ?_; cbv)))
  repeat' (first | (refine Br.mk (fun hb => ?_) (fun hb => ?_) <;> ((try rw [ho] at hb); (try dsimp only [Ar.real, IX.vo] at hb); (try simp only [QB7] at hb); (try simp only [QBo, beq_iff_eq, beq_eq_false_iff_ne, ne_eq] at hb))) | (refine StopN.mk ?_; cbv) | ((first | refine CallI.pure hP (x_r06Holds _ _) fn35 (by first | rfl | (rw [ho]; done) | (rw [ho]; rfl)) (by rfl) (by first | rfl | (rw [ho]; done) | (rw [ho]; rfl)) ?_ | refine CallN.pure hP (x_r06Holds _ _) fn35 (by first | rfl | (rw [ho]; done) | (rw [ho]; rfl)) (by rfl) (by first | rfl | (rw [ho]; done) | (rw [ho]; rfl)) ?_); (try rw [← ho]); generalize hr : sumsHolds _ _ = r; (try rw [ho] at hr); (try dsimp only [Ar.real, IX.vo] at hr); (try simp only [QB7] at hr); cbv) | ((first | refine CallI.pure hP (x_r06Of _ ‹_›) fn45 (by first | rfl | (rw [ho]; done) | (rw [ho]; rfl)) (by rfl) (by first | rfl | (rw [ho]; done) | (rw [ho]; rfl)) ?_ | refine CallN.pure hP (x_r06Of _ ‹_›) fn45 (by first | rfl | (rw [ho]; done) | (rw [ho]; rfl)) (by rfl) (by first | rfl | (rw [ho]; done) | (rw [ho]; rfl)) ?_); (try rw [← ho]); generalize hr : sumsOf _ = r; (try rw [ho] at hr); (try dsimp only [Ar.real, IX.vo] at hr); (try simp only [QB7] at hr); cbv) | ((first | refine CallI.pure hP (x_r35bare _ ‹_›) fn75 (by first | rfl | (rw [ho]; done) | (rw [ho]; rfl)) (by rfl) (by first | rfl | (rw [ho]; done) | (rw [ho]; rfl)) ?_ | refine CallN.pure hP (x_r35bare _ ‹_›) fn75 (by first | rfl | (rw [ho]; done) | (rw [ho]; rfl)) (by rfl) (by first | rfl | (rw [ho]; done) | (rw [ho]; rfl)) ?_); (try rw [← ho]); generalize hr : rBare _ = r; (try rw [ho] at hr); (try dsimp only [Ar.real, IX.vo] at hr); (try simp only [QB7] at hr); cbv) | ((first | refine CallI.pure hP (x_r35Bound _ _ ‹_› ‹_› ‹_› ‹_›) fn76 (by first | rfl | (rw [ho]; done) | (rw [ho]; rfl)) (by rfl) (by first | rfl | (rw [ho]; done) | (rw [ho]; rfl)) ?_ | refine CallN.pure hP (x_r35Bound _ _ ‹_› ‹_› ‹_› ‹_›) fn76 (by first | rfl | (rw [ho]; done) | (rw [ho]; rfl)) (by rfl) (by first | rfl | (rw [ho]; done) | (rw [ho]; rfl)) ?_); (try rw [← ho]); generalize hr : rBndA _ _ _ = r; (try rw [ho] at hr); (try dsimp only [Ar.real, IX.vo] at hr); (try simp only [QB7] at hr); cbv) | (refine hK _ _ ?_) | (refine NeedT.mk ?_ ?_))
  iterate 4
    · rw [q0 (fun h => by ((try clear hR3); (try clear hR2); (try clear hR); (try clear hK); (try simp only [ncCast] at *); (try simp only [castI_eq] at *)); omega)]
      exact .i rfl
  have hlen : 1 ≤ l.length ∧ l.length ≤ 16 ∧ 1 ≤ ws.length ∧ ws.length ≤ 32 := by ((try clear hR3); (try clear hR2); (try clear hR); (try clear hK); (try simp only [ncCast] at *); (try simp only [castI_eq] at *)); omega
  refine LoopN.over (o := o) (D := [(12, []), (23, [(29, 30)])]) ho hm hT (by kernel_rfl) (fun a : Nat => [(9, xn a)]) (fun a => [(1, .var [xi (M a).a, xi (M a).b, xi (M a).c, xi (M a).d] 52)]) (fun _ => []) (fun a => a ≤ l.length ∧ ∀ k, k < a → G k = true) (fun a => l.length - a) 0 ⟨by omega, fun k hk => absurd hk (Nat.not_lt_zero k)⟩ ?_ ?_
  · refine ⟨(by cbv), by cbv; repeat' (first | trivial | exact EqX.rfl' | exact EqO.rfl' | apply And.intro | ((try clear hR3); (try clear hR2); (try clear hR); (try clear hK); (try simp only [ncCast] at *); (try simp only [castI_eq] at *); refine EqX.i ?_; (try rw [ho]); (try dsimp only [Ar.real, IX.vo, IX.val, BX.val, IX.toN]); (try simp only [QB7]); (repeat rw [wrap_i64 (by omega) (by omega)]); omega) | exact ⟨by rw [hM0]; rfl⟩), by cbv; repeat' (first | trivial | exact EqO.rfl' | apply And.intro | exact ⟨by rw [hM0]; rfl⟩), by cbv; repeat' (first | trivial | exact EqO.rfl' | apply And.intro | exact ⟨by rw [hM0]; rfl⟩)⟩
  · rintro i ⟨hi, hlt⟩ R hR
    have e1 := hM1 i
    have hg := hG i
    have hs := hS1 i
    have hb1 := hB1 i
    have en : o.nth l i = l.getD i default := by rw [ho, real_nth]
    generalize sumsOf (l.getD i default) = sv at *
    generalize rBare (l.getD i default) = b at *
    rw [← en, ← ho] at hs hb1
    generalize M i = mi at *
    obtain ⟨m1, m2, m3, m4⟩ := mi
    obtain ⟨s1, s2, s3, s4⟩ := sv
    dsimp only at e1
    rw [e1] at hg
    cbv
    repeat' (first | (refine Br.mk (fun hb => ?_) (fun hb => ?_) <;> ((try rw [ho] at hb); (try dsimp only [Ar.real, IX.vo] at hb); (try simp only [QB7] at hb); (try simp only [QBo, beq_iff_eq, beq_eq_false_iff_ne, ne_eq] at hb))) | (refine StopN.mk ?_; cbv) | (first | refine CallI.pure hP hs fn45 rfl rfl rfl ?_); cbv | ((first | refine CallI.pure hP (x_r06Holds _ _) fn35 (by first | rfl | (rw [ho]; done) | (rw [ho]; rfl)) (by rfl) (by first | rfl | (rw [ho]; done) | (rw [ho]; rfl)) ?_ | refine CallN.pure hP (x_r06Holds _ _) fn35 (by first | rfl | (rw [ho]; done) | (rw [ho]; rfl)) (by rfl) (by first | rfl | (rw [ho]; done) | (rw [ho]; rfl)) ?_); (try rw [← ho]); generalize hr : sumsHolds _ _ = r; (try rw [ho] at hr); (try dsimp only [Ar.real, IX.vo] at hr); (try simp only [QB7] at hr); cbv) | ((first | refine CallI.pure hP (x_r06Of _ ‹_›) fn45 (by first | rfl | (rw [ho]; done) | (rw [ho]; rfl)) (by rfl) (by first | rfl | (rw [ho]; done) | (rw [ho]; rfl)) ?_ | refine CallN.pure hP (x_r06Of _ ‹_›) fn45 (by first | rfl | (rw [ho]; done) | (rw [ho]; rfl)) (by rfl) (by first | rfl | (rw [ho]; done) | (rw [ho]; rfl)) ?_); (try rw [← ho]); generalize hr : sumsOf _ = r; (try rw [ho] at hr); (try dsimp only [Ar.real, IX.vo] at hr); (try simp only [QB7] at hr); cbv) | ((first | refine CallI.pure hP (x_r35bare _ ‹_›) fn75 (by first | rfl | (rw [ho]; done) | (rw [ho]; rfl)) (by rfl) (by first | rfl | (rw [ho]; done) | (rw [ho]; rfl)) ?_ | refine CallN.pure hP (x_r35bare _ ‹_›) fn75 (by first | rfl | (rw [ho]; done) | (rw [ho]; rfl)) (by rfl) (by first | rfl | (rw [ho]; done) | (rw [ho]; rfl)) ?_); (try rw [← ho]); generalize hr : rBare _ = r; (try rw [ho] at hr); (try dsimp only [Ar.real, IX.vo] at hr); (try simp only [QB7] at hr); cbv) | ((first | refine CallI.pure hP (x_r35Bound _ _ ‹_› ‹_› ‹_› ‹_›) fn76 (by first | rfl | (rw [ho]; done) | (rw [ho]; rfl)) (by rfl) (by first | rfl | (rw [ho]; done) | (rw [ho]; rfl)) ?_ | refine CallN.pure hP (x_r35Bound _ _ ‹_› ‹_› ‹_› ‹_›) fn76 (by first | rfl | (rw [ho]; done) | (rw [ho]; rfl)) (by rfl) (by first | rfl | (rw [ho]; done) | (rw [ho]; rfl)) ?_); (try rw [← ho]); generalize hr : rBndA _ _ _ = r; (try rw [ho] at hr); (try dsimp only [Ar.real, IX.vo] at hr); (try simp only [QB7] at hr); cbv) | (refine hK _ _ ?_) | (refine NeedT.mk ?_ ?_))
    any_goals (((try clear hR3); (try clear hR2); (try clear hR); (try clear hK); (try simp only [ncCast] at *); (try simp only [castI_eq] at *); (try rw [ho]); (try dsimp only [Ar.real, IX.vo, IX.val, BX.val, IX.toN]); (try simp only [QB7]); (try simp only [decide_eq_true_eq]); (all_goals (repeat rw [wrap_i64 (by omega) (by omega)])); (all_goals (first | omega | (simp only [Int.ofNat_eq_natCast]; omega)))); done)
    · (refine LoopN.lay (o := o) (D := [(12, []), (23, [(29, 30)])]) 5 ho hm hT (by kernel_rfl) ?_; cbv)
      repeat' (first | (refine Br.mk (fun hb => ?_) (fun hb => ?_) <;> ((try rw [ho] at hb); (try dsimp only [Ar.real, IX.vo] at hb); (try simp only [QB7] at hb); (try simp only [QBo, beq_iff_eq, beq_eq_false_iff_ne, ne_eq] at hb))) | (refine StopN.mk ?_; cbv) | (first | refine CallN.pure hP hb1 fn75 rfl rfl rfl ?_ | refine CallI.pure hP hb1 fn75 rfl rfl rfl ?_); cbv | ((first | refine CallI.pure hP (x_r06Holds _ _) fn35 (by first | rfl | (rw [ho]; done) | (rw [ho]; rfl)) (by rfl) (by first | rfl | (rw [ho]; done) | (rw [ho]; rfl)) ?_ | refine CallN.pure hP (x_r06Holds _ _) fn35 (by first | rfl | (rw [ho]; done) | (rw [ho]; rfl)) (by rfl) (by first | rfl | (rw [ho]; done) | (rw [ho]; rfl)) ?_); (try rw [← ho]); generalize hr : sumsHolds _ _ = r; (try rw [ho] at hr); (try dsimp only [Ar.real, IX.vo] at hr); (try simp only [QB7] at hr); cbv) | ((first | refine CallI.pure hP (x_r06Of _ ‹_›) fn45 (by first | rfl | (rw [ho]; done) | (rw [ho]; rfl)) (by rfl) (by first | rfl | (rw [ho]; done) | (rw [ho]; rfl)) ?_ | refine CallN.pure hP (x_r06Of _ ‹_›) fn45 (by first | rfl | (rw [ho]; done) | (rw [ho]; rfl)) (by rfl) (by first | rfl | (rw [ho]; done) | (rw [ho]; rfl)) ?_); (try rw [← ho]); generalize hr : sumsOf _ = r; (try rw [ho] at hr); (try dsimp only [Ar.real, IX.vo] at hr); (try simp only [QB7] at hr); cbv) | ((first | refine CallI.pure hP (x_r35bare _ ‹_›) fn75 (by first | rfl | (rw [ho]; done) | (rw [ho]; rfl)) (by rfl) (by first | rfl | (rw [ho]; done) | (rw [ho]; rfl)) ?_ | refine CallN.pure hP (x_r35bare _ ‹_›) fn75 (by first | rfl | (rw [ho]; done) | (rw [ho]; rfl)) (by rfl) (by first | rfl | (rw [ho]; done) | (rw [ho]; rfl)) ?_); (try rw [← ho]); generalize hr : rBare _ = r; (try rw [ho] at hr); (try dsimp only [Ar.real, IX.vo] at hr); (try simp only [QB7] at hr); cbv) | ((first | refine CallI.pure hP (x_r35Bound _ _ ‹_› ‹_› ‹_› ‹_›) fn76 (by first | rfl | (rw [ho]; done) | (rw [ho]; rfl)) (by rfl) (by first | rfl | (rw [ho]; done) | (rw [ho]; rfl)) ?_ | refine CallN.pure hP (x_r35Bound _ _ ‹_› ‹_› ‹_› ‹_›) fn76 (by first | rfl | (rw [ho]; done) | (rw [ho]; rfl)) (by rfl) (by first | rfl | (rw [ho]; done) | (rw [ho]; rfl)) ?_); (try rw [← ho]); generalize hr : rBndA _ _ _ = r; (try rw [ho] at hr); (try dsimp only [Ar.real, IX.vo] at hr); (try simp only [QB7] at hr); cbv) | (refine hK _ _ ?_) | (refine NeedT.mk ?_ ?_))
      any_goals (((try clear hR3); (try clear hR2); (try clear hR); (try clear hK); (try simp only [ncCast] at *); (try simp only [castI_eq] at *); (try rw [ho]); (try dsimp only [Ar.real, IX.vo, IX.val, BX.val, IX.toN]); (try simp only [QB7]); (try simp only [decide_eq_true_eq]); (all_goals (repeat rw [wrap_i64 (by omega) (by omega)])); (all_goals (first | omega | (simp only [Int.ofNat_eq_natCast]; omega)))); done)
      iterate 8
        · rw [q1 i (by ((try clear hR3); (try clear hR2); (try clear hR); (try clear hK); (try simp only [ncCast] at *); (try simp only [castI_eq] at *)); omega) (by
            rw [hg, Bool.and_eq_false_iff]
            first
              | exact .inr (by assumption)
              | (left
                 ((try clear hR3); (try clear hR2); (try clear hR); (try clear hK); (try simp only [ncCast] at *); (try simp only [castI_eq] at *))
                 refine decide_eq_false fun h => ?_
                 dsimp only at h
                 omega))]
          exact .i rfl
      refine hR _ (i + 1) (by show l.length - (i + 1) < l.length - i; ((try clear hR3); (try clear hR2); (try clear hR); (try clear hK); (try simp only [ncCast] at *); (try simp only [castI_eq] at *)); omega) ⟨by show i + 1 ≤ l.length; ((try clear hR3); (try clear hR2); (try clear hR); (try clear hK); (try simp only [ncCast] at *); (try simp only [castI_eq] at *)); omega, fun k hk => ?_⟩ ?_
      · rcases Nat.lt_or_ge k i with h5 | h5
        · exact hlt k h5
        · obtain rfl : k = i := by
            have hk' : k < i + 1 := hk
            clear hk
            ((try clear hR3); (try clear hR2); (try clear hR); (try clear hK); (try simp only [ncCast] at *); (try simp only [castI_eq] at *))
            omega
          ((try clear hR3); (try clear hR2); (try clear hR); (try clear hK); (try simp only [ncCast] at *); (try simp only [castI_eq] at *))
          rw [hg, ‹b = true›, Bool.and_true]
          refine decide_eq_true ⟨?_, ?_, ?_, ?_⟩ <;> dsimp only <;> omega
      · refine ⟨(by cbv), by cbv; repeat' (first | trivial | exact EqX.rfl' | exact EqO.rfl' | apply And.intro | ((try clear hR3); (try clear hR2); (try clear hR); (try clear hK); (try simp only [ncCast] at *); (try simp only [castI_eq] at *); refine EqX.i ?_; (try rw [ho]); (try dsimp only [Ar.real, IX.vo, IX.val, BX.val, IX.toN]); (try simp only [QB7]); (repeat rw [wrap_i64 (by omega) (by omega)]); omega) | exact ⟨by rw [e1, ho]; rfl⟩), by cbv; repeat' (first | trivial | exact EqO.rfl' | apply And.intro | exact ⟨by rw [e1, ho]; rfl⟩), by cbv; repeat' (first | trivial | exact EqO.rfl' | apply And.intro | exact ⟨by rw [e1, ho]; rfl⟩)⟩
    · obtain rfl : i = l.length := by ((try clear hR3); (try clear hR2); (try clear hR); (try clear hK); (try simp only [ncCast] at *); (try simp only [castI_eq] at *)); omega
      (refine LoopN.lay (o := o) (D := [(12, []), (23, [(29, 30)])]) 5 ho hm hT (by kernel_rfl) ?_; cbv)
      repeat' (first | (refine Br.mk (fun hb => ?_) (fun hb => ?_) <;> ((try rw [ho] at hb); (try dsimp only [Ar.real, IX.vo] at hb); (try simp only [QB7] at hb); (try simp only [QBo, beq_iff_eq, beq_eq_false_iff_ne, ne_eq] at hb))) | (refine StopN.mk ?_; cbv) | ((first | refine CallI.pure hP (x_r06Holds _ _) fn35 (by first | rfl | (rw [ho]; done) | (rw [ho]; rfl)) (by rfl) (by first | rfl | (rw [ho]; done) | (rw [ho]; rfl)) ?_ | refine CallN.pure hP (x_r06Holds _ _) fn35 (by first | rfl | (rw [ho]; done) | (rw [ho]; rfl)) (by rfl) (by first | rfl | (rw [ho]; done) | (rw [ho]; rfl)) ?_); (try rw [← ho]); generalize hr : sumsHolds _ _ = r; (try rw [ho] at hr); (try dsimp only [Ar.real, IX.vo] at hr); (try simp only [QB7] at hr); cbv) | ((first | refine CallI.pure hP (x_r06Of _ ‹_›) fn45 (by first | rfl | (rw [ho]; done) | (rw [ho]; rfl)) (by rfl) (by first | rfl | (rw [ho]; done) | (rw [ho]; rfl)) ?_ | refine CallN.pure hP (x_r06Of _ ‹_›) fn45 (by first | rfl | (rw [ho]; done) | (rw [ho]; rfl)) (by rfl) (by first | rfl | (rw [ho]; done) | (rw [ho]; rfl)) ?_); (try rw [← ho]); generalize hr : sumsOf _ = r; (try rw [ho] at hr); (try dsimp only [Ar.real, IX.vo] at hr); (try simp only [QB7] at hr); cbv) | ((first | refine CallI.pure hP (x_r35bare _ ‹_›) fn75 (by first | rfl | (rw [ho]; done) | (rw [ho]; rfl)) (by rfl) (by first | rfl | (rw [ho]; done) | (rw [ho]; rfl)) ?_ | refine CallN.pure hP (x_r35bare _ ‹_›) fn75 (by first | rfl | (rw [ho]; done) | (rw [ho]; rfl)) (by rfl) (by first | rfl | (rw [ho]; done) | (rw [ho]; rfl)) ?_); (try rw [← ho]); generalize hr : rBare _ = r; (try rw [ho] at hr); (try dsimp only [Ar.real, IX.vo] at hr); (try simp only [QB7] at hr); cbv) | ((first | refine CallI.pure hP (x_r35Bound _ _ ‹_› ‹_› ‹_› ‹_›) fn76 (by first | rfl | (rw [ho]; done) | (rw [ho]; rfl)) (by rfl) (by first | rfl | (rw [ho]; done) | (rw [ho]; rfl)) ?_ | refine CallN.pure hP (x_r35Bound _ _ ‹_› ‹_› ‹_› ‹_›) fn76 (by first | rfl | (rw [ho]; done) | (rw [ho]; rfl)) (by rfl) (by first | rfl | (rw [ho]; done) | (rw [ho]; rfl)) ?_); (try rw [← ho]); generalize hr : rBndA _ _ _ = r; (try rw [ho] at hr); (try dsimp only [Ar.real, IX.vo] at hr); (try simp only [QB7] at hr); cbv) | (refine hK _ _ ?_) | (refine NeedT.mk ?_ ?_))
      iterate 8
        · rw [q2 (Bool.eq_false_iff.2 fun h => by
            rw [hLO] at h
            ((try clear hR3); (try clear hR2); (try clear hR); (try clear hK); (try simp only [ncCast] at *); (try simp only [castI_eq] at *))
            omega)]
          exact .i rfl
      have hLO1 : LO = true := hLO.2 (by ((try clear hR3); (try clear hR2); (try clear hR); (try clear hK); (try simp only [ncCast] at *); (try simp only [castI_eq] at *)); omega)
      clear hR R
      refine LoopN.over (o := o) (D := [(12, []), (23, [(29, 30)])]) ho hm hT (by kernel_rfl) (fun a : Nat => [(13, xn a)]) (fun _ => []) (fun _ => []) (fun a => a ≤ ws.length ∧ ∀ k, k < a → W (ws.getD k default) = true) (fun a => ws.length - a) 0 ⟨by omega, fun k hk => absurd hk (Nat.not_lt_zero k)⟩ ?_ ?_
      · refine ⟨(by cbv), by cbv; repeat' (first | trivial | exact EqX.rfl' | exact EqO.rfl' | apply And.intro | ((try clear hR3); (try clear hR2); (try clear hR); (try clear hK); (try simp only [ncCast] at *); (try simp only [castI_eq] at *); refine EqX.i ?_; (try rw [ho]); (try dsimp only [Ar.real, IX.vo, IX.val, BX.val, IX.toN]); (try simp only [QB7]); (repeat rw [wrap_i64 (by omega) (by omega)]); omega)), by cbv; repeat' (first | trivial | exact EqO.rfl' | apply And.intro), by cbv; repeat' (first | trivial | exact EqO.rfl' | apply And.intro)⟩
      · rintro j ⟨hj, hlw⟩ R hR
        have hw := hW j
        have hs := hS2 j
        have hb1 := hB2 j
        have hh := hH2 (sumsOf (ws.getD j default).need)
        have en : o.nth ws j = ws.getD j default := by rw [ho, real_nth]
        generalize rBare (ws.getD j default).need = b at *
        generalize sumsOf (ws.getD j default).need = sv at *
        generalize sumsHolds sv _ = hd at *
        rw [← en, ← ho] at hs hb1
        rw [← ho] at hh hbd
        cbv
        repeat' (first | (refine Br.mk (fun hb => ?_) (fun hb => ?_) <;> ((try rw [ho] at hb); (try dsimp only [Ar.real, IX.vo] at hb); (try simp only [QB7] at hb); (try simp only [QBo, beq_iff_eq, beq_eq_false_iff_ne, ne_eq] at hb))) | (refine StopN.mk ?_; cbv) | (first | refine CallN.pure hP hs fn45 rfl rfl rfl ?_ | refine CallN.pure hP hb1 fn75 rfl rfl rfl ?_ | refine CallN.pure hP hh fn35 rfl rfl rfl ?_ | refine CallI.pure hP hbd fn76 rfl rfl rfl ?_); cbv | ((first | refine CallI.pure hP (x_r06Holds _ _) fn35 (by first | rfl | (rw [ho]; done) | (rw [ho]; rfl)) (by rfl) (by first | rfl | (rw [ho]; done) | (rw [ho]; rfl)) ?_ | refine CallN.pure hP (x_r06Holds _ _) fn35 (by first | rfl | (rw [ho]; done) | (rw [ho]; rfl)) (by rfl) (by first | rfl | (rw [ho]; done) | (rw [ho]; rfl)) ?_); (try rw [← ho]); generalize hr : sumsHolds _ _ = r; (try rw [ho] at hr); (try dsimp only [Ar.real, IX.vo] at hr); (try simp only [QB7] at hr); cbv) | ((first | refine CallI.pure hP (x_r06Of _ ‹_›) fn45 (by first | rfl | (rw [ho]; done) | (rw [ho]; rfl)) (by rfl) (by first | rfl | (rw [ho]; done) | (rw [ho]; rfl)) ?_ | refine CallN.pure hP (x_r06Of _ ‹_›) fn45 (by first | rfl | (rw [ho]; done) | (rw [ho]; rfl)) (by rfl) (by first | rfl | (rw [ho]; done) | (rw [ho]; rfl)) ?_); (try rw [← ho]); generalize hr : sumsOf _ = r; (try rw [ho] at hr); (try dsimp only [Ar.real, IX.vo] at hr); (try simp only [QB7] at hr); cbv) | ((first | refine CallI.pure hP (x_r35bare _ ‹_›) fn75 (by first | rfl | (rw [ho]; done) | (rw [ho]; rfl)) (by rfl) (by first | rfl | (rw [ho]; done) | (rw [ho]; rfl)) ?_ | refine CallN.pure hP (x_r35bare _ ‹_›) fn75 (by first | rfl | (rw [ho]; done) | (rw [ho]; rfl)) (by rfl) (by first | rfl | (rw [ho]; done) | (rw [ho]; rfl)) ?_); (try rw [← ho]); generalize hr : rBare _ = r; (try rw [ho] at hr); (try dsimp only [Ar.real, IX.vo] at hr); (try simp only [QB7] at hr); cbv) | ((first | refine CallI.pure hP (x_r35Bound _ _ ‹_› ‹_› ‹_› ‹_›) fn76 (by first | rfl | (rw [ho]; done) | (rw [ho]; rfl)) (by rfl) (by first | rfl | (rw [ho]; done) | (rw [ho]; rfl)) ?_ | refine CallN.pure hP (x_r35Bound _ _ ‹_› ‹_› ‹_› ‹_›) fn76 (by first | rfl | (rw [ho]; done) | (rw [ho]; rfl)) (by rfl) (by first | rfl | (rw [ho]; done) | (rw [ho]; rfl)) ?_); (try rw [← ho]); generalize hr : rBndA _ _ _ = r; (try rw [ho] at hr); (try dsimp only [Ar.real, IX.vo] at hr); (try simp only [QB7] at hr); cbv) | (refine hK _ _ ?_) | (refine NeedT.mk ?_ ?_))
        any_goals (((try clear hR3); (try clear hR2); (try clear hR); (try clear hK); (try simp only [ncCast] at *); (try simp only [castI_eq] at *); (try rw [ho]); (try dsimp only [Ar.real, IX.vo, IX.val, BX.val, IX.toN]); (try simp only [QB7]); (try simp only [decide_eq_true_eq]); (all_goals (repeat rw [wrap_i64 (by omega) (by omega)])); (all_goals (first | omega | (simp only [Int.ofNat_eq_natCast]; omega)))); done)
        iterate 4
          · rw [q3 j (by ((try clear hR3); (try clear hR2); (try clear hR); (try clear hK); (try simp only [ncCast] at *); (try simp only [castI_eq] at *)); omega) (by
              rw [hw]
              refine Bool.eq_false_iff.2 fun h => ?_
              simp only [Bool.and_eq_true, decide_eq_true_eq] at h
              ((try clear hR3); (try clear hR2); (try clear hR); (try clear hK); (try simp only [ncCast] at *); (try simp only [castI_eq] at *))
              first | omega | (rw [‹b = false›] at h; exact absurd h.1 (by decide)) | (rw [‹hd = false›] at h; exact absurd h.2.2 (by decide)))]
            exact .i rfl
        · refine hR _ (j + 1) (by show ws.length - (j + 1) < ws.length - j; ((try clear hR3); (try clear hR2); (try clear hR); (try clear hK); (try simp only [ncCast] at *); (try simp only [castI_eq] at *)); omega) ⟨by show j + 1 ≤ ws.length; ((try clear hR3); (try clear hR2); (try clear hR); (try clear hK); (try simp only [ncCast] at *); (try simp only [castI_eq] at *)); omega, fun k hk => ?_⟩ ?_
          · rcases Nat.lt_or_ge k j with h5 | h5
            · exact hlw k h5
            · obtain rfl : k = j := by
                have hk' : k < j + 1 := hk
                clear hk
                ((try clear hR3); (try clear hR2); (try clear hR); (try clear hK); (try simp only [ncCast] at *); (try simp only [castI_eq] at *))
                omega
              rw [hw, ‹b = true›, ‹hd = true›, Bool.true_and, Bool.and_true]
              exact decide_eq_true (by ((try clear hR3); (try clear hR2); (try clear hR); (try clear hK); (try simp only [ncCast] at *); (try simp only [castI_eq] at *)); omega)
          · refine ⟨(by cbv), by cbv; repeat' (first | trivial | exact EqX.rfl' | exact EqO.rfl' | apply And.intro | ((try clear hR3); (try clear hR2); (try clear hR); (try clear hK); (try simp only [ncCast] at *); (try simp only [castI_eq] at *); refine EqX.i ?_; (try rw [ho]); (try dsimp only [Ar.real, IX.vo, IX.val, BX.val, IX.toN]); (try simp only [QB7]); (repeat rw [wrap_i64 (by omega) (by omega)]); omega)), by cbv; repeat' (first | trivial | exact EqO.rfl' | apply And.intro), by cbv; repeat' (first | trivial | exact EqO.rfl' | apply And.intro)⟩
        all_goals
          obtain rfl : j = ws.length := by ((try clear hR3); (try clear hR2); (try clear hR); (try clear hK); (try simp only [ncCast] at *); (try simp only [castI_eq] at *)); omega
          rw [q4 hlen hlt hLO1 hlw]
        · rw [if_pos (by ((try clear hR3); (try clear hR2); (try clear hR); (try clear hK); (try simp only [ncCast] at *); (try simp only [castI_eq] at *)); omega)]
          exact .i rfl
        · rw [if_neg (by ((try clear hR3); (try clear hR2); (try clear hR); (try clear hK); (try simp only [ncCast] at *); (try simp only [castI_eq] at *)); omega)]
          exact .i rfl
end Go.Proofs.Ytddgcegimmcbgaa.Sy

set_option linter.unusedSectionVars false
namespace Go.Proofs.Ytddgcegimmcbgaa.Sy
open Go Go.Sy Go.Proofs.Ytddgcegimmcbgaa
set_option maxRecDepth 100000
set_option maxHeartbeats 8000000
set_option linter.unusedVariables false
set_option linter.unusedSimpArgs false

def rSh (v : List Part) (ws : List Want) (seq : List Int) (k : Nat) : Shr := ⟨(rPart v ws seq k).num, (rPart v ws seq k).den, (ws.getD k default).weight⟩
def rFit (ws : List Want) (rest : List Part) (k : Nat) : Bool := rHolds rest (ws.getD k default).need
def rWorse (v : List Part) (ws : List Want) (seq : List Int) (rest : List Part) (i k : Nat) : Bool := rFit ws rest k && decide (rShrCmp (rSh v ws seq k) (rSh v ws seq i) < 0)
def rLst (v : List Part) (ws : List Want) (seq : List Int) (rest : List Part) (i : Nat) : Nat → Bool
  | 0 => rFit ws rest i
  | k + 1 => if rWorse v ws seq rest i k = true then false else rLst v ws seq rest i k
def rNextTo (v : List Part) (ws : List Want) (seq : List Int) (rest : List Part) : Nat → List Int
  | 0 => []
  | i + 1 => if rLst v ws seq rest i ws.length = true then rNextTo v ws seq rest i ++ [(i : Int)] else rNextTo v ws seq rest i
def rNext (v : List Part) (ws : List Want) (seq : List Int) : List Int :=
  if rCheck (prof1 v ws) = 0 then (if (rLeft v ws seq).2 = true then rNextTo v ws seq (rLeft v ws seq).1 ws.length else []) else []
theorem rNextTo_len (v : List Part) (ws : List Want) (seq : List Int) (rest : List Part) : ∀ n, (rNextTo v ws seq rest n).length ≤ n
  | 0 => by simp [rNextTo]
  | n + 1 => by
    have := rNextTo_len v ws seq rest n
    simp only [rNextTo]
    split
    · simp; omega
    · omega
theorem rLeft_len (v : List Part) (ws : List Want) (seq : List Int) : (rLeft v ws seq).1.length ≤ v.length := by
  have h : ∀ i r, rLeftTo v ws seq i = some r → r.length ≤ v.length := by
    intro i
    induction i with
    | zero => intro r h; cases h; exact Nat.le_refl _
    | succ i ih =>
      intro r h
      simp only [rLeftTo] at h
      obtain ⟨r1, h1, h2⟩ := Option.bind_eq_some_iff.1 h
      have h3 := ih r1 h1
      unfold rLeftStep at h2
      split at h2
      · split at h2
        · cases h2
          exact Nat.le_trans (rSub_len _ _) h3
        · cases h2
      · cases h2
  unfold rLeft
  cases e : rLeftTo v ws seq seq.length with
  | some r => exact h _ r e
  | none => exact Nat.zero_le _
structure StX where
  i : Nat
  rv : Nat
  out : List Int
theorem x_r37Next (v : List Part) (ws : List Want) (seq : List Int) (hp : ProfOk (prof1 v ws)) (hv : v.length ≤ 1048576) (hseq : seq.length ≤ 1048576) : XC Try.prog 25 [.ro (SL Ar.real Part.X v), .ro (SL Ar.real Want.X ws), .ro (SL Ar.real encI seq)] [] (.ro (SL Ar.real encI (rNext v ws seq))) [] := by
  have hws : ws.length ≤ 1048576 := hp.nw
  have hwa : ∀ k, (ws.getD k default).need.length ≤ 1048576 := hp.w
  have q0 : rCheck (prof1 v ws) ≠ 0 → rNext v ws seq = [] := fun h => if_neg h
  have q1 : rCheck (prof1 v ws) = 0 → (rLeft v ws seq).2 = false → rNext v ws seq = [] := fun h h' => by
    unfold rNext
    rw [if_pos h, h']
    rfl
  have q2 : rCheck (prof1 v ws) = 0 → (rLeft v ws seq).2 = true → rNext v ws seq = rNextTo v ws seq (rLeft v ws seq).1 ws.length := fun h h' => by
    unfold rNext
    rw [if_pos h, if_pos h']
  have hCk := x_r35Check (prof1 v ws) hp
  have hLf := x_r37left v ws seq hv hws hwa hseq
  have hPt := fun (x : Int) (h : 0 ≤ x ∧ x < ws.length) => x_r37part v ws seq x hv hwa hseq h
  have hCm := x_r07Cmp
  have hrl : (rLeft v ws seq).1.length ≤ 1048576 := Nat.le_trans (rLeft_len v ws seq) hv
  have hH := fun (rest : List Part) (h : rest.length ≤ 1048576) k => x_r05Holds rest (ws.getD k default).need h (hwa k)
  generalize rNext v ws seq = res at *
  generalize rLeft v ws seq = lf at *
  obtain ⟨rest, okk⟩ := lf
  dsimp only at q1 q2 hLf hrl
  have hN0 : rNextTo v ws seq rest 0 = [] := rfl
  have hN1 : ∀ i, rNextTo v ws seq rest (i + 1) = if rLst v ws seq rest i ws.length = true then rNextTo v ws seq rest i ++ [(i : Int)] else rNextTo v ws seq rest i := fun _ => rfl
  have hNl := rNextTo_len v ws seq rest
  have hL0 : ∀ i, rLst v ws seq rest i 0 = rFit ws rest i := fun _ => rfl
  have hL1 : ∀ i k, rLst v ws seq rest i (k + 1) = if rWorse v ws seq rest i k = true then false else rLst v ws seq rest i k := fun _ _ => rfl
  have hWo : ∀ i k, rWorse v ws seq rest i k = (rFit ws rest k && decide (rShrCmp (rSh v ws seq k) (rSh v ws seq i) < 0)) := fun _ _ => rfl
  have hSh : ∀ k, rSh v ws seq k = ⟨(rPart v ws seq k).num, (rPart v ws seq k).den, (ws.getD k default).weight⟩ := fun _ => rfl
  have hH2 : ∀ k, rFit ws rest k = rHolds rest (ws.getD k default).need := fun _ => rfl
  have hH1 := hH rest hrl
  simp only [← hH2] at hH1
  clear hH hH2
  generalize rNextTo v ws seq rest = M at *
  generalize rLst v ws seq rest = L at *
  generalize rWorse v ws seq rest = Wo at *
  generalize rFit ws rest = F at *
  generalize hpt : rPart v ws seq = pt at *
  generalize hsh : rSh v ws seq = sh at *
  generalize hck : rCheck (prof1 v ws) = ck at *
  clear hCk
  (refine XC.of_body ([(15, [(12, 15), (12, 16), (12, 17), (15, 22), (16, 22), (17, 22), (12, 25), (22, 25), (12, 26), (22, 26), (12, 27), (22, 27)])]) Try.func25 rfl Try.ntmps25 mixed (T := [(2, ti2), (3, ti3), (4, ti4), (31, ti31), (43, ti43), (47, ti47), (52, ti52), (57, ti57), (88, ti88), (123, ti123)]) (.cons tok2 (.cons tok3 (.cons tok4 (.cons tok31 (.cons tok43 (.cons tok47 (.cons tok52 (.cons tok57 (.cons tok88 (.cons tok123 .nil)))))))))) (by kernel_rfl) (by simp) rfl rfl rfl rfl rfl ?_; rintro o ho P hP c K hK; have hm : P.follows .mixedOrders = true := hP ▸ mixed; have hT : TOk P [(2, ti2), (3, ti3), (4, ti4), (31, ti31), (43, ti43), (47, ti47), (52, ti52), (57, ti57), (88, ti88), (123, ti123)] := hP ▸ (.cons tok2 (.cons tok3 (.cons tok4 (.cons tok31 (.cons tok43 (.cons tok47 (.cons tok52 (.cons tok57 (.cons tok88 (.cons tok123 .nil)))))))))); (try rw [← ho]); cbv; (repeat (refine StopN.mk ?_; cbv)))
  rw [← ho] at hLf
  repeat' (first | (refine Br.mk (fun hb => ?_) (fun hb => ?_) <;> ((try rw [ho] at hb); (try dsimp only [Ar.real, IX.vo] at hb); (try simp only [QB7] at hb); (try simp only [QBo, beq_iff_eq, beq_eq_false_iff_ne, ne_eq] at hb))) | (refine StopN.mk ?_; cbv) | (first | refine CallI.pure hP hLf fn71 rfl rfl rfl ?_); cbv | ((first | refine CallI.pure hP (x_r35Check _ ‹_›) fn28 (by first | rfl | (rw [ho]; done) | (rw [ho]; rfl)) (by rfl) (by first | rfl | (rw [ho]; done) | (rw [ho]; rfl)) ?_ | refine CallN.pure hP (x_r35Check _ ‹_›) fn28 (by first | rfl | (rw [ho]; done) | (rw [ho]; rfl)) (by rfl) (by first | rfl | (rw [ho]; done) | (rw [ho]; rfl)) ?_); (try rw [← ho]); generalize hr : rCheck _ = r; (try rw [ho] at hr); (try dsimp only [Ar.real, IX.vo] at hr); (try simp only [QB7] at hr); cbv) | ((first | refine CallI.pure hP (x_r05Holds _ _ ‹_› ‹_›) fn72 (by first | rfl | (rw [ho]; done) | (rw [ho]; rfl)) (by rfl) (by first | rfl | (rw [ho]; done) | (rw [ho]; rfl)) ?_ | refine CallN.pure hP (x_r05Holds _ _ ‹_› ‹_›) fn72 (by first | rfl | (rw [ho]; done) | (rw [ho]; rfl)) (by rfl) (by first | rfl | (rw [ho]; done) | (rw [ho]; rfl)) ?_); (try rw [← ho]); generalize hr : rHolds _ _ = r; (try rw [ho] at hr); (try dsimp only [Ar.real, IX.vo] at hr); (try simp only [QB7] at hr); cbv) | ((first | refine CallI.pure hP (x_r07Cmp _ _) fn73 (by first | rfl | (rw [ho]; done) | (rw [ho]; rfl)) (by rfl) (by first | rfl | (rw [ho]; done) | (rw [ho]; rfl)) ?_ | refine CallN.pure hP (x_r07Cmp _ _) fn73 (by first | rfl | (rw [ho]; done) | (rw [ho]; rfl)) (by rfl) (by first | rfl | (rw [ho]; done) | (rw [ho]; rfl)) ?_); (try rw [← ho]); generalize hr : rShrCmp _ _ = r; (try rw [ho] at hr); (try dsimp only [Ar.real, IX.vo] at hr); (try simp only [QB7] at hr); cbv) | (refine hK _ _ ?_) | (refine NeedT.mk ?_ ?_))
  · rw [q0 (fun h => hb (hr.symm.trans (hck.trans h)))]
    exact .ro (rows_nil_SL Ar.real rfl encI)
  all_goals have hc0 : ck = 0 := hck.symm.trans (hr.trans (by assumption))
  · rw [q1 hc0 (by assumption)]
    exact .ro (rows_nil_SL Ar.real rfl encI)
  have q3 := q2 hc0 (by assumption)
  clear q0 q1 q2
  refine LoopN.ghost 10 3 1 rfl ?_
  refine LoopN.over (o := o) (D := [(15, [(12, 15), (12, 16), (12, 17), (15, 22), (16, 22), (17, 22), (12, 25), (22, 25), (12, 26), (22, 26), (12, 27), (22, 27)])]) ho hm hT (by kernel_rfl) (fun s : StX => [(11, xn s.i), (10, .own (.loc 1) s.rv)]) (fun s => [(1, .row s.rv 3 1 (SL o encI s.out))]) (fun _ => []) (fun s => s.i ≤ ws.length ∧ s.out = M s.i) (fun s => ws.length - s.i) ⟨0, 0, []⟩ ⟨Nat.zero_le _, hN0.symm⟩ ?_ ?_
  · refine ⟨(by cbv), by cbv; repeat' (first | trivial | exact EqX.rfl' | exact EqO.rfl' | apply And.intro | ((try clear hR3); (try clear hR2); (try clear hR); (try clear hK); (try simp only [ncCast] at *); (try simp only [castI_eq] at *); refine EqX.i ?_; (try rw [ho]); (try dsimp only [Ar.real, IX.vo, IX.val, BX.val, IX.toN]); (try simp only [QB7]); (repeat rw [wrap_i64 (by omega) (by omega)]); omega) | exact EqO.row rfl (rows_nil_SL o ho encI)), by cbv; repeat' (first | trivial | exact EqO.rfl' | apply And.intro | exact EqO.row rfl (rows_nil_SL o ho encI)), by cbv; repeat' (first | trivial | exact EqO.rfl' | apply And.intro | exact EqO.row rfl (rows_nil_SL o ho encI))⟩
  · rintro ⟨i, rv, out⟩ ⟨hi, hout⟩ R hR
    dsimp only at hi hout
    have e1 := hN1 i
    have hol := hNl i
    rw [← hout] at e1 hol
    obtain ⟨out', hout'⟩ : ∃ q, q = M (i + 1) := ⟨_, rfl⟩
    rw [← hout'] at e1
    have f0 := hL0 i
    have f1 := hL1 i
    have hHi := hH1 i
    have hPi := fun (h : i < ws.length) => hPt (i : Int) ⟨Int.natCast_nonneg i, Int.ofNat_lt.2 h⟩
    have hSi := hSh i
    have hWi := hWo i
    have en : o.nth ws i = ws.getD i default := by rw [ho, real_nth]
    generalize L i = Li at *
    generalize hpi : pt (i : Int) = pi at *
    rw [← en, ← ho] at hHi
    rw [← ho] at hPi
    cbv
    repeat' (first | (refine Br.mk (fun hb => ?_) (fun hb => ?_) <;> ((try rw [ho] at hb); (try dsimp only [Ar.real, IX.vo] at hb); (try simp only [QB7] at hb); (try simp only [QBo, beq_iff_eq, beq_eq_false_iff_ne, ne_eq] at hb))) | (refine StopN.mk ?_; cbv) | (first | refine CallI.pure hP hHi fn72 rfl rfl rfl ?_ | refine CallN.pure hP hHi fn72 rfl rfl rfl ?_); cbv | ((first | refine CallI.pure hP (x_r35Check _ ‹_›) fn28 (by first | rfl | (rw [ho]; done) | (rw [ho]; rfl)) (by rfl) (by first | rfl | (rw [ho]; done) | (rw [ho]; rfl)) ?_ | refine CallN.pure hP (x_r35Check _ ‹_›) fn28 (by first | rfl | (rw [ho]; done) | (rw [ho]; rfl)) (by rfl) (by first | rfl | (rw [ho]; done) | (rw [ho]; rfl)) ?_); (try rw [← ho]); generalize hr : rCheck _ = r; (try rw [ho] at hr); (try dsimp only [Ar.real, IX.vo] at hr); (try simp only [QB7] at hr); cbv) | ((first | refine CallI.pure hP (x_r05Holds _ _ ‹_› ‹_›) fn72 (by first | rfl | (rw [ho]; done) | (rw [ho]; rfl)) (by rfl) (by first | rfl | (rw [ho]; done) | (rw [ho]; rfl)) ?_ | refine CallN.pure hP (x_r05Holds _ _ ‹_› ‹_›) fn72 (by first | rfl | (rw [ho]; done) | (rw [ho]; rfl)) (by rfl) (by first | rfl | (rw [ho]; done) | (rw [ho]; rfl)) ?_); (try rw [← ho]); generalize hr : rHolds _ _ = r; (try rw [ho] at hr); (try dsimp only [Ar.real, IX.vo] at hr); (try simp only [QB7] at hr); cbv) | ((first | refine CallI.pure hP (x_r07Cmp _ _) fn73 (by first | rfl | (rw [ho]; done) | (rw [ho]; rfl)) (by rfl) (by first | rfl | (rw [ho]; done) | (rw [ho]; rfl)) ?_ | refine CallN.pure hP (x_r07Cmp _ _) fn73 (by first | rfl | (rw [ho]; done) | (rw [ho]; rfl)) (by rfl) (by first | rfl | (rw [ho]; done) | (rw [ho]; rfl)) ?_); (try rw [← ho]); generalize hr : rShrCmp _ _ = r; (try rw [ho] at hr); (try dsimp only [Ar.real, IX.vo] at hr); (try simp only [QB7] at hr); cbv) | (refine hK _ _ ?_) | (refine NeedT.mk ?_ ?_))
    any_goals (((try clear hR3); (try clear hR2); (try clear hR); (try clear hK); (try simp only [ncCast] at *); (try simp only [castI_eq] at *); (try rw [ho]); (try dsimp only [Ar.real, IX.vo, IX.val, BX.val, IX.toN]); (try simp only [QB7]); (try simp only [decide_eq_true_eq]); (all_goals (repeat rw [wrap_i64 (by omega) (by omega)])); (all_goals (first | omega | (simp only [Int.ofNat_eq_natCast]; omega)))); done)
    · have hil : i < ws.length := by ((try clear hR3); (try clear hR2); (try clear hR); (try clear hK); (try simp only [ncCast] at *); (try simp only [castI_eq] at *)); omega
      have hPi1 := hPi hil
      clear hPi
      refine LoopN.over (o := o) (D := [(15, [(12, 15), (12, 16), (12, 17), (15, 22), (16, 22), (17, 22), (12, 25), (22, 25), (12, 26), (22, 26), (12, 27), (22, 27)])]) ho hm hT (by kernel_rfl) (fun k : Nat => [(13, xn k), (12, xb (Li k))]) (fun _ => []) (fun _ => []) (fun k => k ≤ ws.length) (fun k => ws.length - k) 0 (Nat.zero_le _) ?_ ?_
      · refine ⟨(by cbv), by cbv; repeat' (first | trivial | exact EqX.rfl' | exact EqO.rfl' | apply And.intro | ((try clear hR3); (try clear hR2); (try clear hR); (try clear hK); (try simp only [ncCast] at *); (try simp only [castI_eq] at *); refine EqX.i ?_; (try rw [ho]); (try dsimp only [Ar.real, IX.vo, IX.val, BX.val, IX.toN]); (try simp only [QB7]); (repeat rw [wrap_i64 (by omega) (by omega)]); omega) | (exact ⟨by rw [f0]⟩)), by cbv; repeat' (first | trivial | exact EqO.rfl' | apply And.intro | (exact ⟨by rw [f0]⟩)), by cbv; repeat' (first | trivial | exact EqO.rfl' | apply And.intro | (exact ⟨by rw [f0]⟩))⟩
      · rintro k hk R2 hR2
        have g1 := f1 k
        have hHk := hH1 k
        have hPk := fun (h : k < ws.length) => hPt (k : Int) ⟨Int.natCast_nonneg k, Int.ofNat_lt.2 h⟩
        have hSk := hSh k
        have hWk := hWi k
        have enk : o.nth ws k = ws.getD k default := by rw [ho, real_nth]
        generalize hpk : pt (k : Int) = pk at *
        obtain ⟨cc, hcc⟩ : ∃ q, q = rShrCmp (sh k) (sh i) := ⟨_, rfl⟩
        have hC1 : XC Try.prog 73 [.agg [xi pk.num, xi pk.den], xi (ws.getD k default).weight, .agg [xi pi.num, xi pi.den], xi (ws.getD i default).weight] [] (xi cc) [] := by
          rw [hcc, hSk, hSi]
          exact x_r07Cmp ⟨pk.num, pk.den, (ws.getD k default).weight⟩ ⟨pi.num, pi.den, (ws.getD i default).weight⟩
        rw [← hcc] at hWk
        rw [← enk, ← ho] at hHk
        rw [← ho] at hPk
        rw [← en, ← enk] at hC1
        generalize F k = fk at *
        cbv
        repeat' (first | (refine Br.mk (fun hb => ?_) (fun hb => ?_) <;> ((try rw [ho] at hb); (try dsimp only [Ar.real, IX.vo] at hb); (try simp only [QB7] at hb); (try simp only [QBo, beq_iff_eq, beq_eq_false_iff_ne, ne_eq] at hb))) | (refine StopN.mk ?_; cbv) | (first | refine CallN.pure hP hHk fn72 rfl rfl rfl ?_ | refine CallN.pure hP (hPk (by assumption)) fn74 rfl rfl rfl ?_ | refine CallN.pure hP hPi1 fn74 rfl rfl rfl ?_ | refine CallN.pure hP hC1 fn73 rfl rfl rfl ?_); cbv | ((first | refine CallI.pure hP (x_r35Check _ ‹_›) fn28 (by first | rfl | (rw [ho]; done) | (rw [ho]; rfl)) (by rfl) (by first | rfl | (rw [ho]; done) | (rw [ho]; rfl)) ?_ | refine CallN.pure hP (x_r35Check _ ‹_›) fn28 (by first | rfl | (rw [ho]; done) | (rw [ho]; rfl)) (by rfl) (by first | rfl | (rw [ho]; done) | (rw [ho]; rfl)) ?_); (try rw [← ho]); generalize hr : rCheck _ = r; (try rw [ho] at hr); (try dsimp only [Ar.real, IX.vo] at hr); (try simp only [QB7] at hr); cbv) | ((first | refine CallI.pure hP (x_r05Holds _ _ ‹_› ‹_›) fn72 (by first | rfl | (rw [ho]; done) | (rw [ho]; rfl)) (by rfl) (by first | rfl | (rw [ho]; done) | (rw [ho]; rfl)) ?_ | refine CallN.pure hP (x_r05Holds _ _ ‹_› ‹_›) fn72 (by first | rfl | (rw [ho]; done) | (rw [ho]; rfl)) (by rfl) (by first | rfl | (rw [ho]; done) | (rw [ho]; rfl)) ?_); (try rw [← ho]); generalize hr : rHolds _ _ = r; (try rw [ho] at hr); (try dsimp only [Ar.real, IX.vo] at hr); (try simp only [QB7] at hr); cbv) | ((first | refine CallI.pure hP (x_r07Cmp _ _) fn73 (by first | rfl | (rw [ho]; done) | (rw [ho]; rfl)) (by rfl) (by first | rfl | (rw [ho]; done) | (rw [ho]; rfl)) ?_ | refine CallN.pure hP (x_r07Cmp _ _) fn73 (by first | rfl | (rw [ho]; done) | (rw [ho]; rfl)) (by rfl) (by first | rfl | (rw [ho]; done) | (rw [ho]; rfl)) ?_); (try rw [← ho]); generalize hr : rShrCmp _ _ = r; (try rw [ho] at hr); (try dsimp only [Ar.real, IX.vo] at hr); (try simp only [QB7] at hr); cbv) | (refine hK _ _ ?_) | (refine NeedT.mk ?_ ?_))
        any_goals (((try clear hR3); (try clear hR2); (try clear hR); (try clear hK); (try simp only [ncCast] at *); (try simp only [castI_eq] at *); (try rw [ho]); (try dsimp only [Ar.real, IX.vo, IX.val, BX.val, IX.toN]); (try simp only [QB7]); (try simp only [decide_eq_true_eq]); (all_goals (repeat rw [wrap_i64 (by omega) (by omega)])); (all_goals (first | omega | (simp only [Int.ofNat_eq_natCast]; omega)))); done)
        · have g2 : Li (k + 1) = false := g1.trans (if_pos (by rw [hWk, ‹fk = true›, decide_eq_true (by ((try clear hR3); (try clear hR2); (try clear hR); (try clear hK); (try simp only [ncCast] at *); (try simp only [castI_eq] at *)); assumption)]; rfl))
          refine hR2 _ (k + 1) (by show ws.length - (k + 1) < ws.length - k; ((try clear hR3); (try clear hR2); (try clear hR); (try clear hK); (try simp only [ncCast] at *); (try simp only [castI_eq] at *)); omega) (by show k + 1 ≤ ws.length; ((try clear hR3); (try clear hR2); (try clear hR); (try clear hK); (try simp only [ncCast] at *); (try simp only [castI_eq] at *)); omega) ?_
          refine ⟨(by cbv), by cbv; repeat' (first | trivial | exact EqX.rfl' | exact EqO.rfl' | apply And.intro | ((try clear hR3); (try clear hR2); (try clear hR); (try clear hK); (try simp only [ncCast] at *); (try simp only [castI_eq] at *); refine EqX.i ?_; (try rw [ho]); (try dsimp only [Ar.real, IX.vo, IX.val, BX.val, IX.toN]); (try simp only [QB7]); (repeat rw [wrap_i64 (by omega) (by omega)]); omega) | (exact ⟨by rw [g2]; rfl⟩)), by cbv; repeat' (first | trivial | exact EqO.rfl' | apply And.intro | (exact ⟨by rw [g2]; rfl⟩)), by cbv; repeat' (first | trivial | exact EqO.rfl' | apply And.intro | (exact ⟨by rw [g2]; rfl⟩))⟩
        · have g2 : Li (k + 1) = Li k := g1.trans (if_neg (by rw [hWk, decide_eq_false (by ((try clear hR3); (try clear hR2); (try clear hR); (try clear hK); (try simp only [ncCast] at *); (try simp only [castI_eq] at *)); omega), Bool.and_false]; decide))
          refine hR2 _ (k + 1) (by show ws.length - (k + 1) < ws.length - k; ((try clear hR3); (try clear hR2); (try clear hR); (try clear hK); (try simp only [ncCast] at *); (try simp only [castI_eq] at *)); omega) (by show k + 1 ≤ ws.length; ((try clear hR3); (try clear hR2); (try clear hR); (try clear hK); (try simp only [ncCast] at *); (try simp only [castI_eq] at *)); omega) ?_
          refine ⟨(by cbv), by cbv; repeat' (first | trivial | exact EqX.rfl' | exact EqO.rfl' | apply And.intro | ((try clear hR3); (try clear hR2); (try clear hR); (try clear hK); (try simp only [ncCast] at *); (try simp only [castI_eq] at *); refine EqX.i ?_; (try rw [ho]); (try dsimp only [Ar.real, IX.vo, IX.val, BX.val, IX.toN]); (try simp only [QB7]); (repeat rw [wrap_i64 (by omega) (by omega)]); omega) | (exact ⟨by rw [g2]⟩)), by cbv; repeat' (first | trivial | exact EqO.rfl' | apply And.intro | (exact ⟨by rw [g2]⟩)), by cbv; repeat' (first | trivial | exact EqO.rfl' | apply And.intro | (exact ⟨by rw [g2]⟩))⟩
        · have g2 : Li (k + 1) = Li k := g1.trans (if_neg (by rw [hWk, ‹fk = false›, Bool.false_and]; decide))
          refine hR2 _ (k + 1) (by show ws.length - (k + 1) < ws.length - k; ((try clear hR3); (try clear hR2); (try clear hR); (try clear hK); (try simp only [ncCast] at *); (try simp only [castI_eq] at *)); omega) (by show k + 1 ≤ ws.length; ((try clear hR3); (try clear hR2); (try clear hR); (try clear hK); (try simp only [ncCast] at *); (try simp only [castI_eq] at *)); omega) ?_
          refine ⟨(by cbv), by cbv; repeat' (first | trivial | exact EqX.rfl' | exact EqO.rfl' | apply And.intro | ((try clear hR3); (try clear hR2); (try clear hR); (try clear hK); (try simp only [ncCast] at *); (try simp only [castI_eq] at *); refine EqX.i ?_; (try rw [ho]); (try dsimp only [Ar.real, IX.vo, IX.val, BX.val, IX.toN]); (try simp only [QB7]); (repeat rw [wrap_i64 (by omega) (by omega)]); omega) | (exact ⟨by rw [g2]⟩)), by cbv; repeat' (first | trivial | exact EqO.rfl' | apply And.intro | (exact ⟨by rw [g2]⟩)), by cbv; repeat' (first | trivial | exact EqO.rfl' | apply And.intro | (exact ⟨by rw [g2]⟩))⟩
        all_goals obtain rfl : k = ws.length := by ((try clear hR3); (try clear hR2); (try clear hR); (try clear hK); (try simp only [ncCast] at *); (try simp only [castI_eq] at *)); omega
        · have e2 := e1.trans (if_pos (by assumption))
          refine hR _ ⟨i + 1, rv + 1, out'⟩ (by dsimp only; omega) ⟨by dsimp only; omega, hout'⟩ ?_
          refine ⟨(by cbv), by cbv; repeat' (first | trivial | exact EqX.rfl' | exact EqO.rfl' | apply And.intro | ((try clear hR3); (try clear hR2); (try clear hR); (try clear hK); (try simp only [ncCast] at *); (try simp only [castI_eq] at *); refine EqX.i ?_; (try rw [ho]); (try dsimp only [Ar.real, IX.vo, IX.val, BX.val, IX.toN]); (try simp only [QB7]); (repeat rw [wrap_i64 (by omega) (by omega)]); omega) | exact EqO.snoc ho encI _ _ _ _ rfl e2 rfl), by cbv; repeat' (first | trivial | exact EqO.rfl' | apply And.intro | exact EqO.snoc ho encI _ _ _ _ rfl e2 rfl), by cbv; repeat' (first | trivial | exact EqO.rfl' | apply And.intro | exact EqO.snoc ho encI _ _ _ _ rfl e2 rfl)⟩
        · have e2 := e1.trans (if_neg (by rw [‹Li ws.length = false›]; decide))
          refine hR _ ⟨i + 1, rv, out'⟩ (by dsimp only; omega) ⟨by dsimp only; omega, hout'⟩ ?_
          subst e2
          refine ⟨(by cbv), by cbv; repeat' (first | trivial | exact EqX.rfl' | exact EqO.rfl' | apply And.intro | ((try clear hR3); (try clear hR2); (try clear hR); (try clear hK); (try simp only [ncCast] at *); (try simp only [castI_eq] at *); refine EqX.i ?_; (try rw [ho]); (try dsimp only [Ar.real, IX.vo, IX.val, BX.val, IX.toN]); (try simp only [QB7]); (repeat rw [wrap_i64 (by omega) (by omega)]); omega)), by cbv; repeat' (first | trivial | exact EqO.rfl' | apply And.intro), by cbv; repeat' (first | trivial | exact EqO.rfl' | apply And.intro)⟩
    · obtain rfl : i = ws.length := by ((try clear hR3); (try clear hR2); (try clear hR); (try clear hK); (try simp only [ncCast] at *); (try simp only [castI_eq] at *)); omega
      rw [← q3] at hout
      subst hout
      exact .ro (by rw [ho])
end Go.Proofs.Ytddgcegimmcbgaa.Sy

set_option linter.unusedSectionVars false
namespace Go.Proofs.Ytddgcegimmcbgaa.Sy
open Go Go.Sy Go.Proofs.Ytddgcegimmcbgaa
set_option maxRecDepth 100000
set_option maxHeartbeats 8000000
set_option linter.unusedVariables false
set_option linter.unusedSimpArgs false

def rValid (v : List Part) (ws : List Want) (seq : List Int) : Int × Bool :=
  if rCheck (prof1 v ws) = 0 then
    match nextAt (fun i => !inR (rNext v ws (seq.take i)) (seq.getD i 0)) 0 seq.length with
    | some i => ((i : Int), false)
    | none => ((seq.length : Int), decide ((rNext v ws seq).length = 0))
  else (0, false)
theorem rNext_len (v : List Part) (ws : List Want) (seq : List Int) : (rNext v ws seq).length ≤ ws.length := by
  unfold rNext
  split
  · split
    · exact rNextTo_len v ws seq _ _
    · exact Nat.zero_le _
  · exact Nat.zero_le _
theorem fits_Int (o : Ar) (ho : o = Ar.real) (l : List Int) : (SL o encI l).fits 1 := by
  intro row hr
  rw [rows_SL o ho] at hr
  obtain ⟨a, _, rfl⟩ := List.mem_map.1 hr
  exact ⟨rfl, rfl⟩
theorem rows_take {o : Ar} (ho : o = Ar.real) {l l' : List Int} {i : Nat} (hi : i ≤ l.length) (h : l' = l.take i) : (RR.fn i fun j => encI o (o.nth l j)).rows = (SL o encI l').rows := by
  subst ho
  subst h
  refine rows_fn_SL _ rfl encI _ _ _ (by rw [List.length_take]; omega) ?_
  intro j hj
  have e : l.getD j default = (l.take i).getD j default := by
    simp only [List.getD_eq_getElem?_getD, List.getElem?_take]
    rw [if_pos hj]
  show X.toCL (encI Ar.real (l.getD j default)) = _
  rw [e]
theorem toDL3 {c : Cx} {a b : X} {r s : RR} (h : r.rows = s.rows) : X.toDL c [a, b, .ro r] = X.toDL c [a, b, .ro s] := by simp only [X.toDL, X.toD, h]
theorem x_r37Valid (v : List Part) (ws : List Want) (seq : List Int) (hp : ProfOk (prof1 v ws)) (hv : v.length ≤ 1048576) (hseq : seq.length ≤ 1048576) : XC Try.prog 21 [.ro (SL Ar.real Part.X v), .ro (SL Ar.real Want.X ws), .ro (SL Ar.real encI seq)] [] (.tup [xi (rValid v ws seq).1, xb (rValid v ws seq).2]) [] := by
  have hws : ws.length ≤ 1048576 := hp.nw
  have q0 : rCheck (prof1 v ws) ≠ 0 → rValid v ws seq = (0, false) := fun h => if_neg h
  have q1 : rCheck (prof1 v ws) = 0 → ∀ j, j < seq.length → (∀ i, i < j → inR (rNext v ws (seq.take i)) (seq.getD i 0) = true) → inR (rNext v ws (seq.take j)) (seq.getD j 0) = false → rValid v ws seq = ((j : Int), false) := by
    intro h j hj hlt hx
    unfold rValid
    rw [if_pos h, nextAt_some (Nat.zero_le _) hj (by simp only [hx, Bool.not_false]) (fun k _ hk => by simp only [hlt k hk, Bool.not_true])]
  have q2 : rCheck (prof1 v ws) = 0 → (∀ i, i < seq.length → inR (rNext v ws (seq.take i)) (seq.getD i 0) = true) → rValid v ws seq = ((seq.length : Int), decide ((rNext v ws seq).length = 0)) := by
    intro h hlt
    unfold rValid
    rw [if_pos h, nextAt_none (fun k _ hk => by simp only [hlt k hk, Bool.not_true])]
  generalize rValid v ws seq = res at *
  generalize hck : rCheck (prof1 v ws) = ck at *
  have hN := fun i => x_r37Next v ws (seq.take i) hp hv (by rw [List.length_take]; omega)
  have hI := fun i => x_r37in (rNext v ws (seq.take i)) (seq.getD i 0) (Nat.le_trans (rNext_len v ws (seq.take i)) hws)
  have hNs := x_r37Next v ws seq hp hv hseq
  have hNsl := rNext_len v ws seq
  generalize rNext v ws seq = rs at *
  generalize hM : (fun i => rNext v ws (seq.take i)) = M at *
  have eM : ∀ i, rNext v ws (seq.take i) = M i := fun i => by rw [← hM]
  simp only [eM] at hN hI q1 q2
  clear eM hM
  (refine XC.of_body ([(7, [(4, 8), (5, 8), (4, 9), (5, 9)])]) Try.func21 rfl Try.ntmps21 mixed (T := [(2, ti2), (3, ti3), (4, ti4), (31, ti31), (43, ti43), (52, ti52), (57, ti57)]) (.cons tok2 (.cons tok3 (.cons tok4 (.cons tok31 (.cons tok43 (.cons tok52 (.cons tok57 .nil))))))) (by kernel_rfl) (by simp) rfl rfl rfl rfl rfl ?_; rintro o ho P hP c K hK; have hm : P.follows .mixedOrders = true := hP ▸ mixed; have hT : TOk P [(2, ti2), (3, ti3), (4, ti4), (31, ti31), (43, ti43), (52, ti52), (57, ti57)] := hP ▸ (.cons tok2 (.cons tok3 (.cons tok4 (.cons tok31 (.cons tok43 (.cons tok52 (.cons tok57 .nil))))))); (try rw [← ho]); cbv; (repeat (refine StopN.mk ?_; cbv)))
  rw [← ho] at hNs
  repeat' (first | (refine Br.mk (fun hb => ?_) (fun hb => ?_) <;> ((try rw [ho] at hb); (try dsimp only [Ar.real, IX.vo] at hb); (try simp only [QB7] at hb); (try simp only [QBo, beq_iff_eq, beq_eq_false_iff_ne, ne_eq] at hb))) | (refine StopN.mk ?_; cbv) | ((first | refine CallI.pure hP (x_r37Next _ _ _ ‹_› ‹_› ‹_›) fn25 (by first | rfl | (rw [ho]; done) | (rw [ho]; rfl)) (by rfl) (by first | rfl | (rw [ho]; done) | (rw [ho]; rfl)) ?_ | refine CallN.pure hP (x_r37Next _ _ _ ‹_› ‹_› ‹_›) fn25 (by first | rfl | (rw [ho]; done) | (rw [ho]; rfl)) (by rfl) (by first | rfl | (rw [ho]; done) | (rw [ho]; rfl)) ?_); (try rw [← ho]); generalize hr : rNext _ _ _ = r; (try rw [ho] at hr); (try dsimp only [Ar.real, IX.vo] at hr); (try simp only [QB7] at hr); cbv) | ((first | refine CallI.pure hP (x_r35Check _ ‹_›) fn28 (by first | rfl | (rw [ho]; done) | (rw [ho]; rfl)) (by rfl) (by first | rfl | (rw [ho]; done) | (rw [ho]; rfl)) ?_ | refine CallN.pure hP (x_r35Check _ ‹_›) fn28 (by first | rfl | (rw [ho]; done) | (rw [ho]; rfl)) (by rfl) (by first | rfl | (rw [ho]; done) | (rw [ho]; rfl)) ?_); (try rw [← ho]); generalize hr : rCheck _ = r; (try rw [ho] at hr); (try dsimp only [Ar.real, IX.vo] at hr); (try simp only [QB7] at hr); cbv) | ((first | refine CallI.pure hP (x_r37in _ _ ‹_›) fn68 (by first | rfl | (rw [ho]; done) | (rw [ho]; rfl)) (by rfl) (by first | rfl | (rw [ho]; done) | (rw [ho]; rfl)) ?_ | refine CallN.pure hP (x_r37in _ _ ‹_›) fn68 (by first | rfl | (rw [ho]; done) | (rw [ho]; rfl)) (by rfl) (by first | rfl | (rw [ho]; done) | (rw [ho]; rfl)) ?_); (try rw [← ho]); generalize hr : inR _ _ = r; (try rw [ho] at hr); (try dsimp only [Ar.real, IX.vo] at hr); (try simp only [QB7] at hr); cbv) | (refine hK _ _ ?_) | (refine NeedT.mk ?_ ?_))
  · rw [q0 (fun h => hb (hr.symm.trans (hck.trans h)))]
    exact FinX_ib' rfl rfl
  have hc0 : ck = 0 := hck.symm.trans (hr.trans (by assumption))
  replace q1 := q1 hc0
  replace q2 := q2 hc0
  clear q0
  refine LoopN.over (o := o) (D := [(7, [(4, 8), (5, 8), (4, 9), (5, 9)])]) ho hm hT (by kernel_rfl) (fun i : Nat => [(9, xn i)]) (fun _ => []) (fun _ => []) (fun i => i ≤ seq.length ∧ ∀ j, j < i → inR (M j) (seq.getD j 0) = true) (fun i => seq.length - i) 0 ⟨Nat.zero_le _, fun k hk => absurd hk (Nat.not_lt_zero k)⟩ ?_ ?_
  · refine ⟨(by cbv), by cbv; repeat' (first | trivial | exact EqX.rfl' | exact EqO.rfl' | apply And.intro | ((try clear hR3); (try clear hR2); (try clear hR); (try clear hK); (try simp only [ncCast] at *); (try simp only [castI_eq] at *); refine EqX.i ?_; (try rw [ho]); (try dsimp only [Ar.real, IX.vo, IX.val, BX.val, IX.toN]); (try simp only [QB7]); (repeat rw [wrap_i64 (by omega) (by omega)]); omega)), by cbv; repeat' (first | trivial | exact EqO.rfl' | apply And.intro), by cbv; repeat' (first | trivial | exact EqO.rfl' | apply And.intro)⟩
  · rintro i ⟨hi, hlt⟩ R hR
    have hNi := hN i
    have hIi := hI i
    have e1 := q1 i
    have en : o.nth seq i = seq.getD i 0 := by rw [ho, real_nth]; rfl
    obtain ⟨tk, htk⟩ : ∃ q, q = seq.take i := ⟨_, rfl⟩
    have hrw := rows_take ho hi htk
    rw [← htk] at hNi
    rw [← ho] at hNi
    generalize hin : inR (M i) (seq.getD i 0) = b at *
    generalize hmi : M i = mi at *
    rw [← en, ← ho] at hIi
    cbv
    repeat' (first | (refine Br.mk (fun hb => ?_) (fun hb => ?_) <;> ((try rw [ho] at hb); (try dsimp only [Ar.real, IX.vo] at hb); (try simp only [QB7] at hb); (try simp only [QBo, beq_iff_eq, beq_eq_false_iff_ne, ne_eq] at hb))) | (refine StopN.mk ?_; cbv) | (first | refine NeedP.mk (fits_Int o ho seq) ?_ | refine CallI.pure hP hNi fn25 rfl rfl (toDL3 hrw) ?_ | refine CallN.pure hP hNi fn25 rfl rfl (toDL3 hrw) ?_ | refine CallI.pure hP hIi fn68 rfl rfl rfl ?_ | refine CallN.pure hP hIi fn68 rfl rfl rfl ?_ | refine CallI.pure hP hNs fn25 rfl rfl rfl ?_); cbv | ((first | refine CallI.pure hP (x_r37Next _ _ _ ‹_› ‹_› ‹_›) fn25 (by first | rfl | (rw [ho]; done) | (rw [ho]; rfl)) (by rfl) (by first | rfl | (rw [ho]; done) | (rw [ho]; rfl)) ?_ | refine CallN.pure hP (x_r37Next _ _ _ ‹_› ‹_› ‹_›) fn25 (by first | rfl | (rw [ho]; done) | (rw [ho]; rfl)) (by rfl) (by first | rfl | (rw [ho]; done) | (rw [ho]; rfl)) ?_); (try rw [← ho]); generalize hr : rNext _ _ _ = r; (try rw [ho] at hr); (try dsimp only [Ar.real, IX.vo] at hr); (try simp only [QB7] at hr); cbv) | ((first | refine CallI.pure hP (x_r35Check _ ‹_›) fn28 (by first | rfl | (rw [ho]; done) | (rw [ho]; rfl)) (by rfl) (by first | rfl | (rw [ho]; done) | (rw [ho]; rfl)) ?_ | refine CallN.pure hP (x_r35Check _ ‹_›) fn28 (by first | rfl | (rw [ho]; done) | (rw [ho]; rfl)) (by rfl) (by first | rfl | (rw [ho]; done) | (rw [ho]; rfl)) ?_); (try rw [← ho]); generalize hr : rCheck _ = r; (try rw [ho] at hr); (try dsimp only [Ar.real, IX.vo] at hr); (try simp only [QB7] at hr); cbv) | ((first | refine CallI.pure hP (x_r37in _ _ ‹_›) fn68 (by first | rfl | (rw [ho]; done) | (rw [ho]; rfl)) (by rfl) (by first | rfl | (rw [ho]; done) | (rw [ho]; rfl)) ?_ | refine CallN.pure hP (x_r37in _ _ ‹_›) fn68 (by first | rfl | (rw [ho]; done) | (rw [ho]; rfl)) (by rfl) (by first | rfl | (rw [ho]; done) | (rw [ho]; rfl)) ?_); (try rw [← ho]); generalize hr : inR _ _ = r; (try rw [ho] at hr); (try dsimp only [Ar.real, IX.vo] at hr); (try simp only [QB7] at hr); cbv) | (refine hK _ _ ?_) | (refine NeedT.mk ?_ ?_))
    · ((try clear hR3); (try clear hR2); (try clear hR); (try clear hK); (try simp only [ncCast] at *); (try simp only [castI_eq] at *); (try rw [ho]); (try dsimp only [Ar.real, IX.vo, IX.val, BX.val, IX.toN]); (try simp only [QB7]))
      simp
      omega
    · ((try clear hR3); (try clear hR2); (try clear hR); (try clear hK); (try simp only [ncCast] at *); (try simp only [castI_eq] at *); (try rw [ho]); (try dsimp only [Ar.real, IX.vo, IX.val, BX.val, IX.toN]); (try simp only [QB7]); (try simp only [decide_eq_true_eq]); (all_goals (repeat rw [wrap_i64 (by omega) (by omega)])); (all_goals (first | omega | (simp only [Int.ofNat_eq_natCast]; omega))))
    · rw [e1 (by ((try clear hR3); (try clear hR2); (try clear hR); (try clear hK); (try simp only [ncCast] at *); (try simp only [castI_eq] at *)); omega) hlt (by assumption)]
      exact FinX_ib' rfl rfl
    · refine hR _ (i + 1) (by show seq.length - (i + 1) < seq.length - i; ((try clear hR3); (try clear hR2); (try clear hR); (try clear hK); (try simp only [ncCast] at *); (try simp only [castI_eq] at *)); omega) ⟨by show i + 1 ≤ seq.length; ((try clear hR3); (try clear hR2); (try clear hR); (try clear hK); (try simp only [ncCast] at *); (try simp only [castI_eq] at *)); omega, fun k hk => ?_⟩ ?_
      · rcases Nat.lt_or_ge k i with h5 | h5
        · exact hlt k h5
        · obtain rfl : k = i := by
            have hk' : k < i + 1 := hk
            clear hk
            ((try clear hR3); (try clear hR2); (try clear hR); (try clear hK); (try simp only [ncCast] at *); (try simp only [castI_eq] at *))
            omega
          rw [hmi, hin]
          assumption
      · refine ⟨(by cbv), by cbv; repeat' (first | trivial | exact EqX.rfl' | exact EqO.rfl' | apply And.intro | ((try clear hR3); (try clear hR2); (try clear hR); (try clear hK); (try simp only [ncCast] at *); (try simp only [castI_eq] at *); refine EqX.i ?_; (try rw [ho]); (try dsimp only [Ar.real, IX.vo, IX.val, BX.val, IX.toN]); (try simp only [QB7]); (repeat rw [wrap_i64 (by omega) (by omega)]); omega)), by cbv; repeat' (first | trivial | exact EqO.rfl' | apply And.intro), by cbv; repeat' (first | trivial | exact EqO.rfl' | apply And.intro)⟩
    · obtain rfl : i = seq.length := by ((try clear hR3); (try clear hR2); (try clear hR); (try clear hK); (try simp only [ncCast] at *); (try simp only [castI_eq] at *)); omega
      rw [q2 hlt]
      refine FinX_ib' (by rw [ho]; rfl) ?_
      ((try clear hR3); (try clear hR2); (try clear hR); (try clear hK); (try simp only [ncCast] at *); (try simp only [castI_eq] at *); (try rw [ho]); (try dsimp only [Ar.real, IX.vo, IX.val, BX.val, IX.toN]); (try simp only [QB7]))
      exact decide_eq_decide.2 (by omega)
end Go.Proofs.Ytddgcegimmcbgaa.Sy

set_option linter.unusedSectionVars false
namespace Go.Proofs.Ytddgcegimmcbgaa.Sy
open Go Go.Sy Go.Proofs.Ytddgcegimmcbgaa
set_option maxRecDepth 100000
set_option maxHeartbeats 8000000
set_option linter.unusedVariables false
set_option linter.unusedSimpArgs false

def lenA (l : List (List Part)) : Nat → Int
  | 0 => 0
  | i + 1 => IntKind.i64.wrap (lenA l i + ((l.getD i default).length : Int))
def lenW (ws : List Want) (n : Int) : Nat → Int
  | 0 => n
  | i + 1 => IntKind.i64.wrap (lenW ws n i + ((ws.getD i default).need.length : Int))
def smallP (p : Prof) (picks : List Int) : Bool :=
  decide (p.ags.length ≤ 20) && (decide (p.wants.length ≤ 40) && (decide (lenW p.wants (lenA p.ags p.ags.length) p.wants.length ≤ 200) && (decide (picks.length ≤ 200) && (!decide (rCheck p = 0) || decide (rBndA p.ags p.wants p.ags.length ≤ 80)))))
theorem x_Small (p : Prof) (picks : List Int) (hp : ProfOk p) (hpk : picks.length ≤ 1048576) : XC Try.prog 63 [.agg (Prof.X Ar.real p), .ro (SL Ar.real encI picks)] [] (xb (smallP p picks)) [] := by
  have hck := x_r35Check p hp
  have q : smallP p picks = (decide (p.ags.length ≤ 20) && (decide (p.wants.length ≤ 40) && (decide (lenW p.wants (lenA p.ags p.ags.length) p.wants.length ≤ 200) && (decide (picks.length ≤ 200) && (!decide (rCheck p = 0) || decide (rBndA p.ags p.wants p.ags.length ≤ 80)))))) := rfl
  generalize smallP p picks = res at *
  generalize rCheck p = ck at *
  obtain ⟨l, ws, lo⟩ := p
  obtain ⟨hl, hws, hla, hwa⟩ := hp
  dsimp only at hl hws hla hwa q hck ⊢
  have hbd := x_r35Bound l ws hl hws hla hwa
  have hA0 : lenA l 0 = 0 := rfl
  have hA1 : ∀ i, lenA l (i + 1) = IntKind.i64.wrap (lenA l i + ((l.getD i default).length : Int)) := fun _ => rfl
  have hW0 : ∀ n, lenW ws n 0 = n := fun _ => rfl
  have hW1 : ∀ n i, lenW ws n (i + 1) = IntKind.i64.wrap (lenW ws n i + ((ws.getD i default).need.length : Int)) := fun _ _ => rfl
  have hOw := x_Own ws hws
  generalize rBndA l ws l.length = bnd at *
  generalize lenA l = A at *
  generalize lenW ws = W0 at *
  obtain ⟨a0, b0, c0, d0⟩ := lo
  (refine XC.of_body ([(10, [(20, 24), (21, 24), (24, 25), (24, 26), (30, 34), (31, 34)])]) Try.func63 rfl Try.ntmps63 mixed (T := [(2, ti2), (3, ti3), (31, ti31), (42, ti42), (43, ti43), (52, ti52), (57, ti57), (75, ti75), (123, ti123), (132, ti132)]) (.cons tok2 (.cons tok3 (.cons tok31 (.cons tok42 (.cons tok43 (.cons tok52 (.cons tok57 (.cons tok75 (.cons tok123 (.cons tok132 .nil)))))))))) (by kernel_rfl) (by simp) rfl rfl rfl rfl rfl ?_; rintro o ho P hP c K hK; have hm : P.follows .mixedOrders = true := hP ▸ mixed; have hT : TOk P [(2, ti2), (3, ti3), (31, ti31), (42, ti42), (43, ti43), (52, ti52), (57, ti57), (75, ti75), (123, ti123), (132, ti132)] := hP ▸ (.cons tok2 (.cons tok3 (.cons tok31 (.cons tok42 (.cons tok43 (.cons tok52 (.cons tok57 (.cons tok75 (.cons tok123 (.cons tok132 .nil)))))))))); (try rw [← ho]); cbv; (repeat (refine StopN.mk ?_; cbv)))
  rw [← ho] at hbd hOw hck
  refine LoopN.over (o := o) (D := [(10, [(20, 24), (21, 24), (24, 25), (24, 26), (30, 34), (31, 34)])]) ho hm hT (by kernel_rfl) (fun a : Nat => [(6, xn a), (5, xi (A a))]) (fun _ => []) (fun _ => []) (fun a => a ≤ l.length) (fun a => l.length - a) 0 (Nat.zero_le _) ?_ ?_
  · refine ⟨(by cbv), by cbv; repeat' (first | trivial | exact EqX.rfl' | exact EqO.rfl' | apply And.intro | ((try clear hR3); (try clear hR2); (try clear hR); (try clear hK); (try simp only [ncCast] at *); (try simp only [castI_eq] at *); refine EqX.i ?_; (try rw [ho]); (try dsimp only [Ar.real, IX.vo, IX.val, BX.val, IX.toN]); (try simp only [QB7]); (repeat rw [wrap_i64 (by omega) (by omega)]); omega) | (refine EqX.i ?_; rw [hA0]; rfl)), by cbv; repeat' (first | trivial | exact EqO.rfl' | apply And.intro | (refine EqX.i ?_; rw [hA0]; rfl)), by cbv; repeat' (first | trivial | exact EqO.rfl' | apply And.intro | (refine EqX.i ?_; rw [hA0]; rfl))⟩
  · rintro i hi R hR
    have e1 := hA1 i
    cbv
    repeat' (first | (refine Br.mk (fun hb => ?_) (fun hb => ?_) <;> ((try rw [ho] at hb); (try dsimp only [Ar.real, IX.vo] at hb); (try simp only [QB7] at hb); (try simp only [QBo, beq_iff_eq, beq_eq_false_iff_ne, ne_eq] at hb))) | (refine StopN.mk ?_; cbv) | ((first | refine CallI.pure hP (x_Own _ ‹_›) fn22 (by first | rfl | (rw [ho]; done) | (rw [ho]; rfl)) (by rfl) (by first | rfl | (rw [ho]; done) | (rw [ho]; rfl)) ?_ | refine CallN.pure hP (x_Own _ ‹_›) fn22 (by first | rfl | (rw [ho]; done) | (rw [ho]; rfl)) (by rfl) (by first | rfl | (rw [ho]; done) | (rw [ho]; rfl)) ?_); (try rw [← ho]); cbv) | ((first | refine CallI.pure hP (x_r35Check _ ‹_›) fn28 (by first | rfl | (rw [ho]; done) | (rw [ho]; rfl)) (by rfl) (by first | rfl | (rw [ho]; done) | (rw [ho]; rfl)) ?_ | refine CallN.pure hP (x_r35Check _ ‹_›) fn28 (by first | rfl | (rw [ho]; done) | (rw [ho]; rfl)) (by rfl) (by first | rfl | (rw [ho]; done) | (rw [ho]; rfl)) ?_); (try rw [← ho]); generalize hr : rCheck _ = r; (try rw [ho] at hr); (try dsimp only [Ar.real, IX.vo] at hr); (try simp only [QB7] at hr); cbv) | ((first | refine CallI.pure hP (x_r35Bound _ _ ‹_› ‹_› ‹_› ‹_›) fn76 (by first | rfl | (rw [ho]; done) | (rw [ho]; rfl)) (by rfl) (by first | rfl | (rw [ho]; done) | (rw [ho]; rfl)) ?_ | refine CallN.pure hP (x_r35Bound _ _ ‹_› ‹_› ‹_› ‹_›) fn76 (by first | rfl | (rw [ho]; done) | (rw [ho]; rfl)) (by rfl) (by first | rfl | (rw [ho]; done) | (rw [ho]; rfl)) ?_); (try rw [← ho]); generalize hr : rBndA _ _ _ = r; (try rw [ho] at hr); (try dsimp only [Ar.real, IX.vo] at hr); (try simp only [QB7] at hr); cbv) | (refine hK _ _ ?_) | (refine NeedT.mk ?_ ?_))
    any_goals (((try clear hR3); (try clear hR2); (try clear hR); (try clear hK); (try simp only [ncCast] at *); (try simp only [castI_eq] at *); (try rw [ho]); (try dsimp only [Ar.real, IX.vo, IX.val, BX.val, IX.toN]); (try simp only [QB7]); (try simp only [decide_eq_true_eq]); (all_goals (repeat rw [wrap_i64 (by omega) (by omega)])); (all_goals (first | omega | (simp only [Int.ofNat_eq_natCast]; omega)))); done)
    · refine hR _ (i + 1) (by show l.length - (i + 1) < l.length - i; ((try clear hR3); (try clear hR2); (try clear hR); (try clear hK); (try simp only [ncCast] at *); (try simp only [castI_eq] at *)); omega) (by show i + 1 ≤ l.length; ((try clear hR3); (try clear hR2); (try clear hR); (try clear hK); (try simp only [ncCast] at *); (try simp only [castI_eq] at *)); omega) ?_
      refine ⟨(by cbv), by cbv; repeat' (first | trivial | exact EqX.rfl' | exact EqO.rfl' | apply And.intro | ((try clear hR3); (try clear hR2); (try clear hR); (try clear hK); (try simp only [ncCast] at *); (try simp only [castI_eq] at *); refine EqX.i ?_; (try rw [ho]); (try dsimp only [Ar.real, IX.vo, IX.val, BX.val, IX.toN]); (try simp only [QB7]); (repeat rw [wrap_i64 (by omega) (by omega)]); omega) | (refine EqX.i ?_; rw [e1, ho]; rfl)), by cbv; repeat' (first | trivial | exact EqO.rfl' | apply And.intro | (refine EqX.i ?_; rw [e1, ho]; rfl)), by cbv; repeat' (first | trivial | exact EqO.rfl' | apply And.intro | (refine EqX.i ?_; rw [e1, ho]; rfl))⟩
    · obtain rfl : i = l.length := by ((try clear hR3); (try clear hR2); (try clear hR); (try clear hK); (try simp only [ncCast] at *); (try simp only [castI_eq] at *)); omega
      clear hR R
      generalize hW : W0 (A l.length) = W at *
      have w0 := hW0 (A l.length)
      have w1 := hW1 (A l.length)
      rw [hW] at w0 w1
      refine LoopN.over (o := o) (D := [(10, [(20, 24), (21, 24), (24, 25), (24, 26), (30, 34), (31, 34)])]) ho hm hT (by kernel_rfl) (fun a : Nat => [(7, xn a), (5, xi (W a))]) (fun _ => []) (fun _ => []) (fun a => a ≤ ws.length) (fun a => ws.length - a) 0 (Nat.zero_le _) ?_ ?_
      · refine ⟨(by cbv), by cbv; repeat' (first | trivial | exact EqX.rfl' | exact EqO.rfl' | apply And.intro | ((try clear hR3); (try clear hR2); (try clear hR); (try clear hK); (try simp only [ncCast] at *); (try simp only [castI_eq] at *); refine EqX.i ?_; (try rw [ho]); (try dsimp only [Ar.real, IX.vo, IX.val, BX.val, IX.toN]); (try simp only [QB7]); (repeat rw [wrap_i64 (by omega) (by omega)]); omega) | (refine EqX.i ?_; rw [w0])), by cbv; repeat' (first | trivial | exact EqO.rfl' | apply And.intro | (refine EqX.i ?_; rw [w0])), by cbv; repeat' (first | trivial | exact EqO.rfl' | apply And.intro | (refine EqX.i ?_; rw [w0]))⟩
      · rintro j hj R hR
        have e2 := w1 j
        cbv
        repeat' (first | (refine Br.mk (fun hb => ?_) (fun hb => ?_) <;> ((try rw [ho] at hb); (try dsimp only [Ar.real, IX.vo] at hb); (try simp only [QB7] at hb); (try simp only [QBo, beq_iff_eq, beq_eq_false_iff_ne, ne_eq] at hb))) | (refine StopN.mk ?_; cbv) | (first | refine CallN.pure hP hOw fn22 rfl rfl rfl ?_ | refine CallN.pure hP hck fn28 rfl rfl rfl ?_ | refine CallN.pure hP hbd fn76 rfl rfl rfl ?_); cbv | ((first | refine CallI.pure hP (x_Own _ ‹_›) fn22 (by first | rfl | (rw [ho]; done) | (rw [ho]; rfl)) (by rfl) (by first | rfl | (rw [ho]; done) | (rw [ho]; rfl)) ?_ | refine CallN.pure hP (x_Own _ ‹_›) fn22 (by first | rfl | (rw [ho]; done) | (rw [ho]; rfl)) (by rfl) (by first | rfl | (rw [ho]; done) | (rw [ho]; rfl)) ?_); (try rw [← ho]); cbv) | ((first | refine CallI.pure hP (x_r35Check _ ‹_›) fn28 (by first | rfl | (rw [ho]; done) | (rw [ho]; rfl)) (by rfl) (by first | rfl | (rw [ho]; done) | (rw [ho]; rfl)) ?_ | refine CallN.pure hP (x_r35Check _ ‹_›) fn28 (by first | rfl | (rw [ho]; done) | (rw [ho]; rfl)) (by rfl) (by first | rfl | (rw [ho]; done) | (rw [ho]; rfl)) ?_); (try rw [← ho]); generalize hr : rCheck _ = r; (try rw [ho] at hr); (try dsimp only [Ar.real, IX.vo] at hr); (try simp only [QB7] at hr); cbv) | ((first | refine CallI.pure hP (x_r35Bound _ _ ‹_› ‹_› ‹_› ‹_›) fn76 (by first | rfl | (rw [ho]; done) | (rw [ho]; rfl)) (by rfl) (by first | rfl | (rw [ho]; done) | (rw [ho]; rfl)) ?_ | refine CallN.pure hP (x_r35Bound _ _ ‹_› ‹_› ‹_› ‹_›) fn76 (by first | rfl | (rw [ho]; done) | (rw [ho]; rfl)) (by rfl) (by first | rfl | (rw [ho]; done) | (rw [ho]; rfl)) ?_); (try rw [← ho]); generalize hr : rBndA _ _ _ = r; (try rw [ho] at hr); (try dsimp only [Ar.real, IX.vo] at hr); (try simp only [QB7] at hr); cbv) | (refine hK _ _ ?_) | (refine NeedT.mk ?_ ?_))
        any_goals (((try clear hR3); (try clear hR2); (try clear hR); (try clear hK); (try simp only [ncCast] at *); (try simp only [castI_eq] at *); (try rw [ho]); (try dsimp only [Ar.real, IX.vo, IX.val, BX.val, IX.toN]); (try simp only [QB7]); (try simp only [decide_eq_true_eq]); (all_goals (repeat rw [wrap_i64 (by omega) (by omega)])); (all_goals (first | omega | (simp only [Int.ofNat_eq_natCast]; omega)))); done)
        · refine hR _ (j + 1) (by show ws.length - (j + 1) < ws.length - j; ((try clear hR3); (try clear hR2); (try clear hR); (try clear hK); (try simp only [ncCast] at *); (try simp only [castI_eq] at *)); omega) (by show j + 1 ≤ ws.length; ((try clear hR3); (try clear hR2); (try clear hR); (try clear hK); (try simp only [ncCast] at *); (try simp only [castI_eq] at *)); omega) ?_
          refine ⟨(by cbv), by cbv; repeat' (first | trivial | exact EqX.rfl' | exact EqO.rfl' | apply And.intro | ((try clear hR3); (try clear hR2); (try clear hR); (try clear hK); (try simp only [ncCast] at *); (try simp only [castI_eq] at *); refine EqX.i ?_; (try rw [ho]); (try dsimp only [Ar.real, IX.vo, IX.val, BX.val, IX.toN]); (try simp only [QB7]); (repeat rw [wrap_i64 (by omega) (by omega)]); omega) | (refine EqX.i ?_; rw [e2, ho]; rfl)), by cbv; repeat' (first | trivial | exact EqO.rfl' | apply And.intro | (refine EqX.i ?_; rw [e2, ho]; rfl)), by cbv; repeat' (first | trivial | exact EqO.rfl' | apply And.intro | (refine EqX.i ?_; rw [e2, ho]; rfl))⟩
        all_goals
          obtain rfl : j = ws.length := by ((try clear hR3); (try clear hR2); (try clear hR); (try clear hK); (try simp only [ncCast] at *); (try simp only [castI_eq] at *)); omega
          rw [q]
          refine .b ?_
          ((try clear hR3); (try clear hR2); (try clear hR); (try clear hK); (try simp only [ncCast] at *); (try simp only [castI_eq] at *); (try rw [ho]); (try dsimp only [Ar.real, IX.vo, IX.val, BX.val, IX.toN]); (try simp only [QB7]))
          rw [Bool.eq_iff_iff]
          simp only [BX.val, Bool.and_eq_true, Bool.or_eq_true, decide_eq_true_eq, Bool.not_eq_true', decide_eq_false_iff_not, Bool.false_eq_true, false_iff, true_iff]
          omega
def small37 (v : List Part) (ws : List Want) (seq : List Int) : Bool := decide (ws.length ≤ 6) && (decide (seq.length ≤ 60) && smallP ⟨[v], ws, ⟨0, 0, 0, 0⟩⟩ seq)
theorem x_small37 (v : List Part) (ws : List Want) (seq : List Int) (hp : ProfOk (prof1 v ws)) (hv : v.length ≤ 1048576) (hseq : seq.length ≤ 1048576) : XC Try.prog 19 [.ro (SL Ar.real Part.X v), .ro (SL Ar.real Want.X ws), .ro (SL Ar.real encI seq)] [] (xb (small37 v ws seq)) [] := by
  have hS := x_Small (prof1 v ws) seq hp hseq
  have q : small37 v ws seq = (decide (ws.length ≤ 6) && (decide (seq.length ≤ 60) && smallP (prof1 v ws) seq)) := rfl
  generalize small37 v ws seq = res at *
  generalize hsm : smallP (prof1 v ws) seq = sm at *
  have hws : ws.length ≤ 1048576 := hp.nw
  clear hS
  (refine XC.of_body ([]) Try.func19 rfl Try.ntmps19 mixed (T := [(3, ti3), (31, ti31), (42, ti42), (43, ti43), (52, ti52), (57, ti57), (75, ti75), (132, ti132)]) (.cons tok3 (.cons tok31 (.cons tok42 (.cons tok43 (.cons tok52 (.cons tok57 (.cons tok75 (.cons tok132 .nil)))))))) (by kernel_rfl) (by simp) rfl rfl rfl rfl rfl ?_; rintro o ho P hP c K hK; have hm : P.follows .mixedOrders = true := hP ▸ mixed; have hT : TOk P [(3, ti3), (31, ti31), (42, ti42), (43, ti43), (52, ti52), (57, ti57), (75, ti75), (132, ti132)] := hP ▸ (.cons tok3 (.cons tok31 (.cons tok42 (.cons tok43 (.cons tok52 (.cons tok57 (.cons tok75 (.cons tok132 .nil)))))))); (try rw [← ho]); cbv; (repeat (refine StopN.mk ?_; cbv)))
  repeat' (first | (refine Br.mk (fun hb => ?_) (fun hb => ?_) <;> ((try rw [ho] at hb); (try dsimp only [Ar.real, IX.vo] at hb); (try simp only [QB7] at hb); (try simp only [QBo, beq_iff_eq, beq_eq_false_iff_ne, ne_eq] at hb))) | (refine StopN.mk ?_; cbv) | ((first | refine CallI.pure hP (x_Small _ _ ‹_› ‹_›) fn63 (by first | rfl | (rw [ho]; done) | (rw [ho]; rfl)) (by rfl) (by first | rfl | (rw [ho]; done) | (rw [ho]; rfl)) ?_ | refine CallN.pure hP (x_Small _ _ ‹_› ‹_›) fn63 (by first | rfl | (rw [ho]; done) | (rw [ho]; rfl)) (by rfl) (by first | rfl | (rw [ho]; done) | (rw [ho]; rfl)) ?_); (try rw [← ho]); generalize hr : smallP _ _ = r; (try rw [ho] at hr); (try dsimp only [Ar.real, IX.vo] at hr); (try simp only [QB7] at hr); cbv) | (refine hK _ _ ?_) | (refine NeedT.mk ?_ ?_))
  · have e : sm = r := hsm.symm.trans hr
    subst e
    refine .b ?_
    rw [q, decide_eq_true (by ((try clear hR3); (try clear hR2); (try clear hR); (try clear hK); (try simp only [ncCast] at *); (try simp only [castI_eq] at *)); omega), decide_eq_true (by ((try clear hR3); (try clear hR2); (try clear hR); (try clear hK); (try simp only [ncCast] at *); (try simp only [castI_eq] at *)); omega)]
    rfl
  all_goals
    refine .b ?_
    rw [q]
    ((try clear hR3); (try clear hR2); (try clear hR); (try clear hK); (try simp only [ncCast] at *); (try simp only [castI_eq] at *); (try rw [ho]); (try dsimp only [Ar.real, IX.vo, IX.val, BX.val, IX.toN]); (try simp only [QB7]))
    rw [Bool.eq_iff_iff]
    simp only [BX.val, Bool.and_eq_true, decide_eq_true_eq, Bool.false_eq_true, false_iff]
    omega
end Go.Proofs.Ytddgcegimmcbgaa.Sy

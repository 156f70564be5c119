/-
  Fillings: the methods. Plain theorems.
-/
import Derived.Test.YtddgcegimmcbgaaMa
set_option linter.unusedSectionVars false
namespace Go.Proofs.Ytddgcegimmcbgaa.Sy
open Go Go.Sy Go.Proofs.Ytddgcegimmcbgaa
set_option maxRecDepth 100000
set_option maxHeartbeats 8000000
set_option linter.unusedVariables false
set_option linter.unusedSimpArgs false

/-- A filling as the program has it. -/
structure Fil where
  total : S4
  wants : List Want
  left : List Part
  have_ : List S4
  ver : Nat
@[reducible] def Fil.O (o : Ar) (f : Fil) : List OX := [.var [xi f.total.a, xi f.total.b, xi f.total.c, xi f.total.d, .ro (SL o Want.X f.wants), .ro (SL o Part.X f.left), .own (.out 1) f.ver] 198, .row f.ver 61 4 (SL o S4.X f.have_)]
structure FilOk (f : Fil) : Prop where
  nw : f.wants.length ≤ 1048576
  w : ∀ k, (f.wants.getD k default).need.length ≤ 1048576
  left : f.left.length ≤ 1048576
  have_ : f.have_.length = f.wants.length
theorem upLr : ∀ l : List OX, upL l l
  | [] => trivial
  | a :: l => ⟨fun c => upO_refl _, upLr l⟩
theorem FinX_bOr {r : Bool} {x : BX} {O O' : List OX} (h : x.val = r) (hO : O' = O) : FinX (xb r) O (.b x) O' := by
  subst hO
  exact ⟨fun _ => by simp only [X.toD, h]; rfl, upLr _⟩
theorem up_eqr {a b : OX} {l r : List OX} (h : ∀ c, EqO c a b) (hr : upL l r) : upL (a :: l) (b :: r) := ⟨fun c => by obtain ⟨e⟩ := h c; rw [e]; exact upO_refl _, hr⟩
theorem FinX_bUr {r : Bool} {x : BX} {O O' : List OX} (h : x.val = r) (hu : upL O' O) : FinX (xb r) O (.b x) O' := ⟨fun _ => by simp only [X.toD, h]; rfl, hu⟩
def Fil.need (f : Fil) (i : Int) : List Part := (f.wants.getD i.toNat default).need
def fitsB (f : Fil) (i : Int) : Bool := decide (0 ≤ i) && (decide (i < f.wants.length) && (subV f.left (f.need i)).2)
theorem x_fits (o : Ar) (ho : o = Ar.real) (f : Fil) (hf : FilOk f) (i : Int) : XC Try.prog 126 [.ptr (.out 0) 0, xi i] (f.O o) (xb (fitsB f i)) (f.O o) := by
  have hH := x_vecHolds f.left (f.wants.getD i.toNat default).need hf.left (hf.w _)
  unfold fitsB Fil.need
  generalize subV f.left (f.wants.getD i.toNat default).need = q at *
  obtain ⟨t, ws, left, hv, ver⟩ := f
  obtain ⟨h1, h2, h3, h4⟩ := hf
  dsimp only at h1 h2 h3 h4 hH
  have en : o.nth ws (o.toNat i) = ws.getD i.toNat default := by rw [ho, real_nth]; rfl
  rw [← en, ← ho] at hH
  (refine XC.of_body ([(1, [])]) Try.func126 rfl Try.ntmps126 mixed (T := [(2, ti2), (3, ti3), (31, ti31), (42, ti42), (61, ti61), (123, ti123), (132, ti132), (196, ti196), (198, ti198)]) (.cons tok2 (.cons tok3 (.cons tok31 (.cons tok42 (.cons tok61 (.cons tok123 (.cons tok132 (.cons tok196 (.cons tok198 .nil))))))))) (by kernel_rfl) (by simp) rfl rfl rfl rfl rfl ?_; rintro o2 ho2 P hP c K hK; have hm : P.follows .mixedOrders = true := hP ▸ mixed; have hT : TOk P [(2, ti2), (3, ti3), (31, ti31), (42, ti42), (61, ti61), (123, ti123), (132, ti132), (196, ti196), (198, ti198)] := hP ▸ (.cons tok2 (.cons tok3 (.cons tok31 (.cons tok42 (.cons tok61 (.cons tok123 (.cons tok132 (.cons tok196 (.cons tok198 .nil))))))))); (try rw [← ho2]); have e2 : o = o2 := ho.trans ho2.symm; subst e2; cbv; (repeat (refine StopN.mk ?_; cbv)))
  repeat' (first | (refine Br.mk (fun hb => ?_) (fun hb => ?_) <;> ((try rw [ho] at hb); (try dsimp only [Ar.real, IX.vo] at hb); (try simp only [QB7] at hb); (try simp only [QBo, beq_iff_eq, beq_eq_false_iff_ne, ne_eq] at hb))) | (refine StopN.mk ?_; cbv) | (refine CallN.pure hP hH fn146 rfl rfl rfl ?_; cbv) | ((first | refine CallI.pure hP (x_vecHolds _ _ ‹_› ‹_›) fn146 (by first | rfl | (rw [ho]; done) | (rw [ho]; rfl)) (by rfl) (by first | rfl | (rw [ho]; done) | (rw [ho]; rfl)) ?_ | refine CallN.pure hP (x_vecHolds _ _ ‹_› ‹_›) fn146 (by first | rfl | (rw [ho]; done) | (rw [ho]; rfl)) (by rfl) (by first | rfl | (rw [ho]; done) | (rw [ho]; rfl)) ?_); (try rw [← ho]); generalize hr : subV _ _ = r; (try rw [ho] at hr); (try dsimp only [Ar.real, IX.vo] at hr); (try simp only [QB7] at hr); cbv) | (refine hK _ _ ?_) | (refine NeedT.mk ?_ ?_))
  any_goals (((try clear hR3); (try clear hR2); (try clear hR); (try clear hK); (try simp only [ncCast] at *); (try simp only [castI_eq] at *); (try rw [ho]); (try dsimp only [Ar.real, IX.vo, IX.val, BX.val, IX.toN]); (try simp only [QB7]); (try simp only [decide_eq_true_eq]); (all_goals (repeat rw [wrap_i64 (by omega) (by omega)])); (all_goals (first | omega | (simp only [Int.ofNat_eq_natCast]; omega)))); done)
  all_goals
    refine FinX_bOr ?_ rfl
    ((try clear hR3); (try clear hR2); (try clear hR); (try clear hK); (try simp only [ncCast] at *); (try simp only [castI_eq] at *); (try rw [ho]); (try dsimp only [Ar.real, IX.vo, IX.val, BX.val, IX.toN]); (try simp only [QB7]))
    first
      | (rw [decide_eq_true (by assumption), decide_eq_true (by omega)]; rfl)
      | (rw [decide_eq_true (by assumption), decide_eq_false (by omega)]; rfl)
      | (rw [decide_eq_false (by omega)]; rfl)
theorem FinX_aggO {l m : List X} {O O' : List OX} (h : ∀ c, X.toDL c l = X.toDL c m) (hO : O' = O) : FinX (.agg l) O (.agg m) O' := by
  subst hO
  exact ⟨fun c => by simp only [X.toD, h c], upLr _⟩
theorem x_fshare (o : Ar) (ho : o = Ar.real) (f : Fil) (hf : FilOk f) (i : Int) (hi : 0 ≤ i ∧ i < f.wants.length) : XC Try.prog 125 [.ptr (.out 0) 0, xi i] (f.O o) (.agg (Shr.X o (shrOf (f.have_.getD i.toNat default) f.total (f.wants.getD i.toNat default).weight))) (f.O o) := by
  have hS := x_shrOf (f.have_.getD i.toNat default) f.total (f.wants.getD i.toNat default).weight
  generalize shrOf (f.have_.getD i.toNat default) f.total (f.wants.getD i.toNat default).weight = q at *
  obtain ⟨t, ws, left, hv, ver⟩ := f
  obtain ⟨h1, h2, h3, h4⟩ := hf
  dsimp only at h1 h2 h3 h4 hS hi
  have en : o.nth ws (o.toNat i) = ws.getD i.toNat default := by rw [ho, real_nth]; rfl
  have en2 : o.nth hv (o.toNat i) = hv.getD i.toNat default := by rw [ho, real_nth]; rfl
  rw [← en, ← en2, ← ho] at hS
  (refine XC.of_body ([(1, [])]) Try.func125 rfl Try.ntmps125 mixed (T := [(2, ti2), (31, ti31), (42, ti42), (61, ti61), (64, ti64), (108, ti108), (132, ti132), (196, ti196), (198, ti198)]) (.cons tok2 (.cons tok31 (.cons tok42 (.cons tok61 (.cons tok64 (.cons tok108 (.cons tok132 (.cons tok196 (.cons tok198 .nil))))))))) (by kernel_rfl) (by simp) rfl rfl rfl rfl rfl ?_; rintro o2 ho2 P hP c K hK; have hm : P.follows .mixedOrders = true := hP ▸ mixed; have hT : TOk P [(2, ti2), (31, ti31), (42, ti42), (61, ti61), (64, ti64), (108, ti108), (132, ti132), (196, ti196), (198, ti198)] := hP ▸ (.cons tok2 (.cons tok31 (.cons tok42 (.cons tok61 (.cons tok64 (.cons tok108 (.cons tok132 (.cons tok196 (.cons tok198 .nil))))))))); (try rw [← ho2]); have e2 : o = o2 := ho.trans ho2.symm; subst e2; cbv; (repeat (refine StopN.mk ?_; cbv)))
  repeat' (first | (refine Br.mk (fun hb => ?_) (fun hb => ?_) <;> ((try rw [ho] at hb); (try dsimp only [Ar.real, IX.vo] at hb); (try simp only [QB7] at hb); (try simp only [QBo, beq_iff_eq, beq_eq_false_iff_ne, ne_eq] at hb))) | (refine StopN.mk ?_; cbv) | (refine CallN.pure hP hS fn162 rfl rfl rfl ?_; cbv) | ((first | refine CallI.pure hP (x_shrOf _ _ _) fn162 (by first | rfl | (rw [ho]; done) | (rw [ho]; rfl)) (by rfl) (by first | rfl | (rw [ho]; done) | (rw [ho]; rfl)) ?_ | refine CallN.pure hP (x_shrOf _ _ _) fn162 (by first | rfl | (rw [ho]; done) | (rw [ho]; rfl)) (by rfl) (by first | rfl | (rw [ho]; done) | (rw [ho]; rfl)) ?_); (try rw [← ho]); generalize hr : shrOf _ _ _ = r; (try rw [ho] at hr); (try dsimp only [Ar.real, IX.vo] at hr); (try simp only [QB7] at hr); cbv) | (refine hK _ _ ?_) | (refine NeedT.mk ?_ ?_))
  any_goals (((try clear hR3); (try clear hR2); (try clear hR); (try clear hK); (try simp only [ncCast] at *); (try simp only [castI_eq] at *); (try rw [ho]); (try dsimp only [Ar.real, IX.vo, IX.val, BX.val, IX.toN]); (try simp only [QB7]); (try simp only [decide_eq_true_eq]); (all_goals (repeat rw [wrap_i64 (by omega) (by omega)])); (all_goals (first | omega | (simp only [Int.ofNat_eq_natCast]; omega)))); done)
  exact FinX_aggO (fun c => rfl) rfl
def setH (f : Fil) (i : Int) : List S4 := f.have_.set i.toNat (sumsAdd (f.have_.getD i.toNat default) (sumsOf (f.need i))).1
def launchF (f : Fil) (i : Int) : Fil := if fitsB f i = true then ⟨f.total, f.wants, (subV f.left (f.need i)).1, setH f i, f.ver⟩ else f
theorem subV_len (a b : List Part) : (subV a b).1.length ≤ a.length := by
  unfold subV
  split
  · split
    · rename_i h
      exact (subTo_len h).1
    · simp
  · simp
theorem launchF_ok {f : Fil} (h : FilOk f) (i : Int) : FilOk (launchF f i) := by
  unfold launchF
  split
  · refine ⟨h.nw, h.w, Nat.le_trans (subV_len _ _) h.left, ?_⟩
    show (setH f i).length = _
    unfold setH
    rw [List.length_set]
    exact h.have_
  · exact h
theorem x_launch (o : Ar) (ho : o = Ar.real) (f : Fil) (hf : FilOk f) (i : Int) : XC Try.prog 67 [.ptr (.out 0) 0, xi i] (f.O o) (xb (fitsB f i)) ((launchF f i).O o) := by
  have hF := x_fits o ho f hf i
  have hV := x_vecSub f.left (f.need i) hf.left (hf.w _)
  have hO := x_sumsOf (f.need i) (hf.w _)
  have hA := x_sumsAdd (f.have_.getD i.toNat default) (sumsOf (f.need i))
  have hin : fitsB f i = true → 0 ≤ i ∧ i < f.wants.length := fun h => by
    unfold fitsB at h
    simp only [Bool.and_eq_true, decide_eq_true_eq] at h
    exact ⟨h.1, h.2.1⟩
  have e1 : fitsB f i = true → launchF f i = ⟨f.total, f.wants, (subV f.left (f.need i)).1, setH f i, f.ver⟩ := fun h => if_pos h
  have e2 : fitsB f i = false → launchF f i = f := fun h => if_neg (by rw [h]; decide)
  generalize fitsB f i = b at *
  cases b with
  | false =>
    rw [e2 rfl]
    clear e1 e2
    obtain ⟨t, ws, left, hv, ver⟩ := f
    (refine XC.of_body ([(3, []), (4, [(2, 20), (3, 20), (7, 20), (8, 20), (10, 20), (11, 20), (2, 21), (3, 21)])]) Try.func67 rfl Try.ntmps67 mixed (T := [(2, ti2), (4, ti4), (31, ti31), (42, ti42), (61, ti61), (123, ti123), (132, ti132), (196, ti196), (198, ti198)]) (.cons tok2 (.cons tok4 (.cons tok31 (.cons tok42 (.cons tok61 (.cons tok123 (.cons tok132 (.cons tok196 (.cons tok198 .nil))))))))) (by kernel_rfl) (by simp) rfl rfl rfl rfl rfl ?_; rintro o2 ho2 P hP c K hK; have hm : P.follows .mixedOrders = true := hP ▸ mixed; have hT : TOk P [(2, ti2), (4, ti4), (31, ti31), (42, ti42), (61, ti61), (123, ti123), (132, ti132), (196, ti196), (198, ti198)] := hP ▸ (.cons tok2 (.cons tok4 (.cons tok31 (.cons tok42 (.cons tok61 (.cons tok123 (.cons tok132 (.cons tok196 (.cons tok198 .nil))))))))); (try rw [← ho2]); have e2 : o = o2 := ho.trans ho2.symm; subst e2; cbv; (repeat (refine StopN.mk ?_; cbv)))
    repeat' (first | (refine Br.mk (fun hb => ?_) (fun hb => ?_) <;> ((try rw [ho] at hb); (try dsimp only [Ar.real, IX.vo] at hb); (try simp only [QB7] at hb); (try simp only [QBo, beq_iff_eq, beq_eq_false_iff_ne, ne_eq] at hb))) | (refine StopN.mk ?_; cbv) | ((first | refine CallI.objs [.out 0, .out 1] hP hF fn126 rfl rfl rfl rfl (by rfl) rfl rfl rfl rfl (by rfl) ⟨⟨_, rfl, rfl⟩, ⟨_, rfl, rfl⟩, trivial⟩ ?_); cbv) | ((first | refine CallI.pure hP (x_sumsOf _ ‹_›) fn122 (by first | rfl | (rw [ho]; done) | (rw [ho]; rfl)) (by rfl) (by first | rfl | (rw [ho]; done) | (rw [ho]; rfl)) ?_ | refine CallN.pure hP (x_sumsOf _ ‹_›) fn122 (by first | rfl | (rw [ho]; done) | (rw [ho]; rfl)) (by rfl) (by first | rfl | (rw [ho]; done) | (rw [ho]; rfl)) ?_); (try rw [← ho]); generalize hr : sumsOf _ = r; (try rw [ho] at hr); (try dsimp only [Ar.real, IX.vo] at hr); (try simp only [QB7] at hr); cbv) | ((first | refine CallI.pure hP (x_vecSub _ _ ‹_› ‹_›) fn128 (by first | rfl | (rw [ho]; done) | (rw [ho]; rfl)) (by rfl) (by first | rfl | (rw [ho]; done) | (rw [ho]; rfl)) ?_ | refine CallN.pure hP (x_vecSub _ _ ‹_› ‹_›) fn128 (by first | rfl | (rw [ho]; done) | (rw [ho]; rfl)) (by rfl) (by first | rfl | (rw [ho]; done) | (rw [ho]; rfl)) ?_); (try rw [← ho]); generalize hr : subV _ _ = r; (try rw [ho] at hr); (try dsimp only [Ar.real, IX.vo] at hr); (try simp only [QB7] at hr); cbv) | ((first | refine CallI.pure hP (x_sumsAdd _ _) fn129 (by first | rfl | (rw [ho]; done) | (rw [ho]; rfl)) (by rfl) (by first | rfl | (rw [ho]; done) | (rw [ho]; rfl)) ?_ | refine CallN.pure hP (x_sumsAdd _ _) fn129 (by first | rfl | (rw [ho]; done) | (rw [ho]; rfl)) (by rfl) (by first | rfl | (rw [ho]; done) | (rw [ho]; rfl)) ?_); (try rw [← ho]); generalize hr : sumsAdd _ _ = r; (try rw [ho] at hr); (try dsimp only [Ar.real, IX.vo] at hr); (try simp only [QB7] at hr); cbv) | (refine hK _ _ ?_) | (refine NeedT.mk ?_ ?_))
    all_goals first
      | exact FinX_bOr rfl rfl
      | (exact absurd ‹false = true› (by decide))
  | true =>
    rw [e1 rfl]
    have hin := hin rfl
    clear e1 e2
    unfold setH Fil.need
    unfold Fil.need at hV hO hA
    generalize subV f.left (f.wants.getD i.toNat default).need = q at *
    generalize sumsOf (f.wants.getD i.toNat default).need = sn at *
    obtain ⟨t, ws, left, hv, ver⟩ := f
    obtain ⟨h1, h2, h3, h4⟩ := hf
    dsimp only at h1 h2 h3 h4 hV hO hA hin
    dsimp only
    generalize sumsAdd (hv.getD i.toNat default) sn = sa at *
    obtain ⟨hv', hhv⟩ : ∃ q, q = hv.set i.toNat sa.1 := ⟨_, rfl⟩
    rw [← hhv]
    have en : o.nth ws (o.toNat i) = ws.getD i.toNat default := by rw [ho, real_nth]; rfl
    have en2 : o.nth hv (o.toNat i) = hv.getD i.toNat default := by rw [ho, real_nth]; rfl
    rw [← en, ← ho] at hV hO
    rw [← en2, ← ho] at hA
    (refine XC.of_body ([(3, []), (4, [(2, 20), (3, 20), (7, 20), (8, 20), (10, 20), (11, 20), (2, 21), (3, 21)])]) Try.func67 rfl Try.ntmps67 mixed (T := [(2, ti2), (4, ti4), (31, ti31), (42, ti42), (61, ti61), (123, ti123), (132, ti132), (196, ti196), (198, ti198)]) (.cons tok2 (.cons tok4 (.cons tok31 (.cons tok42 (.cons tok61 (.cons tok123 (.cons tok132 (.cons tok196 (.cons tok198 .nil))))))))) (by kernel_rfl) (by simp) rfl rfl rfl rfl rfl ?_; rintro o2 ho2 P hP c K hK; have hm : P.follows .mixedOrders = true := hP ▸ mixed; have hT : TOk P [(2, ti2), (4, ti4), (31, ti31), (42, ti42), (61, ti61), (123, ti123), (132, ti132), (196, ti196), (198, ti198)] := hP ▸ (.cons tok2 (.cons tok4 (.cons tok31 (.cons tok42 (.cons tok61 (.cons tok123 (.cons tok132 (.cons tok196 (.cons tok198 .nil))))))))); (try rw [← ho2]); have e2 : o = o2 := ho.trans ho2.symm; subst e2; cbv; (repeat (refine StopN.mk ?_; cbv)))
    repeat' (first | (refine Br.mk (fun hb => ?_) (fun hb => ?_) <;> ((try rw [ho] at hb); (try dsimp only [Ar.real, IX.vo] at hb); (try simp only [QB7] at hb); (try simp only [QBo, beq_iff_eq, beq_eq_false_iff_ne, ne_eq] at hb))) | (refine StopN.mk ?_; cbv) | ((first | refine CallI.objs [.out 0, .out 1] hP hF fn126 rfl rfl rfl rfl (by rfl) rfl rfl rfl rfl (by rfl) ⟨⟨_, rfl, rfl⟩, ⟨_, rfl, rfl⟩, trivial⟩ ?_ | refine CallN.pure hP hV fn128 rfl rfl rfl ?_ | refine CallN.pure hP hO fn122 rfl rfl rfl ?_ | refine CallN.pure hP hA fn129 rfl rfl rfl ?_); cbv) | ((first | refine CallI.pure hP (x_sumsOf _ ‹_›) fn122 (by first | rfl | (rw [ho]; done) | (rw [ho]; rfl)) (by rfl) (by first | rfl | (rw [ho]; done) | (rw [ho]; rfl)) ?_ | refine CallN.pure hP (x_sumsOf _ ‹_›) fn122 (by first | rfl | (rw [ho]; done) | (rw [ho]; rfl)) (by rfl) (by first | rfl | (rw [ho]; done) | (rw [ho]; rfl)) ?_); (try rw [← ho]); generalize hr : sumsOf _ = r; (try rw [ho] at hr); (try dsimp only [Ar.real, IX.vo] at hr); (try simp only [QB7] at hr); cbv) | ((first | refine CallI.pure hP (x_vecSub _ _ ‹_› ‹_›) fn128 (by first | rfl | (rw [ho]; done) | (rw [ho]; rfl)) (by rfl) (by first | rfl | (rw [ho]; done) | (rw [ho]; rfl)) ?_ | refine CallN.pure hP (x_vecSub _ _ ‹_› ‹_›) fn128 (by first | rfl | (rw [ho]; done) | (rw [ho]; rfl)) (by rfl) (by first | rfl | (rw [ho]; done) | (rw [ho]; rfl)) ?_); (try rw [← ho]); generalize hr : subV _ _ = r; (try rw [ho] at hr); (try dsimp only [Ar.real, IX.vo] at hr); (try simp only [QB7] at hr); cbv) | ((first | refine CallI.pure hP (x_sumsAdd _ _) fn129 (by first | rfl | (rw [ho]; done) | (rw [ho]; rfl)) (by rfl) (by first | rfl | (rw [ho]; done) | (rw [ho]; rfl)) ?_ | refine CallN.pure hP (x_sumsAdd _ _) fn129 (by first | rfl | (rw [ho]; done) | (rw [ho]; rfl)) (by rfl) (by first | rfl | (rw [ho]; done) | (rw [ho]; rfl)) ?_); (try rw [← ho]); generalize hr : sumsAdd _ _ = r; (try rw [ho] at hr); (try dsimp only [Ar.real, IX.vo] at hr); (try simp only [QB7] at hr); cbv) | (refine hK _ _ ?_) | (refine NeedT.mk ?_ ?_))
    any_goals (((try clear hR3); (try clear hR2); (try clear hR); (try clear hK); (try simp only [ncCast] at *); (try simp only [castI_eq] at *); (try rw [ho]); (try dsimp only [Ar.real, IX.vo, IX.val, BX.val, IX.toN]); (try simp only [QB7]); (try simp only [decide_eq_true_eq]); (all_goals (repeat rw [wrap_i64 (by omega) (by omega)])); (all_goals (first | omega | (simp only [Int.ofNat_eq_natCast]; omega)))); done)
    · exact absurd ‹true = false› (by decide)
    refine FinX_bUr rfl (up_eqr (fun c => .rfl') (up_eqr (fun c => EqO.set ho S4.X hv hv' _ i.toNat sa.1 _ rfl hhv ?_ ?_) (upLr _)))
    · show i = (i.toNat : Int)
      have := hin.1
      clear hm hT
      omega
    · rfl
end Go.Proofs.Ytddgcegimmcbgaa.Sy

set_option linter.unusedSectionVars false
namespace Go.Proofs.Ytddgcegimmcbgaa.Sy
open Go Go.Sy Go.Proofs.Ytddgcegimmcbgaa
set_option maxRecDepth 100000
set_option maxHeartbeats 8000000
set_option linter.unusedVariables false
set_option linter.unusedSimpArgs false

def shareF (f : Fil) (i : Int) : Shr := shrOf (f.have_.getD i.toNat default) f.total (f.wants.getD i.toNat default).weight
def someTo (f : Fil) : Nat → List Int
  | 0 => []
  | k + 1 => if fitsB f k = true then someTo f k ++ [(k : Int)] else someTo f k
def sharesTo (f : Fil) : Nat → List Shr
  | 0 => []
  | k + 1 => if fitsB f k = true then sharesTo f k ++ [shareF f k] else sharesTo f k
theorem someTo_len (f : Fil) : ∀ k, (someTo f k).length ≤ k ∧ (sharesTo f k).length = (someTo f k).length
  | 0 => by simp [someTo, sharesTo]
  | k + 1 => by
    have := someTo_len f k
    simp only [someTo, sharesTo]
    split
    · simp; omega
    · omega
def nextR (f : Fil) : List Int := (leastR (sharesTo f f.wants.length)).map fun k => (someTo f f.wants.length).getD k.toNat 0
theorem FinX_roO {x : X} {O O' : List OX} (hO : O' = O) : FinX x O x O' := by
  subst hO
  exact ⟨fun _ => rfl, upLr _⟩
structure StN where
  i : Nat
  rv : Nat
  sv : Nat
  out : List Int
  sh : List Shr
structure InN (f : Fil) (s : StN) : Prop where
  i : s.i ≤ f.wants.length
  out : s.out = someTo f s.i
  sh : s.sh = sharesTo f s.i
theorem x_next (o : Ar) (ho : o = Ar.real) (f : Fil) (hf : FilOk f) : XC Try.prog 66 [.ptr (.out 0) 0] (f.O o) (.ro (SL o encI (nextR f))) (f.O o) := by
  have hF := fun i => x_fits o ho f hf i
  have hS := fun (i : Nat) (h : i < f.wants.length) => x_fshare o ho f hf i ⟨by omega, by omega⟩
  have hlen := someTo_len f
  have h01 : someTo f 0 = [] := rfl
  have h02 : sharesTo f 0 = [] := rfl
  have h11 : ∀ k, someTo f (k + 1) = if fitsB f k = true then someTo f k ++ [(k : Int)] else someTo f k := fun _ => rfl
  have h12 : ∀ k, sharesTo f (k + 1) = if fitsB f k = true then sharesTo f k ++ [shareF f k] else sharesTo f k := fun _ => rfl
  have hnw := hf.nw
  have hlen2 : ∀ i, i ≤ f.wants.length → (sharesTo f i).length ≤ 1048576 := fun i hi => by
    have := someTo_len f i
    omega
  obtain ⟨res, hres⟩ : ∃ q, q = nextR f := ⟨_, rfl⟩
  rw [← hres]
  (refine XC.of_body ([]) Try.func66 rfl Try.ntmps66 mixed (T := [(3, ti3), (31, ti31), (42, ti42), (43, ti43), (61, ti61), (108, ti108), (132, ti132), (196, ti196), (198, ti198), (200, ti200)]) (.cons tok3 (.cons tok31 (.cons tok42 (.cons tok43 (.cons tok61 (.cons tok108 (.cons tok132 (.cons tok196 (.cons tok198 (.cons tok200 .nil)))))))))) (by kernel_rfl) (by simp) rfl rfl rfl rfl rfl ?_; rintro o2 ho2 P hP c K hK; have hm : P.follows .mixedOrders = true := hP ▸ mixed; have hT : TOk P [(3, ti3), (31, ti31), (42, ti42), (43, ti43), (61, ti61), (108, ti108), (132, ti132), (196, ti196), (198, ti198), (200, ti200)] := hP ▸ (.cons tok3 (.cons tok31 (.cons tok42 (.cons tok43 (.cons tok61 (.cons tok108 (.cons tok132 (.cons tok196 (.cons tok198 (.cons tok200 .nil)))))))))); (try rw [← ho2]); have e2 : o = o2 := ho.trans ho2.symm; subst e2; cbv; (repeat (refine StopN.mk ?_; cbv)))
  refine LoopN.ghost 3 3 1 rfl ?_
  refine LoopN.ghost 5 108 3 rfl ?_
  refine LoopN.over (o := o) (D := []) ho hm hT (by kernel_rfl) (fun s : StN => [(17, xn s.i), (3, .own (.loc 0) s.rv), (5, .own (.loc 1) s.sv)]) (fun s => [(0, .row s.rv 3 1 (SL o encI s.out)), (1, .row s.sv 108 3 (SL o Shr.X s.sh))]) (fun _ => []) (InN f) (fun s => f.wants.length - s.i) ⟨0, 0, 0, [], []⟩ ⟨Nat.zero_le _, h01.symm, h02.symm⟩ ?_ ?_
  · refine ⟨(by cbv), by cbv; repeat' (first | trivial | exact EqX.rfl' | exact EqO.rfl' | apply And.intro | ((try clear hR3); (try clear hR2); (try clear hR); (try clear hK); (try simp only [ncCast] at *); (try simp only [castI_eq] at *); refine EqX.i ?_; (try rw [ho]); (try dsimp only [Ar.real, IX.vo, IX.val, BX.val, IX.toN]); (try simp only [QB7]); (repeat rw [wrap_i64 (by omega) (by omega)]); omega) | exact EqO.row rfl (rows_nil_SL o ho encI) | exact EqO.row rfl (rows_nil_SL o ho Shr.X)), by cbv; repeat' (first | trivial | exact EqO.rfl' | apply And.intro | exact EqO.row rfl (rows_nil_SL o ho encI) | exact EqO.row rfl (rows_nil_SL o ho Shr.X)), by cbv; repeat' (first | trivial | exact EqO.rfl' | apply And.intro | exact EqO.row rfl (rows_nil_SL o ho encI) | exact EqO.row rfl (rows_nil_SL o ho Shr.X))⟩
  · rintro ⟨i, rv, sv, out, sh⟩ ⟨hi, hout, hsh⟩ R hR
    dsimp only at hi hout hsh
    have e1 := h11 i
    have e2 := h12 i
    have hl := hlen i
    rw [← hout, ← hsh] at hl
    rw [← hout] at e1
    rw [← hsh] at e2
    have hFi := hF i
    have hSi := hS i
    have hL := x_Least sh (by rw [hsh]; exact hlen2 i hi)
    have hLb := leastTo_bd sh sh.length
    generalize fitsB f i = b at *
    unfold shareF at e2
    unfold nextR leastR at hres
    unfold leastR at hL
    generalize hls : leastTo sh sh.length = ls at *
    rw [← ho] at hL
    generalize shrOf (f.have_.getD (Int.toNat i) default) f.total (f.wants.getD (Int.toNat i) default).weight = q at *
    obtain ⟨out', hout'⟩ : ∃ q, q = someTo f (i + 1) := ⟨_, rfl⟩
    obtain ⟨sh', hsh'⟩ : ∃ q, q = sharesTo f (i + 1) := ⟨_, rfl⟩
    rw [← hout'] at e1
    rw [← hsh'] at e2
    cbv
    repeat' (first | (refine Br.mk (fun hb => ?_) (fun hb => ?_) <;> ((try rw [ho] at hb); (try dsimp only [Ar.real, IX.vo] at hb); (try simp only [QB7] at hb); (try simp only [QBo, beq_iff_eq, beq_eq_false_iff_ne, ne_eq] at hb))) | (refine StopN.mk ?_; cbv) | ((first | refine CallI.objs [.out 0, .out 1] hP hFi fn126 rfl rfl rfl rfl (by rfl) rfl rfl rfl rfl (by rfl) ⟨⟨_, rfl, rfl⟩, ⟨_, rfl, rfl⟩, trivial⟩ ?_ | refine CallI.objs [.out 0, .out 1] hP (hSi (by assumption)) fn125 rfl rfl rfl rfl (by rfl) rfl rfl rfl rfl (by rfl) ⟨⟨_, rfl, rfl⟩, ⟨_, rfl, rfl⟩, trivial⟩ ?_ | refine FrzN.frz 1 [34] rfl (fun t ht => by rw [List.mem_singleton.1 ht]; rfl) (.done ?_) | refine CallI.pure hP hL fn127 rfl rfl rfl ?_); cbv) | ((first | refine CallI.pure hP (x_Least _ ‹_›) fn127 (by first | rfl | (rw [ho]; done) | (rw [ho]; rfl)) (by rfl) (by first | rfl | (rw [ho]; done) | (rw [ho]; rfl)) ?_ | refine CallN.pure hP (x_Least _ ‹_›) fn127 (by first | rfl | (rw [ho]; done) | (rw [ho]; rfl)) (by rfl) (by first | rfl | (rw [ho]; done) | (rw [ho]; rfl)) ?_); (try rw [← ho]); generalize hr : leastR _ = r; (try rw [ho] at hr); (try dsimp only [Ar.real, IX.vo] at hr); (try simp only [QB7] at hr); cbv) | (refine hK _ _ ?_) | (refine NeedT.mk ?_ ?_))
    any_goals (((try clear hR3); (try clear hR2); (try clear hR); (try clear hK); (try simp only [ncCast] at *); (try simp only [castI_eq] at *); (try rw [ho]); (try dsimp only [Ar.real, IX.vo, IX.val, BX.val, IX.toN]); (try simp only [QB7]); (try simp only [decide_eq_true_eq]); (all_goals (repeat rw [wrap_i64 (by omega) (by omega)])); (all_goals (first | omega | (simp only [Int.ofNat_eq_natCast]; omega)))); done)
    · rw [if_pos (by assumption)] at e1 e2
      refine hR _ ⟨i + 1, rv + 1, sv + 1, out', sh'⟩ (by dsimp only; omega) ⟨by dsimp only; omega, hout', hsh'⟩ ?_
      refine ⟨(by cbv), by cbv; repeat' (first | trivial | exact EqX.rfl' | exact EqO.rfl' | apply And.intro | ((try clear hR3); (try clear hR2); (try clear hR); (try clear hK); (try simp only [ncCast] at *); (try simp only [castI_eq] at *); refine EqX.i ?_; (try rw [ho]); (try dsimp only [Ar.real, IX.vo, IX.val, BX.val, IX.toN]); (try simp only [QB7]); (repeat rw [wrap_i64 (by omega) (by omega)]); omega) | exact EqO.snoc ho encI _ _ _ _ rfl e1 rfl | (refine EqO.snoc ho Shr.X _ _ _ _ rfl e2 ?_; (try rw [ho]); rfl)), by cbv; repeat' (first | trivial | exact EqO.rfl' | apply And.intro | exact EqO.snoc ho encI _ _ _ _ rfl e1 rfl | (refine EqO.snoc ho Shr.X _ _ _ _ rfl e2 ?_; (try rw [ho]); rfl)), by cbv; repeat' (first | trivial | exact EqO.rfl' | apply And.intro | exact EqO.snoc ho encI _ _ _ _ rfl e1 rfl | (refine EqO.snoc ho Shr.X _ _ _ _ rfl e2 ?_; (try rw [ho]); rfl))⟩
    · rw [if_neg (by rw [‹b = false›]; decide)] at e1 e2
      refine hR _ ⟨i + 1, rv, sv, out', sh'⟩ (by dsimp only; omega) ⟨by dsimp only; omega, hout', hsh'⟩ ?_
      subst e1
      subst e2
      refine ⟨(by cbv), by cbv; repeat' (first | trivial | exact EqX.rfl' | exact EqO.rfl' | apply And.intro | ((try clear hR3); (try clear hR2); (try clear hR); (try clear hK); (try simp only [ncCast] at *); (try simp only [castI_eq] at *); refine EqX.i ?_; (try rw [ho]); (try dsimp only [Ar.real, IX.vo, IX.val, BX.val, IX.toN]); (try simp only [QB7]); (repeat rw [wrap_i64 (by omega) (by omega)]); omega)), by cbv; repeat' (first | trivial | exact EqO.rfl' | apply And.intro), by cbv; repeat' (first | trivial | exact EqO.rfl' | apply And.intro)⟩
    · obtain rfl : i = f.wants.length := by ((try clear hR3); (try clear hR2); (try clear hR); (try clear hK); (try simp only [ncCast] at *); (try simp only [castI_eq] at *)); omega
      have hmem : ∀ k, k < ls.length → 0 ≤ ls.getD k default ∧ ls.getD k default < out.length := fun k hk => by
        have e : ls.getD k default = ls[k] := by simp [List.getD_eq_getElem?_getD, hk]
        rw [e]
        have := hLb.2 _ (List.getElem_mem hk)
        ((try clear hR3); (try clear hR2); (try clear hR); (try clear hK); (try simp only [ncCast] at *); (try simp only [castI_eq] at *))
        omega
      rw [← hsh, ← hout, hls] at hres
      have hlsl : ls.length ≤ 1048576 := by
        have h1 := hlen2 f.wants.length (Nat.le_refl _)
        have h2 := hLb.1
        rw [← hsh] at h1
        omega
      clear e1 e2 hout' hsh'
      refine LoopN.ghost 4 3 1 rfl ?_
      refine LoopN.over (o := o) (D := []) ho hm hT (by kernel_rfl) (fun s : StL Int => [(37, xn s.i), (4, .own (.loc 2) s.rv)]) (fun s => [(2, .row s.rv 3 1 (SL o encI s.out))]) (fun _ => []) (fun s => s.i ≤ ls.length ∧ s.out = (ls.take s.i).map fun k => out.getD k.toNat 0) (fun s => ls.length - s.i) ⟨0, 0, []⟩ ⟨Nat.zero_le _, by simp⟩ ?_ ?_
      · refine ⟨(by cbv), by cbv; repeat' (first | trivial | exact EqX.rfl' | exact EqO.rfl' | apply And.intro | ((try clear hR3); (try clear hR2); (try clear hR); (try clear hK); (try simp only [ncCast] at *); (try simp only [castI_eq] at *); refine EqX.i ?_; (try rw [ho]); (try dsimp only [Ar.real, IX.vo, IX.val, BX.val, IX.toN]); (try simp only [QB7]); (repeat rw [wrap_i64 (by omega) (by omega)]); omega) | exact EqO.row rfl (rows_nil_SL o ho encI)), by cbv; repeat' (first | trivial | exact EqO.rfl' | apply And.intro | exact EqO.row rfl (rows_nil_SL o ho encI)), by cbv; repeat' (first | trivial | exact EqO.rfl' | apply And.intro | exact EqO.row rfl (rows_nil_SL o ho encI))⟩
      · rintro ⟨k, v, acc⟩ ⟨hk, hacc⟩ R' hR'
        dsimp only at hk hacc
        have hm1 := hmem k
        have hsucc : k < ls.length → (ls.take (k + 1)).map (fun x => out.getD x.toNat 0) = acc ++ [out.getD (ls.getD k default).toNat 0] := fun h => by
          have e : ls.getD k default = ls[k] := by simp [List.getD_eq_getElem?_getD, h]
          rw [List.take_succ_eq_append_getElem h, List.map_append, ← hacc, e]
          rfl
        have hal : acc.length = k := by rw [hacc]; simp; omega
        obtain ⟨acc', hacc'⟩ : ∃ q, q = (ls.take (k + 1)).map (fun x => out.getD x.toNat 0) := ⟨_, rfl⟩
        rw [← hacc'] at hsucc
        cbv
        repeat' (first | (refine Br.mk (fun hb => ?_) (fun hb => ?_) <;> ((try rw [ho] at hb); (try dsimp only [Ar.real, IX.vo] at hb); (try simp only [QB7] at hb); (try simp only [QBo, beq_iff_eq, beq_eq_false_iff_ne, ne_eq] at hb))) | (refine StopN.mk ?_; cbv) | ((first | refine CallI.pure hP (x_Least _ ‹_›) fn127 (by first | rfl | (rw [ho]; done) | (rw [ho]; rfl)) (by rfl) (by first | rfl | (rw [ho]; done) | (rw [ho]; rfl)) ?_ | refine CallN.pure hP (x_Least _ ‹_›) fn127 (by first | rfl | (rw [ho]; done) | (rw [ho]; rfl)) (by rfl) (by first | rfl | (rw [ho]; done) | (rw [ho]; rfl)) ?_); (try rw [← ho]); generalize hr : leastR _ = r; (try rw [ho] at hr); (try dsimp only [Ar.real, IX.vo] at hr); (try simp only [QB7] at hr); cbv) | (refine hK _ _ ?_) | (refine NeedT.mk ?_ ?_))
        any_goals (((try clear hR3); (try clear hR2); (try clear hR); (try clear hK); (try simp only [ncCast] at *); (try simp only [castI_eq] at *); (try rw [ho]); (try dsimp only [Ar.real, IX.vo, IX.val, BX.val, IX.toN]); (try simp only [QB7]); (try simp only [decide_eq_true_eq]); (all_goals (repeat rw [wrap_i64 (by omega) (by omega)])); (all_goals (first | omega | (simp only [Int.ofNat_eq_natCast]; omega)))); done)
        iterate 2
          · have h5 := hm1 (by assumption)
            ((try clear hR3); (try clear hR2); (try clear hR); (try clear hK); (try simp only [ncCast] at *); (try simp only [castI_eq] at *); (try rw [ho]); (try dsimp only [Ar.real, IX.vo, IX.val, BX.val, IX.toN]); (try simp only [QB7]))
            simp only [decide_eq_true_eq]
            exact h5
        · have hs := hsucc (by assumption)
          refine hR' _ ⟨k + 1, v + 1, acc'⟩ (by dsimp only; omega) ⟨by dsimp only; omega, hacc'⟩ ?_
          refine ⟨(by cbv), by cbv; repeat' (first | trivial | exact EqX.rfl' | exact EqO.rfl' | apply And.intro | ((try clear hR3); (try clear hR2); (try clear hR); (try clear hK); (try simp only [ncCast] at *); (try simp only [castI_eq] at *); refine EqX.i ?_; (try rw [ho]); (try dsimp only [Ar.real, IX.vo, IX.val, BX.val, IX.toN]); (try simp only [QB7]); (repeat rw [wrap_i64 (by omega) (by omega)]); omega) | (refine EqO.snoc ho encI _ _ _ _ rfl hs ?_; rw [ho]; rfl)), by cbv; repeat' (first | trivial | exact EqO.rfl' | apply And.intro | (refine EqO.snoc ho encI _ _ _ _ rfl hs ?_; rw [ho]; rfl)), by cbv; repeat' (first | trivial | exact EqO.rfl' | apply And.intro | (refine EqO.snoc ho encI _ _ _ _ rfl hs ?_; rw [ho]; rfl))⟩
        · obtain rfl : k = ls.length := by ((try clear hR3); (try clear hR2); (try clear hR); (try clear hK); (try simp only [ncCast] at *); (try simp only [castI_eq] at *)); omega
          rw [List.take_length, ← hres] at hacc
          subst hacc
          exact FinX_roO rfl
end Go.Proofs.Ytddgcegimmcbgaa.Sy

set_option linter.unusedSectionVars false
namespace Go.Proofs.Ytddgcegimmcbgaa.Sy
open Go Go.Sy Go.Proofs.Ytddgcegimmcbgaa
set_option maxRecDepth 100000
set_option maxHeartbeats 8000000
set_option linter.unusedVariables false
set_option linter.unusedSimpArgs false

def prof1 (v : List Part) (ws : List Want) : Prof := ⟨[v], ws, ⟨0, 0, 0, 0⟩⟩
theorem call_begin {P : Program} (hP : P = Try.prog) {o : Ar} (ho : o = Ar.real) {c : Cx} {E : List (Nat × X)} {O : List OX} {k : X → Sx → Prop} (v : List Part) (ws : List Want) (hp : ProfOk (prof1 v ws)) (hv : v.length ≤ 1048576) (hws : ws.length ≤ 1048576)
    (h0 : checkR (prof1 v ws) ≠ 0 → k (.tup [.v (.pointer none), xi (checkR (prof1 v ws))]) ⟨E, [], O⟩)
    (h1 : checkR (prof1 v ws) = 0 → ∀ rr : RR, rr.rows = (SL o S4.X (List.replicate ws.length ⟨0, 0, 0, 0⟩)).rows →
      k (.tup [.ptr (.loc 1) 0, .i .i64 (.lit 0)]) ⟨E, [some (.row 0 61 4 rr), some (.var [xi (sumsOf v).a, xi (sumsOf v).b, xi (sumsOf v).c, xi (sumsOf v).d, .ro (SL o Want.X ws), .ro (SL o Part.X v), .own (.loc 0) 0] 198)], O⟩) :
    CallI P c 64 [.ro (SL o Part.X v), .ro (SL o Want.X ws)] ⟨E, [], O⟩ k := by
  have hm : P.follows .mixedOrders = true := hP ▸ mixed
  (refine CallI.inlK ([(4, [(1, 6), (4, 6), (1, 7), (4, 7)])]) [.ro (SL o Part.X v), .ro (SL o Want.X ws)] [] [] ho hP Try.func64 rfl rfl Try.ntmps64 mixed (T := [(31, ti31), (42, ti42), (52, ti52), (53, ti53), (57, ti57), (61, ti61), (75, ti75), (132, ti132), (196, ti196), (198, ti198)]) (.cons tok31 (.cons tok42 (.cons tok52 (.cons tok53 (.cons tok57 (.cons tok61 (.cons tok75 (.cons tok132 (.cons tok196 (.cons tok198 .nil)))))))))) (by kernel_rfl) (by simp) rfl rfl rfl (by rfl) rfl rfl trivial ?_; intro c2 K2 hK2; cbv)
  have hT := True.intro
  repeat' (first | (refine Br.mk (fun hb => ?_) (fun hb => ?_) <;> ((try rw [ho] at hb); (try dsimp only [Ar.real, IX.vo] at hb); (try simp only [QB7] at hb); (try simp only [QBo, beq_iff_eq, beq_eq_false_iff_ne, ne_eq] at hb))) | (refine StopN.mk ?_; cbv) | ((first | refine CallI.pure hP (x_Check _ ‹_›) fn121 (by first | rfl | (rw [ho]; done) | (rw [ho]; rfl)) (by rfl) (by first | rfl | (rw [ho]; done) | (rw [ho]; rfl)) ?_ | refine CallN.pure hP (x_Check _ ‹_›) fn121 (by first | rfl | (rw [ho]; done) | (rw [ho]; rfl)) (by rfl) (by first | rfl | (rw [ho]; done) | (rw [ho]; rfl)) ?_); (try rw [← ho]); generalize hr : checkR _ = r; (try rw [ho] at hr); (try dsimp only [Ar.real, IX.vo] at hr); (try simp only [QB7] at hr); cbv) | ((first | refine CallI.pure hP (x_sumsOf _ ‹_›) fn122 (by first | rfl | (rw [ho]; done) | (rw [ho]; rfl)) (by rfl) (by first | rfl | (rw [ho]; done) | (rw [ho]; rfl)) ?_ | refine CallN.pure hP (x_sumsOf _ ‹_›) fn122 (by first | rfl | (rw [ho]; done) | (rw [ho]; rfl)) (by rfl) (by first | rfl | (rw [ho]; done) | (rw [ho]; rfl)) ?_); (try rw [← ho]); generalize hr : sumsOf _ = r; (try rw [ho] at hr); (try dsimp only [Ar.real, IX.vo] at hr); (try simp only [QB7] at hr); cbv) | ((first | refine CallI.pure hP (x_Copy _ ‹_›) fn123 (by first | rfl | (rw [ho]; done) | (rw [ho]; rfl)) (by rfl) (by first | rfl | (rw [ho]; done) | (rw [ho]; rfl)) ?_ | refine CallN.pure hP (x_Copy _ ‹_›) fn123 (by first | rfl | (rw [ho]; done) | (rw [ho]; rfl)) (by rfl) (by first | rfl | (rw [ho]; done) | (rw [ho]; rfl)) ?_); (try rw [← ho]); cbv) | (refine hK _ _ ?_) | (refine NeedT.mk ?_ ?_))
  any_goals (((try clear hR3); (try clear hR2); (try clear hR); (try clear hK); (try simp only [ncCast] at *); (try simp only [castI_eq] at *); (try rw [ho]); (try dsimp only [Ar.real, IX.vo, IX.val, BX.val, IX.toN]); (try simp only [QB7]); (try simp only [decide_eq_true_eq]); (all_goals (repeat rw [wrap_i64 (by omega) (by omega)])); (all_goals (first | omega | (simp only [Int.ofNat_eq_natCast]; omega)))); done)
  · refine hK2 _ _ _ rfl rfl rfl rfl rfl ?_
    subst hr
    exact h0 hb
  · refine hK2 _ _ _ rfl rfl rfl rfl rfl ?_
    subst hr
    refine h1 (hr.trans hb) _ ?_
    refine rows_fn_SL o ho S4.X _ _ _ ?_ ?_
    · rw [ho, List.length_replicate]
      rfl
    · intro i hi
      have e : (List.replicate ws.length (⟨0, 0, 0, 0⟩ : S4)).getD i default = ⟨0, 0, 0, 0⟩ := by
        rw [List.getD_eq_getElem?_getD, List.getElem?_replicate]
        split <;> rfl
      rw [e]
      rfl
def fil0 (v : List Part) (ws : List Want) : Fil := ⟨sumsOf v, ws, v, List.replicate ws.length ⟨0, 0, 0, 0⟩, 0⟩
theorem fil0_ok {v : List Part} {ws : List Want} (hp : ProfOk (prof1 v ws)) (hv : v.length ≤ 1048576) : FilOk (fil0 v ws) := ⟨hp.nw, hp.w, hv, List.length_replicate⟩
def filTo (f : Fil) (seq : List Int) : Nat → Fil
  | 0 => f
  | i + 1 => launchF (filTo f seq i) (seq.getD i 0)
theorem launchF_wants (f : Fil) (i : Int) : (launchF f i).wants = f.wants := by
  unfold launchF
  split <;> rfl
theorem filTo_ok {f : Fil} (h : FilOk f) (seq : List Int) : ∀ i, FilOk (filTo f seq i)
  | 0 => h
  | i + 1 => launchF_ok (filTo_ok h seq i) _
theorem nextR_len {f : Fil} (h : FilOk f) : (nextR f).length ≤ 1048576 := by
  unfold nextR leastR
  rw [List.length_map]
  have h1 := (leastTo_bd (sharesTo f f.wants.length) (sharesTo f f.wants.length).length).1
  have h2 := someTo_len f f.wants.length
  have := h.nw
  omega
def validR (v : List Part) (ws : List Want) (seq : List Int) : Int × Bool :=
  if checkR (prof1 v ws) = 0 then
    match nextAt (fun i => !inR (nextR (filTo (fil0 v ws) seq i)) (seq.getD i 0)) 0 seq.length with
    | some i => ((i : Int), false)
    | none => ((seq.length : Int), decide ((nextR (filTo (fil0 v ws) seq seq.length)).length = 0))
  else (0, false)
theorem FinX_ib' {n : Int} {b : Bool} {x : IX} {y : BX} (h : x.val = n) (h' : y.val = b) : FinX (.tup [xi n, xb b]) [] (.tup [.i .i64 x, .b y]) [] := .pure fun _ => by simp only [X.toD, X.toDL, h, h']; rfl
structure StV where
  i : Nat
  f : Fil
theorem x_fillValid (v : List Part) (ws : List Want) (seq : List Int) (hp : ProfOk (prof1 v ws)) (hv : v.length ≤ 1048576) (hseq : seq.length ≤ 1048576) : XC Try.prog 20 [.ro (SL Ar.real Part.X v), .ro (SL Ar.real Want.X ws), .ro (SL Ar.real encI seq)] [] (.tup [xi (validR v ws seq).1, xb (validR v ws seq).2]) [] := by
  have hws := hp.nw
  have hF0 := fil0_ok hp hv
  have hFok := filTo_ok hF0 seq
  have hTo0 : filTo (fil0 v ws) seq 0 = fil0 v ws := rfl
  have hTo1 : ∀ i, filTo (fil0 v ws) seq (i + 1) = launchF (filTo (fil0 v ws) seq i) (seq.getD i 0) := fun _ => rfl
  have hr0 : checkR (prof1 v ws) ≠ 0 → validR v ws seq = (0, false) := fun h => if_neg h
  have hr1 : checkR (prof1 v ws) = 0 → ∀ j, j < seq.length → (∀ i, i < j → inR (nextR (filTo (fil0 v ws) seq i)) (seq.getD i 0) = true) → inR (nextR (filTo (fil0 v ws) seq j)) (seq.getD j 0) = false → validR v ws seq = ((j : Int), false) := by
    intro h j hj hlt hx
    unfold validR
    rw [if_pos h, nextAt_some (Nat.zero_le _) hj (by simp only [hx, Bool.not_false]) (fun k _ hk => by simp only [hlt k hk, Bool.not_true])]
  have hr2 : checkR (prof1 v ws) = 0 → (∀ i, i < seq.length → inR (nextR (filTo (fil0 v ws) seq i)) (seq.getD i 0) = true) → validR v ws seq = ((seq.length : Int), decide ((nextR (filTo (fil0 v ws) seq seq.length)).length = 0)) := by
    intro h hlt
    unfold validR
    rw [if_pos h, nextAt_none (fun k _ hk => by simp only [hlt k hk, Bool.not_true])]
  generalize validR v ws seq = res at *
  generalize hcr : checkR (prof1 v ws) = cr at *
  generalize hM : filTo (fil0 v ws) seq = M at *
  obtain ⟨z, hz⟩ : ∃ z, z = List.replicate ws.length (⟨0, 0, 0, 0⟩ : S4) := ⟨_, rfl⟩
  have hf0 : M 0 = ⟨sumsOf v, ws, v, z, 0⟩ := by rw [hz]; exact hTo0
  clear hF0 hTo0 hM
  (refine XC.of_body ([]) Try.func20 rfl Try.ntmps20 mixed (T := [(3, ti3), (4, ti4), (43, ti43), (53, ti53)]) (.cons tok3 (.cons tok4 (.cons tok43 (.cons tok53 .nil)))) (by kernel_rfl) (by simp) rfl rfl rfl rfl rfl ?_; rintro o ho P hP c K hK; have hm : P.follows .mixedOrders = true := hP ▸ mixed; have hT : TOk P [(3, ti3), (4, ti4), (43, ti43), (53, ti53)] := hP ▸ (.cons tok3 (.cons tok4 (.cons tok43 (.cons tok53 .nil)))); (try rw [← ho]); cbv; (repeat (refine StopN.mk ?_; cbv)))
  refine call_begin hP ho v ws hp hv hws (fun h => ?_) (fun h rr hrr => ?_)
  all_goals rw [hcr] at h
  · rw [hcr]
    cbv
    repeat' (first | (refine Br.mk (fun hb => ?_) (fun hb => ?_) <;> ((try rw [ho] at hb); (try dsimp only [Ar.real, IX.vo] at hb); (try simp only [QB7] at hb); (try simp only [QBo, beq_iff_eq, beq_eq_false_iff_ne, ne_eq] at hb))) | (refine StopN.mk ?_; cbv) | ((first | refine CallI.pure hP (x_Contains _ _ ‹_›) fn65 (by first | rfl | (rw [ho]; done) | (rw [ho]; rfl)) (by rfl) (by first | rfl | (rw [ho]; done) | (rw [ho]; rfl)) ?_ | refine CallN.pure hP (x_Contains _ _ ‹_›) fn65 (by first | rfl | (rw [ho]; done) | (rw [ho]; rfl)) (by rfl) (by first | rfl | (rw [ho]; done) | (rw [ho]; rfl)) ?_); (try rw [← ho]); generalize hr : inR _ _ = r; (try rw [ho] at hr); (try dsimp only [Ar.real, IX.vo] at hr); (try simp only [QB7] at hr); cbv) | (refine hK _ _ ?_) | (refine NeedT.mk ?_ ?_))
    · rw [hr0 h]
      exact FinX_ib' rfl rfl
    · exact absurd hb h
  · rw [← hz] at hrr
    generalize sumsOf v = S0 at *
    cbv
    repeat' (first | (refine Br.mk (fun hb => ?_) (fun hb => ?_) <;> ((try rw [ho] at hb); (try dsimp only [Ar.real, IX.vo] at hb); (try simp only [QB7] at hb); (try simp only [QBo, beq_iff_eq, beq_eq_false_iff_ne, ne_eq] at hb))) | (refine StopN.mk ?_; cbv) | ((first | refine CallI.pure hP (x_Contains _ _ ‹_›) fn65 (by first | rfl | (rw [ho]; done) | (rw [ho]; rfl)) (by rfl) (by first | rfl | (rw [ho]; done) | (rw [ho]; rfl)) ?_ | refine CallN.pure hP (x_Contains _ _ ‹_›) fn65 (by first | rfl | (rw [ho]; done) | (rw [ho]; rfl)) (by rfl) (by first | rfl | (rw [ho]; done) | (rw [ho]; rfl)) ?_); (try rw [← ho]); generalize hr : inR _ _ = r; (try rw [ho] at hr); (try dsimp only [Ar.real, IX.vo] at hr); (try simp only [QB7] at hr); cbv) | (refine hK _ _ ?_) | (refine NeedT.mk ?_ ?_))
    refine LoopN.over (o := o) (D := []) ho hm hT (by kernel_rfl) (fun s : StV => [(22, xn s.i)]) (fun s => [(0, .row s.f.ver 61 4 (SL o S4.X s.f.have_)), (1, .var [xi s.f.total.a, xi s.f.total.b, xi s.f.total.c, xi s.f.total.d, .ro (SL o Want.X s.f.wants), .ro (SL o Part.X s.f.left), .own (.loc 0) s.f.ver] 198)]) (fun _ => []) (fun s => s.i ≤ seq.length ∧ s.f = M s.i ∧ ∀ i, i < s.i → inR (nextR (M i)) (seq.getD i 0) = true) (fun s => seq.length - s.i) ⟨0, ⟨S0, ws, v, z, 0⟩⟩ ⟨Nat.zero_le _, hf0.symm, fun k hk => absurd hk (Nat.not_lt_zero k)⟩ ?_ ?_
    · refine ⟨(by cbv), by cbv; repeat' (first | trivial | exact EqX.rfl' | exact EqO.rfl' | apply And.intro | ((try clear hR3); (try clear hR2); (try clear hR); (try clear hK); (try simp only [ncCast] at *); (try simp only [castI_eq] at *); refine EqX.i ?_; (try rw [ho]); (try dsimp only [Ar.real, IX.vo, IX.val, BX.val, IX.toN]); (try simp only [QB7]); (repeat rw [wrap_i64 (by omega) (by omega)]); omega) | exact EqO.row rfl hrr), by cbv; repeat' (first | trivial | exact EqO.rfl' | apply And.intro | exact EqO.row rfl hrr), by cbv; repeat' (first | trivial | exact EqO.rfl' | apply And.intro | exact EqO.row rfl hrr)⟩
    · rintro ⟨i, F⟩ ⟨hi, hF, hlt⟩ R hR
      dsimp only at hi hF hlt
      have hok := hFok i
      have e1 := hr1 h i
      have e2 := hTo1 i
      rw [← hF] at hok e1 e2
      have hN := x_next o ho F hok
      have hNl := nextR_len hok
      have hLn := x_launch o ho F hok (seq.getD i 0)
      have hlt1 := hlt
      generalize hnx : nextR F = nx at *
      generalize launchF F (seq.getD i 0) = F' at *
      generalize fitsB F (seq.getD i 0) = fb at *
      have hCt := x_Contains nx (seq.getD i 0) hNl
      generalize hIn : inR nx (seq.getD i 0) = b at *
      have en : o.nth seq i = seq.getD i 0 := by rw [ho, real_nth]; rfl
      rw [← en, ← ho] at hCt
      rw [← en] at hLn
      cbv
      repeat' (first | (refine Br.mk (fun hb => ?_) (fun hb => ?_) <;> ((try rw [ho] at hb); (try dsimp only [Ar.real, IX.vo] at hb); (try simp only [QB7] at hb); (try simp only [QBo, beq_iff_eq, beq_eq_false_iff_ne, ne_eq] at hb))) | (refine StopN.mk ?_; cbv) | ((first | refine CallI.objs [.loc 1, .loc 0] hP hN fn66 rfl rfl rfl rfl (by rfl) rfl rfl rfl rfl (by rfl) ⟨⟨_, rfl, rfl⟩, ⟨_, rfl, rfl⟩, trivial⟩ ?_ | refine CallI.objs [.loc 1, .loc 0] hP hLn fn67 rfl rfl rfl rfl (by rfl) rfl rfl rfl rfl (by rfl) ⟨⟨_, rfl, rfl⟩, ⟨_, rfl, rfl⟩, trivial⟩ ?_ | refine CallI.pure hP hCt fn65 rfl rfl rfl ?_); cbv) | ((first | refine CallI.pure hP (x_Contains _ _ ‹_›) fn65 (by first | rfl | (rw [ho]; done) | (rw [ho]; rfl)) (by rfl) (by first | rfl | (rw [ho]; done) | (rw [ho]; rfl)) ?_ | refine CallN.pure hP (x_Contains _ _ ‹_›) fn65 (by first | rfl | (rw [ho]; done) | (rw [ho]; rfl)) (by rfl) (by first | rfl | (rw [ho]; done) | (rw [ho]; rfl)) ?_); (try rw [← ho]); generalize hr : inR _ _ = r; (try rw [ho] at hr); (try dsimp only [Ar.real, IX.vo] at hr); (try simp only [QB7] at hr); cbv) | (refine hK _ _ ?_) | (refine NeedT.mk ?_ ?_))
      any_goals (((try clear hR3); (try clear hR2); (try clear hR); (try clear hK); (try simp only [ncCast] at *); (try simp only [castI_eq] at *); (try rw [ho]); (try dsimp only [Ar.real, IX.vo, IX.val, BX.val, IX.toN]); (try simp only [QB7]); (try simp only [decide_eq_true_eq]); (all_goals (repeat rw [wrap_i64 (by omega) (by omega)])); (all_goals (first | omega | (simp only [Int.ofNat_eq_natCast]; omega)))); done)
      · rw [e1 (by assumption) hlt hb]
        exact FinX_ib' rfl rfl
      · refine hR _ ⟨i + 1, F'⟩ (by show seq.length - (i + 1) < seq.length - i; ((try clear hR3); (try clear hR2); (try clear hR); (try clear hK); (try simp only [ncCast] at *); (try simp only [castI_eq] at *)); omega) ⟨by show i + 1 ≤ seq.length; ((try clear hR3); (try clear hR2); (try clear hR); (try clear hK); (try simp only [ncCast] at *); (try simp only [castI_eq] at *)); omega, e2.symm, fun k hk => ?_⟩ ?_
        · rcases Nat.lt_or_ge k i with h5 | h5
          · exact hlt k h5
          · obtain rfl : k = i := by
              have hk' : k < i + 1 := hk
              clear hk
              ((try clear hR3); (try clear hR2); (try clear hR); (try clear hK); (try simp only [ncCast] at *); (try simp only [castI_eq] at *))
              omega
            rw [← hF, hnx, hIn]
            assumption
        · refine ⟨(by cbv), by cbv; repeat' (first | trivial | exact EqX.rfl' | exact EqO.rfl' | apply And.intro | ((try clear hR3); (try clear hR2); (try clear hR); (try clear hK); (try simp only [ncCast] at *); (try simp only [castI_eq] at *); refine EqX.i ?_; (try rw [ho]); (try dsimp only [Ar.real, IX.vo, IX.val, BX.val, IX.toN]); (try simp only [QB7]); (repeat rw [wrap_i64 (by omega) (by omega)]); omega)), by cbv; repeat' (first | trivial | exact EqO.rfl' | apply And.intro), by cbv; repeat' (first | trivial | exact EqO.rfl' | apply And.intro)⟩
      · obtain rfl : i = seq.length := by ((try clear hR3); (try clear hR2); (try clear hR); (try clear hK); (try simp only [ncCast] at *); (try simp only [castI_eq] at *)); omega
        rw [hr2 h hlt, ← hF, hnx]
        refine FinX_ib' (by rw [ho]; rfl) ?_
        ((try clear hR3); (try clear hR2); (try clear hR); (try clear hK); (try simp only [ncCast] at *); (try simp only [castI_eq] at *); (try rw [ho]); (try dsimp only [Ar.real, IX.vo, IX.val, BX.val, IX.toN]); (try simp only [QB7]))
        exact decide_eq_decide.2 (by omega)
end Go.Proofs.Ytddgcegimmcbgaa.Sy

set_option linter.unusedSectionVars false
namespace Go.Proofs.Ytddgcegimmcbgaa.Sy
open Go Go.Sy Go.Proofs.Ytddgcegimmcbgaa
set_option maxRecDepth 100000
set_option maxHeartbeats 8000000
set_option linter.unusedVariables false
set_option linter.unusedSimpArgs false

@[reducible] def Fil.O3 (o : Ar) (f : Fil) : List OX := f.O o ++ [.var [.ptr (.out 0) 0] 127]
theorem x_NextF (o : Ar) (ho : o = Ar.real) (f : Fil) (hf : FilOk f) (i : Int) : XC Try.prog 70 [xi i, .ptr (.out 2) 0] (f.O3 o) (xb (!fitsB f i)) ((launchF f i).O3 o) := by
  have hL := x_launch o ho f hf i
  generalize fitsB f i = b at *
  generalize launchF f i = g at *
  (refine XC.of_body ([]) Try.func70 rfl Try.ntmps70 mixed (T := [(4, ti4), (127, ti127)]) (.cons tok4 (.cons tok127 .nil)) (by kernel_rfl) (by simp) rfl rfl rfl rfl rfl ?_; rintro o2 ho2 P hP c K hK; have hm : P.follows .mixedOrders = true := hP ▸ mixed; have hT : TOk P [(4, ti4), (127, ti127)] := hP ▸ (.cons tok4 (.cons tok127 .nil)); (try rw [← ho2]); have e2 : o = o2 := ho.trans ho2.symm; subst e2; cbv; (repeat (refine StopN.mk ?_; cbv)))
  repeat' (first | (refine Br.mk (fun hb => ?_) (fun hb => ?_) <;> ((try rw [ho] at hb); (try dsimp only [Ar.real, IX.vo] at hb); (try simp only [QB7] at hb); (try simp only [QBo, beq_iff_eq, beq_eq_false_iff_ne, ne_eq] at hb))) | (refine StopN.mk ?_; cbv) | ((first | refine CallI.objs [.out 0, .out 1] hP hL fn67 rfl rfl rfl rfl (by rfl) rfl rfl rfl rfl (by rfl) ⟨⟨_, rfl, rfl⟩, ⟨_, rfl, rfl⟩, trivial⟩ ?_ | refine CallN.objs [.out 0, .out 1] hP hL fn67 rfl rfl rfl rfl (by rfl) rfl rfl rfl rfl (by rfl) ⟨⟨_, rfl, rfl⟩, ⟨_, rfl, rfl⟩, trivial⟩ ?_); cbv) | (refine hK _ _ ?_) | (refine NeedT.mk ?_ ?_))
  refine FinX_bOr ?_ rfl
  rw [ho]
  rfl
def runJ (f : Fil) (seq : List Int) : Option Nat := nextAt (fun i => !fitsB (filTo f seq i) (seq.getD i 0)) 0 seq.length
def runI (f : Fil) (seq : List Int) : Int := match runJ f seq with | some j => j | none => -1
def runF (f : Fil) (seq : List Int) : Fil := match runJ f seq with | some j => filTo f seq (j + 1) | none => filTo f seq seq.length
theorem FinX_iOr {r : Int} {x : IX} {O O' : List OX} (h : x.val = r) (hO : O' = O) : FinX (xi r) O (.i .i64 x) O' := by
  subst hO
  exact ⟨fun _ => by simp only [X.toD, h]; rfl, upLr _⟩
theorem x_IndexF (o : Ar) (ho : o = Ar.real) (f : Fil) (hf : FilOk f) (seq : List Int) (hseq : seq.length ≤ 1048576) : XC Try.prog 130 [.ro (SL o encI seq), .fn (.func 70) [] [.ptr (.out 2) 0]] (f.O3 o) (xi (runI f seq)) ((runF f seq).O3 o) := by
  have hFok := filTo_ok hf seq
  have hTo0 : filTo f seq 0 = f := rfl
  have hTo1 : ∀ i, filTo f seq (i + 1) = launchF (filTo f seq i) (seq.getD i 0) := fun _ => rfl
  have hr1 : ∀ j, j < seq.length → (∀ i, i < j → fitsB (filTo f seq i) (seq.getD i 0) = true) → fitsB (filTo f seq j) (seq.getD j 0) = false → runI f seq = j ∧ runF f seq = filTo f seq (j + 1) := by
    intro j hj hlt hx
    have : runJ f seq = some j := nextAt_some (Nat.zero_le _) hj (by simp only [hx, Bool.not_false]) (fun k _ hk => by simp only [hlt k hk, Bool.not_true])
    unfold runI runF
    rw [this]
    exact ⟨rfl, rfl⟩
  have hr2 : (∀ i, i < seq.length → fitsB (filTo f seq i) (seq.getD i 0) = true) → runI f seq = -1 ∧ runF f seq = filTo f seq seq.length := by
    intro hlt
    have : runJ f seq = none := nextAt_none (fun k _ hk => by simp only [hlt k hk, Bool.not_true])
    unfold runI runF
    rw [this]
    exact ⟨rfl, rfl⟩
  generalize runI f seq = ri at *
  generalize runF f seq = rf at *
  generalize hM : filTo f seq = M at *
  clear hM
  (refine XC.of_body ([]) Try.func130 rfl Try.ntmps130 mixed (T := [(3, ti3), (43, ti43)]) (.cons tok3 (.cons tok43 .nil)) (by kernel_rfl) (by simp) rfl rfl rfl rfl rfl ?_; rintro o2 ho2 P hP c K hK; have hm : P.follows .mixedOrders = true := hP ▸ mixed; have hT : TOk P [(3, ti3), (43, ti43)] := hP ▸ (.cons tok3 (.cons tok43 .nil)); (try rw [← ho2]); have e2 : o = o2 := ho.trans ho2.symm; subst e2; cbv; (repeat (refine StopN.mk ?_; cbv)))
  refine LoopN.over (o := o) (D := []) ho hm hT (by kernel_rfl) (fun s : StV => [(8, xn s.i)]) (fun _ => []) (fun s => [(0, .var [xi s.f.total.a, xi s.f.total.b, xi s.f.total.c, xi s.f.total.d, .ro (SL o Want.X s.f.wants), .ro (SL o Part.X s.f.left), .own (.out 1) s.f.ver] 198), (1, .row s.f.ver 61 4 (SL o S4.X s.f.have_))]) (fun s => s.i ≤ seq.length ∧ s.f = M s.i ∧ ∀ i, i < s.i → fitsB (M i) (seq.getD i 0) = true) (fun s => seq.length - s.i) ⟨0, f⟩ ⟨Nat.zero_le _, hTo0.symm, fun k hk => absurd hk (Nat.not_lt_zero k)⟩ ?_ ?_
  · refine ⟨(by cbv), by cbv; repeat' (first | trivial | exact EqX.rfl' | exact EqO.rfl' | apply And.intro | ((try clear hR3); (try clear hR2); (try clear hR); (try clear hK); (try simp only [ncCast] at *); (try simp only [castI_eq] at *); refine EqX.i ?_; (try rw [ho]); (try dsimp only [Ar.real, IX.vo, IX.val, BX.val, IX.toN]); (try simp only [QB7]); (repeat rw [wrap_i64 (by omega) (by omega)]); omega)), by cbv; repeat' (first | trivial | exact EqO.rfl' | apply And.intro), by cbv; repeat' (first | trivial | exact EqO.rfl' | apply And.intro)⟩
  · rintro ⟨i, F⟩ ⟨hi, hF, hlt⟩ R hR
    dsimp only at hi hF hlt
    have hok := hFok i
    have e1 := hr1 i
    have e2 := hTo1 i
    rw [e2] at e1
    rw [← hF] at hok e1 e2
    have hLn := x_NextF o ho F hok (seq.getD i 0)
    have en : o.nth seq i = seq.getD i 0 := by rw [ho, real_nth]; rfl
    generalize hF' : launchF F (seq.getD i 0) = F' at *
    generalize hfb : fitsB F (seq.getD i 0) = fb at *
    rw [← en] at hLn
    cbv
    repeat' (first | (refine Br.mk (fun hb => ?_) (fun hb => ?_) <;> ((try rw [ho] at hb); (try dsimp only [Ar.real, IX.vo] at hb); (try simp only [QB7] at hb); (try simp only [QBo, beq_iff_eq, beq_eq_false_iff_ne, ne_eq] at hb))) | (refine StopN.mk ?_; cbv) | ((first | refine CallI.objs [.out 0, .out 1, .out 2] hP hLn fn70 rfl rfl rfl rfl (by rfl) rfl rfl rfl rfl (by rfl) ⟨⟨_, rfl, rfl⟩, ⟨_, rfl, rfl⟩, ⟨_, rfl, rfl⟩, trivial⟩ ?_); cbv) | (refine hK _ _ ?_) | (refine NeedT.mk ?_ ?_))
    any_goals (((try clear hR3); (try clear hR2); (try clear hR); (try clear hK); (try simp only [ncCast] at *); (try simp only [castI_eq] at *); (try rw [ho]); (try dsimp only [Ar.real, IX.vo, IX.val, BX.val, IX.toN]); (try simp only [QB7]); (try simp only [decide_eq_true_eq]); (all_goals (repeat rw [wrap_i64 (by omega) (by omega)])); (all_goals (first | omega | (simp only [Int.ofNat_eq_natCast]; omega)))); done)
    · cases fb with
      | true => cases hb
      | false =>
        obtain ⟨a1, a2⟩ := e1 (by assumption) hlt rfl
        subst a1
        subst a2
        exact FinX_iOr rfl rfl
    · cases fb with
      | false => cases hb
      | true =>
        refine hR _ ⟨i + 1, F'⟩ (by show seq.length - (i + 1) < seq.length - i; ((try clear hR3); (try clear hR2); (try clear hR); (try clear hK); (try simp only [ncCast] at *); (try simp only [castI_eq] at *)); omega) ⟨by show i + 1 ≤ seq.length; ((try clear hR3); (try clear hR2); (try clear hR); (try clear hK); (try simp only [ncCast] at *); (try simp only [castI_eq] at *)); omega, e2.symm, fun k hk => ?_⟩ ?_
        · rcases Nat.lt_or_ge k i with h5 | h5
          · exact hlt k h5
          · obtain rfl : k = i := by
              have hk' : k < i + 1 := hk
              clear hk
              ((try clear hR3); (try clear hR2); (try clear hR); (try clear hK); (try simp only [ncCast] at *); (try simp only [castI_eq] at *))
              omega
            rw [← hF, hfb]
        · refine ⟨(by cbv), by cbv; repeat' (first | trivial | exact EqX.rfl' | exact EqO.rfl' | apply And.intro | ((try clear hR3); (try clear hR2); (try clear hR); (try clear hK); (try simp only [ncCast] at *); (try simp only [castI_eq] at *); refine EqX.i ?_; (try rw [ho]); (try dsimp only [Ar.real, IX.vo, IX.val, BX.val, IX.toN]); (try simp only [QB7]); (repeat rw [wrap_i64 (by omega) (by omega)]); omega)), by cbv; repeat' (first | trivial | exact EqO.rfl' | apply And.intro), by cbv; repeat' (first | trivial | exact EqO.rfl' | apply And.intro)⟩
    · obtain rfl : i = seq.length := by ((try clear hR3); (try clear hR2); (try clear hR); (try clear hK); (try simp only [ncCast] at *); (try simp only [castI_eq] at *)); omega
      obtain ⟨a1, a2⟩ := hr2 hlt
      rw [← hF] at a2
      subst a1
      subst a2
      exact FinX_iOr rfl rfl
def ranB (f : Fil) (seq : List Int) : Bool := decide (0 ≤ runI f seq)
theorem x_ContainsF (o : Ar) (ho : o = Ar.real) (f : Fil) (hf : FilOk f) (seq : List Int) (hseq : seq.length ≤ 1048576) : XC Try.prog 69 [.ro (SL o encI seq), .fn (.func 70) [] [.ptr (.out 2) 0]] (f.O3 o) (xb (ranB f seq)) ((runF f seq).O3 o) := by
  have hI := x_IndexF o ho f hf seq hseq
  unfold ranB
  generalize runI f seq = ri at *
  generalize runF f seq = rf at *
  (refine XC.of_body ([]) Try.func69 rfl Try.ntmps69 mixed (T := [(3, ti3)]) (.cons tok3 .nil) (by kernel_rfl) (by simp) rfl rfl rfl rfl rfl ?_; rintro o2 ho2 P hP c K hK; have hm : P.follows .mixedOrders = true := hP ▸ mixed; have hT : TOk P [(3, ti3)] := hP ▸ (.cons tok3 .nil); (try rw [← ho2]); have e2 : o = o2 := ho.trans ho2.symm; subst e2; cbv; (repeat (refine StopN.mk ?_; cbv)))
  repeat' (first | (refine Br.mk (fun hb => ?_) (fun hb => ?_) <;> ((try rw [ho] at hb); (try dsimp only [Ar.real, IX.vo] at hb); (try simp only [QB7] at hb); (try simp only [QBo, beq_iff_eq, beq_eq_false_iff_ne, ne_eq] at hb))) | (refine StopN.mk ?_; cbv) | ((first | refine CallI.objs [.out 0, .out 1, .out 2] hP hI fn130 rfl rfl rfl rfl (by rfl) rfl rfl rfl rfl (by rfl) ⟨⟨_, rfl, rfl⟩, ⟨_, rfl, rfl⟩, ⟨_, rfl, rfl⟩, trivial⟩ ?_); cbv) | (refine hK _ _ ?_) | (refine NeedT.mk ?_ ?_))
  refine FinX_bOr ?_ rfl
  rw [ho]
  rfl
def nextV (v : List Part) (ws : List Want) (seq : List Int) : List Int :=
  if checkR (prof1 v ws) = 0 then (if ranB (fil0 v ws) seq = true then [] else nextR (runF (fil0 v ws) seq)) else []
theorem runF_ok {f : Fil} (h : FilOk f) (seq : List Int) : FilOk (runF f seq) := by
  unfold runF
  split <;> exact filTo_ok h _ _
theorem x_fillNext (v : List Part) (ws : List Want) (seq : List Int) (hp : ProfOk (prof1 v ws)) (hv : v.length ≤ 1048576) (hseq : seq.length ≤ 1048576) : XC Try.prog 24 [.ro (SL Ar.real Part.X v), .ro (SL Ar.real Want.X ws), .ro (SL Ar.real encI seq)] [] (.ro (SL Ar.real encI (nextV v ws seq))) [] := by
  have hws := hp.nw
  have hF0 := fil0_ok hp hv
  have hr0 : checkR (prof1 v ws) ≠ 0 → nextV v ws seq = [] := fun h => if_neg h
  have hr1 : checkR (prof1 v ws) = 0 → nextV v ws seq = if ranB (fil0 v ws) seq = true then [] else nextR (runF (fil0 v ws) seq) := fun h => if_pos h
  have hok := runF_ok hF0 seq
  generalize nextV v ws seq = res at *
  generalize hcr : checkR (prof1 v ws) = cr at *
  obtain ⟨z, hz⟩ : ∃ z, z = List.replicate ws.length (⟨0, 0, 0, 0⟩ : S4) := ⟨_, rfl⟩
  (refine XC.of_body ([]) Try.func24 rfl Try.ntmps24 mixed (T := [(53, ti53), (127, ti127)]) (.cons tok53 (.cons tok127 .nil)) (by kernel_rfl) (by simp) rfl rfl rfl rfl rfl ?_; rintro o ho P hP c K hK; have hm : P.follows .mixedOrders = true := hP ▸ mixed; have hT : TOk P [(53, ti53), (127, ti127)] := hP ▸ (.cons tok53 (.cons tok127 .nil)); (try rw [← ho]); cbv; (repeat (refine StopN.mk ?_; cbv)))
  have hC := x_ContainsF o ho (fil0 v ws) hF0 seq hseq
  have hN := x_next o ho (runF (fil0 v ws) seq) hok
  generalize ranB (fil0 v ws) seq = rb at *
  generalize runF (fil0 v ws) seq = rf at *
  generalize nextR rf = nx at *
  have hf0 : fil0 v ws = ⟨sumsOf v, ws, v, z, 0⟩ := by rw [hz]; rfl
  rw [hf0] at hC
  refine call_begin hP ho v ws hp hv hws (fun h => ?_) (fun h rr hrr => ?_)
  all_goals rw [hcr] at h
  · rw [hcr]
    cbv
    repeat' (first | (refine Br.mk (fun hb => ?_) (fun hb => ?_) <;> ((try rw [ho] at hb); (try dsimp only [Ar.real, IX.vo] at hb); (try simp only [QB7] at hb); (try simp only [QBo, beq_iff_eq, beq_eq_false_iff_ne, ne_eq] at hb))) | (refine StopN.mk ?_; cbv) | (refine hK _ _ ?_) | (refine NeedT.mk ?_ ?_))
    · rw [hr0 h]
      exact .ro (rows_nil_SL Ar.real rfl encI)
    all_goals exact absurd (by assumption) h
  · rw [← hz] at hrr
    generalize sumsOf v = S0 at *
    have hr1 := hr1 h
    cbv
    repeat' (first | (refine Br.mk (fun hb => ?_) (fun hb => ?_) <;> ((try rw [ho] at hb); (try dsimp only [Ar.real, IX.vo] at hb); (try simp only [QB7] at hb); (try simp only [QBo, beq_iff_eq, beq_eq_false_iff_ne, ne_eq] at hb))) | (refine StopN.mk ?_; cbv) | ((first | refine CallI.objs [.loc 1, .loc 0, .loc 2] hP hC fn69 rfl rfl rfl rfl (by rfl) rfl rfl rfl rfl (by rfl) ⟨⟨_, rfl, rfl⟩, ⟨_, rfl, (EqO.row (c := c) rfl hrr).1⟩, ⟨_, rfl, rfl⟩, trivial⟩ ?_ | refine CallI.objs [.loc 1, .loc 0] hP hN fn66 rfl rfl rfl rfl (by rfl) rfl rfl rfl rfl (by rfl) ⟨⟨_, rfl, rfl⟩, ⟨_, rfl, rfl⟩, trivial⟩ ?_); cbv) | (refine hK _ _ ?_) | (refine NeedT.mk ?_ ?_))
    · rw [hr1, if_pos hb]
      exact .ro (rows_nil_SL Ar.real rfl encI)
    · rw [hr1, if_neg (by rw [hb]; decide)]
      exact .ro (by rw [ho])
end Go.Proofs.Ytddgcegimmcbgaa.Sy

set_option linter.unusedSectionVars false
namespace Go.Proofs.Ytddgcegimmcbgaa.Sy
open Go Go.Sy Go.Proofs.Ytddgcegimmcbgaa
set_option maxRecDepth 100000
set_option maxHeartbeats 8000000
set_option linter.unusedVariables false
set_option linter.unusedSimpArgs false

theorem x_r04Right (k r : Int) : XC Try.prog 149 [.agg [xi k, xi r]] [] (xb (slotRight k r)) [] := by
  (refine XC.of_body ([]) Try.func149 rfl Try.ntmps149 mixed (T := [(3, ti3), (209, ti209)]) (.cons tok3 (.cons tok209 .nil)) (by kernel_rfl) (by simp) rfl rfl rfl rfl rfl ?_; rintro o ho P hP c K hK; have hm : P.follows .mixedOrders = true := hP ▸ mixed; have hT : TOk P [(3, ti3), (209, ti209)] := hP ▸ (.cons tok3 (.cons tok209 .nil)); (try rw [← ho]); cbv; (repeat (refine StopN.mk ?_; cbv)))
  repeat' (first | (refine Br.mk (fun hb => ?_) (fun hb => ?_) <;> ((try rw [ho] at hb); (try dsimp only [Ar.real, IX.vo] at hb); (try simp only [QB7] at hb); (try simp only [QBo, beq_iff_eq, beq_eq_false_iff_ne, ne_eq] at hb))) | (refine StopN.mk ?_; cbv) | (refine hK _ _ ?_) | (refine NeedT.mk ?_ ?_))
  all_goals (refine .b ?_; ((try clear hR3); (try clear hR2); (try clear hR); (try clear hK); (try simp only [ncCast] at *); (try simp only [castI_eq] at *); (try rw [ho]); (try dsimp only [Ar.real, IX.vo, IX.val, BX.val, IX.toN]); (try simp only [QB7])); simp [slotRight, *])
  all_goals omega
theorem x_r04Cmp (a b c d : Int) : XC Try.prog 150 [.agg [xi a, xi b], .agg [xi c, xi d]] [] (xi (slotCmp a b c d)) [] := by
  (refine XC.of_body ([]) Try.func150 rfl Try.ntmps150 mixed (T := [(3, ti3), (209, ti209)]) (.cons tok3 (.cons tok209 .nil)) (by kernel_rfl) (by simp) rfl rfl rfl rfl rfl ?_; rintro o ho P hP c K hK; have hm : P.follows .mixedOrders = true := hP ▸ mixed; have hT : TOk P [(3, ti3), (209, ti209)] := hP ▸ (.cons tok3 (.cons tok209 .nil)); (try rw [← ho]); cbv; (repeat (refine StopN.mk ?_; cbv)))
  repeat' (first | (refine Br.mk (fun hb => ?_) (fun hb => ?_) <;> ((try rw [ho] at hb); (try dsimp only [Ar.real, IX.vo] at hb); (try simp only [QB7] at hb); (try simp only [QBo, beq_iff_eq, beq_eq_false_iff_ne, ne_eq] at hb))) | (refine StopN.mk ?_; cbv) | (refine hK _ _ ?_) | (refine NeedT.mk ?_ ?_))
  all_goals
    refine .i ?_
    ((try clear hR3); (try clear hR2); (try clear hR); (try clear hK); (try simp only [ncCast] at *); (try simp only [castI_eq] at *); (try rw [ho]); (try dsimp only [Ar.real, IX.vo, IX.val, BX.val, IX.toN]); (try simp only [QB7]))
    (try simp only [Bool.and_eq_true, Bool.and_eq_false_iff, decide_eq_true_eq, decide_eq_false_iff_not] at *)
    unfold slotCmp
    repeat' split
    all_goals omega
theorem x_r05slot (k r a : Int) : XC Try.prog 133 [.agg [xi k, xi r, xi a]] [] (.agg [xi k, xi r]) [] := by
  (refine XC.of_body ([]) Try.func133 rfl Try.ntmps133 mixed (T := [(2, ti2), (3, ti3), (123, ti123), (209, ti209)]) (.cons tok2 (.cons tok3 (.cons tok123 (.cons tok209 .nil)))) (by kernel_rfl) (by simp) rfl rfl rfl rfl rfl ?_; rintro o ho P hP c K hK; have hm : P.follows .mixedOrders = true := hP ▸ mixed; have hT : TOk P [(2, ti2), (3, ti3), (123, ti123), (209, ti209)] := hP ▸ (.cons tok2 (.cons tok3 (.cons tok123 (.cons tok209 .nil)))); (try rw [← ho]); cbv; (repeat (refine StopN.mk ?_; cbv)))
  repeat' (first | (refine Br.mk (fun hb => ?_) (fun hb => ?_) <;> ((try rw [ho] at hb); (try dsimp only [Ar.real, IX.vo] at hb); (try simp only [QB7] at hb); (try simp only [QBo, beq_iff_eq, beq_eq_false_iff_ne, ne_eq] at hb))) | (refine StopN.mk ?_; cbv) | (refine hK _ _ ?_) | (refine NeedT.mk ?_ ?_))
  all_goals exact .pure fun _ => rfl
theorem x_r05Right (v : List Part) (hv : v.length ≤ 1048576) : XC Try.prog 96 [.ro (SL Ar.real Part.X v)] [] (xb (vecRight v)) [] := by
  (refine XC.of_body ([(4, [(32, 35), (32, 36)])]) Try.func96 rfl Try.ntmps96 mixed (T := [(2, ti2), (3, ti3), (4, ti4), (31, ti31), (123, ti123)]) (.cons tok2 (.cons tok3 (.cons tok4 (.cons tok31 (.cons tok123 .nil))))) (by kernel_rfl) (by simp) rfl rfl rfl rfl rfl ?_; rintro o ho P hP c K hK; have hm : P.follows .mixedOrders = true := hP ▸ mixed; have hT : TOk P [(2, ti2), (3, ti3), (4, ti4), (31, ti31), (123, ti123)] := hP ▸ (.cons tok2 (.cons tok3 (.cons tok4 (.cons tok31 (.cons tok123 .nil))))); (try rw [← ho]); cbv; (repeat (refine StopN.mk ?_; cbv)))
  refine LoopN.over (o := o) (D := [(4, [(32, 35), (32, 36)])]) ho hm hT (by kernel_rfl) (fun i : Nat => [(3, xn i)]) (fun _ => []) (fun _ => []) (fun i => i ≤ v.length ∧ ∀ j, j < i → badAt v j = false) (fun i => v.length - i) 0 ⟨Nat.zero_le _, fun j hj => by omega⟩ ?_ ?_
  · refine ⟨(by cbv), by cbv; repeat' (first | trivial | exact EqX.rfl' | exact EqO.rfl' | apply And.intro | ((try clear hR3); (try clear hR2); (try clear hR); (try clear hK); (try simp only [ncCast] at *); (try simp only [castI_eq] at *); refine EqX.i ?_; (try rw [ho]); (try dsimp only [Ar.real, IX.vo, IX.val, BX.val, IX.toN]); (try simp only [QB7]); (repeat rw [wrap_i64 (by omega) (by omega)]); omega)), by cbv; repeat' (first | trivial | exact EqO.rfl' | apply And.intro), by cbv; repeat' (first | trivial | exact EqO.rfl' | apply And.intro)⟩
  · rintro i ⟨hi, hno⟩ R hR
    cbv
    repeat' (first | (refine Br.mk (fun hb => ?_) (fun hb => ?_) <;> ((try rw [ho] at hb); (try dsimp only [Ar.real, IX.vo] at hb); (try simp only [QB7] at hb); (try simp only [QBo, beq_iff_eq, beq_eq_false_iff_ne, ne_eq] at hb))) | (refine StopN.mk ?_; cbv) | ((first | refine CallI.pure hP (x_r05slot _ _ _) fn133 (by first | rfl | (rw [ho]; done) | (rw [ho]; rfl)) (by rfl) (by first | rfl | (rw [ho]; done) | (rw [ho]; rfl)) ?_ | refine CallN.pure hP (x_r05slot _ _ _) fn133 (by first | rfl | (rw [ho]; done) | (rw [ho]; rfl)) (by rfl) (by first | rfl | (rw [ho]; done) | (rw [ho]; rfl)) ?_); (try rw [← ho]); cbv) | ((first | refine CallI.pure hP (x_r04Right _ _) fn149 (by first | rfl | (rw [ho]; done) | (rw [ho]; rfl)) (by rfl) (by first | rfl | (rw [ho]; done) | (rw [ho]; rfl)) ?_ | refine CallN.pure hP (x_r04Right _ _) fn149 (by first | rfl | (rw [ho]; done) | (rw [ho]; rfl)) (by rfl) (by first | rfl | (rw [ho]; done) | (rw [ho]; rfl)) ?_); (try rw [← ho]); generalize hr : slotRight _ _ = r; (try rw [ho] at hr); (try dsimp only [Ar.real, IX.vo] at hr); (try simp only [QB7] at hr); cbv) | ((first | refine CallI.pure hP (x_r04Cmp _ _ _ _) fn150 (by first | rfl | (rw [ho]; done) | (rw [ho]; rfl)) (by rfl) (by first | rfl | (rw [ho]; done) | (rw [ho]; rfl)) ?_ | refine CallN.pure hP (x_r04Cmp _ _ _ _) fn150 (by first | rfl | (rw [ho]; done) | (rw [ho]; rfl)) (by rfl) (by first | rfl | (rw [ho]; done) | (rw [ho]; rfl)) ?_); (try rw [← ho]); generalize hr : slotCmp _ _ _ _ = r; (try rw [ho] at hr); (try dsimp only [Ar.real, IX.vo] at hr); (try simp only [QB7] at hr); cbv) | (refine hK _ _ ?_) | (refine NeedT.mk ?_ ?_))
    all_goals first
      | ((try clear hR3); (try clear hR2); (try clear hR); (try clear hK); (try simp only [ncCast] at *); (try simp only [castI_eq] at *); (try rw [ho]); (try dsimp only [Ar.real, IX.vo, IX.val, BX.val, IX.toN]); (try simp only [QB7]); (try simp only [decide_eq_true_eq]); (all_goals (repeat rw [wrap_i64 (by omega) (by omega)])); (all_goals (first | omega | (simp only [Int.ofNat_eq_natCast]; omega))))
      | (have hlt : i < v.length := by omega
         refine .b ?_
         ((try clear hR3); (try clear hR2); (try clear hR); (try clear hK); (try simp only [ncCast] at *); (try simp only [castI_eq] at *); (try rw [ho]); (try dsimp only [Ar.real, IX.vo, IX.val, BX.val, IX.toN]); (try simp only [QB7]))
         rw [vecRight, nextAt_some (k := i) (Nat.zero_le _) hlt (by ((try clear hR3); (try clear hR2); (try clear hR); (try clear hK); (try simp only [ncCast] at *); (try simp only [castI_eq] at *)); (try rw [wrap_i64 (by omega) (by omega), show ((i : Int) - 1).toNat = i - 1 by omega] at hr); simp only [badAt, amountRight]; clear hno; first | (simp_all; done) | (simp_all; omega)) (fun j _ h => hno j h)]
         rfl)
      | (refine .b ?_; ((try clear hR3); (try clear hR2); (try clear hR); (try clear hK); (try simp only [ncCast] at *); (try simp only [castI_eq] at *); (try rw [ho]); (try dsimp only [Ar.real, IX.vo, IX.val, BX.val, IX.toN]); (try simp only [QB7])); rw [vecRight, nextAt_none (fun j _ h => hno j (by omega))]; rfl)
      | (refine hR _ (i + 1) (by omega) ⟨by omega, fun j h1 => ?_⟩ ?_
         · rcases Nat.lt_or_ge j i with h3 | h3
           · exact hno j h3
           · obtain rfl : j = i := by omega
             ((try clear hR3); (try clear hR2); (try clear hR); (try clear hK); (try simp only [ncCast] at *); (try simp only [castI_eq] at *))
             (try rw [wrap_i64 (by omega) (by omega), show ((j : Int) - 1).toNat = j - 1 by omega] at hr)
             simp only [badAt, amountRight]
             clear hno
             first | (simp_all; done) | (simp_all; omega)
         · refine ⟨(by cbv), by cbv; repeat' (first | trivial | exact EqX.rfl' | exact EqO.rfl' | apply And.intro | ((try clear hR3); (try clear hR2); (try clear hR); (try clear hK); (try simp only [ncCast] at *); (try simp only [castI_eq] at *); refine EqX.i ?_; (try rw [ho]); (try dsimp only [Ar.real, IX.vo, IX.val, BX.val, IX.toN]); (try simp only [QB7]); (repeat rw [wrap_i64 (by omega) (by omega)]); omega)), by cbv; repeat' (first | trivial | exact EqO.rfl' | apply And.intro), by cbv; repeat' (first | trivial | exact EqO.rfl' | apply And.intro)⟩)
def getAt (v : List Part) (k r : Int) (i : Nat) : Bool := decide ((v.getD i default).kind = k) && decide ((v.getD i default).role = r)
def getR (v : List Part) (k r : Int) : Int := match nextAt (getAt v k r) 0 v.length with | some i => (v.getD i default).amount | none => 0
theorem x_r05Get (v : List Part) (k r : Int) (hv : v.length ≤ 1048576) : XC Try.prog 132 [.ro (SL Ar.real Part.X v), .agg [xi k, xi r]] [] (xi (getR v k r)) [] := by
  have h1 : ∀ i, i < v.length → (∀ j, j < i → getAt v k r j = false) → getAt v k r i = true → getR v k r = (v.getD i default).amount := fun i hi hlt h => by
    unfold getR
    rw [nextAt_some (Nat.zero_le _) hi h (fun j _ hj => hlt j hj)]
  have h2 : (∀ j, j < v.length → getAt v k r j = false) → getR v k r = 0 := fun hlt => by
    unfold getR
    rw [nextAt_none (fun j _ hj => hlt j hj)]
  have h3 : ∀ i, getAt v k r i = (decide ((v.getD i default).kind = k) && decide ((v.getD i default).role = r)) := fun _ => rfl
  generalize getR v k r = g at *
  generalize getAt v k r = G at *
  (refine XC.of_body ([(4, [(4, 5)])]) Try.func132 rfl Try.ntmps132 mixed (T := [(2, ti2), (3, ti3), (31, ti31), (123, ti123), (209, ti209)]) (.cons tok2 (.cons tok3 (.cons tok31 (.cons tok123 (.cons tok209 .nil))))) (by kernel_rfl) (by simp) rfl rfl rfl rfl rfl ?_; rintro o ho P hP c K hK; have hm : P.follows .mixedOrders = true := hP ▸ mixed; have hT : TOk P [(2, ti2), (3, ti3), (31, ti31), (123, ti123), (209, ti209)] := hP ▸ (.cons tok2 (.cons tok3 (.cons tok31 (.cons tok123 (.cons tok209 .nil))))); (try rw [← ho]); cbv; (repeat (refine StopN.mk ?_; cbv)))
  refine LoopN.over (o := o) (D := [(4, [(4, 5)])]) ho hm hT (by kernel_rfl) (fun i : Nat => [(5, xn i)]) (fun _ => []) (fun _ => []) (fun i => i ≤ v.length ∧ ∀ j, j < i → G j = false) (fun i => v.length - i) 0 ⟨Nat.zero_le _, fun j hj => by omega⟩ ?_ ?_
  · refine ⟨(by cbv), by cbv; repeat' (first | trivial | exact EqX.rfl' | exact EqO.rfl' | apply And.intro | ((try clear hR3); (try clear hR2); (try clear hR); (try clear hK); (try simp only [ncCast] at *); (try simp only [castI_eq] at *); refine EqX.i ?_; (try rw [ho]); (try dsimp only [Ar.real, IX.vo, IX.val, BX.val, IX.toN]); (try simp only [QB7]); (repeat rw [wrap_i64 (by omega) (by omega)]); omega)), by cbv; repeat' (first | trivial | exact EqO.rfl' | apply And.intro), by cbv; repeat' (first | trivial | exact EqO.rfl' | apply And.intro)⟩
  · rintro i ⟨hi, hno⟩ R hR
    have e1 := h1 i
    have e3 := h3 i
    cbv
    repeat' (first | (refine Br.mk (fun hb => ?_) (fun hb => ?_) <;> ((try rw [ho] at hb); (try dsimp only [Ar.real, IX.vo] at hb); (try simp only [QB7] at hb); (try simp only [QBo, beq_iff_eq, beq_eq_false_iff_ne, ne_eq] at hb))) | (refine StopN.mk ?_; cbv) | ((first | refine CallI.pure hP (x_r05slot _ _ _) fn133 (by first | rfl | (rw [ho]; done) | (rw [ho]; rfl)) (by rfl) (by first | rfl | (rw [ho]; done) | (rw [ho]; rfl)) ?_ | refine CallN.pure hP (x_r05slot _ _ _) fn133 (by first | rfl | (rw [ho]; done) | (rw [ho]; rfl)) (by rfl) (by first | rfl | (rw [ho]; done) | (rw [ho]; rfl)) ?_); (try rw [← ho]); cbv) | (refine hK _ _ ?_) | (refine NeedT.mk ?_ ?_))
    any_goals (((try clear hR3); (try clear hR2); (try clear hR); (try clear hK); (try simp only [ncCast] at *); (try simp only [castI_eq] at *); (try rw [ho]); (try dsimp only [Ar.real, IX.vo, IX.val, BX.val, IX.toN]); (try simp only [QB7]); (try simp only [decide_eq_true_eq]); (all_goals (repeat rw [wrap_i64 (by omega) (by omega)])); (all_goals (first | omega | (simp only [Int.ofNat_eq_natCast]; omega)))); done)
    · rw [e1 (by assumption) hno (e3.trans hb)]
      refine .i ?_
      ((try clear hR3); (try clear hR2); (try clear hR); (try clear hK); (try simp only [ncCast] at *); (try simp only [castI_eq] at *); (try rw [ho]); (try dsimp only [Ar.real, IX.vo, IX.val, BX.val, IX.toN]); (try simp only [QB7]))
    · refine hR _ (i + 1) (by show v.length - (i + 1) < v.length - i; ((try clear hR3); (try clear hR2); (try clear hR); (try clear hK); (try simp only [ncCast] at *); (try simp only [castI_eq] at *)); omega) ⟨by show i + 1 ≤ v.length; ((try clear hR3); (try clear hR2); (try clear hR); (try clear hK); (try simp only [ncCast] at *); (try simp only [castI_eq] at *)); omega, fun k' hk => ?_⟩ ?_
      · rcases Nat.lt_or_ge k' i with h5 | h5
        · exact hno k' h5
        · obtain rfl : k' = i := by
            have hk' : k' < i + 1 := hk
            clear hk
            ((try clear hR3); (try clear hR2); (try clear hR); (try clear hK); (try simp only [ncCast] at *); (try simp only [castI_eq] at *))
            omega
          exact e3.trans (by assumption)
      · refine ⟨(by cbv), by cbv; repeat' (first | trivial | exact EqX.rfl' | exact EqO.rfl' | apply And.intro | ((try clear hR3); (try clear hR2); (try clear hR); (try clear hK); (try simp only [ncCast] at *); (try simp only [castI_eq] at *); refine EqX.i ?_; (try rw [ho]); (try dsimp only [Ar.real, IX.vo, IX.val, BX.val, IX.toN]); (try simp only [QB7]); (repeat rw [wrap_i64 (by omega) (by omega)]); omega)), by cbv; repeat' (first | trivial | exact EqO.rfl' | apply And.intro), by cbv; repeat' (first | trivial | exact EqO.rfl' | apply And.intro)⟩
    · obtain rfl : i = v.length := by ((try clear hR3); (try clear hR2); (try clear hR); (try clear hK); (try simp only [ncCast] at *); (try simp only [castI_eq] at *)); omega
      rw [h2 hno]
      exact .i rfl
end Go.Proofs.Ytddgcegimmcbgaa.Sy

set_option linter.unusedSectionVars false
namespace Go.Proofs.Ytddgcegimmcbgaa.Sy
open Go Go.Sy Go.Proofs.Ytddgcegimmcbgaa
set_option maxRecDepth 100000
set_option maxHeartbeats 8000000
set_option linter.unusedVariables false
set_option linter.unusedSimpArgs false

def lessAt (a b : List Part) (i : Nat) : Bool := decide (getR a (b.getD i default).kind (b.getD i default).role < (b.getD i default).amount)
def rHolds (a b : List Part) : Bool := (nextAt (lessAt a b) 0 b.length).isNone && (vecRight a && vecRight b)
theorem x_r05Holds (a b : List Part) (ha : a.length ≤ 1048576) (hb' : b.length ≤ 1048576) : XC Try.prog 72 [.ro (SL Ar.real Part.X a), .ro (SL Ar.real Part.X b)] [] (xb (rHolds a b)) [] := by
  have hxa := x_r05Right a ha
  have hxb := x_r05Right b hb'
  have hG := fun i => x_r05Get a (b.getD i default).kind (b.getD i default).role ha
  have h1 : ∀ i, i < b.length → (∀ j, j < i → lessAt a b j = false) → lessAt a b i = true → rHolds a b = false := fun i hi hlt h => by
    unfold rHolds
    rw [nextAt_some (Nat.zero_le _) hi h (fun j _ hj => hlt j hj)]
    rfl
  have h2 : (∀ j, j < b.length → lessAt a b j = false) → rHolds a b = (vecRight a && vecRight b) := fun hlt => by
    unfold rHolds
    rw [nextAt_none (fun j _ hj => hlt j hj)]
    rfl
  have h3 : ∀ i, lessAt a b i = decide (getR a (b.getD i default).kind (b.getD i default).role < (b.getD i default).amount) := fun _ => rfl
  generalize rHolds a b = g at *
  generalize lessAt a b = G at *
  generalize vecRight a = ra at *
  generalize vecRight b = rb at *
  (refine XC.of_body ([(4, [(5, 9), (6, 9), (5, 10), (6, 10), (5, 11), (6, 11)])]) Try.func72 rfl Try.ntmps72 mixed (T := [(2, ti2), (3, ti3), (31, ti31), (123, ti123)]) (.cons tok2 (.cons tok3 (.cons tok31 (.cons tok123 .nil)))) (by kernel_rfl) (by simp) rfl rfl rfl rfl rfl ?_; rintro o ho P hP c K hK; have hm : P.follows .mixedOrders = true := hP ▸ mixed; have hT : TOk P [(2, ti2), (3, ti3), (31, ti31), (123, ti123)] := hP ▸ (.cons tok2 (.cons tok3 (.cons tok31 (.cons tok123 .nil)))); (try rw [← ho]); cbv; (repeat (refine StopN.mk ?_; cbv)))
  rw [← ho] at hxa hxb
  refine LoopN.over (o := o) (D := [(4, [(5, 9), (6, 9), (5, 10), (6, 10), (5, 11), (6, 11)])]) ho hm hT (by kernel_rfl) (fun i : Nat => [(5, xn i)]) (fun _ => []) (fun _ => []) (fun i => i ≤ b.length ∧ ∀ j, j < i → G j = false) (fun i => b.length - i) 0 ⟨Nat.zero_le _, fun j hj => by omega⟩ ?_ ?_
  · refine ⟨(by cbv), by cbv; repeat' (first | trivial | exact EqX.rfl' | exact EqO.rfl' | apply And.intro | ((try clear hR3); (try clear hR2); (try clear hR); (try clear hK); (try simp only [ncCast] at *); (try simp only [castI_eq] at *); refine EqX.i ?_; (try rw [ho]); (try dsimp only [Ar.real, IX.vo, IX.val, BX.val, IX.toN]); (try simp only [QB7]); (repeat rw [wrap_i64 (by omega) (by omega)]); omega)), by cbv; repeat' (first | trivial | exact EqO.rfl' | apply And.intro), by cbv; repeat' (first | trivial | exact EqO.rfl' | apply And.intro)⟩
  · rintro i ⟨hi, hno⟩ R hR
    have e1 := h1 i
    have e3 := h3 i
    have hg := hG i
    generalize getR a (b.getD i default).kind (b.getD i default).role = q at *
    have en : o.nth b i = b.getD i default := by rw [ho, real_nth]
    rw [← en, ← ho] at hg
    cbv
    repeat' (first | (refine Br.mk (fun hb => ?_) (fun hb => ?_) <;> ((try rw [ho] at hb); (try dsimp only [Ar.real, IX.vo] at hb); (try simp only [QB7] at hb); (try simp only [QBo, beq_iff_eq, beq_eq_false_iff_ne, ne_eq] at hb))) | (refine StopN.mk ?_; cbv) | ((first | refine CallN.pure hP hg fn132 rfl rfl rfl ?_ | refine CallI.pure hP hxa fn96 rfl rfl rfl ?_ | refine CallI.pure hP hxb fn96 rfl rfl rfl ?_ | refine CallN.pure hP hxa fn96 rfl rfl rfl ?_ | refine CallN.pure hP hxb fn96 rfl rfl rfl ?_); cbv) | ((first | refine CallI.pure hP (x_r05Right _ ‹_›) fn96 (by first | rfl | (rw [ho]; done) | (rw [ho]; rfl)) (by rfl) (by first | rfl | (rw [ho]; done) | (rw [ho]; rfl)) ?_ | refine CallN.pure hP (x_r05Right _ ‹_›) fn96 (by first | rfl | (rw [ho]; done) | (rw [ho]; rfl)) (by rfl) (by first | rfl | (rw [ho]; done) | (rw [ho]; rfl)) ?_); (try rw [← ho]); generalize hr : vecRight _ = r; (try rw [ho] at hr); (try dsimp only [Ar.real, IX.vo] at hr); (try simp only [QB7] at hr); cbv) | ((first | refine CallI.pure hP (x_r05Get _ _ _ ‹_›) fn132 (by first | rfl | (rw [ho]; done) | (rw [ho]; rfl)) (by rfl) (by first | rfl | (rw [ho]; done) | (rw [ho]; rfl)) ?_ | refine CallN.pure hP (x_r05Get _ _ _ ‹_›) fn132 (by first | rfl | (rw [ho]; done) | (rw [ho]; rfl)) (by rfl) (by first | rfl | (rw [ho]; done) | (rw [ho]; rfl)) ?_); (try rw [← ho]); generalize hr : getR _ _ _ = r; (try rw [ho] at hr); (try dsimp only [Ar.real, IX.vo] at hr); (try simp only [QB7] at hr); cbv) | ((first | refine CallI.pure hP (x_r05slot _ _ _) fn133 (by first | rfl | (rw [ho]; done) | (rw [ho]; rfl)) (by rfl) (by first | rfl | (rw [ho]; done) | (rw [ho]; rfl)) ?_ | refine CallN.pure hP (x_r05slot _ _ _) fn133 (by first | rfl | (rw [ho]; done) | (rw [ho]; rfl)) (by rfl) (by first | rfl | (rw [ho]; done) | (rw [ho]; rfl)) ?_); (try rw [← ho]); cbv) | (refine hK _ _ ?_) | (refine NeedT.mk ?_ ?_))
    any_goals (((try clear hR3); (try clear hR2); (try clear hR); (try clear hK); (try simp only [ncCast] at *); (try simp only [castI_eq] at *); (try rw [ho]); (try dsimp only [Ar.real, IX.vo, IX.val, BX.val, IX.toN]); (try simp only [QB7]); (try simp only [decide_eq_true_eq]); (all_goals (repeat rw [wrap_i64 (by omega) (by omega)])); (all_goals (first | omega | (simp only [Int.ofNat_eq_natCast]; omega)))); done)
    · rw [e1 (by assumption) hno (by rw [e3]; exact decide_eq_true hb)]
      exact .b rfl
    · refine hR _ (i + 1) (by show b.length - (i + 1) < b.length - i; ((try clear hR3); (try clear hR2); (try clear hR); (try clear hK); (try simp only [ncCast] at *); (try simp only [castI_eq] at *)); omega) ⟨by show i + 1 ≤ b.length; ((try clear hR3); (try clear hR2); (try clear hR); (try clear hK); (try simp only [ncCast] at *); (try simp only [castI_eq] at *)); omega, fun k' hk => ?_⟩ ?_
      · rcases Nat.lt_or_ge k' i with h5 | h5
        · exact hno k' h5
        · obtain rfl : k' = i := by
            have hk' : k' < i + 1 := hk
            clear hk
            ((try clear hR3); (try clear hR2); (try clear hR); (try clear hK); (try simp only [ncCast] at *); (try simp only [castI_eq] at *))
            omega
          rw [e3]
          exact decide_eq_false (by omega)
      · refine ⟨(by cbv), by cbv; repeat' (first | trivial | exact EqX.rfl' | exact EqO.rfl' | apply And.intro | ((try clear hR3); (try clear hR2); (try clear hR); (try clear hK); (try simp only [ncCast] at *); (try simp only [castI_eq] at *); refine EqX.i ?_; (try rw [ho]); (try dsimp only [Ar.real, IX.vo, IX.val, BX.val, IX.toN]); (try simp only [QB7]); (repeat rw [wrap_i64 (by omega) (by omega)]); omega)), by cbv; repeat' (first | trivial | exact EqO.rfl' | apply And.intro), by cbv; repeat' (first | trivial | exact EqO.rfl' | apply And.intro)⟩
    · obtain rfl : i = b.length := by ((try clear hR3); (try clear hR2); (try clear hR); (try clear hK); (try simp only [ncCast] at *); (try simp only [castI_eq] at *)); omega
      rw [h2 hno, ‹ra = true›]
      exact .b rfl
    · obtain rfl : i = b.length := by ((try clear hR3); (try clear hR2); (try clear hR); (try clear hK); (try simp only [ncCast] at *); (try simp only [castI_eq] at *)); omega
      rw [h2 hno, ‹ra = false›]
      exact .b rfl
theorem upLr' : ∀ l : List OX, upL l l
  | [] => trivial
  | a :: l => ⟨fun c => upO_refl _, upLr' l⟩
theorem up_eqr' {a b : OX} {l r : List OX} (h : ∀ c, EqO c a b) (hr : upL l r) : upL (a :: l) (b :: r) := ⟨fun c => by obtain ⟨e⟩ := h c; rw [e]; exact upO_refl _, hr⟩
def rWith (l : List Part) (k r n : Int) : List Part := if n = 0 then l else l ++ [⟨k, r, n⟩]
def rWv (v : Nat) (n : Int) : Nat := if n = 0 then v else v + 1
theorem x_r05with (o : Ar) (ho : o = Ar.real) (l : List Part) (v : Nat) (k r n : Int) (hl : l.length ≤ 1048576) : XC Try.prog 184 [.own (.out 0) v, .agg [xi k, xi r], xi n] [.row v 123 3 (SL o Part.X l)] (.own (.out 0) (rWv v n)) [.row (rWv v n) 123 3 (SL o Part.X (rWith l k r n))] := by
  obtain ⟨l', hl'⟩ : ∃ q, q = rWith l k r n := ⟨_, rfl⟩
  obtain ⟨v', hv'⟩ : ∃ q, q = rWv v n := ⟨_, rfl⟩
  rw [← hl', ← hv']
  unfold rWith at hl'
  unfold rWv at hv'
  (refine XC.of_body ([]) Try.func184 rfl Try.ntmps184 mixed (T := [(2, ti2), (3, ti3), (31, ti31), (123, ti123), (209, ti209)]) (.cons tok2 (.cons tok3 (.cons tok31 (.cons tok123 (.cons tok209 .nil))))) (by kernel_rfl) (by simp) rfl rfl rfl rfl rfl ?_; rintro o2 ho2 P hP c K hK; have hm : P.follows .mixedOrders = true := hP ▸ mixed; have hT : TOk P [(2, ti2), (3, ti3), (31, ti31), (123, ti123), (209, ti209)] := hP ▸ (.cons tok2 (.cons tok3 (.cons tok31 (.cons tok123 (.cons tok209 .nil))))); (try rw [← ho2]); have e2 : o = o2 := ho.trans ho2.symm; subst e2; cbv; (repeat (refine StopN.mk ?_; cbv)))
  repeat' (first | (refine Br.mk (fun hb => ?_) (fun hb => ?_) <;> ((try rw [ho] at hb); (try dsimp only [Ar.real, IX.vo] at hb); (try simp only [QB7] at hb); (try simp only [QBo, beq_iff_eq, beq_eq_false_iff_ne, ne_eq] at hb))) | (refine StopN.mk ?_; cbv) | (refine hK _ _ ?_) | (refine NeedT.mk ?_ ?_))
  any_goals (((try clear hR3); (try clear hR2); (try clear hR); (try clear hK); (try simp only [ncCast] at *); (try simp only [castI_eq] at *); (try rw [ho]); (try dsimp only [Ar.real, IX.vo, IX.val, BX.val, IX.toN]); (try simp only [QB7]); (try simp only [decide_eq_true_eq]); (all_goals (repeat rw [wrap_i64 (by omega) (by omega)])); (all_goals (first | omega | (simp only [Int.ofNat_eq_natCast]; omega)))); done)
  · rw [if_pos hb] at hl' hv'
    subst hl'
    subst hv'
    exact ⟨fun _ => rfl, upLr' _⟩
  · rw [if_neg hb] at hl' hv'
    subst hv'
    exact ⟨fun _ => rfl, up_eqr' (fun c => EqO.snoc ho Part.X l l' _ _ rfl hl' rfl) (upLr' _)⟩
def rSubTo (a b : List Part) : Nat → List Part
  | 0 => []
  | i + 1 => rWith (rSubTo a b i) (a.getD i default).kind (a.getD i default).role (IntKind.i64.wrap ((a.getD i default).amount - getR b (a.getD i default).kind (a.getD i default).role))
def rSub (a b : List Part) : List Part × Bool := if rHolds a b = true then (rSubTo a b a.length, true) else ([], false)
theorem rWith_len (l : List Part) (k r n : Int) : (rWith l k r n).length ≤ l.length + 1 := by
  unfold rWith
  split <;> simp
theorem rSubTo_len (a b : List Part) : ∀ i, (rSubTo a b i).length ≤ i
  | 0 => by simp [rSubTo]
  | i + 1 => by
    have h1 := rSubTo_len a b i
    have h2 := rWith_len (rSubTo a b i) (a.getD i default).kind (a.getD i default).role (IntKind.i64.wrap ((a.getD i default).amount - getR b (a.getD i default).kind (a.getD i default).role))
    simp only [rSubTo]
    omega
theorem FinX_rb2 {l : List Part} {r : RR} {s : Bool} {y : BX} (h : r.rows = (SL Ar.real Part.X l).rows) (h' : y.val = s) : FinX (.tup [.ro (SL Ar.real Part.X l), xb s]) [] (.tup [.ro r, .b y]) [] := .pure fun _ => by
  simp only [X.toD, X.toDL, h, h']
  rfl
theorem x_r05Sub (a b : List Part) (ha : a.length ≤ 1048576) (hb' : b.length ≤ 1048576) : XC Try.prog 131 [.ro (SL Ar.real Part.X a), .ro (SL Ar.real Part.X b)] [] (.tup [.ro (SL Ar.real Part.X (rSub a b).1), xb (rSub a b).2]) [] := by
  have hH := x_r05Holds a b ha hb'
  have hG := fun i => x_r05Get b (a.getD i default).kind (a.getD i default).role hb'
  have hr0 : rHolds a b = false → rSub a b = ([], false) := fun h => if_neg (by rw [h]; decide)
  have hr1 : rHolds a b = true → rSub a b = (rSubTo a b a.length, true) := fun h => if_pos h
  have hM0 : rSubTo a b 0 = [] := rfl
  have hM1 : ∀ i, rSubTo a b (i + 1) = rWith (rSubTo a b i) (a.getD i default).kind (a.getD i default).role (IntKind.i64.wrap ((a.getD i default).amount - getR b (a.getD i default).kind (a.getD i default).role)) := fun _ => rfl
  have hMl := rSubTo_len a b
  generalize rSub a b = g at *
  generalize rHolds a b = h at *
  generalize rSubTo a b = M at *
  (refine XC.of_body ([(7, [(5, 8), (5, 9), (5, 10), (5, 14), (5, 15), (8, 16), (9, 16), (10, 16), (8, 17), (9, 17), (10, 17)])]) Try.func131 rfl Try.ntmps131 mixed (T := [(2, ti2), (3, ti3), (4, ti4), (31, ti31), (123, ti123)]) (.cons tok2 (.cons tok3 (.cons tok4 (.cons tok31 (.cons tok123 .nil))))) (by kernel_rfl) (by simp) rfl rfl rfl rfl rfl ?_; rintro o ho P hP c K hK; have hm : P.follows .mixedOrders = true := hP ▸ mixed; have hT : TOk P [(2, ti2), (3, ti3), (4, ti4), (31, ti31), (123, ti123)] := hP ▸ (.cons tok2 (.cons tok3 (.cons tok4 (.cons tok31 (.cons tok123 .nil))))); (try rw [← ho]); cbv; (repeat (refine StopN.mk ?_; cbv)))
  rw [← ho] at hH
  repeat' (first | (refine Br.mk (fun hb => ?_) (fun hb => ?_) <;> ((try rw [ho] at hb); (try dsimp only [Ar.real, IX.vo] at hb); (try simp only [QB7] at hb); (try simp only [QBo, beq_iff_eq, beq_eq_false_iff_ne, ne_eq] at hb))) | (refine StopN.mk ?_; cbv) | ((first | refine CallI.pure hP hH fn72 rfl rfl rfl ?_ | refine CallN.pure hP hH fn72 rfl rfl rfl ?_); cbv) | ((first | refine CallI.pure hP (x_r05Holds _ _ ‹_› ‹_›) fn72 (by first | rfl | (rw [ho]; done) | (rw [ho]; rfl)) (by rfl) (by first | rfl | (rw [ho]; done) | (rw [ho]; rfl)) ?_ | refine CallN.pure hP (x_r05Holds _ _ ‹_› ‹_›) fn72 (by first | rfl | (rw [ho]; done) | (rw [ho]; rfl)) (by rfl) (by first | rfl | (rw [ho]; done) | (rw [ho]; rfl)) ?_); (try rw [← ho]); generalize hr : rHolds _ _ = r; (try rw [ho] at hr); (try dsimp only [Ar.real, IX.vo] at hr); (try simp only [QB7] at hr); cbv) | ((first | refine CallI.pure hP (x_r05Get _ _ _ ‹_›) fn132 (by first | rfl | (rw [ho]; done) | (rw [ho]; rfl)) (by rfl) (by first | rfl | (rw [ho]; done) | (rw [ho]; rfl)) ?_ | refine CallN.pure hP (x_r05Get _ _ _ ‹_›) fn132 (by first | rfl | (rw [ho]; done) | (rw [ho]; rfl)) (by rfl) (by first | rfl | (rw [ho]; done) | (rw [ho]; rfl)) ?_); (try rw [← ho]); generalize hr : getR _ _ _ = r; (try rw [ho] at hr); (try dsimp only [Ar.real, IX.vo] at hr); (try simp only [QB7] at hr); cbv) | ((first | refine CallI.pure hP (x_r05slot _ _ _) fn133 (by first | rfl | (rw [ho]; done) | (rw [ho]; rfl)) (by rfl) (by first | rfl | (rw [ho]; done) | (rw [ho]; rfl)) ?_ | refine CallN.pure hP (x_r05slot _ _ _) fn133 (by first | rfl | (rw [ho]; done) | (rw [ho]; rfl)) (by rfl) (by first | rfl | (rw [ho]; done) | (rw [ho]; rfl)) ?_); (try rw [← ho]); cbv) | (refine hK _ _ ?_) | (refine NeedT.mk ?_ ?_))
  · rw [hr0 (by assumption)]
    exact FinX_rb2 (rows_nil_SL Ar.real rfl Part.X) rfl
  have hr1 := hr1 (by assumption)
  refine LoopN.ghost 6 123 3 rfl ?_
  refine LoopN.over (o := o) (D := [(7, [(5, 8), (5, 9), (5, 10), (5, 14), (5, 15), (8, 16), (9, 16), (10, 16), (8, 17), (9, 17), (10, 17)])]) ho hm hT (by kernel_rfl) (fun a : StL Part => [(7, xn a.i), (6, .own (.loc 0) a.rv)]) (fun a => [(0, .row a.rv 123 3 (SL o Part.X a.out))]) (fun _ => []) (fun s => s.i ≤ a.length ∧ s.out = M s.i) (fun s => a.length - s.i) ⟨0, 0, []⟩ ⟨Nat.zero_le _, hM0.symm⟩ ?_ ?_
  · refine ⟨(by cbv), by cbv; repeat' (first | trivial | exact EqX.rfl' | exact EqO.rfl' | apply And.intro | ((try clear hR3); (try clear hR2); (try clear hR); (try clear hK); (try simp only [ncCast] at *); (try simp only [castI_eq] at *); refine EqX.i ?_; (try rw [ho]); (try dsimp only [Ar.real, IX.vo, IX.val, BX.val, IX.toN]); (try simp only [QB7]); (repeat rw [wrap_i64 (by omega) (by omega)]); omega) | exact EqO.row rfl (rows_nil_SL o ho Part.X)), by cbv; repeat' (first | trivial | exact EqO.rfl' | apply And.intro | exact EqO.row rfl (rows_nil_SL o ho Part.X)), by cbv; repeat' (first | trivial | exact EqO.rfl' | apply And.intro | exact EqO.row rfl (rows_nil_SL o ho Part.X))⟩
  · rintro ⟨i, rv, out⟩ ⟨hi, hout⟩ R hR
    dsimp only at hi hout
    have hg := hG i
    have e1 := hM1 i
    have hol := hMl i
    rw [← hout] at e1 hol
    generalize getR b (a.getD i default).kind (a.getD i default).role = q at *
    have hW := x_r05with o ho out rv (a.getD i default).kind (a.getD i default).role (IntKind.i64.wrap ((a.getD i default).amount - q)) (by omega)
    generalize rWith out (a.getD i default).kind (a.getD i default).role (IntKind.i64.wrap ((a.getD i default).amount - q)) = out' at *
    generalize rWv rv (IntKind.i64.wrap ((a.getD i default).amount - q)) = rv' at *
    have en : o.nth a i = a.getD i default := by rw [ho, real_nth]
    have ew : ∀ x y, o.wrap IntKind.i64 (o.sub x y) = IntKind.i64.wrap (x - y) := fun x y => by rw [ho]; rfl
    rw [← en, ← ho] at hg
    rw [← ew, ← en] at hW
    cbv
    repeat' (first | (refine Br.mk (fun hb => ?_) (fun hb => ?_) <;> ((try rw [ho] at hb); (try dsimp only [Ar.real, IX.vo] at hb); (try simp only [QB7] at hb); (try simp only [QBo, beq_iff_eq, beq_eq_false_iff_ne, ne_eq] at hb))) | (refine StopN.mk ?_; cbv) | ((first | refine CallN.pure hP hg fn132 rfl rfl rfl ?_ | refine CallN.objs [.loc 0] hP hW fn184 rfl rfl rfl rfl (by rfl) rfl rfl rfl rfl (by rfl) ⟨⟨_, rfl, rfl⟩, trivial⟩ ?_); cbv) | ((first | refine CallI.pure hP (x_r05Holds _ _ ‹_› ‹_›) fn72 (by first | rfl | (rw [ho]; done) | (rw [ho]; rfl)) (by rfl) (by first | rfl | (rw [ho]; done) | (rw [ho]; rfl)) ?_ | refine CallN.pure hP (x_r05Holds _ _ ‹_› ‹_›) fn72 (by first | rfl | (rw [ho]; done) | (rw [ho]; rfl)) (by rfl) (by first | rfl | (rw [ho]; done) | (rw [ho]; rfl)) ?_); (try rw [← ho]); generalize hr : rHolds _ _ = r; (try rw [ho] at hr); (try dsimp only [Ar.real, IX.vo] at hr); (try simp only [QB7] at hr); cbv) | ((first | refine CallI.pure hP (x_r05Get _ _ _ ‹_›) fn132 (by first | rfl | (rw [ho]; done) | (rw [ho]; rfl)) (by rfl) (by first | rfl | (rw [ho]; done) | (rw [ho]; rfl)) ?_ | refine CallN.pure hP (x_r05Get _ _ _ ‹_›) fn132 (by first | rfl | (rw [ho]; done) | (rw [ho]; rfl)) (by rfl) (by first | rfl | (rw [ho]; done) | (rw [ho]; rfl)) ?_); (try rw [← ho]); generalize hr : getR _ _ _ = r; (try rw [ho] at hr); (try dsimp only [Ar.real, IX.vo] at hr); (try simp only [QB7] at hr); cbv) | ((first | refine CallI.pure hP (x_r05slot _ _ _) fn133 (by first | rfl | (rw [ho]; done) | (rw [ho]; rfl)) (by rfl) (by first | rfl | (rw [ho]; done) | (rw [ho]; rfl)) ?_ | refine CallN.pure hP (x_r05slot _ _ _) fn133 (by first | rfl | (rw [ho]; done) | (rw [ho]; rfl)) (by rfl) (by first | rfl | (rw [ho]; done) | (rw [ho]; rfl)) ?_); (try rw [← ho]); cbv) | (refine hK _ _ ?_) | (refine NeedT.mk ?_ ?_))
    any_goals (((try clear hR3); (try clear hR2); (try clear hR); (try clear hK); (try simp only [ncCast] at *); (try simp only [castI_eq] at *); (try rw [ho]); (try dsimp only [Ar.real, IX.vo, IX.val, BX.val, IX.toN]); (try simp only [QB7]); (try simp only [decide_eq_true_eq]); (all_goals (repeat rw [wrap_i64 (by omega) (by omega)])); (all_goals (first | omega | (simp only [Int.ofNat_eq_natCast]; omega)))); done)
    · refine hR _ ⟨i + 1, rv', out'⟩ (by dsimp only; omega) ⟨by dsimp only; omega, e1.symm⟩ ?_
      refine ⟨(by cbv), by cbv; repeat' (first | trivial | exact EqX.rfl' | exact EqO.rfl' | apply And.intro | ((try clear hR3); (try clear hR2); (try clear hR); (try clear hK); (try simp only [ncCast] at *); (try simp only [castI_eq] at *); refine EqX.i ?_; (try rw [ho]); (try dsimp only [Ar.real, IX.vo, IX.val, BX.val, IX.toN]); (try simp only [QB7]); (repeat rw [wrap_i64 (by omega) (by omega)]); omega)), by cbv; repeat' (first | trivial | exact EqO.rfl' | apply And.intro), by cbv; repeat' (first | trivial | exact EqO.rfl' | apply And.intro)⟩
    · obtain rfl : i = a.length := by ((try clear hR3); (try clear hR2); (try clear hR); (try clear hK); (try simp only [ncCast] at *); (try simp only [castI_eq] at *)); omega
      rw [hr1, ← hout]
      exact FinX_rb2 (by rw [ho]) rfl
end Go.Proofs.Ytddgcegimmcbgaa.Sy

set_option linter.unusedSectionVars false
namespace Go.Proofs.Ytddgcegimmcbgaa.Sy
open Go Go.Sy Go.Proofs.Ytddgcegimmcbgaa
set_option maxRecDepth 100000
set_option maxHeartbeats 8000000
set_option linter.unusedVariables false
set_option linter.unusedSimpArgs false

theorem x_r06Right (s : S4) : XC Try.prog 85 [.agg (S4.X Ar.real s)] [] (xb (sumsRight s)) [] := by
  have hi := sumsRight_iff s
  obtain ⟨a, b, u, d⟩ := s
  generalize sumsRight ⟨a, b, u, d⟩ = r at *
  dsimp only at hi
  (refine XC.of_body ([]) Try.func85 rfl Try.ntmps85 mixed (T := [(2, ti2), (3, ti3), (52, ti52)]) (.cons tok2 (.cons tok3 (.cons tok52 .nil))) (by kernel_rfl) (by simp) rfl rfl rfl rfl rfl ?_; rintro o ho P hP c K hK; have hm : P.follows .mixedOrders = true := hP ▸ mixed; have hT : TOk P [(2, ti2), (3, ti3), (52, ti52)] := hP ▸ (.cons tok2 (.cons tok3 (.cons tok52 .nil))); (try rw [← ho]); cbv; (repeat (refine StopN.mk ?_; cbv)))
  repeat' (first | (refine Br.mk (fun hb => ?_) (fun hb => ?_) <;> ((try rw [ho] at hb); (try dsimp only [Ar.real, IX.vo] at hb); (try simp only [QB7] at hb); (try simp only [QBo, beq_iff_eq, beq_eq_false_iff_ne, ne_eq] at hb))) | (refine StopN.mk ?_; cbv) | (refine hK _ _ ?_) | (refine NeedT.mk ?_ ?_) | (refine LoopN.lay (o := o) (D := []) 5 ho hm hT (by kernel_rfl) ?_; cbv))
  all_goals
    refine .b ?_
    ((try clear hR3); (try clear hR2); (try clear hR); (try clear hK); (try simp only [ncCast] at *); (try simp only [castI_eq] at *); (try rw [ho]); (try dsimp only [Ar.real, IX.vo, IX.val, BX.val, IX.toN]); (try simp only [QB7]))
    cases r <;> simp only [BX.val, reduceCtorEq, true_iff, false_iff, not_and, Bool.false_eq_true, iff_false, iff_true] at hi ⊢ <;> omega
theorem x_r06Holds (s t : S4) : XC Try.prog 35 [.agg (S4.X Ar.real s), .agg (S4.X Ar.real t)] [] (xb (sumsHolds s t)) [] := by
  have hs := x_r06Right s
  have ht := x_r06Right t
  unfold sumsHolds
  generalize sumsRight s = rs at *
  generalize sumsRight t = rt at *
  obtain ⟨a, b, p, d⟩ := s
  obtain ⟨a', b', p', d'⟩ := t
  (refine XC.of_body ([(4, [])]) Try.func35 rfl Try.ntmps35 mixed (T := [(2, ti2), (3, ti3), (52, ti52)]) (.cons tok2 (.cons tok3 (.cons tok52 .nil))) (by kernel_rfl) (by simp) rfl rfl rfl rfl rfl ?_; rintro o ho P hP c K hK; have hm : P.follows .mixedOrders = true := hP ▸ mixed; have hT : TOk P [(2, ti2), (3, ti3), (52, ti52)] := hP ▸ (.cons tok2 (.cons tok3 (.cons tok52 .nil))); (try rw [← ho]); cbv; (repeat (refine StopN.mk ?_; cbv)))
  rw [← ho] at hs ht
  repeat' (first | (refine Br.mk (fun hb => ?_) (fun hb => ?_) <;> ((try rw [ho] at hb); (try dsimp only [Ar.real, IX.vo] at hb); (try simp only [QB7] at hb); (try simp only [QBo, beq_iff_eq, beq_eq_false_iff_ne, ne_eq] at hb))) | (refine StopN.mk ?_; cbv) | ((first | refine CallI.pure hP hs fn85 rfl rfl rfl ?_ | refine CallI.pure hP ht fn85 rfl rfl rfl ?_); cbv) | ((first | refine CallI.pure hP (x_r06Right _) fn85 (by first | rfl | (rw [ho]; done) | (rw [ho]; rfl)) (by rfl) (by first | rfl | (rw [ho]; done) | (rw [ho]; rfl)) ?_ | refine CallN.pure hP (x_r06Right _) fn85 (by first | rfl | (rw [ho]; done) | (rw [ho]; rfl)) (by rfl) (by first | rfl | (rw [ho]; done) | (rw [ho]; rfl)) ?_); (try rw [← ho]); generalize hr : sumsRight _ = r; (try rw [ho] at hr); (try dsimp only [Ar.real, IX.vo] at hr); (try simp only [QB7] at hr); cbv) | (refine hK _ _ ?_) | (refine NeedT.mk ?_ ?_) | (refine LoopN.lay (o := o) (D := [(4, [])]) 5 ho hm hT (by kernel_rfl) ?_; cbv))
  all_goals
    refine .b ?_
    ((try clear hR3); (try clear hR2); (try clear hR); (try clear hK); (try simp only [ncCast] at *); (try simp only [castI_eq] at *); (try rw [ho]); (try dsimp only [Ar.real, IX.vo, IX.val, BX.val, IX.toN]); (try simp only [QB7]))
    first
      | (rw [decide_eq_true ⟨by assumption, by assumption, by assumption, by assumption⟩]; simp_all; done)
      | (rw [decide_eq_false (fun h => by omega)]; rfl)
theorem x_r06Of (v : List Part) (hv : v.length ≤ 1048576) : XC Try.prog 45 [.ro (SL Ar.real Part.X v)] [] (.agg (S4.X Ar.real (sumsOf v))) [] := by
  have hx := x_r05Right v hv
  unfold sumsOf
  by_cases h0 : vecRight v = true
  · rw [if_pos h0]
    have hat := fun i (hi : i < v.length) => vecRight_at h0 hi
    rw [h0] at hx
    clear h0
    have hm0 : ofTo v 0 = ⟨0, 0, 0, 0⟩ := rfl
    have hm1 : ∀ k, ofTo v (k + 1) = (ofTo v k).addAt (v.getD k default).kind (v.getD k default).amount := fun _ => rfl
    generalize ofTo v = M at *
    (refine XC.of_body ([(7, [])]) Try.func45 rfl Try.ntmps45 mixed (T := [(2, ti2), (3, ti3), (4, ti4), (31, ti31), (52, ti52), (123, ti123)]) (.cons tok2 (.cons tok3 (.cons tok4 (.cons tok31 (.cons tok52 (.cons tok123 .nil)))))) (by kernel_rfl) (by simp) rfl rfl rfl rfl rfl ?_; rintro o ho P hP c K hK; have hm : P.follows .mixedOrders = true := hP ▸ mixed; have hT : TOk P [(2, ti2), (3, ti3), (4, ti4), (31, ti31), (52, ti52), (123, ti123)] := hP ▸ (.cons tok2 (.cons tok3 (.cons tok4 (.cons tok31 (.cons tok52 (.cons tok123 .nil)))))); (try rw [← ho]); cbv; (repeat (refine StopN.mk ?_; cbv)))
    rw [← ho] at hx
    repeat' (first | (refine Br.mk (fun hb => ?_) (fun hb => ?_) <;> ((try rw [ho] at hb); (try dsimp only [Ar.real, IX.vo] at hb); (try simp only [QB7] at hb); (try simp only [QBo, beq_iff_eq, beq_eq_false_iff_ne, ne_eq] at hb))) | (refine StopN.mk ?_; cbv) | ((first | refine CallI.pure hP hx fn96 rfl rfl rfl ?_ | refine CallN.pure hP hx fn96 rfl rfl rfl ?_); cbv) | ((first | refine CallI.pure hP (x_r05Right _ ‹_›) fn96 (by first | rfl | (rw [ho]; done) | (rw [ho]; rfl)) (by rfl) (by first | rfl | (rw [ho]; done) | (rw [ho]; rfl)) ?_ | refine CallN.pure hP (x_r05Right _ ‹_›) fn96 (by first | rfl | (rw [ho]; done) | (rw [ho]; rfl)) (by rfl) (by first | rfl | (rw [ho]; done) | (rw [ho]; rfl)) ?_); (try rw [← ho]); generalize hr : vecRight _ = r; (try rw [ho] at hr); (try dsimp only [Ar.real, IX.vo] at hr); (try simp only [QB7] at hr); cbv) | (refine hK _ _ ?_) | (refine NeedT.mk ?_ ?_))
    · exact absurd ‹true = false› (by decide)
    refine LoopN.over (o := o) (D := [(7, [])]) ho hm hT (by kernel_rfl) (fun a : Nat => [(4, xn a)]) (fun a => [(1, .var [xi (M a).a, xi (M a).b, xi (M a).c, xi (M a).d] 52)]) (fun _ => []) (fun a => a ≤ v.length) (fun a => v.length - a) 0 (by omega) ?_ ?_
    · refine ⟨(by cbv), by cbv; repeat' (first | trivial | exact EqX.rfl' | exact EqO.rfl' | apply And.intro | ((try clear hR3); (try clear hR2); (try clear hR); (try clear hK); (try simp only [ncCast] at *); (try simp only [castI_eq] at *); refine EqX.i ?_; (try rw [ho]); (try dsimp only [Ar.real, IX.vo, IX.val, BX.val, IX.toN]); (try simp only [QB7]); (repeat rw [wrap_i64 (by omega) (by omega)]); omega) | exact ⟨by rw [hm0]; rfl⟩), by cbv; repeat' (first | trivial | exact EqO.rfl' | apply And.intro | exact ⟨by rw [hm0]; rfl⟩), by cbv; repeat' (first | trivial | exact EqO.rfl' | apply And.intro | exact ⟨by rw [hm0]; rfl⟩)⟩
    · rintro i hi R hR
      have h1 := hat i
      have h2 := hm1 i
      cbv
      repeat' (first | (refine Br.mk (fun hb => ?_) (fun hb => ?_) <;> ((try rw [ho] at hb); (try dsimp only [Ar.real, IX.vo] at hb); (try simp only [QB7] at hb); (try simp only [QBo, beq_iff_eq, beq_eq_false_iff_ne, ne_eq] at hb))) | (refine StopN.mk ?_; cbv) | ((first | refine CallI.pure hP (x_r05Right _ ‹_›) fn96 (by first | rfl | (rw [ho]; done) | (rw [ho]; rfl)) (by rfl) (by first | rfl | (rw [ho]; done) | (rw [ho]; rfl)) ?_ | refine CallN.pure hP (x_r05Right _ ‹_›) fn96 (by first | rfl | (rw [ho]; done) | (rw [ho]; rfl)) (by rfl) (by first | rfl | (rw [ho]; done) | (rw [ho]; rfl)) ?_); (try rw [← ho]); generalize hr : vecRight _ = r; (try rw [ho] at hr); (try dsimp only [Ar.real, IX.vo] at hr); (try simp only [QB7] at hr); cbv) | (refine hK _ _ ?_) | (refine NeedT.mk ?_ ?_))
      any_goals (((try clear hR3); (try clear hR2); (try clear hR); (try clear hK); (try simp only [ncCast] at *); (try simp only [castI_eq] at *); (try rw [ho]); (try dsimp only [Ar.real, IX.vo, IX.val, BX.val, IX.toN]); (try simp only [QB7]); (try simp only [decide_eq_true_eq]); (all_goals (repeat rw [wrap_i64 (by omega) (by omega)])); (all_goals (first | omega | (simp only [Int.ofNat_eq_natCast]; omega)))); done)
      · refine hR _ (i + 1) (by show v.length - (i + 1) < v.length - i; ((try clear hR3); (try clear hR2); (try clear hR); (try clear hK); (try simp only [ncCast] at *); (try simp only [castI_eq] at *)); omega) (by show i + 1 ≤ v.length; ((try clear hR3); (try clear hR2); (try clear hR); (try clear hK); (try simp only [ncCast] at *); (try simp only [castI_eq] at *)); omega) ?_
        refine ⟨(by cbv), by cbv; repeat' (first | trivial | exact EqX.rfl' | exact EqO.rfl' | apply And.intro | ((try clear hR3); (try clear hR2); (try clear hR); (try clear hK); (try simp only [ncCast] at *); (try simp only [castI_eq] at *); refine EqX.i ?_; (try rw [ho]); (try dsimp only [Ar.real, IX.vo, IX.val, BX.val, IX.toN]); (try simp only [QB7]); (repeat rw [wrap_i64 (by omega) (by omega)]); omega) | exact ⟨by rw [h2, ho]; simp only [OX.toOb, X.toDL, X.toD]; rfl⟩), by cbv; repeat' (first | trivial | exact EqO.rfl' | apply And.intro | exact ⟨by rw [h2, ho]; simp only [OX.toOb, X.toDL, X.toD]; rfl⟩), by cbv; repeat' (first | trivial | exact EqO.rfl' | apply And.intro | exact ⟨by rw [h2, ho]; simp only [OX.toOb, X.toDL, X.toD]; rfl⟩)⟩
      · obtain rfl : i = v.length := by ((try clear hR3); (try clear hR2); (try clear hR); (try clear hK); (try simp only [ncCast] at *); (try simp only [castI_eq] at *)); omega
        exact FinX_S4 rfl rfl rfl rfl
  · rw [if_neg h0]
    generalize vecRight v = b at *
    (refine XC.of_body ([(7, [])]) Try.func45 rfl Try.ntmps45 mixed (T := [(2, ti2), (3, ti3), (4, ti4), (31, ti31), (52, ti52), (123, ti123)]) (.cons tok2 (.cons tok3 (.cons tok4 (.cons tok31 (.cons tok52 (.cons tok123 .nil)))))) (by kernel_rfl) (by simp) rfl rfl rfl rfl rfl ?_; rintro o ho P hP c K hK; have hm : P.follows .mixedOrders = true := hP ▸ mixed; have hT : TOk P [(2, ti2), (3, ti3), (4, ti4), (31, ti31), (52, ti52), (123, ti123)] := hP ▸ (.cons tok2 (.cons tok3 (.cons tok4 (.cons tok31 (.cons tok52 (.cons tok123 .nil)))))); (try rw [← ho]); cbv; (repeat (refine StopN.mk ?_; cbv)))
    rw [← ho] at hx
    repeat' (first | (refine Br.mk (fun hb => ?_) (fun hb => ?_) <;> ((try rw [ho] at hb); (try dsimp only [Ar.real, IX.vo] at hb); (try simp only [QB7] at hb); (try simp only [QBo, beq_iff_eq, beq_eq_false_iff_ne, ne_eq] at hb))) | (refine StopN.mk ?_; cbv) | ((first | refine CallI.pure hP hx fn96 rfl rfl rfl ?_ | refine CallN.pure hP hx fn96 rfl rfl rfl ?_); cbv) | ((first | refine CallI.pure hP (x_r05Right _ ‹_›) fn96 (by first | rfl | (rw [ho]; done) | (rw [ho]; rfl)) (by rfl) (by first | rfl | (rw [ho]; done) | (rw [ho]; rfl)) ?_ | refine CallN.pure hP (x_r05Right _ ‹_›) fn96 (by first | rfl | (rw [ho]; done) | (rw [ho]; rfl)) (by rfl) (by first | rfl | (rw [ho]; done) | (rw [ho]; rfl)) ?_); (try rw [← ho]); generalize hr : vecRight _ = r; (try rw [ho] at hr); (try dsimp only [Ar.real, IX.vo] at hr); (try simp only [QB7] at hr); cbv) | (refine hK _ _ ?_) | (refine NeedT.mk ?_ ?_))
    all_goals first
      | exact FinX_S4 rfl rfl rfl rfl
      | exact absurd hb h0
end Go.Proofs.Ytddgcegimmcbgaa.Sy

set_option linter.unusedSectionVars false
namespace Go.Proofs.Ytddgcegimmcbgaa.Sy
open Go Go.Sy Go.Proofs.Ytddgcegimmcbgaa
set_option maxRecDepth 100000
set_option maxHeartbeats 8000000
set_option linter.unusedVariables false
set_option linter.unusedSimpArgs false

def dg (x : Int) : Int := IntKind.i64.wrap (x.tmod 65536)
def nq (x : Int) : Int := IntKind.u64.wrap (x.tdiv 65536)
def digsR (hi lo : Int) : List Int := [dg lo, dg (nq lo), dg (nq (nq lo)), dg (nq (nq (nq lo))), dg hi, dg (nq hi), dg (nq (nq hi)), dg (nq (nq (nq hi)))]
theorem x_Digits (hi lo : Int) : XC Try.prog 87 [xu hi, xu lo] [] (.ro (SL Ar.real encI (digsR hi lo))) [] := by
  have hrows := rows_SL Ar.real rfl encI (digsR hi lo)
  have hd : digsR hi lo = [dg lo, dg (nq lo), dg (nq (nq lo)), dg (nq (nq (nq lo))), dg hi, dg (nq hi), dg (nq (nq hi)), dg (nq (nq (nq hi)))] := rfl
  generalize digsR hi lo = ds at *
  (refine XC.of_body ([]) Try.func87 rfl Try.ntmps87 mixed (T := [(3, ti3), (43, ti43), (155, ti155)]) (.cons tok3 (.cons tok43 (.cons tok155 .nil))) (by kernel_rfl) (by simp) rfl rfl rfl rfl rfl ?_; rintro o ho P hP c K hK; have hm : P.follows .mixedOrders = true := hP ▸ mixed; have hT : TOk P [(3, ti3), (43, ti43), (155, ti155)] := hP ▸ (.cons tok3 (.cons tok43 (.cons tok155 .nil))); (try rw [← ho]); cbv; (repeat (refine StopN.mk ?_; cbv)))
  repeat' (first | (refine Br.mk (fun hb => ?_) (fun hb => ?_) <;> ((try rw [ho] at hb); (try dsimp only [Ar.real, IX.vo] at hb); (try simp only [QB7] at hb); (try simp only [QBo, beq_iff_eq, beq_eq_false_iff_ne, ne_eq] at hb))) | (refine StopN.mk ?_; cbv) | (refine hK _ _ ?_) | (refine NeedT.mk ?_ ?_) | (refine LoopN.lay (o := o) (D := []) 5 ho hm hT (by kernel_rfl) ?_; cbv))
  any_goals (((try clear hR3); (try clear hR2); (try clear hR); (try clear hK); (try simp only [ncCast] at *); (try simp only [castI_eq] at *); (try rw [ho]); (try dsimp only [Ar.real, IX.vo, IX.val, BX.val, IX.toN]); (try simp only [QB7]); (try simp only [decide_eq_true_eq]); (all_goals (repeat rw [wrap_i64 (by omega) (by omega)])); (all_goals (first | omega | (simp only [Int.ofNat_eq_natCast]; omega)))); done)
  refine .ro ?_
  have hrows' : (SL Ar.real encI ds).rows = ds.map fun x => X.toCL (encI Ar.real x) := rows_SL Ar.real rfl encI ds
  refine Eq.trans ?_ hrows'.symm
  rw [hd, ho]
  rfl
def lessTo (a b : List Int) : Nat → Bool
  | 0 => false
  | n + 1 => if a.getD n 0 = b.getD n 0 then lessTo a b n else decide (a.getD n 0 < b.getD n 0)
structure StE where
  n : Nat
  i : Int
structure InE (a b : List Int) (s : StE) : Prop where
  n : s.n ≤ a.length
  i : s.i = (s.n : Int) - 1
  to : lessTo a b s.n = lessTo a b a.length
theorem x_Less (a b : List Int) (ha : a.length ≤ 1048576) (hab : a.length = b.length) : XC Try.prog 88 [.ro (SL Ar.real encI a), .ro (SL Ar.real encI b)] [] (xb (lessTo a b a.length)) [] := by
  obtain ⟨res, hres⟩ : ∃ q, q = lessTo a b a.length := ⟨_, rfl⟩
  rw [← hres]
  obtain ⟨i0, hi0⟩ : ∃ q, q = (a.length : Int) - 1 := ⟨_, rfl⟩
  have h0 : InE a b ⟨a.length, i0⟩ := ⟨Nat.le_refl _, hi0, rfl⟩
  (refine XC.of_body ([(4, []), (5, [])]) Try.func88 rfl Try.ntmps88 mixed (T := [(3, ti3), (43, ti43)]) (.cons tok3 (.cons tok43 .nil)) (by kernel_rfl) (by simp) rfl rfl rfl rfl rfl ?_; rintro o ho P hP c K hK; have hm : P.follows .mixedOrders = true := hP ▸ mixed; have hT : TOk P [(3, ti3), (43, ti43)] := hP ▸ (.cons tok3 (.cons tok43 .nil)); (try rw [← ho]); cbv; (repeat (refine StopN.mk ?_; cbv)))
  refine LoopN.over (o := o) (D := [(4, []), (5, [])]) ho hm hT (by kernel_rfl) (fun s : StE => [(5, xi s.i)]) (fun _ => []) (fun _ => []) (InE a b) (fun s => s.n) ⟨a.length, i0⟩ h0 ?_ ?_
  · refine ⟨(by cbv), by cbv; repeat' (first | trivial | exact EqX.rfl' | exact EqO.rfl' | apply And.intro | ((try clear hR3); (try clear hR2); (try clear hR); (try clear hK); (try simp only [ncCast] at *); (try simp only [castI_eq] at *); refine EqX.i ?_; (try rw [ho]); (try dsimp only [Ar.real, IX.vo, IX.val, BX.val, IX.toN]); (try simp only [QB7]); (repeat rw [wrap_i64 (by omega) (by omega)]); omega)), by cbv; repeat' (first | trivial | exact EqO.rfl' | apply And.intro), by cbv; repeat' (first | trivial | exact EqO.rfl' | apply And.intro)⟩
  · rintro ⟨n, i⟩ ⟨hn, hi, hto⟩ R hR
    dsimp only at hn hi hto
    rw [← hres] at hto
    have h1 : ∀ m, n = m + 1 → res = if a.getD m 0 = b.getD m 0 then lessTo a b m else decide (a.getD m 0 < b.getD m 0) := fun m hm => by rw [← hto, hm]; rfl
    have h2 : n = 0 → res = false := fun h => by rw [← hto, h]; rfl
    obtain ⟨i', hi'⟩ : ∃ q, q = (n : Int) - 2 := ⟨_, rfl⟩
    cbv
    repeat' (first | (refine Br.mk (fun hb => ?_) (fun hb => ?_) <;> ((try rw [ho] at hb); (try dsimp only [Ar.real, IX.vo] at hb); (try simp only [QB7] at hb); (try simp only [QBo, beq_iff_eq, beq_eq_false_iff_ne, ne_eq] at hb))) | (refine StopN.mk ?_; cbv) | (refine hK _ _ ?_) | (refine NeedT.mk ?_ ?_))
    any_goals (((try clear hR3); (try clear hR2); (try clear hR); (try clear hK); (try simp only [ncCast] at *); (try simp only [castI_eq] at *); (try rw [ho]); (try dsimp only [Ar.real, IX.vo, IX.val, BX.val, IX.toN]); (try simp only [QB7]); (try simp only [decide_eq_true_eq]); (all_goals (repeat rw [wrap_i64 (by omega) (by omega)])); (all_goals (first | omega | (simp only [Int.ofNat_eq_natCast]; omega)))); done)
    · have hm1 : n = i.toNat + 1 := by ((try clear hR3); (try clear hR2); (try clear hR); (try clear hK); (try simp only [ncCast] at *); (try simp only [castI_eq] at *)); omega
      rw [h1 _ hm1, if_neg (show ¬ a.getD i.toNat 0 = b.getD i.toNat 0 from hb)]
      refine .b ?_
      rw [ho]
      rfl
    · have hm1 : n = i.toNat + 1 := by ((try clear hR3); (try clear hR2); (try clear hR); (try clear hK); (try simp only [ncCast] at *); (try simp only [castI_eq] at *)); omega
      have e1 : i' = (i.toNat : Int) - 1 := by ((try clear hR3); (try clear hR2); (try clear hR); (try clear hK); (try simp only [ncCast] at *); (try simp only [castI_eq] at *)); omega
      refine hR _ ⟨i.toNat, i'⟩ (by show i.toNat < n; ((try clear hR3); (try clear hR2); (try clear hR); (try clear hK); (try simp only [ncCast] at *); (try simp only [castI_eq] at *)); omega) ⟨by show i.toNat ≤ a.length; ((try clear hR3); (try clear hR2); (try clear hR); (try clear hK); (try simp only [ncCast] at *); (try simp only [castI_eq] at *)); omega, e1, ?_⟩ ?_
      · show lessTo a b i.toNat = _
        rw [← hres, h1 _ hm1, if_pos (show a.getD i.toNat 0 = b.getD i.toNat 0 from hb)]
      · refine ⟨(by cbv), by cbv; repeat' (first | trivial | exact EqX.rfl' | exact EqO.rfl' | apply And.intro | ((try clear hR3); (try clear hR2); (try clear hR); (try clear hK); (try simp only [ncCast] at *); (try simp only [castI_eq] at *); refine EqX.i ?_; (try rw [ho]); (try dsimp only [Ar.real, IX.vo, IX.val, BX.val, IX.toN]); (try simp only [QB7]); (repeat rw [wrap_i64 (by omega) (by omega)]); omega)), by cbv; repeat' (first | trivial | exact EqO.rfl' | apply And.intro), by cbv; repeat' (first | trivial | exact EqO.rfl' | apply And.intro)⟩
    · rw [h2 (by ((try clear hR3); (try clear hR2); (try clear hR); (try clear hK); (try simp only [ncCast] at *); (try simp only [castI_eq] at *)); omega)]
      exact .b rfl
/-! ### Products -/
def w64 (x : Int) : Int := IntKind.i64.wrap x
def pN (out a b : List Int) (i k : Nat) (over : Int) : Int := w64 (w64 (out.getD (i + k) 0 + w64 (a.getD i 0 * b.getD k 0)) + over)
structure StP where
  k : Nat
  out : List Int
  over : Int
def pIn (out a b : List Int) (i : Nat) : Nat → StP
  | 0 => ⟨0, out, 0⟩
  | k + 1 => ⟨k + 1, (pIn out a b i k).out.set (i + k) ((pN (pIn out a b i k).out a b i k (pIn out a b i k).over).tmod 65536), w64 ((pN (pIn out a b i k).out a b i k (pIn out a b i k).over).tdiv 65536)⟩
def pOut (a b : List Int) : Nat → List Int
  | 0 => List.replicate (a.length + b.length) 0
  | i + 1 => (pIn (pOut a b i) a b i b.length).out.set (i + b.length) (pIn (pOut a b i) a b i b.length).over
theorem pIn_len (out a b : List Int) (i : Nat) : ∀ k, (pIn out a b i k).out.length = out.length
  | 0 => rfl
  | k + 1 => by simp only [pIn, List.length_set]; exact pIn_len out a b i k
theorem pOut_len (a b : List Int) : ∀ i, (pOut a b i).length = a.length + b.length
  | 0 => by simp [pOut]
  | i + 1 => by simp only [pOut, List.length_set, pIn_len]; exact pOut_len a b i
theorem rows_zero {o : Ar} (ho : o = Ar.real) {l : List Int} {n m : Nat} (hl : l = List.replicate m 0) (hn : n = m) : (RR.fn n fun _ => [X.i .i64 (.lit 0)]).rows = (SL o encI l).rows := by
  subst hn
  refine rows_fn_SL o ho encI _ _ _ (by rw [hl, List.length_replicate]) ?_
  intro j hj
  have e : l.getD j default = 0 := by
    rw [hl, List.getD_eq_getElem?_getD, List.getElem?_replicate]
    split <;> rfl
  rw [e]
  rfl
theorem hval4 {i k : Nat} {n : Nat} (o : Ar) (ho : o = Ar.real) (h : IntKind.i64.wrap ((i : Int) + k) = n) : (IX.s (o.wrap IntKind.i64 (o.add (IX.vo o (IX.nat i)) (IX.vo o (IX.nat k))))).val = n := by
  subst ho
  exact h
theorem x_Product (a b : List Int) (ha : a.length ≤ 1000) (hb' : b.length ≤ 1000) : XC Try.prog 86 [.ro (SL Ar.real encI a), .ro (SL Ar.real encI b)] [] (.ro (SL Ar.real encI (pOut a b a.length))) [] := by
  have hM0 : pOut a b 0 = List.replicate (a.length + b.length) 0 := rfl
  have hM1 : ∀ i, pOut a b (i + 1) = (pIn (pOut a b i) a b i b.length).out.set (i + b.length) (pIn (pOut a b i) a b i b.length).over := fun _ => rfl
  have hMl := pOut_len a b
  generalize pOut a b = M at *
  (refine XC.of_body ([(9, [])]) Try.func86 rfl Try.ntmps86 mixed (T := [(3, ti3), (43, ti43)]) (.cons tok3 (.cons tok43 .nil)) (by kernel_rfl) (by simp) rfl rfl rfl rfl rfl ?_; rintro o ho P hP c K hK; have hm : P.follows .mixedOrders = true := hP ▸ mixed; have hT : TOk P [(3, ti3), (43, ti43)] := hP ▸ (.cons tok3 (.cons tok43 .nil)); (try rw [← ho]); cbv; (repeat (refine StopN.mk ?_; cbv)))
  repeat' (first | (refine Br.mk (fun hb => ?_) (fun hb => ?_) <;> ((try rw [ho] at hb); (try dsimp only [Ar.real, IX.vo] at hb); (try simp only [QB7] at hb); (try simp only [QBo, beq_iff_eq, beq_eq_false_iff_ne, ne_eq] at hb))) | (refine StopN.mk ?_; cbv) | (refine hK _ _ ?_) | (refine NeedT.mk ?_ ?_))
  any_goals (((try clear hR3); (try clear hR2); (try clear hR); (try clear hK); (try simp only [ncCast] at *); (try simp only [castI_eq] at *); (try rw [ho]); (try dsimp only [Ar.real, IX.vo, IX.val, BX.val, IX.toN]); (try simp only [QB7]); (try simp only [decide_eq_true_eq]); (all_goals (repeat rw [wrap_i64 (by omega) (by omega)])); (all_goals (first | omega | (simp only [Int.ofNat_eq_natCast]; omega)))); done)
  obtain ⟨z, hz⟩ : ∃ q, q = List.replicate (a.length + b.length) (0 : Int) := ⟨_, rfl⟩
  rw [← hz] at hM0
  refine LoopN.over (o := o) (D := [(9, [])]) ho hm hT (by kernel_rfl) (fun i : Nat => [(6, xn i)]) (fun i => [(0, .row 0 3 1 (SL o encI (M i)))]) (fun _ => []) (fun i => i ≤ a.length) (fun i => a.length - i) 0 (Nat.zero_le _) ?_ ?_
  · have hM0' := hM0.trans hz
    have hlen : (IntKind.i64.wrap ((a.length : Int) + b.length)).toNat = a.length + b.length := by rw [wrap_i64 (by omega) (by omega)]; omega
    refine ⟨(by cbv), by cbv; repeat' (first | trivial | exact EqX.rfl' | exact EqO.rfl' | apply And.intro | ((try clear hR3); (try clear hR2); (try clear hR); (try clear hK); (try simp only [ncCast] at *); (try simp only [castI_eq] at *); refine EqX.i ?_; (try rw [ho]); (try dsimp only [Ar.real, IX.vo, IX.val, BX.val, IX.toN]); (try simp only [QB7]); (repeat rw [wrap_i64 (by omega) (by omega)]); omega) | (refine EqO.row rfl (rows_zero ho hM0' ?_); rw [ho]; exact hlen)), by cbv; repeat' (first | trivial | exact EqO.rfl' | apply And.intro | (refine EqO.row rfl (rows_zero ho hM0' ?_); rw [ho]; exact hlen)), by cbv; repeat' (first | trivial | exact EqO.rfl' | apply And.intro | (refine EqO.row rfl (rows_zero ho hM0' ?_); rw [ho]; exact hlen))⟩
  · rintro i hi R hR
    have e1 := hM1 i
    have hl := hMl i
    have hP0 : (pIn (M i) a b i 0) = ⟨0, M i, 0⟩ := rfl
    have hP1 : ∀ k, pIn (M i) a b i (k + 1) = ⟨k + 1, (pIn (M i) a b i k).out.set (i + k) ((pN (pIn (M i) a b i k).out a b i k (pIn (M i) a b i k).over).tmod 65536), w64 ((pN (pIn (M i) a b i k).out a b i k (pIn (M i) a b i k).over).tdiv 65536)⟩ := fun _ => rfl
    have hPl := pIn_len (M i) a b i
    generalize pIn (M i) a b i = N at *
    obtain ⟨out0, hout0⟩ : ∃ q, q = M i := ⟨_, rfl⟩
    rw [← hout0] at hl hP0 hPl
    cbv
    repeat' (first | (refine Br.mk (fun hb => ?_) (fun hb => ?_) <;> ((try rw [ho] at hb); (try dsimp only [Ar.real, IX.vo] at hb); (try simp only [QB7] at hb); (try simp only [QBo, beq_iff_eq, beq_eq_false_iff_ne, ne_eq] at hb))) | (refine StopN.mk ?_; cbv) | (refine hK _ _ ?_) | (refine NeedT.mk ?_ ?_))
    any_goals (((try clear hR3); (try clear hR2); (try clear hR); (try clear hK); (try simp only [ncCast] at *); (try simp only [castI_eq] at *); (try rw [ho]); (try dsimp only [Ar.real, IX.vo, IX.val, BX.val, IX.toN]); (try simp only [QB7]); (try simp only [decide_eq_true_eq]); (all_goals (repeat rw [wrap_i64 (by omega) (by omega)])); (all_goals (first | omega | (simp only [Int.ofNat_eq_natCast]; omega)))); done)
    · have hN0 : (N 0).out = M i ∧ (N 0).over = 0 := by rw [hP0]; exact ⟨hout0, rfl⟩
      have hrow0 : (SL o encI (M i)).rows = (SL o encI (N 0).out).rows := by rw [hN0.1]
      refine LoopN.over (o := o) (D := [(9, [])]) ho hm hT (by kernel_rfl) (fun k : Nat => [(8, xn k), (7, xi (N k).over)]) (fun k => [(0, .row 0 3 1 (SL o encI (N k).out))]) (fun _ => []) (fun k => k ≤ b.length) (fun k => b.length - k) 0 (Nat.zero_le _) ?_ ?_
      · refine ⟨(by cbv), by cbv; repeat' (first | trivial | exact EqX.rfl' | exact EqO.rfl' | apply And.intro | ((try clear hR3); (try clear hR2); (try clear hR); (try clear hK); (try simp only [ncCast] at *); (try simp only [castI_eq] at *); refine EqX.i ?_; (try rw [ho]); (try dsimp only [Ar.real, IX.vo, IX.val, BX.val, IX.toN]); (try simp only [QB7]); (repeat rw [wrap_i64 (by omega) (by omega)]); omega) | (refine EqX.i ?_; exact hN0.2.symm) | exact EqO.row rfl hrow0), by cbv; repeat' (first | trivial | exact EqO.rfl' | apply And.intro | (refine EqX.i ?_; exact hN0.2.symm) | exact EqO.row rfl hrow0), by cbv; repeat' (first | trivial | exact EqO.rfl' | apply And.intro | (refine EqX.i ?_; exact hN0.2.symm) | exact EqO.row rfl hrow0)⟩
      · rintro k hk R' hR'
        have f1 := hP1 k
        have hPk := hPl k
        obtain ⟨N', hN'⟩ : ∃ q, q = N (k + 1) := ⟨_, rfl⟩
        rw [← hN'] at f1
        generalize hNk : N k = Nk at *
        obtain ⟨k0, outk, overk⟩ := Nk
        dsimp only at f1 hPk
        have hidx : i < a.length → k < b.length → (IntKind.i64.wrap ((i : Int) + k)).toNat = i + k := fun h h' => by rw [wrap_i64 (by omega) (by omega)]; omega
        have hidx2 : i < a.length → k < b.length → IntKind.i64.wrap ((i : Int) + k) = ((i + k : Nat) : Int) := fun h h' => by rw [wrap_i64 (by omega) (by omega)]; omega
        have hidx3 : i < a.length → IntKind.i64.wrap ((i : Int) + b.length) = ((i + b.length : Nat) : Int) := fun h => by rw [wrap_i64 (by omega) (by omega)]; omega
        have hp : i < a.length → k < b.length → pN outk a b i k overk = w64 (w64 (outk.getD ((IntKind.i64.wrap ((i : Int) + k)).toNat) 0 + w64 (a.getD i 0 * b.getD k 0)) + overk) := fun h h' => by rw [hidx h h']; rfl
        have g1 : i < a.length → k < b.length → (N (k + 1)).out = outk.set (i + k) ((w64 (w64 (outk.getD ((IntKind.i64.wrap ((i : Int) + k)).toNat) 0 + w64 (a.getD i 0 * b.getD k 0)) + overk)).tmod 65536) := fun h h' => by rw [← hN', f1, hp h h']
        have g2 : i < a.length → k < b.length → (N (k + 1)).over = w64 ((w64 (w64 (outk.getD ((IntKind.i64.wrap ((i : Int) + k)).toNat) 0 + w64 (a.getD i 0 * b.getD k 0)) + overk)).tdiv 65536) := fun h h' => by rw [← hN', f1, hp h h']
        have g3 : k = b.length → M (i + 1) = outk.set (i + b.length) overk := fun h => by rw [e1, ← h, hNk]
        cbv
        repeat' (first | (refine Br.mk (fun hb => ?_) (fun hb => ?_) <;> ((try rw [ho] at hb); (try dsimp only [Ar.real, IX.vo] at hb); (try simp only [QB7] at hb); (try simp only [QBo, beq_iff_eq, beq_eq_false_iff_ne, ne_eq] at hb))) | (refine StopN.mk ?_; cbv) | (refine hK _ _ ?_) | (refine NeedT.mk ?_ ?_))
        any_goals (((try clear hR3); (try clear hR2); (try clear hR); (try clear hK); (try simp only [ncCast] at *); (try simp only [castI_eq] at *); (try rw [ho]); (try dsimp only [Ar.real, IX.vo, IX.val, BX.val, IX.toN]); (try simp only [QB7]); (try simp only [decide_eq_true_eq]); (all_goals (repeat rw [wrap_i64 (by omega) (by omega)])); (all_goals (first | omega | (simp only [Int.ofNat_eq_natCast]; omega)))); done)
        · have g1' := g1 (by assumption) (by assumption)
          have g2' := g2 (by assumption) (by assumption)
          have g4 := hidx2 (by assumption) (by assumption)
          refine hR' _ (k + 1) (by show b.length - (k + 1) < b.length - k; ((try clear hR3); (try clear hR2); (try clear hR); (try clear hK); (try simp only [ncCast] at *); (try simp only [castI_eq] at *)); omega) (by show k + 1 ≤ b.length; ((try clear hR3); (try clear hR2); (try clear hR); (try clear hK); (try simp only [ncCast] at *); (try simp only [castI_eq] at *)); omega) ?_
          refine ⟨(by cbv), by cbv; repeat' (first | trivial | exact EqX.rfl' | exact EqO.rfl' | apply And.intro | ((try clear hR3); (try clear hR2); (try clear hR); (try clear hK); (try simp only [ncCast] at *); (try simp only [castI_eq] at *); refine EqX.i ?_; (try rw [ho]); (try dsimp only [Ar.real, IX.vo, IX.val, BX.val, IX.toN]); (try simp only [QB7]); (repeat rw [wrap_i64 (by omega) (by omega)]); omega) | (refine EqX.i ?_; rw [ho]; exact g2'.symm) | (refine EqO.set ho encI outk _ _ (i + k) _ _ rfl g1' (hval4 _ ho g4) ?_; rw [ho]; rfl)), by cbv; repeat' (first | trivial | exact EqO.rfl' | apply And.intro | (refine EqX.i ?_; rw [ho]; exact g2'.symm) | (refine EqO.set ho encI outk _ _ (i + k) _ _ rfl g1' (hval4 _ ho g4) ?_; rw [ho]; rfl)), by cbv; repeat' (first | trivial | exact EqO.rfl' | apply And.intro | (refine EqX.i ?_; rw [ho]; exact g2'.symm) | (refine EqO.set ho encI outk _ _ (i + k) _ _ rfl g1' (hval4 _ ho g4) ?_; rw [ho]; rfl))⟩
        · obtain rfl : k = b.length := by ((try clear hR3); (try clear hR2); (try clear hR); (try clear hK); (try simp only [ncCast] at *); (try simp only [castI_eq] at *)); omega
          have g3' := g3 rfl
          have g5 := hidx3 (by assumption)
          have g4 : IntKind.i64.wrap ((i : Int) + ((o.len b : Nat) : Int)) = ((i + b.length : Nat) : Int) := by rw [ho]; exact g5
          refine hR _ (i + 1) (by show a.length - (i + 1) < a.length - i; ((try clear hR3); (try clear hR2); (try clear hR); (try clear hK); (try simp only [ncCast] at *); (try simp only [castI_eq] at *)); omega) (by show i + 1 ≤ a.length; ((try clear hR3); (try clear hR2); (try clear hR); (try clear hK); (try simp only [ncCast] at *); (try simp only [castI_eq] at *)); omega) ?_
          refine ⟨(by cbv), by cbv; repeat' (first | trivial | exact EqX.rfl' | exact EqO.rfl' | apply And.intro | ((try clear hR3); (try clear hR2); (try clear hR); (try clear hK); (try simp only [ncCast] at *); (try simp only [castI_eq] at *); refine EqX.i ?_; (try rw [ho]); (try dsimp only [Ar.real, IX.vo, IX.val, BX.val, IX.toN]); (try simp only [QB7]); (repeat rw [wrap_i64 (by omega) (by omega)]); omega) | (exact EqO.set ho encI outk _ _ (i + b.length) _ _ rfl g3' (hval4 _ ho g4) rfl)), by cbv; repeat' (first | trivial | exact EqO.rfl' | apply And.intro | (exact EqO.set ho encI outk _ _ (i + b.length) _ _ rfl g3' (hval4 _ ho g4) rfl)), by cbv; repeat' (first | trivial | exact EqO.rfl' | apply And.intro | (exact EqO.set ho encI outk _ _ (i + b.length) _ _ rfl g3' (hval4 _ ho g4) rfl))⟩
    · obtain rfl : i = a.length := by ((try clear hR3); (try clear hR2); (try clear hR); (try clear hK); (try simp only [ncCast] at *); (try simp only [castI_eq] at *)); omega
      exact .ro (by rw [ho])
end Go.Proofs.Ytddgcegimmcbgaa.Sy

set_option linter.unusedSectionVars false
namespace Go.Proofs.Ytddgcegimmcbgaa.Sy
open Go Go.Sy Go.Proofs.Ytddgcegimmcbgaa
set_option maxRecDepth 100000
set_option maxHeartbeats 8000000
set_option linter.unusedVariables false
set_option linter.unusedSimpArgs false

theorem x_r02Right (n d : Int) : XC Try.prog 30 [.agg [xi n, xi d]] [] (xb (fracRight n d)) [] := by
  (refine XC.of_body ([]) Try.func30 rfl Try.ntmps30 mixed (T := [(2, ti2), (64, ti64)]) (.cons tok2 (.cons tok64 .nil)) (by kernel_rfl) (by simp) rfl rfl rfl rfl rfl ?_; rintro o ho P hP c K hK; have hm : P.follows .mixedOrders = true := hP ▸ mixed; have hT : TOk P [(2, ti2), (64, ti64)] := hP ▸ (.cons tok2 (.cons tok64 .nil)); (try rw [← ho]); cbv; (repeat (refine StopN.mk ?_; cbv)))
  repeat' (first | (refine Br.mk (fun hb => ?_) (fun hb => ?_) <;> ((try rw [ho] at hb); (try dsimp only [Ar.real, IX.vo] at hb); (try simp only [QB7] at hb); (try simp only [QBo, beq_iff_eq, beq_eq_false_iff_ne, ne_eq] at hb))) | (refine StopN.mk ?_; cbv) | (refine hK _ _ ?_) | (refine NeedT.mk ?_ ?_))
  all_goals (refine .b ?_; ((try clear hR3); (try clear hR2); (try clear hR); (try clear hK); (try simp only [ncCast] at *); (try simp only [castI_eq] at *); (try rw [ho]); (try dsimp only [Ar.real, IX.vo, IX.val, BX.val, IX.toN]); (try simp only [QB7])); simp [fracRight, *])
  all_goals omega
def prodD (x y : Int) : List Int := pOut (digsR 0 x) (digsR 0 y) (digsR 0 x).length
theorem prodD_len (x y : Int) : (prodD x y).length = 16 := pOut_len _ _ _
def rFracCmp (a b u v : Int) : Int :=
  if fracRight a b = true ∧ fracRight u v = true then
    (if lessTo (prodD a v) (prodD u b) (prodD a v).length = true then -1 else if lessTo (prodD u b) (prodD a v) (prodD u b).length = true then 1 else 0)
  else 0
theorem x_prodD (x y : Int) : XC Try.prog 86 [.ro (SL Ar.real encI (digsR 0 x)), .ro (SL Ar.real encI (digsR 0 y))] [] (.ro (SL Ar.real encI (prodD x y))) [] := x_Product _ _ (show (8 : Nat) ≤ 1000 by decide) (show (8 : Nat) ≤ 1000 by decide)
theorem x_r02Cmp (a b u v : Int) (ha : i64B a) (hb' : i64B b) (hc' : i64B u) (hd : i64B v) : XC Try.prog 36 [.agg [xi a, xi b], .agg [xi u, xi v]] [] (xi (rFracCmp a b u v)) [] := by
  obtain ⟨a1, a2⟩ := ha
  obtain ⟨b1, b2⟩ := hb'
  obtain ⟨c1, c2⟩ := hc'
  obtain ⟨d1, d2⟩ := hd
  by_cases h : fracRight a b = true ∧ fracRight u v = true
  · have hr0 := h
    simp only [fracRight, Bool.and_eq_true, decide_eq_true_eq] at hr0
    obtain ⟨⟨a3, b3⟩, c3, d3⟩ := hr0
    have hf : rFracCmp a b u v = (if lessTo (prodD a v) (prodD u b) (prodD a v).length = true then -1 else if lessTo (prodD u b) (prodD a v) (prodD u b).length = true then 1 else 0) := if_pos h
    have hD1 := x_Digits 0 a
    have hD2 := x_Digits 0 v
    have hD3 := x_Digits 0 u
    have hD4 := x_Digits 0 b
    have hP1 := x_prodD a v
    have hP2 := x_prodD u b
    have hL1 := x_Less (prodD a v) (prodD u b) (by rw [prodD_len]; decide) (by rw [prodD_len, prodD_len])
    have hL2 := x_Less (prodD u b) (prodD a v) (by rw [prodD_len]; decide) (by rw [prodD_len, prodD_len])
    have wa : IntKind.u64.wrap a = a := wrap_u64 (by omega) (by omega)
    have wb : IntKind.u64.wrap b = b := wrap_u64 (by omega) (by omega)
    have wu : IntKind.u64.wrap u = u := wrap_u64 (by omega) (by omega)
    have wv : IntKind.u64.wrap v = v := wrap_u64 (by omega) (by omega)
    have hr1 := x_r02Right a b
    have hr2 := x_r02Right u v
    rw [h.1] at hr1
    rw [h.2] at hr2
    rw [hf]
    clear hf
    generalize prodD a v = p1 at *
    generalize prodD u b = p2 at *
    generalize lessTo p1 p2 p1.length = l1 at *
    generalize lessTo p2 p1 p2.length = l2 at *
    generalize digsR 0 a = da at *
    generalize digsR 0 b = db at *
    generalize digsR 0 u = du at *
    generalize digsR 0 v = dv at *
    (refine XC.of_body ([(3, [(3, 4), (3, 5)]), (4, [(3, 4), (3, 5)])]) Try.func36 rfl Try.ntmps36 mixed (T := [(2, ti2), (4, ti4), (64, ti64), (155, ti155)]) (.cons tok2 (.cons tok4 (.cons tok64 (.cons tok155 .nil)))) (by kernel_rfl) (by simp) rfl rfl rfl rfl rfl ?_; rintro o ho P hP c K hK; have hm : P.follows .mixedOrders = true := hP ▸ mixed; have hT : TOk P [(2, ti2), (4, ti4), (64, ti64), (155, ti155)] := hP ▸ (.cons tok2 (.cons tok4 (.cons tok64 (.cons tok155 .nil)))); (try rw [← ho]); cbv; (repeat (refine StopN.mk ?_; cbv)))
    have ew : ∀ x, o.wrap IntKind.u64 x = IntKind.u64.wrap x := fun x => by rw [ho]; rfl
    rw [← ho] at hD1 hD2 hD3 hD4 hP1 hP2 hL1 hL2
    rw [← wa, ← ew] at hD1
    rw [← wv, ← ew] at hD2
    rw [← wu, ← ew] at hD3
    rw [← wb, ← ew] at hD4
    repeat' (first | (refine Br.mk (fun hb => ?_) (fun hb => ?_) <;> ((try rw [ho] at hb); (try dsimp only [Ar.real, IX.vo] at hb); (try simp only [QB7] at hb); (try simp only [QBo, beq_iff_eq, beq_eq_false_iff_ne, ne_eq] at hb))) | (refine StopN.mk ?_; cbv) | ((first | refine CallI.pure hP hr1 fn30 rfl rfl rfl ?_ | refine CallI.pure hP hr2 fn30 rfl rfl rfl ?_ | refine CallN.pure hP hD1 fn87 rfl rfl rfl ?_ | refine CallN.pure hP hD2 fn87 rfl rfl rfl ?_ | refine CallN.pure hP hD3 fn87 rfl rfl rfl ?_ | refine CallN.pure hP hD4 fn87 rfl rfl rfl ?_ | refine CallN.pure hP hP1 fn86 rfl rfl rfl ?_ | refine CallN.pure hP hP2 fn86 rfl rfl rfl ?_ | refine CallI.pure hP hL1 fn88 rfl rfl rfl ?_ | refine CallI.pure hP hL2 fn88 rfl rfl rfl ?_); cbv) | ((first | refine CallI.pure hP (x_r02Right _ _) fn30 (by first | rfl | (rw [ho]; done) | (rw [ho]; rfl)) (by rfl) (by first | rfl | (rw [ho]; done) | (rw [ho]; rfl)) ?_ | refine CallN.pure hP (x_r02Right _ _) fn30 (by first | rfl | (rw [ho]; done) | (rw [ho]; rfl)) (by rfl) (by first | rfl | (rw [ho]; done) | (rw [ho]; rfl)) ?_); (try rw [← ho]); generalize hr : fracRight _ _ = r; (try rw [ho] at hr); (try dsimp only [Ar.real, IX.vo] at hr); (try simp only [QB7] at hr); cbv) | ((first | refine CallI.pure hP (x_Digits _ _) fn87 (by first | rfl | (rw [ho]; done) | (rw [ho]; rfl)) (by rfl) (by first | rfl | (rw [ho]; done) | (rw [ho]; rfl)) ?_ | refine CallN.pure hP (x_Digits _ _) fn87 (by first | rfl | (rw [ho]; done) | (rw [ho]; rfl)) (by rfl) (by first | rfl | (rw [ho]; done) | (rw [ho]; rfl)) ?_); (try rw [← ho]); generalize hr : digsR _ _ = r; (try rw [ho] at hr); (try dsimp only [Ar.real, IX.vo] at hr); (try simp only [QB7] at hr); cbv) | ((first | refine CallI.pure hP (x_Less _ _ ‹_› ‹_›) fn88 (by first | rfl | (rw [ho]; done) | (rw [ho]; rfl)) (by rfl) (by first | rfl | (rw [ho]; done) | (rw [ho]; rfl)) ?_ | refine CallN.pure hP (x_Less _ _ ‹_› ‹_›) fn88 (by first | rfl | (rw [ho]; done) | (rw [ho]; rfl)) (by rfl) (by first | rfl | (rw [ho]; done) | (rw [ho]; rfl)) ?_); (try rw [← ho]); generalize hr : lessTo _ _ _ = r; (try rw [ho] at hr); (try dsimp only [Ar.real, IX.vo] at hr); (try simp only [QB7] at hr); cbv) | (refine hK _ _ ?_) | (refine NeedT.mk ?_ ?_))
    · exact absurd ‹true = false› (by decide)
    · exact absurd ‹true = false› (by decide)
    · refine .i ?_
      rw [if_pos (by assumption)]
      rfl
    · refine .i ?_
      rw [if_neg (by rw [‹l1 = false›]; decide), if_pos (by assumption)]
      rfl
    · refine .i ?_
      rw [if_neg (by rw [‹l1 = false›]; decide), if_neg (by rw [‹l2 = false›]; decide)]
      rfl
  · rw [show rFracCmp a b u v = 0 from if_neg h]
    (refine XC.of_body ([(3, [(3, 4), (3, 5)]), (4, [(3, 4), (3, 5)])]) Try.func36 rfl Try.ntmps36 mixed (T := [(2, ti2), (4, ti4), (64, ti64), (155, ti155)]) (.cons tok2 (.cons tok4 (.cons tok64 (.cons tok155 .nil)))) (by kernel_rfl) (by simp) rfl rfl rfl rfl rfl ?_; rintro o ho P hP c K hK; have hm : P.follows .mixedOrders = true := hP ▸ mixed; have hT : TOk P [(2, ti2), (4, ti4), (64, ti64), (155, ti155)] := hP ▸ (.cons tok2 (.cons tok4 (.cons tok64 (.cons tok155 .nil)))); (try rw [← ho]); cbv; (repeat (refine StopN.mk ?_; cbv)))
    repeat' (first | (refine Br.mk (fun hb => ?_) (fun hb => ?_) <;> ((try rw [ho] at hb); (try dsimp only [Ar.real, IX.vo] at hb); (try simp only [QB7] at hb); (try simp only [QBo, beq_iff_eq, beq_eq_false_iff_ne, ne_eq] at hb))) | (refine StopN.mk ?_; cbv) | ((first | refine CallI.pure hP (x_r02Right _ _) fn30 (by first | rfl | (rw [ho]; done) | (rw [ho]; rfl)) (by rfl) (by first | rfl | (rw [ho]; done) | (rw [ho]; rfl)) ?_ | refine CallN.pure hP (x_r02Right _ _) fn30 (by first | rfl | (rw [ho]; done) | (rw [ho]; rfl)) (by rfl) (by first | rfl | (rw [ho]; done) | (rw [ho]; rfl)) ?_); (try rw [← ho]); generalize hr : fracRight _ _ = r; (try rw [ho] at hr); (try dsimp only [Ar.real, IX.vo] at hr); (try simp only [QB7] at hr); cbv) | ((first | refine CallI.pure hP (x_Digits _ _) fn87 (by first | rfl | (rw [ho]; done) | (rw [ho]; rfl)) (by rfl) (by first | rfl | (rw [ho]; done) | (rw [ho]; rfl)) ?_ | refine CallN.pure hP (x_Digits _ _) fn87 (by first | rfl | (rw [ho]; done) | (rw [ho]; rfl)) (by rfl) (by first | rfl | (rw [ho]; done) | (rw [ho]; rfl)) ?_); (try rw [← ho]); generalize hr : digsR _ _ = r; (try rw [ho] at hr); (try dsimp only [Ar.real, IX.vo] at hr); (try simp only [QB7] at hr); cbv) | ((first | refine CallI.pure hP (x_Less _ _ ‹_› ‹_›) fn88 (by first | rfl | (rw [ho]; done) | (rw [ho]; rfl)) (by rfl) (by first | rfl | (rw [ho]; done) | (rw [ho]; rfl)) ?_ | refine CallN.pure hP (x_Less _ _ ‹_› ‹_›) fn88 (by first | rfl | (rw [ho]; done) | (rw [ho]; rfl)) (by rfl) (by first | rfl | (rw [ho]; done) | (rw [ho]; rfl)) ?_); (try rw [← ho]); generalize hr : lessTo _ _ _ = r; (try rw [ho] at hr); (try dsimp only [Ar.real, IX.vo] at hr); (try simp only [QB7] at hr); cbv) | (refine hK _ _ ?_) | (refine NeedT.mk ?_ ?_))
    all_goals first
      | exact .i rfl
      | (exfalso; simp_all; done)
/-! ### Shares -/
theorem x_r07Right (n d w : Int) : XC Try.prog 134 [.agg [xi n, xi d], xi w] [] (xb (shrRight ⟨n, d, w⟩)) [] := by
  have hf := x_r02Right n d
  unfold shrRight
  dsimp only
  generalize fracRight n d = F at *
  (refine XC.of_body ([]) Try.func134 rfl Try.ntmps134 mixed (T := [(2, ti2), (64, ti64)]) (.cons tok2 (.cons tok64 .nil)) (by kernel_rfl) (by simp) rfl rfl rfl rfl rfl ?_; rintro o ho P hP c K hK; have hm : P.follows .mixedOrders = true := hP ▸ mixed; have hT : TOk P [(2, ti2), (64, ti64)] := hP ▸ (.cons tok2 (.cons tok64 .nil)); (try rw [← ho]); cbv; (repeat (refine StopN.mk ?_; cbv)))
  repeat' (first | (refine Br.mk (fun hb => ?_) (fun hb => ?_) <;> ((try rw [ho] at hb); (try dsimp only [Ar.real, IX.vo] at hb); (try simp only [QB7] at hb); (try simp only [QBo, beq_iff_eq, beq_eq_false_iff_ne, ne_eq] at hb))) | (refine StopN.mk ?_; cbv) | ((first | refine CallI.pure hP hf fn30 rfl rfl rfl ?_ | refine CallN.pure hP hf fn30 rfl rfl rfl ?_); cbv) | ((first | refine CallI.pure hP (x_r02Right _ _) fn30 (by first | rfl | (rw [ho]; done) | (rw [ho]; rfl)) (by rfl) (by first | rfl | (rw [ho]; done) | (rw [ho]; rfl)) ?_ | refine CallN.pure hP (x_r02Right _ _) fn30 (by first | rfl | (rw [ho]; done) | (rw [ho]; rfl)) (by rfl) (by first | rfl | (rw [ho]; done) | (rw [ho]; rfl)) ?_); (try rw [← ho]); generalize hr : fracRight _ _ = r; (try rw [ho] at hr); (try dsimp only [Ar.real, IX.vo] at hr); (try simp only [QB7] at hr); cbv) | (refine hK _ _ ?_) | (refine NeedT.mk ?_ ?_))
  all_goals
    refine .b ?_
    ((try clear hR3); (try clear hR2); (try clear hR); (try clear hK); (try simp only [ncCast] at *); (try simp only [castI_eq] at *); (try rw [ho]); (try dsimp only [Ar.real, IX.vo, IX.val, BX.val, IX.toN]); (try simp only [QB7]))
    simp_all
  all_goals omega
def sideR (a b c : Int) : List Int := pOut (prodD a b) (digsR 0 c) (prodD a b).length
theorem sideR_len (a b c : Int) : (sideR a b c).length = 24 := by
  unfold sideR
  rw [pOut_len, prodD_len]
  rfl
theorem x_side (a b c : Int) (ha : 0 ≤ a ∧ a < 18446744073709551616) (hb' : 0 ≤ b ∧ b < 18446744073709551616) (hc' : 0 ≤ c ∧ c < 18446744073709551616) : XC Try.prog 135 [xi a, xi b, xi c] [] (.ro (SL Ar.real encI (sideR a b c))) [] := by
  have hD1 := x_Digits 0 a
  have hD2 := x_Digits 0 b
  have hD3 := x_Digits 0 c
  have hP1 := x_prodD a b
  have hP2 : XC Try.prog 86 [.ro (SL Ar.real encI (prodD a b)), .ro (SL Ar.real encI (digsR 0 c))] [] (.ro (SL Ar.real encI (sideR a b c))) [] := x_Product _ _ (by rw [prodD_len]; decide) (show (8 : Nat) ≤ 1000 by decide)
  have wa : IntKind.u64.wrap a = a := wrap_u64 (by omega) (by omega)
  have wb : IntKind.u64.wrap b = b := wrap_u64 (by omega) (by omega)
  have wc : IntKind.u64.wrap c = c := wrap_u64 (by omega) (by omega)
  generalize sideR a b c = res at *
  generalize prodD a b = p1 at *
  generalize digsR 0 a = da at *
  generalize digsR 0 b = db at *
  generalize digsR 0 c = dc at *
  (refine XC.of_body ([]) Try.func135 rfl Try.ntmps135 mixed (T := [(2, ti2), (155, ti155)]) (.cons tok2 (.cons tok155 .nil)) (by kernel_rfl) (by simp) rfl rfl rfl rfl rfl ?_; rintro o ho P hP c K hK; have hm : P.follows .mixedOrders = true := hP ▸ mixed; have hT : TOk P [(2, ti2), (155, ti155)] := hP ▸ (.cons tok2 (.cons tok155 .nil)); (try rw [← ho]); cbv; (repeat (refine StopN.mk ?_; cbv)))
  have ew : ∀ x, o.wrap IntKind.u64 x = IntKind.u64.wrap x := fun x => by rw [ho]; rfl
  rw [← ho] at hD1 hD2 hD3 hP1 hP2
  rw [← wa, ← ew] at hD1
  rw [← wb, ← ew] at hD2
  rw [← wc, ← ew] at hD3
  repeat' (first | (refine Br.mk (fun hb => ?_) (fun hb => ?_) <;> ((try rw [ho] at hb); (try dsimp only [Ar.real, IX.vo] at hb); (try simp only [QB7] at hb); (try simp only [QBo, beq_iff_eq, beq_eq_false_iff_ne, ne_eq] at hb))) | (refine StopN.mk ?_; cbv) | ((first | refine CallI.pure hP hD1 fn87 rfl rfl rfl ?_ | refine CallI.pure hP hD2 fn87 rfl rfl rfl ?_ | refine CallI.pure hP hD3 fn87 rfl rfl rfl ?_ | refine CallI.pure hP hP1 fn86 rfl rfl rfl ?_ | refine CallI.pure hP hP2 fn86 rfl rfl rfl ?_); cbv) | ((first | refine CallI.pure hP (x_Digits _ _) fn87 (by first | rfl | (rw [ho]; done) | (rw [ho]; rfl)) (by rfl) (by first | rfl | (rw [ho]; done) | (rw [ho]; rfl)) ?_ | refine CallN.pure hP (x_Digits _ _) fn87 (by first | rfl | (rw [ho]; done) | (rw [ho]; rfl)) (by rfl) (by first | rfl | (rw [ho]; done) | (rw [ho]; rfl)) ?_); (try rw [← ho]); generalize hr : digsR _ _ = r; (try rw [ho] at hr); (try dsimp only [Ar.real, IX.vo] at hr); (try simp only [QB7] at hr); cbv) | (refine hK _ _ ?_) | (refine NeedT.mk ?_ ?_))
  exact .ro (by rw [ho])
def rShrCmp (s t : Shr) : Int :=
  if shrRight s = true ∧ shrRight t = true then
    (if lessTo (sideR s.num t.den t.weight) (sideR t.num s.den s.weight) (sideR s.num t.den t.weight).length = true then -1
     else if lessTo (sideR t.num s.den s.weight) (sideR s.num t.den t.weight) (sideR t.num s.den s.weight).length = true then 1 else 0)
  else 0
theorem x_r07Cmp (s t : Shr) : XC Try.prog 73 [.agg [xi s.num, xi s.den], xi s.weight, .agg [xi t.num, xi t.den], xi t.weight] [] (xi (rShrCmp s t)) [] := by
  have hs := x_r07Right s.num s.den s.weight
  have ht := x_r07Right t.num t.den t.weight
  by_cases h : shrRight s = true ∧ shrRight t = true
  · have h1 := (shrRight_iff s).1 h.1
    have h2 := (shrRight_iff t).1 h.2
    have hS1 := x_side s.num t.den t.weight ⟨by omega, by omega⟩ ⟨by omega, by omega⟩ ⟨by omega, by omega⟩
    have hS2 := x_side t.num s.den s.weight ⟨by omega, by omega⟩ ⟨by omega, by omega⟩ ⟨by omega, by omega⟩
    have hL1 := x_Less (sideR s.num t.den t.weight) (sideR t.num s.den s.weight) (by rw [sideR_len]; decide) (by rw [sideR_len, sideR_len])
    have hL2 := x_Less (sideR t.num s.den s.weight) (sideR s.num t.den t.weight) (by rw [sideR_len]; decide) (by rw [sideR_len, sideR_len])
    rw [show rShrCmp s t = (if lessTo (sideR s.num t.den t.weight) (sideR t.num s.den s.weight) (sideR s.num t.den t.weight).length = true then -1
     else if lessTo (sideR t.num s.den s.weight) (sideR s.num t.den t.weight) (sideR t.num s.den s.weight).length = true then 1 else 0) from if_pos h]
    generalize sideR s.num t.den t.weight = p1 at *
    generalize sideR t.num s.den s.weight = p2 at *
    generalize lessTo p1 p2 p1.length = l1 at *
    generalize lessTo p2 p1 p2.length = l2 at *
    rw [show shrRight ⟨s.num, s.den, s.weight⟩ = true from h.1] at hs
    rw [show shrRight ⟨t.num, t.den, t.weight⟩ = true from h.2] at ht
    clear h h1 h2
    obtain ⟨n, d, w⟩ := s
    obtain ⟨n', d', w'⟩ := t
    (refine XC.of_body ([(3, [(5, 6), (5, 7), (5, 8), (5, 9)])]) Try.func73 rfl Try.ntmps73 mixed (T := [(2, ti2), (4, ti4), (64, ti64)]) (.cons tok2 (.cons tok4 (.cons tok64 .nil))) (by kernel_rfl) (by simp) rfl rfl rfl rfl rfl ?_; rintro o ho P hP c K hK; have hm : P.follows .mixedOrders = true := hP ▸ mixed; have hT : TOk P [(2, ti2), (4, ti4), (64, ti64)] := hP ▸ (.cons tok2 (.cons tok4 (.cons tok64 .nil))); (try rw [← ho]); cbv; (repeat (refine StopN.mk ?_; cbv)))
    rw [← ho] at hS1 hS2 hL1 hL2
    repeat' (first | (refine Br.mk (fun hb => ?_) (fun hb => ?_) <;> ((try rw [ho] at hb); (try dsimp only [Ar.real, IX.vo] at hb); (try simp only [QB7] at hb); (try simp only [QBo, beq_iff_eq, beq_eq_false_iff_ne, ne_eq] at hb))) | (refine StopN.mk ?_; cbv) | ((first | refine CallI.pure hP hs fn134 rfl rfl rfl ?_ | refine CallI.pure hP ht fn134 rfl rfl rfl ?_ | refine CallN.pure hP hS1 fn135 rfl rfl rfl ?_ | refine CallN.pure hP hS2 fn135 rfl rfl rfl ?_ | refine CallI.pure hP hL1 fn88 rfl rfl rfl ?_ | refine CallI.pure hP hL2 fn88 rfl rfl rfl ?_); cbv) | ((first | refine CallI.pure hP (x_Less _ _ ‹_› ‹_›) fn88 (by first | rfl | (rw [ho]; done) | (rw [ho]; rfl)) (by rfl) (by first | rfl | (rw [ho]; done) | (rw [ho]; rfl)) ?_ | refine CallN.pure hP (x_Less _ _ ‹_› ‹_›) fn88 (by first | rfl | (rw [ho]; done) | (rw [ho]; rfl)) (by rfl) (by first | rfl | (rw [ho]; done) | (rw [ho]; rfl)) ?_); (try rw [← ho]); generalize hr : lessTo _ _ _ = r; (try rw [ho] at hr); (try dsimp only [Ar.real, IX.vo] at hr); (try simp only [QB7] at hr); cbv) | ((first | refine CallI.pure hP (x_r07Right _ _ _) fn134 (by first | rfl | (rw [ho]; done) | (rw [ho]; rfl)) (by rfl) (by first | rfl | (rw [ho]; done) | (rw [ho]; rfl)) ?_ | refine CallN.pure hP (x_r07Right _ _ _) fn134 (by first | rfl | (rw [ho]; done) | (rw [ho]; rfl)) (by rfl) (by first | rfl | (rw [ho]; done) | (rw [ho]; rfl)) ?_); (try rw [← ho]); generalize hr : shrRight _ = r; (try rw [ho] at hr); (try dsimp only [Ar.real, IX.vo] at hr); (try simp only [QB7] at hr); cbv) | (refine hK _ _ ?_) | (refine NeedT.mk ?_ ?_))
    · exact absurd ‹true = false› (by decide)
    · exact absurd ‹true = false› (by decide)
    · refine .i ?_
      rw [if_pos (by assumption)]
      rfl
    · refine .i ?_
      rw [if_neg (by rw [‹l1 = false›]; decide), if_pos (by assumption)]
      rfl
    · refine .i ?_
      rw [if_neg (by rw [‹l1 = false›]; decide), if_neg (by rw [‹l2 = false›]; decide)]
      rfl
  · rw [show rShrCmp s t = 0 from if_neg h]
    have h' : shrRight s = false ∨ shrRight t = false := by
      cases h1 : shrRight s <;> cases h2 : shrRight t <;> simp_all
    rw [show shrRight ⟨s.num, s.den, s.weight⟩ = shrRight s from rfl] at hs
    rw [show shrRight ⟨t.num, t.den, t.weight⟩ = shrRight t from rfl] at ht
    generalize shrRight s = rs at *
    generalize shrRight t = rt at *
    obtain ⟨n, d, w⟩ := s
    obtain ⟨n', d', w'⟩ := t
    (refine XC.of_body ([(3, [(5, 6), (5, 7), (5, 8), (5, 9)])]) Try.func73 rfl Try.ntmps73 mixed (T := [(2, ti2), (4, ti4), (64, ti64)]) (.cons tok2 (.cons tok4 (.cons tok64 .nil))) (by kernel_rfl) (by simp) rfl rfl rfl rfl rfl ?_; rintro o ho P hP c K hK; have hm : P.follows .mixedOrders = true := hP ▸ mixed; have hT : TOk P [(2, ti2), (4, ti4), (64, ti64)] := hP ▸ (.cons tok2 (.cons tok4 (.cons tok64 .nil))); (try rw [← ho]); cbv; (repeat (refine StopN.mk ?_; cbv)))
    repeat' (first | (refine Br.mk (fun hb => ?_) (fun hb => ?_) <;> ((try rw [ho] at hb); (try dsimp only [Ar.real, IX.vo] at hb); (try simp only [QB7] at hb); (try simp only [QBo, beq_iff_eq, beq_eq_false_iff_ne, ne_eq] at hb))) | (refine StopN.mk ?_; cbv) | ((first | refine CallI.pure hP hs fn134 rfl rfl rfl ?_ | refine CallI.pure hP ht fn134 rfl rfl rfl ?_); cbv) | ((first | refine CallI.pure hP (x_Less _ _ ‹_› ‹_›) fn88 (by first | rfl | (rw [ho]; done) | (rw [ho]; rfl)) (by rfl) (by first | rfl | (rw [ho]; done) | (rw [ho]; rfl)) ?_ | refine CallN.pure hP (x_Less _ _ ‹_› ‹_›) fn88 (by first | rfl | (rw [ho]; done) | (rw [ho]; rfl)) (by rfl) (by first | rfl | (rw [ho]; done) | (rw [ho]; rfl)) ?_); (try rw [← ho]); generalize hr : lessTo _ _ _ = r; (try rw [ho] at hr); (try dsimp only [Ar.real, IX.vo] at hr); (try simp only [QB7] at hr); cbv) | ((first | refine CallI.pure hP (x_r07Right _ _ _) fn134 (by first | rfl | (rw [ho]; done) | (rw [ho]; rfl)) (by rfl) (by first | rfl | (rw [ho]; done) | (rw [ho]; rfl)) ?_ | refine CallN.pure hP (x_r07Right _ _ _) fn134 (by first | rfl | (rw [ho]; done) | (rw [ho]; rfl)) (by rfl) (by first | rfl | (rw [ho]; done) | (rw [ho]; rfl)) ?_); (try rw [← ho]); generalize hr : shrRight _ = r; (try rw [ho] at hr); (try dsimp only [Ar.real, IX.vo] at hr); (try simp only [QB7] at hr); cbv) | (refine hK _ _ ?_) | (refine NeedT.mk ?_ ?_))
    all_goals first
      | exact .i rfl
      | (exfalso; simp_all; done)
end Go.Proofs.Ytddgcegimmcbgaa.Sy

set_option linter.unusedSectionVars false
namespace Go.Proofs.Ytddgcegimmcbgaa.Sy
open Go Go.Sy Go.Proofs.Ytddgcegimmcbgaa
set_option maxRecDepth 100000
set_option maxHeartbeats 8000000
set_option linter.unusedVariables false
set_option linter.unusedSimpArgs false

def rDomStep (x : DomS) (n d : Int) (k : Nat) : DomS := if 0 < d ∧ (x.at_ < 0 ∨ 0 < rFracCmp n d x.num x.den) then ⟨n, d, k⟩ else x
def rDomTo (s t : S4) : Nat → DomS
  | 0 => ⟨0, 1, -1⟩
  | k + 1 => rDomStep (rDomTo s t k) (s.at_ k) (t.at_ k) k
def rDom (s t : S4) : DomS := if sumsRight s = true ∧ sumsRight t = true then rDomTo s t 4 else ⟨0, 1, -1⟩
theorem rDomTo_bd {s t : S4} (h : sumsRight s = true) (h' : sumsRight t = true) : ∀ k, (0 ≤ (rDomTo s t k).num ∧ (rDomTo s t k).num ≤ 1152921504606846976) ∧ (0 ≤ (rDomTo s t k).den ∧ (rDomTo s t k).den ≤ 1152921504606846976) ∧ -1 ≤ (rDomTo s t k).at_ ∧ (rDomTo s t k).at_ < k
  | 0 => by simp [rDomTo]
  | k + 1 => by
    have ih := rDomTo_bd h h' k
    have h1 := S4.at_bd h k
    have h2 := S4.at_bd h' k
    simp only [rDomTo, rDomStep]
    split
    · dsimp only; omega
    · omega
theorem x_rDom (s t : S4) : XC Try.prog 34 [.agg (S4.X Ar.real s), .agg (S4.X Ar.real t)] [] (.tup [xi (rDom s t).at_, .agg [xi (rDom s t).num, xi (rDom s t).den]]) [] := by
  have hs := x_r06Right s
  have ht := x_r06Right t
  unfold rDom
  by_cases h0 : sumsRight s = true ∧ sumsRight t = true
  · rw [if_pos h0]
    have hbd := rDomTo_bd h0.1 h0.2
    have h1 := fun k => S4.at_bd h0.1 k
    have h2 := fun k => S4.at_bd h0.2 k
    rw [h0.1] at hs
    rw [h0.2] at ht
    have hm0 : rDomTo s t 0 = ⟨0, 1, -1⟩ := rfl
    have hm1 : ∀ k, rDomTo s t (k + 1) = rDomStep (rDomTo s t k) (s.at_ k) (t.at_ k) k := fun _ => rfl
    have ha : ∀ k : Nat, s.at_ k = [s.a, s.b, s.c, s.d].getD k 0 ∧ t.at_ k = [t.a, t.b, t.c, t.d].getD k 0 := fun _ => ⟨rfl, rfl⟩
    clear h0
    generalize hM : rDomTo s t = M at *
    generalize hS : s.at_ = sa at *
    generalize hT2 : t.at_ = ta at *
    clear hM hS hT2
    obtain ⟨a, b, p, d⟩ := s
    obtain ⟨a', b', p', d'⟩ := t
    dsimp only at ha
    (refine XC.of_body ([(3, []), (7, [(1, 7), (2, 7), (4, 7), (5, 7)]), (10, [])]) Try.func34 rfl Try.ntmps34 mixed (T := [(2, ti2), (3, ti3), (4, ti4), (52, ti52), (64, ti64)]) (.cons tok2 (.cons tok3 (.cons tok4 (.cons tok52 (.cons tok64 .nil))))) (by kernel_rfl) (by simp) rfl rfl rfl rfl rfl ?_; rintro o ho P hP c K hK; have hm : P.follows .mixedOrders = true := hP ▸ mixed; have hT : TOk P [(2, ti2), (3, ti3), (4, ti4), (52, ti52), (64, ti64)] := hP ▸ (.cons tok2 (.cons tok3 (.cons tok4 (.cons tok52 (.cons tok64 .nil))))); (try rw [← ho]); cbv; (repeat (refine StopN.mk ?_; cbv)))
    repeat' (first | (refine Br.mk (fun hb => ?_) (fun hb => ?_) <;> ((try rw [ho] at hb); (try dsimp only [Ar.real, IX.vo] at hb); (try simp only [QB7] at hb); (try simp only [QBo, beq_iff_eq, beq_eq_false_iff_ne, ne_eq] at hb))) | (refine StopN.mk ?_; cbv) | (first | refine CallI.pure hP hs fn85 rfl rfl rfl ?_ | refine CallI.pure hP ht fn85 rfl rfl rfl ?_); cbv | ((first | refine CallI.pure hP (x_r02Cmp _ _ _ _ ‹_› ‹_› ‹_› ‹_›) fn36 (by first | rfl | (rw [ho]; done) | (rw [ho]; rfl)) (by rfl) (by first | rfl | (rw [ho]; done) | (rw [ho]; rfl)) ?_ | refine CallN.pure hP (x_r02Cmp _ _ _ _ ‹_› ‹_› ‹_› ‹_›) fn36 (by first | rfl | (rw [ho]; done) | (rw [ho]; rfl)) (by rfl) (by first | rfl | (rw [ho]; done) | (rw [ho]; rfl)) ?_); (try rw [← ho]); generalize hr : rFracCmp _ _ _ _ = r; (try rw [ho] at hr); (try dsimp only [Ar.real, IX.vo] at hr); (try simp only [QB7] at hr); cbv) | ((first | refine CallI.pure hP (x_r06Right _) fn85 (by first | rfl | (rw [ho]; done) | (rw [ho]; rfl)) (by rfl) (by first | rfl | (rw [ho]; done) | (rw [ho]; rfl)) ?_ | refine CallN.pure hP (x_r06Right _) fn85 (by first | rfl | (rw [ho]; done) | (rw [ho]; rfl)) (by rfl) (by first | rfl | (rw [ho]; done) | (rw [ho]; rfl)) ?_); (try rw [← ho]); generalize hr : sumsRight _ = r; (try rw [ho] at hr); (try dsimp only [Ar.real, IX.vo] at hr); (try simp only [QB7] at hr); cbv) | (refine hK _ _ ?_) | (refine NeedT.mk ?_ ?_))
    · exact absurd ‹true = false› (by decide)
    · exact absurd ‹true = false› (by decide)
    refine LoopN.over (o := o) (D := [(3, []), (7, [(1, 7), (2, 7), (4, 7), (5, 7)]), (10, [])]) ho hm hT (by kernel_rfl) (fun a : Nat => [(8, xn a), (7, xi (M a).at_)]) (fun a => [(3, .var [xi (M a).num, xi (M a).den] 64)]) (fun _ => []) (fun a => a ≤ 4) (fun a => 4 - a) 0 (by omega) ?_ ?_
    · refine ⟨(by cbv), by cbv; repeat' (first | trivial | exact EqX.rfl' | exact EqO.rfl' | apply And.intro | ((try clear hR3); (try clear hR2); (try clear hR); (try clear hK); (try simp only [ncCast] at *); (try simp only [castI_eq] at *); refine EqX.i ?_; (try rw [ho]); (try dsimp only [Ar.real, IX.vo, IX.val, BX.val, IX.toN]); (try simp only [QB7]); (repeat rw [wrap_i64 (by omega) (by omega)]); omega) | (refine EqX.i ?_; rw [hm0]; rfl) | exact ⟨by rw [hm0]; rfl⟩), by cbv; repeat' (first | trivial | exact EqO.rfl' | apply And.intro | (refine EqX.i ?_; rw [hm0]; rfl) | exact ⟨by rw [hm0]; rfl⟩), by cbv; repeat' (first | trivial | exact EqO.rfl' | apply And.intro | (refine EqX.i ?_; rw [hm0]; rfl) | exact ⟨by rw [hm0]; rfl⟩)⟩
    · rintro i hi R hR
      have b0 := hbd i
      have b1 := h1 i
      have b2 := h2 i
      have hM1 := hm1 i
      have hq := x_r02Cmp (sa i) (ta i) (M i).num (M i).den ⟨by omega, by omega⟩ ⟨by omega, by omega⟩ ⟨by omega, by omega⟩ ⟨by omega, by omega⟩
      unfold rDomStep at hM1
      generalize rFracCmp (sa i) (ta i) (M i).num (M i).den = q at hq hM1
      obtain ⟨e1, e2⟩ := ha i
      generalize sa i = x at *
      generalize ta i = y at *
      have p1 : 0 < [a', b', p', d'].getD ((i : Int).toNat) 0 → ((M i).at_ < 0 ∨ 0 < q) → M (i + 1) = ⟨x, y, i⟩ := fun h h' => by
        rw [Int.toNat_natCast, ← e2] at h
        rw [hM1, if_pos ⟨h, h'⟩]
      have p2 : ([a', b', p', d'].getD ((i : Int).toNat) 0 ≤ 0 ∨ (0 ≤ (M i).at_ ∧ q ≤ 0)) → M (i + 1) = M i := fun h => by
        rw [Int.toNat_natCast, ← e2] at h
        rw [hM1, if_neg (fun h' => by omega)]
      cbv
      repeat' (first | (refine Br.mk (fun hb => ?_) (fun hb => ?_) <;> ((try rw [ho] at hb); (try dsimp only [Ar.real, IX.vo] at hb); (try simp only [QB7] at hb); (try simp only [QBo, beq_iff_eq, beq_eq_false_iff_ne, ne_eq] at hb))) | (refine StopN.mk ?_; cbv) | (refine CallI.pure hP hq fn36 rfl rfl (by (rw [ho]; (try dsimp only [Ar.real, IX.vo, IX.val]); (try simp only [castI_eq]); (repeat rw [wrap_i64 (by omega) (by omega)])); rw [e1, e2]; rfl) ?_); cbv | ((first | refine CallI.pure hP (x_r02Cmp _ _ _ _ ‹_› ‹_› ‹_› ‹_›) fn36 (by first | rfl | (rw [ho]; done) | (rw [ho]; rfl)) (by rfl) (by first | rfl | (rw [ho]; done) | (rw [ho]; rfl)) ?_ | refine CallN.pure hP (x_r02Cmp _ _ _ _ ‹_› ‹_› ‹_› ‹_›) fn36 (by first | rfl | (rw [ho]; done) | (rw [ho]; rfl)) (by rfl) (by first | rfl | (rw [ho]; done) | (rw [ho]; rfl)) ?_); (try rw [← ho]); generalize hr : rFracCmp _ _ _ _ = r; (try rw [ho] at hr); (try dsimp only [Ar.real, IX.vo] at hr); (try simp only [QB7] at hr); cbv) | ((first | refine CallI.pure hP (x_r06Right _) fn85 (by first | rfl | (rw [ho]; done) | (rw [ho]; rfl)) (by rfl) (by first | rfl | (rw [ho]; done) | (rw [ho]; rfl)) ?_ | refine CallN.pure hP (x_r06Right _) fn85 (by first | rfl | (rw [ho]; done) | (rw [ho]; rfl)) (by rfl) (by first | rfl | (rw [ho]; done) | (rw [ho]; rfl)) ?_); (try rw [← ho]); generalize hr : sumsRight _ = r; (try rw [ho] at hr); (try dsimp only [Ar.real, IX.vo] at hr); (try simp only [QB7] at hr); cbv) | (refine hK _ _ ?_) | (refine NeedT.mk ?_ ?_))
      any_goals (((try clear hR3); (try clear hR2); (try clear hR); (try clear hK); (try simp only [ncCast] at *); (try simp only [castI_eq] at *); (try rw [ho]); (try dsimp only [Ar.real, IX.vo, IX.val, BX.val, IX.toN]); (try simp only [QB7]); (try simp only [decide_eq_true_eq]); (all_goals (repeat rw [wrap_i64 (by omega) (by omega)])); (all_goals (first | omega | (simp only [Int.ofNat_eq_natCast]; omega)))); done)
      · have h5 := p1 (by assumption) (.inl hb)
        refine hR _ (i + 1) (by show 4 - (i + 1) < 4 - i; ((try clear hR3); (try clear hR2); (try clear hR); (try clear hK); (try simp only [ncCast] at *); (try simp only [castI_eq] at *)); omega) (by show i + 1 ≤ 4; ((try clear hR3); (try clear hR2); (try clear hR); (try clear hK); (try simp only [ncCast] at *); (try simp only [castI_eq] at *)); omega) ?_
        refine ⟨(by cbv), by cbv; repeat' (first | trivial | exact EqX.rfl' | exact EqO.rfl' | apply And.intro | ((try clear hR3); (try clear hR2); (try clear hR); (try clear hK); (try simp only [ncCast] at *); (try simp only [castI_eq] at *); refine EqX.i ?_; (try rw [ho]); (try dsimp only [Ar.real, IX.vo, IX.val, BX.val, IX.toN]); (try simp only [QB7]); (repeat rw [wrap_i64 (by omega) (by omega)]); omega) | (refine EqX.i ?_; rw [h5]; rfl) | exact ⟨by rw [h5, ho]; simp only [OX.toOb, X.toDL, X.toD]; rw [e1, e2]; rfl⟩), by cbv; repeat' (first | trivial | exact EqO.rfl' | apply And.intro | (refine EqX.i ?_; rw [h5]; rfl) | exact ⟨by rw [h5, ho]; simp only [OX.toOb, X.toDL, X.toD]; rw [e1, e2]; rfl⟩), by cbv; repeat' (first | trivial | exact EqO.rfl' | apply And.intro | (refine EqX.i ?_; rw [h5]; rfl) | exact ⟨by rw [h5, ho]; simp only [OX.toOb, X.toDL, X.toD]; rw [e1, e2]; rfl⟩)⟩
      · have h5 := p1 (by assumption) (.inr hb)
        refine hR _ (i + 1) (by show 4 - (i + 1) < 4 - i; ((try clear hR3); (try clear hR2); (try clear hR); (try clear hK); (try simp only [ncCast] at *); (try simp only [castI_eq] at *)); omega) (by show i + 1 ≤ 4; ((try clear hR3); (try clear hR2); (try clear hR); (try clear hK); (try simp only [ncCast] at *); (try simp only [castI_eq] at *)); omega) ?_
        refine ⟨(by cbv), by cbv; repeat' (first | trivial | exact EqX.rfl' | exact EqO.rfl' | apply And.intro | ((try clear hR3); (try clear hR2); (try clear hR); (try clear hK); (try simp only [ncCast] at *); (try simp only [castI_eq] at *); refine EqX.i ?_; (try rw [ho]); (try dsimp only [Ar.real, IX.vo, IX.val, BX.val, IX.toN]); (try simp only [QB7]); (repeat rw [wrap_i64 (by omega) (by omega)]); omega) | (refine EqX.i ?_; rw [h5]; rfl) | exact ⟨by rw [h5, ho]; simp only [OX.toOb, X.toDL, X.toD]; rw [e1, e2]; rfl⟩), by cbv; repeat' (first | trivial | exact EqO.rfl' | apply And.intro | (refine EqX.i ?_; rw [h5]; rfl) | exact ⟨by rw [h5, ho]; simp only [OX.toOb, X.toDL, X.toD]; rw [e1, e2]; rfl⟩), by cbv; repeat' (first | trivial | exact EqO.rfl' | apply And.intro | (refine EqX.i ?_; rw [h5]; rfl) | exact ⟨by rw [h5, ho]; simp only [OX.toOb, X.toDL, X.toD]; rw [e1, e2]; rfl⟩)⟩
      · have h5 := p2 (.inr ⟨by assumption, hb⟩)
        refine hR _ (i + 1) (by show 4 - (i + 1) < 4 - i; ((try clear hR3); (try clear hR2); (try clear hR); (try clear hK); (try simp only [ncCast] at *); (try simp only [castI_eq] at *)); omega) (by show i + 1 ≤ 4; ((try clear hR3); (try clear hR2); (try clear hR); (try clear hK); (try simp only [ncCast] at *); (try simp only [castI_eq] at *)); omega) ?_
        refine ⟨(by cbv), by cbv; repeat' (first | trivial | exact EqX.rfl' | exact EqO.rfl' | apply And.intro | ((try clear hR3); (try clear hR2); (try clear hR); (try clear hK); (try simp only [ncCast] at *); (try simp only [castI_eq] at *); refine EqX.i ?_; (try rw [ho]); (try dsimp only [Ar.real, IX.vo, IX.val, BX.val, IX.toN]); (try simp only [QB7]); (repeat rw [wrap_i64 (by omega) (by omega)]); omega) | (refine EqX.i ?_; rw [h5]) | exact ⟨by rw [h5]⟩), by cbv; repeat' (first | trivial | exact EqO.rfl' | apply And.intro | (refine EqX.i ?_; rw [h5]) | exact ⟨by rw [h5]⟩), by cbv; repeat' (first | trivial | exact EqO.rfl' | apply And.intro | (refine EqX.i ?_; rw [h5]) | exact ⟨by rw [h5]⟩)⟩
      · have h5 := p2 (.inl hb)
        refine hR _ (i + 1) (by show 4 - (i + 1) < 4 - i; ((try clear hR3); (try clear hR2); (try clear hR); (try clear hK); (try simp only [ncCast] at *); (try simp only [castI_eq] at *)); omega) (by show i + 1 ≤ 4; ((try clear hR3); (try clear hR2); (try clear hR); (try clear hK); (try simp only [ncCast] at *); (try simp only [castI_eq] at *)); omega) ?_
        refine ⟨(by cbv), by cbv; repeat' (first | trivial | exact EqX.rfl' | exact EqO.rfl' | apply And.intro | ((try clear hR3); (try clear hR2); (try clear hR); (try clear hK); (try simp only [ncCast] at *); (try simp only [castI_eq] at *); refine EqX.i ?_; (try rw [ho]); (try dsimp only [Ar.real, IX.vo, IX.val, BX.val, IX.toN]); (try simp only [QB7]); (repeat rw [wrap_i64 (by omega) (by omega)]); omega) | (refine EqX.i ?_; rw [h5]) | exact ⟨by rw [h5]⟩), by cbv; repeat' (first | trivial | exact EqO.rfl' | apply And.intro | (refine EqX.i ?_; rw [h5]) | exact ⟨by rw [h5]⟩), by cbv; repeat' (first | trivial | exact EqO.rfl' | apply And.intro | (refine EqX.i ?_; rw [h5]) | exact ⟨by rw [h5]⟩)⟩
      · obtain rfl : i = 4 := by omega
        exact FinX_dom rfl rfl rfl
  · rw [if_neg h0]
    generalize sumsRight s = rs at *
    generalize sumsRight t = rt at *
    obtain ⟨a, b, p, d⟩ := s
    obtain ⟨a', b', p', d'⟩ := t
    (refine XC.of_body ([(3, []), (7, [(1, 7), (2, 7), (4, 7), (5, 7)]), (10, [])]) Try.func34 rfl Try.ntmps34 mixed (T := [(2, ti2), (3, ti3), (4, ti4), (52, ti52), (64, ti64)]) (.cons tok2 (.cons tok3 (.cons tok4 (.cons tok52 (.cons tok64 .nil))))) (by kernel_rfl) (by simp) rfl rfl rfl rfl rfl ?_; rintro o ho P hP c K hK; have hm : P.follows .mixedOrders = true := hP ▸ mixed; have hT : TOk P [(2, ti2), (3, ti3), (4, ti4), (52, ti52), (64, ti64)] := hP ▸ (.cons tok2 (.cons tok3 (.cons tok4 (.cons tok52 (.cons tok64 .nil))))); (try rw [← ho]); cbv; (repeat (refine StopN.mk ?_; cbv)))
    repeat' (first | (refine Br.mk (fun hb => ?_) (fun hb => ?_) <;> ((try rw [ho] at hb); (try dsimp only [Ar.real, IX.vo] at hb); (try simp only [QB7] at hb); (try simp only [QBo, beq_iff_eq, beq_eq_false_iff_ne, ne_eq] at hb))) | (refine StopN.mk ?_; cbv) | (first | refine CallI.pure hP hs fn85 rfl rfl rfl ?_ | refine CallI.pure hP ht fn85 rfl rfl rfl ?_); cbv | ((first | refine CallI.pure hP (x_r02Cmp _ _ _ _ ‹_› ‹_› ‹_› ‹_›) fn36 (by first | rfl | (rw [ho]; done) | (rw [ho]; rfl)) (by rfl) (by first | rfl | (rw [ho]; done) | (rw [ho]; rfl)) ?_ | refine CallN.pure hP (x_r02Cmp _ _ _ _ ‹_› ‹_› ‹_› ‹_›) fn36 (by first | rfl | (rw [ho]; done) | (rw [ho]; rfl)) (by rfl) (by first | rfl | (rw [ho]; done) | (rw [ho]; rfl)) ?_); (try rw [← ho]); generalize hr : rFracCmp _ _ _ _ = r; (try rw [ho] at hr); (try dsimp only [Ar.real, IX.vo] at hr); (try simp only [QB7] at hr); cbv) | ((first | refine CallI.pure hP (x_r06Right _) fn85 (by first | rfl | (rw [ho]; done) | (rw [ho]; rfl)) (by rfl) (by first | rfl | (rw [ho]; done) | (rw [ho]; rfl)) ?_ | refine CallN.pure hP (x_r06Right _) fn85 (by first | rfl | (rw [ho]; done) | (rw [ho]; rfl)) (by rfl) (by first | rfl | (rw [ho]; done) | (rw [ho]; rfl)) ?_); (try rw [← ho]); generalize hr : sumsRight _ = r; (try rw [ho] at hr); (try dsimp only [Ar.real, IX.vo] at hr); (try simp only [QB7] at hr); cbv) | (refine hK _ _ ?_) | (refine NeedT.mk ?_ ?_))
    all_goals first
      | exact FinX_dom rfl rfl rfl
      | (exfalso; simp_all; done)
end Go.Proofs.Ytddgcegimmcbgaa.Sy

set_option linter.unusedSectionVars false
namespace Go.Proofs.Ytddgcegimmcbgaa.Sy
open Go Go.Sy Go.Proofs.Ytddgcegimmcbgaa
set_option maxRecDepth 100000
set_option maxHeartbeats 8000000
set_option linter.unusedVariables false
set_option linter.unusedSimpArgs false

def roleAt (v : List Part) (i : Nat) : Bool := !decide ((v.getD i default).role = 0)
def rBare (v : List Part) : Bool := (nextAt (roleAt v) 0 v.length).isNone && (decide (0 < v.length) && vecRight v)
theorem x_r35bare (v : List Part) (hv : v.length ≤ 1048576) : XC Try.prog 75 [.ro (SL Ar.real Part.X v)] [] (xb (rBare v)) [] := by
  have hx := x_r05Right v hv
  have h1 : ∀ i, i < v.length → (∀ j, j < i → roleAt v j = false) → roleAt v i = true → rBare v = false := fun i hi hlt h => by
    unfold rBare
    rw [nextAt_some (Nat.zero_le _) hi h (fun j _ hj => hlt j hj)]
    rfl
  have h2 : (∀ j, j < v.length → roleAt v j = false) → rBare v = (decide (0 < v.length) && vecRight v) := fun hlt => by
    unfold rBare
    rw [nextAt_none (fun j _ hj => hlt j hj)]
    rfl
  have h3 : ∀ i, roleAt v i = !decide ((v.getD i default).role = 0) := fun _ => rfl
  generalize rBare v = g at *
  generalize roleAt v = G at *
  generalize vecRight v = rv at *
  (refine XC.of_body ([]) Try.func75 rfl Try.ntmps75 mixed (T := [(2, ti2), (3, ti3), (31, ti31), (123, ti123)]) (.cons tok2 (.cons tok3 (.cons tok31 (.cons tok123 .nil)))) (by kernel_rfl) (by simp) rfl rfl rfl rfl rfl ?_; rintro o ho P hP c K hK; have hm : P.follows .mixedOrders = true := hP ▸ mixed; have hT : TOk P [(2, ti2), (3, ti3), (31, ti31), (123, ti123)] := hP ▸ (.cons tok2 (.cons tok3 (.cons tok31 (.cons tok123 .nil)))); (try rw [← ho]); cbv; (repeat (refine StopN.mk ?_; cbv)))
  rw [← ho] at hx
  refine LoopN.over (o := o) (D := []) ho hm hT (by kernel_rfl) (fun i : Nat => [(3, xn i)]) (fun _ => []) (fun _ => []) (fun i => i ≤ v.length ∧ ∀ j, j < i → G j = false) (fun i => v.length - i) 0 ⟨Nat.zero_le _, fun j hj => by omega⟩ ?_ ?_
  · refine ⟨(by cbv), by cbv; repeat' (first | trivial | exact EqX.rfl' | exact EqO.rfl' | apply And.intro | ((try clear hR3); (try clear hR2); (try clear hR); (try clear hK); (try simp only [ncCast] at *); (try simp only [castI_eq] at *); refine EqX.i ?_; (try rw [ho]); (try dsimp only [Ar.real, IX.vo, IX.val, BX.val, IX.toN]); (try simp only [QB7]); (repeat rw [wrap_i64 (by omega) (by omega)]); omega)), by cbv; repeat' (first | trivial | exact EqO.rfl' | apply And.intro), by cbv; repeat' (first | trivial | exact EqO.rfl' | apply And.intro)⟩
  · rintro i ⟨hi, hno⟩ R hR
    have e1 := h1 i
    have e3 := h3 i
    cbv
    repeat' (first | (refine Br.mk (fun hb => ?_) (fun hb => ?_) <;> ((try rw [ho] at hb); (try dsimp only [Ar.real, IX.vo] at hb); (try simp only [QB7] at hb); (try simp only [QBo, beq_iff_eq, beq_eq_false_iff_ne, ne_eq] at hb))) | (refine StopN.mk ?_; cbv) | ((first | refine CallI.pure hP hx fn96 rfl rfl rfl ?_ | refine CallN.pure hP hx fn96 rfl rfl rfl ?_); cbv) | ((first | refine CallI.pure hP (x_r05Right _ ‹_›) fn96 (by first | rfl | (rw [ho]; done) | (rw [ho]; rfl)) (by rfl) (by first | rfl | (rw [ho]; done) | (rw [ho]; rfl)) ?_ | refine CallN.pure hP (x_r05Right _ ‹_›) fn96 (by first | rfl | (rw [ho]; done) | (rw [ho]; rfl)) (by rfl) (by first | rfl | (rw [ho]; done) | (rw [ho]; rfl)) ?_); (try rw [← ho]); generalize hr : vecRight _ = r; (try rw [ho] at hr); (try dsimp only [Ar.real, IX.vo] at hr); (try simp only [QB7] at hr); cbv) | (refine hK _ _ ?_) | (refine NeedT.mk ?_ ?_))
    any_goals (((try clear hR3); (try clear hR2); (try clear hR); (try clear hK); (try simp only [ncCast] at *); (try simp only [castI_eq] at *); (try rw [ho]); (try dsimp only [Ar.real, IX.vo, IX.val, BX.val, IX.toN]); (try simp only [QB7]); (try simp only [decide_eq_true_eq]); (all_goals (repeat rw [wrap_i64 (by omega) (by omega)])); (all_goals (first | omega | (simp only [Int.ofNat_eq_natCast]; omega)))); done)
    · rw [e1 (by assumption) hno (by rw [e3, decide_eq_false (by assumption)]; rfl)]
      exact .b rfl
    · refine hR _ (i + 1) (by show v.length - (i + 1) < v.length - i; ((try clear hR3); (try clear hR2); (try clear hR); (try clear hK); (try simp only [ncCast] at *); (try simp only [castI_eq] at *)); omega) ⟨by show i + 1 ≤ v.length; ((try clear hR3); (try clear hR2); (try clear hR); (try clear hK); (try simp only [ncCast] at *); (try simp only [castI_eq] at *)); omega, fun k' hk => ?_⟩ ?_
      · rcases Nat.lt_or_ge k' i with h5 | h5
        · exact hno k' h5
        · obtain rfl : k' = i := by
            have hk' : k' < i + 1 := hk
            clear hk
            ((try clear hR3); (try clear hR2); (try clear hR); (try clear hK); (try simp only [ncCast] at *); (try simp only [castI_eq] at *))
            omega
          rw [e3, decide_eq_true (by assumption)]
          rfl
      · refine ⟨(by cbv), by cbv; repeat' (first | trivial | exact EqX.rfl' | exact EqO.rfl' | apply And.intro | ((try clear hR3); (try clear hR2); (try clear hR); (try clear hK); (try simp only [ncCast] at *); (try simp only [castI_eq] at *); refine EqX.i ?_; (try rw [ho]); (try dsimp only [Ar.real, IX.vo, IX.val, BX.val, IX.toN]); (try simp only [QB7]); (repeat rw [wrap_i64 (by omega) (by omega)]); omega)), by cbv; repeat' (first | trivial | exact EqO.rfl' | apply And.intro), by cbv; repeat' (first | trivial | exact EqO.rfl' | apply And.intro)⟩
    · obtain rfl : i = v.length := by ((try clear hR3); (try clear hR2); (try clear hR); (try clear hK); (try simp only [ncCast] at *); (try simp only [castI_eq] at *)); omega
      rw [h2 hno, decide_eq_true (by ((try clear hR3); (try clear hR2); (try clear hR); (try clear hK); (try simp only [ncCast] at *); (try simp only [castI_eq] at *)); omega)]
      exact .b rfl
    · obtain rfl : i = v.length := by ((try clear hR3); (try clear hR2); (try clear hR); (try clear hK); (try simp only [ncCast] at *); (try simp only [castI_eq] at *)); omega
      rw [h2 hno, decide_eq_false (by ((try clear hR3); (try clear hR2); (try clear hR); (try clear hK); (try simp only [ncCast] at *); (try simp only [castI_eq] at *)); omega)]
      exact .b rfl
end Go.Proofs.Ytddgcegimmcbgaa.Sy

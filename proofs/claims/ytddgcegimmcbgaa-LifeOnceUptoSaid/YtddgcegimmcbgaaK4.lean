/-
  The life of offers: what a history tells of each offer: contract. Plain theorems.
-/
import Derived.Test.YtddgcegimmcbgaaK3
set_option linter.unusedSectionVars false
namespace Go.Proofs.Ytddgcegimmcbgaa.Sy
open Go Go.Sy Go.Proofs.Ytddgcegimmcbgaa
set_option maxRecDepth 100000
set_option maxHeartbeats 4000000
set_option linter.unusedVariables false
set_option linter.unusedSimpArgs false

structure Off where
  id : Int
  frame : Int
  agent : Int
  at_ : Int
  end_ : Int
  how : Int
  deriving DecidableEq
instance : Inhabited Off := ⟨⟨0, 0, 0, 0, 0, 0⟩⟩
def foldAOff_id (e : Off) := (by
  have h : PLift (e.id = e.id) := ⟨rfl⟩
  conv at h => arg 1; lhs; delta Off.id
  exact h)
theorem foldOff_id (e : Off) : type_of% (foldAOff_id e).down := (foldAOff_id e).down
def foldAOff_frame (e : Off) := (by
  have h : PLift (e.frame = e.frame) := ⟨rfl⟩
  conv at h => arg 1; lhs; delta Off.frame
  exact h)
theorem foldOff_frame (e : Off) : type_of% (foldAOff_frame e).down := (foldAOff_frame e).down
def foldAOff_agent (e : Off) := (by
  have h : PLift (e.agent = e.agent) := ⟨rfl⟩
  conv at h => arg 1; lhs; delta Off.agent
  exact h)
theorem foldOff_agent (e : Off) : type_of% (foldAOff_agent e).down := (foldAOff_agent e).down
def foldAOff_at_ (e : Off) := (by
  have h : PLift (e.at_ = e.at_) := ⟨rfl⟩
  conv at h => arg 1; lhs; delta Off.at_
  exact h)
theorem foldOff_at_ (e : Off) : type_of% (foldAOff_at_ e).down := (foldAOff_at_ e).down
def foldAOff_end_ (e : Off) := (by
  have h : PLift (e.end_ = e.end_) := ⟨rfl⟩
  conv at h => arg 1; lhs; delta Off.end_
  exact h)
theorem foldOff_end_ (e : Off) : type_of% (foldAOff_end_ e).down := (foldAOff_end_ e).down
def foldAOff_how (e : Off) := (by
  have h : PLift (e.how = e.how) := ⟨rfl⟩
  conv at h => arg 1; lhs; delta Off.how
  exact h)
theorem foldOff_how (e : Off) : type_of% (foldAOff_how e).down := (foldAOff_how e).down
theorem foldOff : (⟨0, 0, 0, 0, 0, 0⟩ : Off) = default := rfl
def Off.X (_ : Ar) (e : Off) : List X := [xi e.id, xi e.frame, xi e.agent, xi e.at_, xi e.end_, xi e.how]
def offB (l : List Ev) (i : Nat) : Bool := decide ((l.getD i default).kind = 6)
def offAt (l : List Ev) (i : Nat) : Off := ⟨(l.getD i default).id, (l.getD i default).frame, (l.getD i default).agent, i, (endR l i).1, (endR l i).2⟩
def offsFrom (l : List Ev) (k : Nat) : List Off := ((List.range' k (l.length - k)).filter (offB l)).map (offAt l)
def offs (l : List Ev) : List Off := offsFrom l 0
theorem offsFrom_step {l : List Ev} {k : Nat} (h : k < l.length) : offsFrom l k = (if offB l k = true then [offAt l k] else []) ++ offsFrom l (k + 1) := by
  unfold offsFrom
  have e : l.length - k = (l.length - (k + 1)) + 1 := by omega
  rw [e, List.range'_succ, List.filter_cons]
  split <;> simp
theorem offsFrom_end {l : List Ev} : offsFrom l l.length = [] := by simp [offsFrom]
theorem offsFrom_len (l : List Ev) (k : Nat) : (offsFrom l k).length ≤ l.length - k := by
  unfold offsFrom
  rw [List.length_map]
  exact Nat.le_trans (List.length_filter_le _ _) (by simp)
theorem nextAt_step {p : Nat → Bool} {k n : Nat} (h : k < n) : nextAt p k n = if p k = true then some k else nextAt p (k + 1) n := by
  unfold nextAt
  have e : n - k = (n - (k + 1)) + 1 := by omega
  rw [e, List.range'_succ, List.find?_cons]
  cases p k <;> simp
theorem nextAt_end {p : Nat → Bool} {n : Nat} : nextAt p n n = none := by simp [nextAt]
theorem nextAt_lt {p : Nat → Bool} {k n a : Nat} (h : nextAt p k n = some a) : k ≤ a ∧ a < n ∧ p a = true := by
  unfold nextAt at h
  rw [List.find?_range'_eq_some] at h
  have := h.2.1
  simp at this
  exact ⟨by omega, by omega, h.1⟩
structure St4 where
  k : Nat
  x : Int
  mv : Nat
  ms : { ms : List (List Int × Nat) // (ms.map (·.1)).Nodup }
  rv : Nat
  out : List Off
theorem nextEnd_step (l : List Ev) (id : Int) {k : Nat} (h : k < l.length) : nextEnd l id k = if (endsB (l.getD k default).kind && decide ((l.getD k default).id = id)) = true then some k else nextEnd l id (k + 1) := nextAt_step h
theorem xi_xn {c : Cx} {x : Int} {n : Nat} (h : x = n) : (xi x).toD c = (xn n).toD c := by subst h; rfl
theorem offRow {a b c d e f : IX} {p : Off} (h1 : a.val = p.id) (h2 : b.val = p.frame) (h3 : c.val = p.agent) (h4 : d.val = p.at_) (h5 : e.val = p.end_) (h6 : f.val = p.how) : X.toCL [.i .i64 a, .i .i64 b, .i .i64 c, .i .i64 d, .i .i64 e, .i .i64 f] = X.toCL (Off.X Ar.real p) := by
  show [C.v (.int .i64 a.val), C.v (.int .i64 b.val), C.v (.int .i64 c.val), C.v (.int .i64 d.val), C.v (.int .i64 e.val), C.v (.int .i64 f.val)] = [C.v (.int .i64 p.id), C.v (.int .i64 p.frame), C.v (.int .i64 p.agent), C.v (.int .i64 p.at_), C.v (.int .i64 p.end_), C.v (.int .i64 p.how)]
  rw [h1, h2, h3, h4, h5, h6]
structure In4 (l : List Ev) (a : St4) : Prop where
  k : a.k ≤ l.length
  x : a.x = a.k - 1
  ms : ∀ id, lkp a.ms.1 [id] = nextEnd l id a.k
  out : a.out = (offsFrom l a.k).reverse
structure St4b where
  i : Nat
  w : List Off
structure In4b (out : List Off) (a : St4b) : Prop where
  i : a.i ≤ out.length / 2
  len : a.w.length = out.length
  w : ∀ j, j < out.length → a.w.getD j default = if j < a.i ∨ out.length - 1 - j < a.i then out.getD (out.length - 1 - j) default else out.getD j default
theorem getD_set {α : Type} {d : α} (l : List α) (i j : Nat) (a : α) (h : i < l.length) : (l.set i a).getD j d = if i = j then a else l.getD j d := by
  rw [List.getD_eq_getElem?_getD, List.getD_eq_getElem?_getD, List.getElem?_set]
  by_cases e : i = j
  · subst e; simp [h]
  · simp [e]
theorem swap_step {out w : List Off} {i : Nat} (h : In4b out ⟨i, w⟩) (hlt : i < out.length / 2) : In4b out ⟨i + 1, (w.set i (w.getD (w.length - 1 - i) default)).set (w.length - 1 - i) (w.getD i default)⟩ := by
  obtain ⟨h1, h2, h3⟩ := h
  dsimp only at h1 h2 h3
  refine ⟨by dsimp only; omega, by simpa using h2, fun j hj => ?_⟩
  dsimp only
  rw [getD_set _ _ _ _ (by simp; omega), getD_set _ _ _ _ (by omega), h2]
  have a1 := h3 i (by omega)
  have a2 := h3 (out.length - 1 - i) (by omega)
  have a3 := h3 j hj
  rw [if_neg (by omega)] at a1 a2
  by_cases e1 : out.length - 1 - i = j
  · subst e1
    rw [if_pos rfl, if_pos (by omega), a1]
    congr 1
    omega
  · rw [if_neg e1]
    by_cases e2 : i = j
    · subst e2
      rw [if_pos rfl, if_pos (by omega), a2]
    · rw [if_neg e2, a3]
      by_cases e3 : j < i ∨ out.length - 1 - j < i
      · rw [if_pos e3, if_pos (by omega)]
      · rw [if_neg e3, if_neg (by omega)]
theorem swap_end {out w : List Off} {i : Nat} (h : In4b out ⟨i, w⟩) (hi : out.length / 2 ≤ i) : w = out.reverse := by
  obtain ⟨h1, h2, h3⟩ := h
  dsimp only at h1 h2 h3
  apply List.ext_getElem (by simpa using h2)
  intro j g1 g2
  have hj : j < out.length := by omega
  have a := h3 j hj
  have e1 : w.getD j default = w[j] := by simp [List.getD_eq_getElem?_getD, g1]
  have e2 : out.getD (out.length - 1 - j) default = out.reverse[j] := by
    rw [List.getElem_reverse]
    have : out.length - 1 - j < out.length := by omega
    simp [List.getD_eq_getElem?_getD, this]
  rw [← e1, ← e2, a]
  split
  · rfl
  · congr 1
    omega
theorem x_Of (l : List Ev) (hl : EvOk l) : XC Try.prog 14 [.ro (SL Ar.real Ev.X l)] [] (.ro (SL Ar.real Off.X (offs l))) [] := by
  have hlen := hl.len
  (refine XC.of_body ([(13, [(3, 7), (4, 7), (5, 7)]), (18, [])]) Try.func14 rfl Try.ntmps14 mixed (T := [(2, ti2), (3, ti3), (22, ti22), (27, ti27), (30, ti30), (31, ti31), (33, ti33), (116, ti116)]) (.cons tok2 (.cons tok3 (.cons tok22 (.cons tok27 (.cons tok30 (.cons tok31 (.cons tok33 (.cons tok116 .nil)))))))) (by kernel_rfl) (by simp) rfl rfl rfl rfl rfl ?_; rintro o ho P hP c K hK; have hm : P.follows .mixedOrders = true := hP ▸ mixed; have hT : TOk P [(2, ti2), (3, ti3), (22, ti22), (27, ti27), (30, ti30), (31, ti31), (33, ti33), (116, ti116)] := hP ▸ (.cons tok2 (.cons tok3 (.cons tok22 (.cons tok27 (.cons tok30 (.cons tok31 (.cons tok33 (.cons tok116 .nil)))))))); (try rw [← ho]); cbv)
  refine LoopN.ghost 4 30 6 rfl ?_
  obtain ⟨x0, hx0⟩ : ∃ x : Int, x = l.length - 1 := ⟨_, rfl⟩
  obtain ⟨n0, hn0⟩ : ∃ n : Nat, n = l.length := ⟨_, rfl⟩
  refine LoopN.over (o := o) (D := [(13, [(3, 7), (4, 7), (5, 7)]), (18, [])]) ho hm hT (by kernel_rfl) (fun a : St4 => [(5, xi a.x), (4, .own (.loc 1) a.rv)]) (fun a => [(0, .map a.mv false 1 (MT o ho encNat cleanNat a.ms.1 a.ms.2)), (1, .row a.rv 30 6 (SL o Off.X a.out))]) (fun _ => []) (In4 l) (fun a => a.k) ⟨n0, x0, 0, ⟨[], by simp⟩, 0, []⟩ ⟨by dsimp only; omega, by dsimp only; omega, fun id => by rw [hn0]; exact nextAt_end.symm, by rw [hn0, offsFrom_end]; rfl⟩ ?_ ?_
  · refine ⟨rfl, by cbv; repeat' (first | trivial | exact EqX.rfl' | exact EqO.rfl' | apply And.intro | ((try clear hR3); (try clear hR2); (try clear hR); (try clear hK); (try simp only [ncCast] at *); (try simp only [castI_eq] at *); refine EqX.i ?_; (try rw [ho]); (try dsimp only [Ar.real, IX.vo, IX.val, BX.val, IX.toN]); (try simp only [castI_eq, ltB_eq, leB_eq, eqIB_eq, inBB_eq, eqNB_eq, leNB_eq, foldOff, foldOff_id, foldOff_frame, foldOff_agent, foldOff_at_, foldOff_end_, foldOff_how, foldPart, foldEv, foldPart_kind, foldPart_role, foldPart_amount, foldEv_kind, foldEv_frame, foldEv_id, foldEv_agent, foldEv_vec, fold_put]); (repeat rw [wrap_i64 (by omega) (by omega)]); omega) | exact EqO.map rfl (MT_nil ho encNat cleanNat c) | exact EqO.row rfl (rows_nil_SL o ho Off.X)), by cbv; repeat' (first | trivial | exact EqO.rfl' | apply And.intro | exact EqO.map rfl (MT_nil ho encNat cleanNat c) | exact EqO.row rfl (rows_nil_SL o ho Off.X)), by cbv; repeat' (first | trivial | exact EqO.rfl' | apply And.intro | exact EqO.map rfl (MT_nil ho encNat cleanNat c) | exact EqO.row rfl (rows_nil_SL o ho Off.X))⟩
  · rintro ⟨k, x, mv, ⟨ms, hn⟩, rv, out⟩ ⟨hk, hx, hms, hout⟩ R hR
    dsimp only at hk hx hms hout
    have hol := offsFrom_len l k
    have hol2 : out.length = (offsFrom l k).length := by rw [hout, List.length_reverse]
    have hpre : 0 ≤ x → k = x.toNat + 1 ∧ offsFrom l x.toNat = (if offB l x.toNat = true then [offAt l x.toNat] else []) ++ offsFrom l k ∧ ∀ id, nextEnd l id x.toNat = if (endsB (l.getD x.toNat default).kind && decide ((l.getD x.toNat default).id = id)) = true then some x.toNat else lkp ms [id] := by
      intro h
      have hk1 : k = x.toNat + 1 := by omega
      refine ⟨hk1, ?_, fun id => ?_⟩
      · have := offsFrom_step (l := l) (k := x.toNat) (by omega)
        rw [← hk1] at this
        exact this
      · have := nextEnd_step l id (k := x.toNat) (by omega)
        rw [← hk1, ← hms] at this
        exact this
    have hk0 : x < 0 → k = 0 := fun h => by omega
    obtain ⟨x', hx'⟩ : ∃ y : Int, y = x - 1 := ⟨_, rfl⟩
    obtain ⟨i, hi⟩ : ∃ i : Nat, i = x.toNat := ⟨_, rfl⟩
    rw [← hi] at hpre
    obtain ⟨out', hout'⟩ : ∃ q, q = (offsFrom l i).reverse := ⟨_, rfl⟩
    cbv
    repeat' (first | (refine Br.mk (fun hb => ?_) (fun hb => ?_) <;> ((try rw [ho] at hb); (try dsimp only [Ar.real, IX.vo] at hb); (try simp only [castI_eq, ltB_eq, leB_eq, eqIB_eq, inBB_eq, eqNB_eq, leNB_eq, foldOff, foldOff_id, foldOff_frame, foldOff_agent, foldOff_at_, foldOff_end_, foldOff_how, foldPart, foldEv, foldPart_kind, foldPart_role, foldPart_amount, foldEv_kind, foldEv_frame, foldEv_id, foldEv_agent, foldEv_vec, fold_put] at hb); (try simp only [decide_eq_true_eq, Int.ofNat_lt, Int.ofNat_le, decide_eq_false_iff_not, Nat.not_lt, Nat.not_le, Int.not_lt, Int.not_le, beq_iff_eq, beq_eq_false_iff_ne, ne_eq, Bool.not_eq_true, Bool.not_eq_false, Bool.not_eq_true', Bool.not_eq_false'] at hb))) | (refine CallN.pure hP (x_ends _) fn61 (by first | rfl | (rw [ho]; done) | (rw [ho]; rfl)) (by rfl) (by first | rfl | (rw [ho]; done) | (rw [ho]; rfl)) ?_; (try rw [← ho]); generalize hr : endsB _ = r; (try rw [ho] at hr); (try dsimp only [Ar.real, IX.vo] at hr); (try simp only [castI_eq, ltB_eq, leB_eq, eqIB_eq, inBB_eq, eqNB_eq, leNB_eq, foldOff, foldOff_id, foldOff_frame, foldOff_agent, foldOff_at_, foldOff_end_, foldOff_how, foldPart, foldEv, foldPart_kind, foldPart_role, foldPart_amount, foldEv_kind, foldEv_frame, foldEv_id, foldEv_agent, foldEv_vec, fold_put] at hr); cbv) | (refine hK _ _ ?_) | (refine NeedT.mk ?_ ?_))
    any_goals (((try clear hR3); (try clear hR2); (try clear hR); (try clear hK); (try simp only [ncCast] at *); (try simp only [castI_eq] at *); (try rw [ho]); (try dsimp only [Ar.real, IX.vo, IX.val, BX.val, IX.toN]); (try simp only [castI_eq, ltB_eq, leB_eq, eqIB_eq, inBB_eq, eqNB_eq, leNB_eq, foldOff, foldOff_id, foldOff_frame, foldOff_agent, foldOff_at_, foldOff_end_, foldOff_how, foldPart, foldEv, foldPart_kind, foldPart_role, foldPart_amount, foldEv_kind, foldEv_frame, foldEv_id, foldEv_agent, foldEv_vec, fold_put]); (try simp only [decide_eq_true_eq, Int.ofNat_eq_natCast]); (all_goals (repeat rw [wrap_i64 (by omega) (by omega)])); (all_goals omega)); done)
    · obtain ⟨hk1, hof, hne⟩ := hpre ‹_›
      rw [← hi] at hr
      have hoff : offB l i = false := by
        rw [hb] at hr
        simp only [offB, endsB, Bool.and_eq_true, decide_eq_true_eq, decide_eq_false_iff_not] at hr ⊢
        omega
      rw [if_neg (by rw [hoff]; decide), List.nil_append] at hof
      rw [hof, ← hout] at hout'
      subst hout'
      obtain ⟨⟨ms', hn'⟩, hq⟩ : ∃ m : { m : List (List Int × Nat) // (m.map (·.1)).Nodup }, m.1 = putp ms [(l.getD i default).id] i := ⟨⟨_, nodup_put hn _ _⟩, rfl⟩
      dsimp only at hq
      refine hR _ ⟨i, x', mv + 1, ⟨ms', hn'⟩, rv, out'⟩ (by dsimp only; omega) ⟨by dsimp only; omega, by dsimp only; omega, fun id => ?_, by dsimp only; rw [hof, hout]⟩ ?_
      · dsimp only
        rw [hq, lkp_put, hne, hr, hb]
        simp
      · refine ⟨rfl, by cbv; repeat' (first | trivial | exact EqX.rfl' | exact EqO.rfl' | apply And.intro | ((try clear hR3); (try clear hR2); (try clear hR); (try clear hK); (try simp only [ncCast] at *); (try simp only [castI_eq] at *); refine EqX.i ?_; (try rw [ho]); (try dsimp only [Ar.real, IX.vo, IX.val, BX.val, IX.toN]); (try simp only [castI_eq, ltB_eq, leB_eq, eqIB_eq, inBB_eq, eqNB_eq, leNB_eq, foldOff, foldOff_id, foldOff_frame, foldOff_agent, foldOff_at_, foldOff_end_, foldOff_how, foldPart, foldEv, foldPart_kind, foldPart_role, foldPart_amount, foldEv_kind, foldEv_frame, foldEv_id, foldEv_agent, foldEv_vec, fold_put]); (repeat rw [wrap_i64 (by omega) (by omega)]); omega) | (refine EqO.map rfl (MT_put' ho encNat cleanNat ms hn ms' hn' c _ _ i _ ?_ (xi_xn (by omega)) hq); rw [ho]; dsimp only [List.map, IX.val, IX.toN, Ar.real]; rw [hi]; rfl)), by cbv; repeat' (first | trivial | exact EqO.rfl' | apply And.intro | (refine EqO.map rfl (MT_put' ho encNat cleanNat ms hn ms' hn' c _ _ i _ ?_ (xi_xn (by omega)) hq); rw [ho]; dsimp only [List.map, IX.val, IX.toN, Ar.real]; rw [hi]; rfl)), by cbv; repeat' (first | trivial | exact EqO.rfl' | apply And.intro | (refine EqO.map rfl (MT_put' ho encNat cleanNat ms hn ms' hn' c _ _ i _ ?_ (xi_xn (by omega)) hq); rw [ho]; dsimp only [List.map, IX.val, IX.toN, Ar.real]; rw [hi]; rfl))⟩
    · obtain ⟨hk1, hof, hne⟩ := hpre ‹_›
      have hsm := (mhas_map encNat ms [(l.getD x.toNat default).id]).symm.trans ‹_›
      have hm1 := hms (l.getD x.toNat default).id
      have ha : (lkp ms [(l.getD x.toNat default).id]).getD 0 < l.length := by
        cases hq : lkp ms [(l.getD x.toNat default).id] with
        | none => rw [hq] at hsm; cases hsm
        | some a => rw [hq] at hm1; exact (nextAt_lt hm1.symm).2.1
      have ha' : ((((lkp ms [(l.getD x.toNat default).id]).getD 0 : Nat) : Int)) < (l.length : Int) := by omega
      ((try clear hR3); (try clear hR2); (try clear hR); (try clear hK); (try simp only [ncCast] at *); (try simp only [castI_eq] at *); (try rw [ho]); (try dsimp only [Ar.real, IX.vo, IX.val, BX.val, IX.toN]); (try simp only [castI_eq, ltB_eq, leB_eq, eqIB_eq, inBB_eq, eqNB_eq, leNB_eq, foldOff, foldOff_id, foldOff_frame, foldOff_agent, foldOff_at_, foldOff_end_, foldOff_how, foldPart, foldEv, foldPart_kind, foldPart_role, foldPart_amount, foldEv_kind, foldEv_frame, foldEv_id, foldEv_agent, foldEv_vec, fold_put]))
      exact decide_eq_true ⟨Int.natCast_nonneg _, ha'⟩
    · obtain ⟨hk1, hof, hne⟩ := hpre ‹_›
      have hoff : offB l i = true := by
        rw [hi]; exact decide_eq_true ‹_ = (6 : Int)›
      rw [if_pos hoff] at hof
      rw [hof, List.reverse_append, ← hout, List.reverse_singleton] at hout'
      have hsm := (mhas_map encNat ms [(l.getD x.toNat default).id]).symm.trans ‹_›
      have hm1 := hms (l.getD x.toNat default).id
      have hend : endR l i = ((((lkp ms [(l.getD x.toNat default).id]).getD 0 : Nat) : Int), (l.getD ((lkp ms [(l.getD x.toNat default).id]).getD 0) default).kind) := by
        unfold endR
        rw [hi, show x.toNat + 1 = k by omega, ← hm1]
        cases hq : lkp ms [(l.getD x.toNat default).id] with
        | none => rw [hq] at hsm; cases hsm
        | some a => rfl
      refine hR _ ⟨i, x', mv, ⟨ms, hn⟩, rv + 1, out'⟩ (by dsimp only; omega) ⟨by dsimp only; omega, by dsimp only; omega, fun id => ?_, by dsimp only; rw [hof, List.reverse_append, ← hout, List.reverse_singleton]; exact hout'⟩ ?_
      · dsimp only
        rw [hne, if_neg]
        rw [hi, hr, ‹r = false›]
        simp
      · refine ⟨rfl, by cbv; repeat' (first | trivial | exact EqX.rfl' | exact EqO.rfl' | apply And.intro | ((try clear hR3); (try clear hR2); (try clear hR); (try clear hK); (try simp only [ncCast] at *); (try simp only [castI_eq] at *); refine EqX.i ?_; (try rw [ho]); (try dsimp only [Ar.real, IX.vo, IX.val, BX.val, IX.toN]); (try simp only [castI_eq, ltB_eq, leB_eq, eqIB_eq, inBB_eq, eqNB_eq, leNB_eq, foldOff, foldOff_id, foldOff_frame, foldOff_agent, foldOff_at_, foldOff_end_, foldOff_how, foldPart, foldEv, foldPart_kind, foldPart_role, foldPart_amount, foldEv_kind, foldEv_frame, foldEv_id, foldEv_agent, foldEv_vec, fold_put]); (repeat rw [wrap_i64 (by omega) (by omega)]); omega) | (refine EqO.snoc ho Off.X _ _ _ _ rfl hout' ?_; rw [ho]; refine offRow ?_ ?_ ?_ ?_ ?_ ?_ <;> (first | (show x = ((i : Nat) : Int); omega) | (show _ = (endR l i).1; rw [hend]; rfl) | (show _ = (endR l i).2; rw [hend]; rfl) | (rw [hi]; rfl)))), by cbv; repeat' (first | trivial | exact EqO.rfl' | apply And.intro | (refine EqO.snoc ho Off.X _ _ _ _ rfl hout' ?_; rw [ho]; refine offRow ?_ ?_ ?_ ?_ ?_ ?_ <;> (first | (show x = ((i : Nat) : Int); omega) | (show _ = (endR l i).1; rw [hend]; rfl) | (show _ = (endR l i).2; rw [hend]; rfl) | (rw [hi]; rfl)))), by cbv; repeat' (first | trivial | exact EqO.rfl' | apply And.intro | (refine EqO.snoc ho Off.X _ _ _ _ rfl hout' ?_; rw [ho]; refine offRow ?_ ?_ ?_ ?_ ?_ ?_ <;> (first | (show x = ((i : Nat) : Int); omega) | (show _ = (endR l i).1; rw [hend]; rfl) | (show _ = (endR l i).2; rw [hend]; rfl) | (rw [hi]; rfl))))⟩
    · obtain ⟨hk1, hof, hne⟩ := hpre ‹_›
      have hoff : offB l i = true := by
        rw [hi]; exact decide_eq_true ‹_ = (6 : Int)›
      rw [if_pos hoff] at hof
      rw [hof, List.reverse_append, ← hout, List.reverse_singleton] at hout'
      have hsm := (mhas_map encNat ms [(l.getD x.toNat default).id]).symm.trans ‹_›
      have hm1 := hms (l.getD x.toNat default).id
      have hend : endR l i = (-1, 0) := by
        unfold endR
        rw [hi, show x.toNat + 1 = k by omega, ← hm1]
        cases hq : lkp ms [(l.getD x.toNat default).id] with
        | none => rfl
        | some a => rw [hq] at hsm; cases hsm
      refine hR _ ⟨i, x', mv, ⟨ms, hn⟩, rv + 1, out'⟩ (by dsimp only; omega) ⟨by dsimp only; omega, by dsimp only; omega, fun id => ?_, by dsimp only; rw [hof, List.reverse_append, ← hout, List.reverse_singleton]; exact hout'⟩ ?_
      · dsimp only
        rw [hne, if_neg]
        rw [hi, hr, ‹r = false›]
        simp
      · refine ⟨rfl, by cbv; repeat' (first | trivial | exact EqX.rfl' | exact EqO.rfl' | apply And.intro | ((try clear hR3); (try clear hR2); (try clear hR); (try clear hK); (try simp only [ncCast] at *); (try simp only [castI_eq] at *); refine EqX.i ?_; (try rw [ho]); (try dsimp only [Ar.real, IX.vo, IX.val, BX.val, IX.toN]); (try simp only [castI_eq, ltB_eq, leB_eq, eqIB_eq, inBB_eq, eqNB_eq, leNB_eq, foldOff, foldOff_id, foldOff_frame, foldOff_agent, foldOff_at_, foldOff_end_, foldOff_how, foldPart, foldEv, foldPart_kind, foldPart_role, foldPart_amount, foldEv_kind, foldEv_frame, foldEv_id, foldEv_agent, foldEv_vec, fold_put]); (repeat rw [wrap_i64 (by omega) (by omega)]); omega) | (refine EqO.snoc ho Off.X _ _ _ _ rfl hout' ?_; rw [ho]; refine offRow ?_ ?_ ?_ ?_ ?_ ?_ <;> (first | (show x = ((i : Nat) : Int); omega) | (show _ = (endR l i).1; rw [hend]; rfl) | (show _ = (endR l i).2; rw [hend]; rfl) | (rw [hi]; rfl)))), by cbv; repeat' (first | trivial | exact EqO.rfl' | apply And.intro | (refine EqO.snoc ho Off.X _ _ _ _ rfl hout' ?_; rw [ho]; refine offRow ?_ ?_ ?_ ?_ ?_ ?_ <;> (first | (show x = ((i : Nat) : Int); omega) | (show _ = (endR l i).1; rw [hend]; rfl) | (show _ = (endR l i).2; rw [hend]; rfl) | (rw [hi]; rfl)))), by cbv; repeat' (first | trivial | exact EqO.rfl' | apply And.intro | (refine EqO.snoc ho Off.X _ _ _ _ rfl hout' ?_; rw [ho]; refine offRow ?_ ?_ ?_ ?_ ?_ ?_ <;> (first | (show x = ((i : Nat) : Int); omega) | (show _ = (endR l i).1; rw [hend]; rfl) | (show _ = (endR l i).2; rw [hend]; rfl) | (rw [hi]; rfl))))⟩
    · obtain ⟨hk1, hof, hne⟩ := hpre ‹_›
      have hoff : offB l i = false := by
        rw [hi]; exact decide_eq_false ‹¬ _ = (6 : Int)›
      rw [if_neg (by rw [hoff]; decide), List.nil_append] at hof
      rw [hof, ← hout] at hout'
      subst hout'
      refine hR _ ⟨i, x', mv, ⟨ms, hn⟩, rv, out'⟩ (by dsimp only; omega) ⟨by dsimp only; omega, by dsimp only; omega, fun id => ?_, by dsimp only; rw [hof, hout]⟩ ?_
      · dsimp only
        rw [hne, if_neg]
        rw [hi, hr, ‹r = false›]
        simp
      · refine ⟨rfl, by cbv; repeat' (first | trivial | exact EqX.rfl' | exact EqO.rfl' | apply And.intro | ((try clear hR3); (try clear hR2); (try clear hR); (try clear hK); (try simp only [ncCast] at *); (try simp only [castI_eq] at *); refine EqX.i ?_; (try rw [ho]); (try dsimp only [Ar.real, IX.vo, IX.val, BX.val, IX.toN]); (try simp only [castI_eq, ltB_eq, leB_eq, eqIB_eq, inBB_eq, eqNB_eq, leNB_eq, foldOff, foldOff_id, foldOff_frame, foldOff_agent, foldOff_at_, foldOff_end_, foldOff_how, foldPart, foldEv, foldPart_kind, foldPart_role, foldPart_amount, foldEv_kind, foldEv_frame, foldEv_id, foldEv_agent, foldEv_vec, fold_put]); (repeat rw [wrap_i64 (by omega) (by omega)]); omega)), by cbv; repeat' (first | trivial | exact EqO.rfl' | apply And.intro), by cbv; repeat' (first | trivial | exact EqO.rfl' | apply And.intro)⟩
    obtain rfl := hk0 hb
    refine LoopN.over (o := o) (D := [(13, [(3, 7), (4, 7), (5, 7)]), (18, [])]) ho hm hT (by kernel_rfl) (fun a : St4b => [(66, xn a.i)]) (fun a => [(1, .row rv 30 6 (SL o Off.X a.w))]) (fun _ => []) (In4b out) (fun a => out.length - a.i) ⟨0, out⟩ ⟨Nat.zero_le _, rfl, fun j hj => by simp⟩ ?_ ?_
    · refine ⟨rfl, by cbv; repeat' (first | trivial | exact EqX.rfl' | exact EqO.rfl' | apply And.intro | ((try clear hR3); (try clear hR2); (try clear hR); (try clear hK); (try simp only [ncCast] at *); (try simp only [castI_eq] at *); refine EqX.i ?_; (try rw [ho]); (try dsimp only [Ar.real, IX.vo, IX.val, BX.val, IX.toN]); (try simp only [castI_eq, ltB_eq, leB_eq, eqIB_eq, inBB_eq, eqNB_eq, leNB_eq, foldOff, foldOff_id, foldOff_frame, foldOff_agent, foldOff_at_, foldOff_end_, foldOff_how, foldPart, foldEv, foldPart_kind, foldPart_role, foldPart_amount, foldEv_kind, foldEv_frame, foldEv_id, foldEv_agent, foldEv_vec, fold_put]); (repeat rw [wrap_i64 (by omega) (by omega)]); omega)), by cbv; repeat' (first | trivial | exact EqO.rfl' | apply And.intro), by cbv; repeat' (first | trivial | exact EqO.rfl' | apply And.intro)⟩
    · rintro ⟨i2, w⟩ ⟨hi2, hw, hj⟩ R2 hR2
      dsimp only at hi2 hw hj
      have hwr : IntKind.i64.wrap ((out.length : Int).tdiv 2) = ((out.length / 2 : Nat) : Int) := by
        rw [show (2 : Int) = ((2 : Nat) : Int) from rfl, ← Int.ofNat_tdiv, wrap_i64 (by omega) (by omega)]
      have hix : i2 < out.length / 2 → IntKind.i64.wrap (IntKind.i64.wrap (w.length - 1) - i2) = ((w.length - 1 - i2 : Nat) : Int) := by
        intro h
        rw [wrap_i64 (x := (w.length : Int) - 1) (by omega) (by omega), wrap_i64 (by omega) (by omega)]
        omega
      have hst := swap_step (w := w) (out := out) (i := i2) ⟨hi2, hw, hj⟩
      have hse := swap_end (w := w) (out := out) (i := i2) ⟨hi2, hw, hj⟩
      obtain ⟨w', hw'⟩ : ∃ q, q = (w.set i2 (w.getD (w.length - 1 - i2) default)).set (w.length - 1 - i2) (w.getD i2 default) := ⟨_, rfl⟩
      rw [← hw'] at hst
      have hlt0 : (i2 : Int) < IntKind.i64.wrap ((out.length : Int).tdiv 2) → i2 < out.length / 2 := fun h => by rw [hwr] at h; omega
      have hge0 : IntKind.i64.wrap ((out.length : Int).tdiv 2) ≤ (i2 : Int) → out.length / 2 ≤ i2 := fun h => by rw [hwr] at h; omega
      have hm : IntKind.i64.wrap (IntKind.i64.wrap (w.length - 1) - i2) = ((w.length - 1 - i2 : Nat) : Int) → (IntKind.i64.wrap (IntKind.i64.wrap (w.length - 1) - i2)).toNat = w.length - 1 - i2 := fun h => by rw [h]; rfl
      cbv
      repeat' (first | (refine Br.mk (fun hb => ?_) (fun hb => ?_) <;> ((try rw [ho] at hb); (try dsimp only [Ar.real, IX.vo] at hb); (try simp only [castI_eq, ltB_eq, leB_eq, eqIB_eq, inBB_eq, eqNB_eq, leNB_eq, foldOff, foldOff_id, foldOff_frame, foldOff_agent, foldOff_at_, foldOff_end_, foldOff_how, foldPart, foldEv, foldPart_kind, foldPart_role, foldPart_amount, foldEv_kind, foldEv_frame, foldEv_id, foldEv_agent, foldEv_vec, fold_put] at hb); (try simp only [decide_eq_true_eq, Int.ofNat_lt, Int.ofNat_le, decide_eq_false_iff_not, Nat.not_lt, Nat.not_le, Int.not_lt, Int.not_le, beq_iff_eq, beq_eq_false_iff_ne, ne_eq, Bool.not_eq_true, Bool.not_eq_false, Bool.not_eq_true', Bool.not_eq_false'] at hb))) | (refine CallN.pure hP (x_ends _) fn61 (by first | rfl | (rw [ho]; done) | (rw [ho]; rfl)) (by rfl) (by first | rfl | (rw [ho]; done) | (rw [ho]; rfl)) ?_; (try rw [← ho]); generalize hr : endsB _ = r; (try rw [ho] at hr); (try dsimp only [Ar.real, IX.vo] at hr); (try simp only [castI_eq, ltB_eq, leB_eq, eqIB_eq, inBB_eq, eqNB_eq, leNB_eq, foldOff, foldOff_id, foldOff_frame, foldOff_agent, foldOff_at_, foldOff_end_, foldOff_how, foldPart, foldEv, foldPart_kind, foldPart_role, foldPart_amount, foldEv_kind, foldEv_frame, foldEv_id, foldEv_agent, foldEv_vec, fold_put] at hr); cbv) | (refine hK _ _ ?_) | (refine NeedT.mk ?_ ?_))
      any_goals (((try clear hR3); (try clear hR2); (try clear hR); (try clear hK); (try simp only [ncCast] at *); (try simp only [castI_eq] at *); (try rw [ho]); (try dsimp only [Ar.real, IX.vo, IX.val, BX.val, IX.toN]); (try simp only [castI_eq, ltB_eq, leB_eq, eqIB_eq, inBB_eq, eqNB_eq, leNB_eq, foldOff, foldOff_id, foldOff_frame, foldOff_agent, foldOff_at_, foldOff_end_, foldOff_how, foldPart, foldEv, foldPart_kind, foldPart_role, foldPart_amount, foldEv_kind, foldEv_frame, foldEv_id, foldEv_agent, foldEv_vec, fold_put]); (try simp only [decide_eq_true_eq, Int.ofNat_eq_natCast]); (all_goals (repeat rw [wrap_i64 (by omega) (by omega)])); (all_goals omega)); done)
      · have hlt := hlt0 ‹_›
        have hx1 := hix hlt
        have hx2 := hm hx1
        refine hR2 _ ⟨i2 + 1, w'⟩ (by dsimp only; omega) (hst hlt) ?_
        refine ⟨rfl, by cbv; repeat' (first | trivial | exact EqX.rfl' | exact EqO.rfl' | apply And.intro | ((try clear hR3); (try clear hR2); (try clear hR); (try clear hK); (try simp only [ncCast] at *); (try simp only [castI_eq] at *); refine EqX.i ?_; (try rw [ho]); (try dsimp only [Ar.real, IX.vo, IX.val, BX.val, IX.toN]); (try simp only [castI_eq, ltB_eq, leB_eq, eqIB_eq, inBB_eq, eqNB_eq, leNB_eq, foldOff, foldOff_id, foldOff_frame, foldOff_agent, foldOff_at_, foldOff_end_, foldOff_how, foldPart, foldEv, foldPart_kind, foldPart_role, foldPart_amount, foldEv_kind, foldEv_frame, foldEv_id, foldEv_agent, foldEv_vec, fold_put]); (repeat rw [wrap_i64 (by omega) (by omega)]); omega) | (refine EqO.set2 ho Off.X w w' _ _ i2 (w.length - 1 - i2) _ _ _ _ rfl hw' rfl ?_ ?_ ?_; (rw [ho]; exact hx1); (rw [ho]; show X.toCL (Off.X Ar.real (w.getD (IntKind.i64.wrap (IntKind.i64.wrap (w.length - 1) - i2)).toNat default)) = _; rw [hx2]); (rw [ho]; rfl))), by cbv; repeat' (first | trivial | exact EqO.rfl' | apply And.intro | (refine EqO.set2 ho Off.X w w' _ _ i2 (w.length - 1 - i2) _ _ _ _ rfl hw' rfl ?_ ?_ ?_; (rw [ho]; exact hx1); (rw [ho]; show X.toCL (Off.X Ar.real (w.getD (IntKind.i64.wrap (IntKind.i64.wrap (w.length - 1) - i2)).toNat default)) = _; rw [hx2]); (rw [ho]; rfl))), by cbv; repeat' (first | trivial | exact EqO.rfl' | apply And.intro | (refine EqO.set2 ho Off.X w w' _ _ i2 (w.length - 1 - i2) _ _ _ _ rfl hw' rfl ?_ ?_ ?_; (rw [ho]; exact hx1); (rw [ho]; show X.toCL (Off.X Ar.real (w.getD (IntKind.i64.wrap (IntKind.i64.wrap (w.length - 1) - i2)).toNat default)) = _; rw [hx2]); (rw [ho]; rfl)))⟩
      · have hge := hge0 ‹_›
        have hwo : w = offs l := by rw [hse hge, hout, List.reverse_reverse]; rfl
        subst hwo
        exact .ro (by rw [ho])
end Go.Proofs.Ytddgcegimmcbgaa.Sy

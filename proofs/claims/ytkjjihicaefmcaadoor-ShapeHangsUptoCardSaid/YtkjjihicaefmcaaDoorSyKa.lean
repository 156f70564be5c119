/-
  Calls that are walked in place: what a call does, run by run. Plain theorems.
-/
import Derived.Test.YtkjjihicaefmcaaDoorSyK
set_option linter.unusedVariables false
set_option linter.unusedSimpArgs false
set_option linter.unusedSectionVars false
namespace Go.Sy
open Go Go.RowKit
def CallSem (P : Program) (f : FuncId) (args : List D) (S : St) (k : D → St → Prop) : Prop :=
  (∃ fn, P.funcs[f]? = some fn ∧ fn.body.isSome = true ∧ (fn.name == "runtime.NumGoroutine") = false) ∧
  ∀ (K : Ctx) (N : Nat) (ρ : Env) (Z : Nat → Prop) (a : Act) (w : World) (vs : List Value), SatS K N ρ Z S a w → RelL ρ w Z args vs →
    Calls P f vs.toArray w fun en w' => ∃ v d S' ρ' Z', en = .returned v ∧ k d S' ∧ S'.n0 = S.n0 ∧ S'.lv = S.lv ∧ Rel ρ' w' Z' d v ∧ SatS K N ρ' Z' S' a w' ∧ ExtO S.n0 ρ Z w ρ' Z' w'
theorem CallSem.mono {P : Program} {f : FuncId} {args : List D} {S : St} {k k' : D → St → Prop} (h : CallSem P f args S k) (hk : ∀ d S', k d S' → k' d S') : CallSem P f args S k' := by
  refine ⟨h.1, fun K N ρ Z a w vs hS hA => (h.2 K N ρ Z a w vs hS hA).mono fun en w' hen => ?_⟩
  obtain ⟨v, d, S', ρ', Z', e, h1, r⟩ := hen
  exact ⟨v, d, S', ρ', Z', e, hk _ _ h1, r⟩
theorem CallSem.of_rule {P : Program} {f : FuncId} {args : List D} {S : St} {k : D → List Nat → List (Nat × Ob) → List Ob → Prop} (h : CallOk P f args S k) :
    CallSem P f args S fun d S' => ∃ rd sets news, k d rd sets news ∧ S' = S.after none d sets news := by
  obtain ⟨rd, d, sets, news, hr, hfn, h2, h3, hk⟩ := h
  refine ⟨hfn, fun K N ρ Z a w vs hS hA => ?_⟩
  have hcall := hr K ρ Z S.toG.H w vs hS.sat.mem h2 (fun n ob hm hl => ?_) hA
  · refine hcall.mono fun en w' hen => ?_
    obtain ⟨v, ρ', Z', rfl, hrel, hm, hx, hlive⟩ := hen
    refine ⟨v, d, _, ρ', Z', rfl, ⟨_, sets, news, hk, rfl⟩, after_n0 S none d sets news, after_lv S none d sets news, hrel, ?_, .of hx⟩
    have hsat : Sat K N ρ' Z' (S.toG.fin none d { new := nameNew S.nx news, set := sets }) (a.put none v) w' := by
      refine hS.sat.put (fun t e => by cases e) hx hrel hm (fun m hm' => ?_)
      rcases hlive m hm' with h | h
      · exact .inl (hS.sat.live m h)
      · exact .inr h
    exact fin_sat hS hsat (fun x hx => by obtain ⟨⟨y, hy⟩, _⟩ := h3 x hx; have := h2 _ hy; simp only at this; rw [this]; rfl) (fun x hx => (h3 x hx).2)
  · have := (mem_nameNew _ _ _ _ hm).1
    have hl' : n < S.n0 + S.L.length := (hS.sat.live n hl).2
    unfold St.nx at this
    omega
theorem call_wp {P : Program} {o : Oper} {cl : Call} {f : Operand} {n : FuncId} {first caps : List D} {S : St} {k : D → St → Prop} (ho : o.op = .call cl) (hc : cl.callee = .value f) (hf : evE S.env f = .fn (.func n) first caps)
    (h : CallSem P n (first ++ D.coeL (cl.args.toList.map (evE S.env)) ++ caps) S k)
    {K : Ctx} {N : Nat} {ρ : Env} {Z : Nat → Prop} {a : Act} {w : World} {Q : Exit → Act → World → Prop} {K' : Act → World → Prop} (hS : SatS K N ρ Z S a w) (hd : ∀ t, o.dst = some t → t < N)
    (hK : ∀ d S' ρ' Z' a' w', k d S' → S'.n0 = S.n0 → S'.lv = S.lv → SatS K N ρ' Z' (S'.put o.dst d) a' w' → ExtO S.n0 ρ Z w ρ' Z' w' → K' a' w') : o.wp P a w K' Q := by
  obtain ⟨hfn, hcall⟩ := h
  have hF : Rel ρ w Z (.fn (.func n) first caps) (a.eval f) := by
    have h2 := hS.sat.ev f
    rw [show S.toG.env = S.env from rfl, hf] at h2
    exact h2
  have hA : RelL ρ w Z (cl.args.toList.map (evE S.env)) (cl.args.toList.map a.eval) := relL_map S.env a.eval _ (fun x _ => hS.sat.ev x)
  generalize hv : a.eval f = vf at hF
  cases hF with
  | @fn _ _ _ fs vs h1 h2 h3 h4 =>
    have hfs : RelL ρ w Z first fs.toList := ⟨by simpa using h1, fun i hi => by simpa [List.getD_eq_getElem?_getD, Array.getD_eq_getD_getElem?] using h3 i (by simpa using hi)⟩
    have hvs : RelL ρ w Z caps vs.toList := ⟨by simpa using h2, fun i hi => by simpa [List.getD_eq_getElem?_getD, Array.getD_eq_getD_getElem?] using h4 i (by simpa using hi)⟩
    have hc2 := hcall K N ρ Z a w _ hS ((hfs.append hA.coe).append hvs)
    obtain ⟨fn, hf1, hf2, hf3⟩ := hfn
    have hrun : (execOp a.eval o).run P w = .ok (.enter n (fs.toList ++ cl.args.toList.map a.eval ++ vs.toList).toArray) w := by
      have hb : fn.body.isNone = false := by cases hbb : fn.body <;> simp_all
      have harr : (fs ++ cl.args.map a.eval ++ vs) = (fs.toList ++ cl.args.toList.map a.eval ++ vs.toList).toArray := by
        apply Array.ext'
        simp
      simp only [execOp, ho, resolve, hc, hv, Deferred.ofValue, Sem.run_bind, Sem.run_pure, Result.andThen_ok, invoke, callFunc, program, Sem.run, hf1, hf3, hb, Bool.false_eq_true, if_false, harr]
    unfold Oper.wp
    rw [hrun, Oper.upon_enter]
    refine hc2.mono fun en w' hen => ?_
    obtain ⟨v, d, S', ρ', Z', rfl, hk, e0, e1, hrel, hS', hx⟩ := hen
    refine hK d S' ρ' Z' _ w' hk e0 e1 ⟨?_, hS'.Bok⟩ hx
    have := hS'.sat.put hd (.refl _ _ _) hrel (e := .none) (by rw [app_none]; exact hS'.sat.mem) (fun m hm => (live_none _ _).2 (hS'.sat.live m hm))
    exact this.congr rfl rfl fun m hm => (live_none _ _).1 hm
def retI (P : Program) (fn : Func) (S : St) (k : D → St → Prop) : Exit → St → Prop
  | .ret, S2 | .normal, S2 => ∃ ds d S', resL P S2 fn.results.toList = some ds ∧ Frz S2 (resOne ds) d ∧ d.nms S.nx ∧ UpH S2.B S'.get ∧ S'.env = S.env ∧ S'.n0 = S.n0 ∧ S'.lv = S.lv ∧ S'.L.length = S.L.length ∧ (∀ n o, S'.B n = some o → n < S'.n0 ∧ o.nms S'.n0) ∧ k d S'
  | _, _ => False
theorem CallSem.of_body {P : Program} {f : FuncId} {fn : Func} {c : Code} {args : List D} {S : St} {k : D → St → Prop} {N : Nat} (hf : P.funcs[f]? = some fn) (hb : fn.body = some c) (hng : (fn.name == "runtime.NumGoroutine") = false) (hN : fn.ntmps = N) (hn : args.length ≤ N)
    (h : (∀ n o, S.get n = some o → n < S.nx ∧ o.nms S.nx) → (∀ n o, S.B n = some o → n < S.n0 ∧ o.nms S.n0) → D.nmsL S.nx args → Awp P N c (retI P fn S k) ⟨envOf args, S.get, S.nx, [], fun n => n < S.n0 → S.lv n⟩) : CallSem P f args S k := by
  subst hN
  refine ⟨⟨fn, hf, by rw [hb]; rfl, hng⟩, fun K N ρ Z a w vs hS hargs => ?_⟩
  have hm := hS.sat.mem
  have hlv := hS.sat.live
  have hnx : ∀ n, ρ.live n → n < S.nx := fun n hl => (hlv n hl).2
  have hob : ∀ n o, S.get n = some o → n < S.nx ∧ o.nms S.nx := fun n o ho => ⟨hnx n (hm.obj n o ho).1, Ob.at_nms (hm.obj n o ho).2 hnx⟩
  have hlen := hargs.len
  have hS2 : SatS K fn.ntmps ρ Z ⟨envOf args, S.get, S.nx, [], fun n => n < S.n0 → S.lv n⟩ { tmps := vs.toArray ++ Array.replicate (fn.ntmps - vs.toArray.size) undef, defers := [] } w := by
    refine ⟨⟨by simp; omega, rfl, fun t => ?_, ?_, fun n hl => ⟨fun _ => (hlv n hl).1, by simpa using hnx n hl⟩⟩, hob⟩
    · show Rel ρ w Z (args.getD t (.v undef)) _
      rcases Nat.lt_or_ge t vs.length with ht | ht
      · have := hargs.at_ t ht
        have ht' : t < args.length := by omega
        simp only [List.getD_eq_getElem?_getD, List.getElem?_eq_getElem ht', List.getElem?_eq_getElem ht, Option.getD_some] at this ⊢
        simpa [Array.getD_eq_getD_getElem?, Array.getElem?_append, ht] using this
      · have ht' : args.length ≤ t := by omega
        have e : (vs.toArray ++ Array.replicate (fn.ntmps - vs.toArray.size) undef).getD t undef = undef := by
          simp only [Array.getD_eq_getD_getElem?, Array.getElem?_append, List.size_toArray]
          rw [if_neg (by omega)]
          rw [Array.getElem?_replicate]
          split <;> rfl
        rw [e, List.getD_eq_getElem?_getD, List.getElem?_eq_none ht']
        exact .c (.v undef)
    · have : (St.get ⟨envOf args, S.get, S.nx, [], fun n => n < S.n0 → S.lv n⟩) = S.get := by
        funext n
        show (if n < S.nx then S.get n else _) = S.get n
        split
        · rfl
        · rename_i hge
          cases hH : S.get n with
          | none => simp
          | some o => exact (hge (hob n o hH).1).elim
      show HSat K ρ Z (St.get ⟨envOf args, S.get, S.nx, [], fun n => n < S.n0 → S.lv n⟩) w
      rw [this]
      exact hm
  refine calls_of_wp hf hb (wp_mono (h hob hS.Bok (hargs.nms hnx) K ρ Z _ w hS2) fun e a' w' hp => ?_)
  obtain ⟨S2, ρ', Z', q, e0, e1, hs, hx⟩ := hp
  have e0' : S2.n0 = S.nx := e0
  have fin : (∃ ds d S', resL P S2 fn.results.toList = some ds ∧ Frz S2 (resOne ds) d ∧ d.nms S.nx ∧ UpH S2.B S'.get ∧ S'.env = S.env ∧ S'.n0 = S.n0 ∧ S'.lv = S.lv ∧ S'.L.length = S.L.length ∧ (∀ n o, S'.B n = some o → n < S'.n0 ∧ o.nms S'.n0) ∧ k d S') → a'.defers = [] ∧ ∃ v, (results fn a'.tmps).run P w' = .ok v w' ∧
      (∃ v' d S' ρ'' Z'', Ending.returned v = .returned v' ∧ k d S' ∧ S'.n0 = S.n0 ∧ S'.lv = S.lv ∧ Rel ρ'' w' Z'' d v' ∧ SatS K N ρ'' Z'' S' a w' ∧ ExtO S.n0 ρ Z w ρ'' Z'' w') := by
    rintro ⟨ds, d, S', h1, hfz, h2, h3, p1, p2, p3, p4, p5, hk⟩
    obtain ⟨v, r1, r2'⟩ := results_run hs h1
    have r2 := r2'.frz hs hfz
    have hg : ∀ n o, S2.B n = some o → S2.get n = some o ∧ o.nms S.nx := fun n o ho => by
      obtain ⟨h4, h5⟩ := hs.Bok n o ho
      rw [e0'] at h4 h5
      refine ⟨?_, h5⟩
      unfold St.get
      rw [e0', if_pos h4]
      exact ho
    have hm' := hs.sat.mem
    have hcut : HSat K (ρ'.cut S.nx) (ZF S2 ρ' Z') S2.B w' := by
      refine ⟨hm'.os, hm'.tape, hm'.output, hm'.size, fun b hb => .inl (hm'.Zmono b hb), fun b hb => ?_, hm'.same, fun n o ho => ?_, fun n o b ho hb => ?_, fun n m o o' b h4 h5 b1 b2 => ?_, ?_⟩
      · rcases hb with hb | ⟨n, ver, E, sz, r, _, hgr, hbb⟩
        · exact hm'.Zlt b hb
        · exact (hm'.own n _ b hgr hbb).2
      · obtain ⟨g1, g2⟩ := hg n o ho
        obtain ⟨o1, o2⟩ := hm'.obj n o g1
        have h4 := (hs.Bok n o ho).1
        rw [e0'] at h4
        exact ⟨⟨o1, h4⟩, Ob.at_cut (Ob.at_mono o2 (fun _ _ => rfl) (fun _ _ => rfl) (fun _ h => .inl h) (.refl _) rfl rfl rfl) g2⟩
      · have hb' : o.blk ρ' n = some b := by cases o <;> exact hb
        have h9 := hm'.own n o b (hg n o ho).1 hb'
        refine ⟨fun hz => ?_, h9.2⟩
        rcases hz with hz | ⟨m, ver, E, sz, r, hm0, hgr, hbb⟩
        · exact h9.1 hz
        · have := hm'.inj n m o _ b (hg n o ho).1 hgr hb' hbb
          have h4 := (hs.Bok n o ho).1
          omega
      · exact hm'.inj n m o o' b (hg n o h4).1 (hg m o' h5).1 (by cases o <;> exact b1) (by cases o' <;> exact b2)
      · exact ⟨S.nx, fun n hl => hl.2⟩
    obtain ⟨hlu, hup⟩ := hcut.up h3
    have hle : ρ.le { ρ'.cut S.nx with ver := verUp (ρ'.cut S.nx) S'.get } :=
      ⟨fun n hl => ⟨(hx.le n (hnx n hl) hl).1, hnx n hl⟩, fun n hl => (hx.le n (hnx n hl) hl).2.1, fun n hl => Nat.le_trans (hx.le n (hnx n hl) hl).2.2.1 (hlu.ver n ⟨(hx.le n (hnx n hl) hl).1, hnx n hl⟩), fun n hl e => (hx.le n (hnx n hl) hl).2.2.2 (by
        have a1 := (hx.le n (hnx n hl) hl).2.2.1
        have a2 : ρ'.ver n ≤ verUp (ρ'.cut S.nx) S'.get n := hlu.ver n ⟨(hx.le n (hnx n hl) hl).1, hnx n hl⟩
        have a3 : verUp (ρ'.cut S.nx) S'.get n = ρ.ver n := e
        omega)⟩
    have hxt : Ext ρ Z w { ρ'.cut S.nx with ver := verUp (ρ'.cut S.nx) S'.get } (ZF S2 ρ' Z') w' := ⟨hle, fun b hb => .inl (hx.mono b hb), hx.same⟩
    refine ⟨hs.sat.defers, v, r1, v, d, S', _, _, rfl, hk, p2, p3, (r2.cut h2).mono (fun _ _ => rfl) (fun _ h => h) hlu, ⟨⟨hS.sat.tmps, hS.sat.defers, fun t => ?_, hup, fun n hl => ?_⟩, p5⟩, .of hxt⟩
    · show Rel _ _ _ (S'.env t) _
      rw [p1]
      exact (hS.sat.env t).mono hxt.same hxt.mono hxt.le
    · have h6 := hs.sat.live n hl.1
      have h7 : n < S2.n0 := by rw [e0']; exact hl.2
      have h8 := h6.1 h7
      rw [e1] at h8
      refine ⟨fun h9 => ?_, ?_⟩
      · rw [p2] at h9
        rw [p3]
        exact h8 h9
      · rw [p2, p4]
        exact hl.2
  cases e with
  | ret => exact fin q
  | normal => exact fin q
  | exit id => exact q.elim
  | goto l => exact q.elim
  | panic ch => exact q.elim
  | outgrown => exact q.elim
def retK (P : Program) (fn : Func) (S : St) (k : D → St → Prop) : Exit → St → Prop
  | .ret, S2 | .normal, S2 => ∃ ds S', resL P S2 fn.results.toList = some ds ∧ S'.env = S.env ∧ S'.n0 = S.n0 ∧ S'.lv = S.lv ∧ S'.get = S2.get ∧ S'.nx = S2.nx ∧ (∀ n o, S'.B n = some o → n < S'.n0 ∧ o.nms S'.n0) ∧ k (resOne ds) S'
  | _, _ => False
theorem CallSem.of_bodyK {P : Program} {f : FuncId} {fn : Func} {c : Code} {args : List D} {S : St} {k : D → St → Prop} {N : Nat} (hf : P.funcs[f]? = some fn) (hb : fn.body = some c) (hng : (fn.name == "runtime.NumGoroutine") = false) (hN : fn.ntmps = N) (hn : args.length ≤ N)
    (h : (∀ n o, S.get n = some o → n < S.nx ∧ o.nms S.nx) → (∀ n o, S.B n = some o → n < S.n0 ∧ o.nms S.n0) → D.nmsL S.nx args → Awp P N c (retK P fn S k) ⟨envOf args, S.get, S.nx, [], fun n => n < S.n0 → S.lv n⟩) : CallSem P f args S k := by
  subst hN
  refine ⟨⟨fn, hf, by rw [hb]; rfl, hng⟩, fun K N ρ Z a w vs hS hargs => ?_⟩
  have hm := hS.sat.mem
  have hlv := hS.sat.live
  have hnx : ∀ n, ρ.live n → n < S.nx := fun n hl => (hlv n hl).2
  have hob : ∀ n o, S.get n = some o → n < S.nx ∧ o.nms S.nx := fun n o ho => ⟨hnx n (hm.obj n o ho).1, Ob.at_nms (hm.obj n o ho).2 hnx⟩
  have hlen := hargs.len
  have hS2 : SatS K fn.ntmps ρ Z ⟨envOf args, S.get, S.nx, [], fun n => n < S.n0 → S.lv n⟩ { tmps := vs.toArray ++ Array.replicate (fn.ntmps - vs.toArray.size) undef, defers := [] } w := by
    refine ⟨⟨by simp; omega, rfl, fun t => ?_, ?_, fun n hl => ⟨fun _ => (hlv n hl).1, by simpa using hnx n hl⟩⟩, hob⟩
    · show Rel ρ w Z (args.getD t (.v undef)) _
      rcases Nat.lt_or_ge t vs.length with ht | ht
      · have := hargs.at_ t ht
        have ht' : t < args.length := by omega
        simp only [List.getD_eq_getElem?_getD, List.getElem?_eq_getElem ht', List.getElem?_eq_getElem ht, Option.getD_some] at this ⊢
        simpa [Array.getD_eq_getD_getElem?, Array.getElem?_append, ht] using this
      · have ht' : args.length ≤ t := by omega
        have e : (vs.toArray ++ Array.replicate (fn.ntmps - vs.toArray.size) undef).getD t undef = undef := by
          simp only [Array.getD_eq_getD_getElem?, Array.getElem?_append, List.size_toArray]
          rw [if_neg (by omega)]
          rw [Array.getElem?_replicate]
          split <;> rfl
        rw [e, List.getD_eq_getElem?_getD, List.getElem?_eq_none ht']
        exact .c (.v undef)
    · have : (St.get ⟨envOf args, S.get, S.nx, [], fun n => n < S.n0 → S.lv n⟩) = S.get := by
        funext n
        show (if n < S.nx then S.get n else _) = S.get n
        split
        · rfl
        · rename_i hge
          cases hH : S.get n with
          | none => simp
          | some o => exact (hge (hob n o hH).1).elim
      show HSat K ρ Z (St.get ⟨envOf args, S.get, S.nx, [], fun n => n < S.n0 → S.lv n⟩) w
      rw [this]
      exact hm
  refine calls_of_wp hf hb (wp_mono (h hob hS.Bok (hargs.nms hnx) K ρ Z _ w hS2) fun e a' w' hp => ?_)
  obtain ⟨S2, ρ', Z', q, e0, e1, hs, hx⟩ := hp
  have e0' : S2.n0 = S.nx := e0
  have fin : (∃ ds S', resL P S2 fn.results.toList = some ds ∧ S'.env = S.env ∧ S'.n0 = S.n0 ∧ S'.lv = S.lv ∧ S'.get = S2.get ∧ S'.nx = S2.nx ∧ (∀ n o, S'.B n = some o → n < S'.n0 ∧ o.nms S'.n0) ∧ k (resOne ds) S') → a'.defers = [] ∧ ∃ v, (results fn a'.tmps).run P w' = .ok v w' ∧
      (∃ v' d S' ρ'' Z'', Ending.returned v = .returned v' ∧ k d S' ∧ S'.n0 = S.n0 ∧ S'.lv = S.lv ∧ Rel ρ'' w' Z'' d v' ∧ SatS K N ρ'' Z'' S' a w' ∧ ExtO S.n0 ρ Z w ρ'' Z'' w') := by
    rintro ⟨ds, S', h1, p1, p2, p3, p4, p5, p6, hk⟩
    obtain ⟨v, r1, r2⟩ := results_run hs h1
    have hle : ρ.le ρ' := ⟨fun n hl => (hx.le n (hnx n hl) hl).1, fun n hl => (hx.le n (hnx n hl) hl).2.1, fun n hl => (hx.le n (hnx n hl) hl).2.2.1, fun n hl => (hx.le n (hnx n hl) hl).2.2.2⟩
    have hxt : Ext ρ Z w ρ' Z' w' := ⟨hle, hx.mono, hx.same⟩
    refine ⟨hs.sat.defers, v, r1, v, _, S', ρ', Z', rfl, hk, p2, p3, r2, ⟨⟨hS.sat.tmps, hS.sat.defers, fun t => ?_, ?_, fun n hl => ?_⟩, p6⟩, .of hxt⟩
    · show Rel _ _ _ (S'.env t) _
      rw [p1]
      exact (hS.sat.env t).mono hxt.same hxt.mono hxt.le
    · show HSat K ρ' Z' S'.get w'
      rw [p4]
      exact hs.sat.mem
    · have h6 := hs.sat.live n hl
      refine ⟨fun h9 => ?_, ?_⟩
      · rw [p2] at h9
        rw [p3]
        have h7 : n < S2.n0 := by
          rw [e0']
          unfold St.nx
          omega
        have h8 := h6.1 h7
        rw [e1] at h8
        exact h8 h9
      · show n < S'.nx
        rw [p5]
        exact h6.2
  cases e with
  | ret => exact fin q
  | normal => exact fin q
  | exit id => exact q.elim
  | goto l => exact q.elim
  | panic ch => exact q.elim
  | outgrown => exact q.elim
theorem Awp.loop2 {P : Program} {N : Nat} {c : Code} {Q : Exit → St → Prop} {S : St} (J : Nat → St → Prop) (n : Nat) (h0 : J n S)
    (round : ∀ n S, J n S → Awp P N c (thenQ (fun S' => ∃ m, m < n ∧ J m S') Q) S) : Awp P N (.loop c) Q S := by
  intro K ρ Z a w hS b k cs
  have key : ∀ n S (ρ1 : Env) Z1 a1 w1, J n S → SatS K N ρ1 Z1 S a1 w1 → ∃ e a' w', Post K N S ρ1 Z1 w1 Q e a' w' ∧ Arrives P (lone (b.at a1 (.code c :: .inLoop c :: k)) cs w1) b k cs e a' w' := by
    intro n
    induction n using Nat.strongRecOn with
    | _ n ih =>
      intro S ρ1 Z1 a1 w1 hJ hS1
      obtain ⟨e, a2, w2, hp, harr⟩ := round n S hJ K ρ1 Z1 a1 w1 hS1 b (.inLoop c :: k) cs
      obtain ⟨S2, ρ2, Z2, q, e0, e1, hs, hx⟩ := hp
      cases e with
      | normal =>
        obtain ⟨m, hlt, hJ3⟩ := q
        obtain ⟨e3, a3, w3, hp3, harr3⟩ := ih m hlt S2 ρ2 Z2 a2 w2 hJ3 hs
        obtain ⟨S4, ρ4, Z4, q4, f0, f1, hs4, hx4⟩ := hp3
        rw [e0] at hx4
        exact ⟨e3, a3, w3, ⟨S4, ρ4, Z4, q4, f0.trans e0, f1.trans e1, hs4, hx.trans hx4⟩, .of_steps (Steps.trans harr (.one step_inLoop)) harr3⟩
      | exit id => exact ⟨_, a2, w2, ⟨S2, ρ2, Z2, q, e0, e1, hs, hx⟩, .pass (x := .inLoop c) rfl (fun _ _ => .inl (by simp)) harr⟩
      | goto l => exact ⟨_, a2, w2, ⟨S2, ρ2, Z2, q, e0, e1, hs, hx⟩, .pass (x := .inLoop c) rfl (fun _ _ => .inl (by simp)) harr⟩
      | ret => exact ⟨_, a2, w2, ⟨S2, ρ2, Z2, q, e0, e1, hs, hx⟩, .pass (x := .inLoop c) rfl (fun _ _ => .inl (by simp)) harr⟩
      | panic ch => exact ⟨_, a2, w2, ⟨S2, ρ2, Z2, q, e0, e1, hs, hx⟩, .pass (x := .inLoop c) rfl (fun _ _ => .inl (by simp)) harr⟩
      | outgrown => exact ⟨_, a2, w2, ⟨S2, ρ2, Z2, q, e0, e1, hs, hx⟩, .pass (x := .inLoop c) rfl (fun _ _ => .inl (by simp)) harr⟩
  obtain ⟨e, a', w', hp, harr⟩ := key n S ρ Z a w h0 hS
  exact ⟨e, a', w', hp, .of_steps (.one step_loop) harr⟩
end Go.Sy

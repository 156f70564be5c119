/-
  Code and functions over spelt-out states. Plain theorems.
-/
import Derived.Test.YtkjjihicaefmcaaDoorSyI
set_option linter.unusedVariables false
set_option linter.unusedSimpArgs false
set_option linter.unusedSectionVars false
namespace Go.Sy
open Go Go.RowKit
def Awp (P : Program) (N : Nat) (c : Code) (Q : Exit → St → Prop) (S : St) : Prop :=
  ∀ (K : Ctx) (ρ : Env) (Z : Nat → Prop) (a : Act) (w : World), SatS K N ρ Z S a w → c.wp P (Post K N S ρ Z w Q) a w
def thenQ (R : St → Prop) (Q : Exit → St → Prop) : Exit → St → Prop
  | .normal, S => R S
  | e, S => Q e S
def blockQ (id : Nat) (Q : Exit → St → Prop) : Exit → St → Prop
  | .exit id', S => if id' = id then Q .normal S else Q (.exit id') S
  | e, S => Q e S
section
variable {P : Program} {N : Nat} {Q : Exit → St → Prop} {S : St}
theorem Post.mono {K : Ctx} {ρ : Env} {Z : Nat → Prop} {w : World} {Q' : Exit → St → Prop} {e : Exit} {a : Act} {w' : World} (h : Post K N S ρ Z w Q e a w') (hq : ∀ S', Q e S' → Q' e S') : Post K N S ρ Z w Q' e a w' := by
  obtain ⟨S', ρ', Z', q, r⟩ := h
  exact ⟨S', ρ', Z', hq _ q, r⟩
theorem Awp.mono {c : Code} {Q' : Exit → St → Prop} (h : Awp P N c Q S) (hq : ∀ e S', Q e S' → Q' e S') : Awp P N c Q' S :=
  fun K ρ Z a w hS => wp_mono (h K ρ Z a w hS) fun e _ _ hp => hp.mono (hq e)
theorem Awp.skip (h : Q .normal S) : Awp P N .skip Q S := fun _ ρ Z _ _ hS => wp_skip ⟨S, ρ, Z, h, rfl, rfl, hS, .refl⟩
theorem Awp.label {l : Nat} (h : Q .normal S) : Awp P N (.label l) Q S := fun _ ρ Z _ _ hS => wp_label ⟨S, ρ, Z, h, rfl, rfl, hS, .refl⟩
theorem Awp.exit {id : Nat} (h : Q (.exit id) S) : Awp P N (.exit id) Q S := fun _ ρ Z _ _ hS => wp_exit ⟨S, ρ, Z, h, rfl, rfl, hS, .refl⟩
theorem Awp.ret (h : Q .ret S) : Awp P N .ret Q S := fun _ ρ Z _ _ hS => wp_ret ⟨S, ρ, Z, h, rfl, rfl, hS, .refl⟩
theorem Awp.seq {x y : Code} (h : Awp P N x (thenQ (fun S' => Awp P N y Q S') Q) S) : Awp P N (x.seq y) Q S := by
  intro K ρ Z a w hS
  refine wp_seq (wp_mono (h K ρ Z a w hS) fun e a1 w1 hp => ?_)
  obtain ⟨S1, ρ1, Z1, q, e0, e1, hs, hx⟩ := hp
  cases e with
  | normal =>
    show y.wp P _ a1 w1
    refine wp_mono (q K ρ1 Z1 a1 w1 hs) fun e a2 w2 hp2 => ?_
    obtain ⟨S2, ρ2, Z2, q2, f0, f1, hs2, hx2⟩ := hp2
    rw [e0] at f0 hx2
    exact ⟨S2, ρ2, Z2, q2, f0, f1.trans e1, hs2, hx.trans hx2⟩
  | _ => exact ⟨S1, ρ1, Z1, q, e0, e1, hs, hx⟩
theorem Awp.cond {c : Operand} {x y : Code} {b : Bool} (hc : evE S.env c = .bool b) (ht : b = true → Awp P N x Q S) (hf : b = false → Awp P N y Q S) : Awp P N (.cond c x y) Q S := by
  intro K ρ Z a w hS
  have h := hS.sat.ev c
  have h' : Rel ρ w Z (.bool b) (a.eval c) := by rw [← hc]; exact h
  refine wp_cond_split h'.inv_v (fun e => ht e K ρ Z a w hS) (fun e => hf e K ρ Z a w hS)
theorem Awp.block {id : Nat} {c : Code} (h : Awp P N c (blockQ id Q) S) : Awp P N (.block id c) Q S := by
  intro K ρ Z a w hS
  refine wp_block (wp_mono (h K ρ Z a w hS) fun e a1 w1 hp => ?_)
  obtain ⟨S1, ρ1, Z1, q, r⟩ := hp
  cases e with
  | exit id' =>
    simp only [Exit.inBlock]
    simp only [blockQ] at q
    split
    · rename_i e; rw [if_pos e] at q; exact ⟨S1, ρ1, Z1, q, r⟩
    · rename_i e; rw [if_neg e] at q; exact ⟨S1, ρ1, Z1, q, r⟩
  | _ => exact ⟨S1, ρ1, Z1, q, r⟩
theorem Awp.region {id : Nat} {ops : Array Oper} (h : runOps P N ops ops.toList S (fun S' => Q .normal S')) : Awp P N (.region id ops false) Q S := by
  intro K ρ Z a w hS
  refine wp_region ?_
  have := runOps_sound ops.toList 0 S (by simp) h ρ Z a w hS
  rw [List.range_eq_range']
  simpa using this
theorem Awp.weak {c : Code} {S' : St} (hw : Weak S S') (h : Awp P N c Q S') : Awp P N c Q S := by
  intro K ρ Z a w hS
  obtain ⟨ρ', hS', hx⟩ := hS.weak hw
  refine wp_mono (h K ρ' Z a w hS') fun e a1 w1 hp => ?_
  obtain ⟨S1, ρ1, Z1, q, e0, e1, hs, hx1⟩ := hp
  rw [hw.n0] at e0 hx1
  exact ⟨S1, ρ1, Z1, q, e0, e1.trans hw.lv, hs, hx.trans hx1⟩
theorem Awp.loop {c : Code} (J : Nat → St → Prop) (n : Nat) (S0 : St) (h0 : J n S0) (hw : Weak S S0)
    (round : ∀ n S, J n S → Awp P N c (thenQ (fun S' => ∃ m S'', m < n ∧ J m S'' ∧ Weak S' S'') Q) S) : Awp P N (.loop c) Q S := by
  intro K ρ Z a w hS b k cs
  have key : ∀ n S (ρ1 : Env) Z1 a1 w1, J n S → SatS K N ρ1 Z1 S a1 w1 → ∃ e a' w', Post K N S ρ1 Z1 w1 Q e a' w' ∧ Arrives P (lone (b.at a1 (.code c :: .inLoop c :: k)) cs w1) b k cs e a' w' := by
    intro n
    induction n using Nat.strongRecOn with
    | _ n ih =>
      intro S ρ1 Z1 a1 w1 hJ hS1
      obtain ⟨e, a2, w2, hp, harr⟩ := round n S hJ K ρ1 Z1 a1 w1 hS1 b (.inLoop c :: k) cs
      obtain ⟨S2, ρ2, Z2, q, e0, e1, hs, hx⟩ := hp
      cases e with
      | normal =>
        obtain ⟨m, S3, hlt, hJ3, hw3⟩ := q
        obtain ⟨ρ3, hS3, hx3⟩ := hs.weak hw3
        obtain ⟨e3, a3, w3, hp3, harr3⟩ := ih m hlt S3 ρ3 Z2 a2 w2 hJ3 hS3
        obtain ⟨S4, ρ4, Z4, q4, f0, f1, hs4, hx4⟩ := hp3
        refine ⟨e3, a3, w3, ⟨S4, ρ4, Z4, q4, by rw [f0, hw3.n0, e0], by rw [f1, hw3.lv, e1], hs4, ?_⟩, .of_steps (Steps.trans harr (.one step_inLoop)) harr3⟩
        rw [hw3.n0, e0] at hx4
        rw [e0] at hx3
        exact (hx.trans hx3).trans hx4
      | exit id => exact ⟨_, a2, w2, ⟨S2, ρ2, Z2, q, e0, e1, hs, hx⟩, .pass (x := .inLoop c) rfl (fun _ _ => .inl (by simp)) harr⟩
      | goto l => exact ⟨_, a2, w2, ⟨S2, ρ2, Z2, q, e0, e1, hs, hx⟩, .pass (x := .inLoop c) rfl (fun _ _ => .inl (by simp)) harr⟩
      | ret => exact ⟨_, a2, w2, ⟨S2, ρ2, Z2, q, e0, e1, hs, hx⟩, .pass (x := .inLoop c) rfl (fun _ _ => .inl (by simp)) harr⟩
      | panic ch => exact ⟨_, a2, w2, ⟨S2, ρ2, Z2, q, e0, e1, hs, hx⟩, .pass (x := .inLoop c) rfl (fun _ _ => .inl (by simp)) harr⟩
      | outgrown => exact ⟨_, a2, w2, ⟨S2, ρ2, Z2, q, e0, e1, hs, hx⟩, .pass (x := .inLoop c) rfl (fun _ _ => .inl (by simp)) harr⟩
  obtain ⟨ρ0, hS0, hx0⟩ := hS.weak hw
  obtain ⟨e, a', w', ⟨S1, ρ1, Z1, q, e0, e1, hs, hx⟩, harr⟩ := key n S0 ρ0 Z a w h0 hS0
  rw [hw.n0] at e0 hx
  exact ⟨e, a', w', ⟨S1, ρ1, Z1, q, e0, e1.trans hw.lv, hs, hx0.trans hx⟩, .of_steps (.one step_loop) harr⟩
end
theorem Rel.nms {ρ : Env} {w : World} {Z : Nat → Prop} {d : D} {v : Value} {b : Nat} (h : Rel ρ w Z d v) (hb : ∀ n, ρ.live n → n < b) : d.nms b := by
  induction h with
  | junk v => simp [D.nms]
  | c h => simp [D.nms]
  | ptr h => simp only [D.nms]; exact hb _ h
  | rp b o us hz hc hr => simp [D.nms]
  | rptr p h hle hv => simp only [D.nms]; exact hb _ h
  | own A l c h hle hv => simp only [D.nms]; exact hb _ h
  | lit A h => simp [D.nms]
  | mp h => simp only [D.nms]; exact hb _ h
  | st x h hle hv => simp only [D.nms]; exact hb _ h
  | @fn f first caps fs vs h1 h2 h3 h4 i3 i4 =>
    simp only [D.nms, nmsL_iff]
    refine ⟨fun d hd => ?_, fun d hd => ?_⟩
    · obtain ⟨i, hi, rfl⟩ := List.getElem_of_mem hd
      have := i3 i (by omega)
      simpa [List.getD_eq_getElem?_getD, hi] using this
    · obtain ⟨i, hi, rfl⟩ := List.getElem_of_mem hd
      have := i4 i (by omega)
      simpa [List.getD_eq_getElem?_getD, hi] using this
  | @agg l vs h1 h3 i3 =>
    simp only [D.nms, nmsL_iff]
    intro d hd
    obtain ⟨i, hi, rfl⟩ := List.getElem_of_mem hd
    have := i3 i (by omega)
    simpa [List.getD_eq_getElem?_getD, hi] using this
  | @tup l vs h1 h3 i3 =>
    simp only [D.nms, nmsL_iff]
    intro d hd
    obtain ⟨i, hi, rfl⟩ := List.getElem_of_mem hd
    have := i3 i (by omega)
    simpa [List.getD_eq_getElem?_getD, hi] using this
theorem RelL.nms {ρ : Env} {w : World} {Z : Nat → Prop} {l : List D} {vs : List Value} {b : Nat} (h : RelL ρ w Z l vs) (hb : ∀ n, ρ.live n → n < b) : D.nmsL b l := by
  rw [nmsL_iff]
  intro d hd
  obtain ⟨i, hi, rfl⟩ := List.getElem_of_mem hd
  have := (h.at_ i (by rw [← h.len]; exact hi)).nms hb
  simpa [List.getD_eq_getElem?_getD, hi] using this
theorem Ob.at_nms {ρ : Env} {w : World} {Z : Nat → Prop} {n b : Nat} {o : Ob} (h : o.at_ ρ w Z n) (hb : ∀ n, ρ.live n → n < b) : o.nms b := by
  cases o with
  | var cs T => obtain ⟨vs, _, h2⟩ := h; exact h2.nms hb
  | row ver E sz l =>
    obtain ⟨_, _, xs, _, h4⟩ := h
    have := (nmsL_iff b _).1 (h4.nms hb)
    intro x hx
    rw [nmsL_iff]
    exact fun d hd => this d (List.mem_flatten.2 ⟨x, hx, hd⟩)
  | iter mp ver seen => exact hb _ h.1
  | map ver ag m es =>
    obtain ⟨_, ms, ck, _, _, _, _, h3, _⟩ := h
    have := (nmsL_iff b _).1 (h3.nms hb)
    exact fun x hx => this x.2 (List.mem_map.2 ⟨x, hx, rfl⟩)
def resD (P : Program) (S : St) : ResultVar → Option D
  | .tmp t => some (S.env t)
  | .cell a t =>
    match S.env a, tySz P t with
    | .ptr n off, some sz =>
      match S.get n with
      | some (.var cs _) => loadD (tyK P t) sz cs off
      | _ => none
    | _, _ => none
def resL (P : Program) (S : St) : List ResultVar → Option (List D)
  | [] => some []
  | r :: l => match resD P S r, resL P S l with | some d, some ds => some (d :: ds) | _, _ => none
def resOne : List D → D
  | [d] => d
  | l => .tup l
theorem resD_run {P : Program} {K : Ctx} {N : Nat} {ρ : Env} {Z : Nat → Prop} {S : St} {a : Act} {w : World} (hS : SatS K N ρ Z S a w) {r : ResultVar} {d : D} (h : resD P S r = some d) :
    ∃ v, (match r with | .tmp t => (pure (a.tmps.getD t undef) : Sem Value) | .cell c t => do loadVar t (← asAddr (a.tmps.getD c undef))).run P w = .ok v w ∧ Rel ρ w Z d v := by
  cases r with
  | tmp t => simp only [resD, Option.some.injEq] at h; subst h; exact ⟨_, rfl, hS.sat.env t⟩
  | cell c t =>
    simp only [resD] at h
    split at h
    · rename_i n off sz hc hs
      split at h
      · rename_i cs T hg
        have hr : Rel ρ w Z (.ptr n off) (a.tmps.getD c undef) := by rw [← hc]; exact hS.sat.env c
        obtain ⟨hv, hl⟩ := hr.inv_ptr
        obtain ⟨_, vs, hh, hrel⟩ := hS.sat.mem.obj n _ hg
        have hlen := hrel.len
        simp only [Array.length_toList] at hlen
        have hcells : ∀ j, j < cs.length → w.cell? ⟨ρ.blk n, 0 + j, none⟩ = some (vs.getD j undef) := fun j hj => by
          have hj' : j < vs.size := by omega
          rw [cell_of hh]
          simp [hj']
        obtain ⟨v, h1, h2⟩ := run_load (P := P) (ρ := ρ) (Z := Z) (o' := 0) (b := ρ.blk n) (w := w) (fun j => vs.getD j undef) (cs := cs) (off := off) (t := t) hcells
          (fun j hj => by simpa using hrel.at_ j (by simpa [hlen] using hj)) hs h
        refine ⟨v, ?_, h2⟩
        simp only [Instr.loadAt, Instr.sureAddr, Sem.run_bind, Sem.run_pure, Result.andThen_ok, Nat.zero_add] at h1
        simp only [hv, asAddr, Sem.run_bind, Sem.run_pure, Result.andThen_ok, h1]
      · cases h
    · cases h
def resF (a : Array Value) : ResultVar → Sem Value := fun
  | .tmp t => pure (a.getD t undef)
  | .cell c t => do loadVar t (← asAddr (a.getD c undef))
theorem resL_run {P : Program} {K : Ctx} {N : Nat} {ρ : Env} {Z : Nat → Prop} {S : St} {a : Act} {w : World} (hS : SatS K N ρ Z S a w) : ∀ {l : List ResultVar} {ds : List D}, resL P S l = some ds →
    ∃ vs, (l.mapM (resF a.tmps)).run P w = .ok vs w ∧ RelL ρ w Z ds vs
  | [], ds, h => by simp [resL] at h; subst h; exact ⟨[], by simp, .nil⟩
  | r :: l, ds, h => by
    simp only [resL] at h
    split at h
    · rename_i d ds' h1 h2
      simp only [Option.some.injEq] at h
      subst h
      obtain ⟨v, r1, r2⟩ := resD_run hS h1
      obtain ⟨vs, r3, r4⟩ := resL_run hS h2
      refine ⟨v :: vs, ?_, .cons r2 r4⟩
      have r1' : (resF a.tmps r).run P w = .ok v w := by
        cases r <;> exact r1
      simp [List.mapM_cons, r1', r3]
    · cases h
theorem results_run {P : Program} {K : Ctx} {N : Nat} {ρ : Env} {Z : Nat → Prop} {S : St} {a : Act} {w : World} {fn : Func} {ds : List D} (hS : SatS K N ρ Z S a w) (h : resL P S fn.results.toList = some ds) :
    ∃ v, (results fn a.tmps).run P w = .ok v w ∧ Rel ρ w Z (resOne ds) v := by
  obtain ⟨vs, h1, h2⟩ := resL_run hS h
  have hlen := h2.len
  have e : (fn.results.mapM (resF a.tmps)).run P w = .ok vs.toArray w := by
    rw [Array.mapM_eq_mapM_toList]
    simp [h1]
  have e2 : (results fn a.tmps).run P w = .ok (if h : vs.toArray.size = 1 then vs.toArray[0] else .tuple vs.toArray) w := by
    have : results fn a.tmps = (do let vs ← fn.results.mapM (resF a.tmps); pure (if h : vs.size = 1 then vs[0] else .tuple vs)) := rfl
    rw [this]
    simp only [Sem.run_bind, e, Result.andThen_ok, Sem.run_pure]
  refine ⟨_, e2, ?_⟩
  by_cases h1 : vs.length = 1
  · obtain ⟨v, rfl⟩ := List.length_eq_one_iff.1 h1
    obtain ⟨d, rfl⟩ := List.length_eq_one_iff.1 (hlen.trans h1)
    simpa [resOne] using h2.head
  · have hne : ¬ vs.toArray.size = 1 := by simpa using h1
    rw [dif_neg hne]
    have hr : resOne ds = .tup ds := by
      cases ds with
      | nil => rfl
      | cons d ds =>
        cases ds with
        | nil => simp at hlen; omega
        | cons d' ds => rfl
    rw [hr]
    exact Rel.mk_tup (by simpa using h2)
mutual
def Frz (S : St) : D → D → Prop
  | .own n ver, d' => (∃ m f, d' = .ro m f ∧ S.n0 ≤ n ∧ ∃ E sz r, S.get n = some (.row ver E sz r) ∧ r.length = m ∧ ∀ i, i < m → r.getD i [] = (f i).map D.c) ∨ (d' = .own n ver ∧ n < S.n0)
  | .agg l, d' => ∃ l', d' = .agg l' ∧ FrzL S l l'
  | .tup l, d' => ∃ l', d' = .tup l' ∧ FrzL S l l'
  | d, d' => d' = d.coe
def FrzL (S : St) : List D → List D → Prop
  | [], l' => l' = []
  | d :: l, l' => ∃ d' l'', l' = d' :: l'' ∧ Frz S d d' ∧ FrzL S l l''
end
theorem FrzL_len {S : St} : ∀ {l l' : List D}, FrzL S l l' → l'.length = l.length
  | [], l', h => by simp only [FrzL] at h; subst h; rfl
  | d :: l, l', h => by
    simp only [FrzL] at h
    obtain ⟨d', l'', rfl, _, h2⟩ := h
    simp [FrzL_len h2]
theorem FrzL_get {S : St} : ∀ {l l' : List D}, FrzL S l l' → ∀ i, i < l.length → Frz S (l.getD i default) (l'.getD i default)
  | [], l', h, i, hi => by simp at hi
  | d :: l, l', h, i, hi => by
    simp only [FrzL] at h
    obtain ⟨d', l'', rfl, h1, h2⟩ := h
    cases i with
    | zero => simpa using h1
    | succ i => simpa using FrzL_get h2 i (by simpa using hi)
def ZF (S : St) (ρ : Env) (Z : Nat → Prop) : Nat → Prop := fun b => Z b ∨ ∃ n ver E sz r, S.n0 ≤ n ∧ S.get n = some (.row ver E sz r) ∧ (ρ.val n).ownBlock = some b
theorem Rel.frz {K : Ctx} {N : Nat} {ρ : Env} {Z : Nat → Prop} {S : St} {a : Act} {w : World} (hS : SatS K N ρ Z S a w) {d : D} {v : Value} (h : Rel ρ w Z d v) : ∀ {d'}, Frz S d d' → Rel ρ w (ZF S ρ Z) d' v := by
  have hmono : ∀ {d v}, Rel ρ w Z d v → Rel ρ w (ZF S ρ Z) d v := fun h => h.mono (fun _ _ => rfl) (fun _ h => .inl h) (.refl _)
  induction h with
  | @own n ver A l c hl hle hv =>
    intro d' hf
    simp only [Frz] at hf
    rcases hf with ⟨m, f, rfl, hn0, E, sz, r, hg, hm, hfr⟩ | ⟨rfl, _⟩
    · obtain ⟨_, hver, hrows, xs, hown, hrel⟩ := hS.sat.mem.obj n _ hg
      have ev := hv hver.symm
      have hxl := hown.1
      have hsz : ∀ i, i < m → (f i).length = sz := fun i hi => by
        have h1 := hfr i hi
        have h2 : r.getD i [] ∈ r := by
          rw [List.getD_eq_getElem?_getD, List.getElem?_eq_getElem (by omega)]
          exact List.getElem_mem _
        have h3 := hrows _ h2
        rw [h1] at h3
        simpa using h3
      have hel : ∀ i, i < m → ∀ j, j < sz → CRel w (ZF S ρ Z) ((f i).getD j default) (xs.getD (i * sz + j) undef) := fun i hi j hj => by
        have h0 : 0 < sz := by omega
        have hlt : i * sz + j < xs.length := by
          rw [hxl, hm]
          have : i * sz + sz ≤ m * sz := by rw [← Nat.succ_mul]; exact Nat.mul_le_mul_right _ (by omega)
          omega
        have h1 := hrel.at_ _ hlt
        have hd1 : (i * sz + j) / sz = i := by rw [Nat.add_comm, Nat.add_mul_div_right _ _ h0, Nat.div_eq_of_lt hj]; omega
        have hd2 : (i * sz + j) % sz = j := by rw [Nat.add_comm, Nat.add_mul_mod_self_right, Nat.mod_eq_of_lt hj]
        have h2 := hfr i hi
        have hjf : j < (f i).length := by rw [hsz i hi]; exact hj
        rw [List.getD_eq_getElem?_getD, flatten_get h0 _ hrows, hd1, hd2] at h1
        have hri : r[i]? = some ((f i).map D.c) := by
          rw [List.getD_eq_getElem?_getD, List.getElem?_eq_getElem (by omega)] at h2
          simp only [Option.getD_some] at h2
          rw [List.getElem?_eq_getElem (by omega), h2]
        rw [hri] at h1
        simp [hjf] at h1
        simp only [List.getD_eq_getElem?_getD, List.getElem?_eq_getElem hjf, Option.getD_some]
        cases h1 with
        | c h => simpa using h.mono (fun _ _ => rfl) (fun _ h => .inl h)
      rcases hown.2 with ⟨e0, h00⟩ | ⟨g, cap, cur, e0, _, hh, hnc, hcm, hcs, htake⟩
      · rw [e0] at ev
        cases ev
        have : m = 0 := by omega
        subst this
        exact .c (.ro none 0 sz (fun _ _ => undef) (by simp [maxLen]) (Nat.le_refl _) (fun i hi => by omega) (fun h => by omega) (fun ad e => by cases e) (fun i hi => by omega))
      · rw [e0] at ev
        cases ev
        rw [hm]
        refine .c (.ro (some ⟨g, 0, none⟩) c sz (fun i j => xs.getD (i * sz + j) undef) (by omega) (by omega) hsz (fun _ => ⟨_, rfl, .inr ⟨n, ver, E, sz, r, hn0, hg, by rw [e0]; rfl⟩, rfl⟩) (fun ad had i hi j hj => ?_) hel)
        cases had
        have hlt : i * sz + j < xs.length := by
          rw [hxl, hm]
          have : i * sz + sz ≤ m * sz := by rw [← Nat.succ_mul]; exact Nat.mul_le_mul_right _ (by omega)
          omega
        have := hown.cells (g := g) (by rw [e0]; rfl) (i * sz + j) (xs.getD (i * sz + j) undef) (by simp [List.getD_eq_getElem?_getD, hlt])
        rw [Addr.add_lit] at this
        simpa using this
    · exact hmono (.own A l c hl hle hv)
  | @agg l vs h1 h3 i3 =>
    intro d' hf
    simp only [Frz] at hf
    obtain ⟨l', rfl, hL⟩ := hf
    exact .agg (by rw [FrzL_len hL, h1]) (fun i hi => i3 i hi (FrzL_get hL i (by omega)))
  | @tup l vs h1 h3 i3 =>
    intro d' hf
    simp only [Frz] at hf
    obtain ⟨l', rfl, hL⟩ := hf
    exact .tup (by rw [FrzL_len hL, h1]) (fun i hi => i3 i hi (FrzL_get hL i (by omega)))
  | junk v => intro d' hf; simp only [Frz] at hf; subst hf; exact hmono (Rel.coe (.junk v))
  | c h => intro d' hf; simp only [Frz] at hf; subst hf; exact hmono (Rel.coe (.c h))
  | ptr h => intro d' hf; simp only [Frz] at hf; subst hf; exact hmono (Rel.coe (.ptr h))
  | rp b o us hz hc hr => intro d' hf; simp only [Frz] at hf; subst hf; exact hmono (Rel.coe (.rp b o us hz hc hr))
  | rptr p h hle hv => intro d' hf; simp only [Frz] at hf; subst hf; exact hmono (Rel.coe (.rptr p h hle hv))
  | lit A h => intro d' hf; simp only [Frz] at hf; subst hf; exact hmono (Rel.coe (.lit A h))
  | mp h => intro d' hf; simp only [Frz] at hf; subst hf; exact hmono (Rel.coe (.mp h))
  | st x h hle hv => intro d' hf; simp only [Frz] at hf; subst hf; exact hmono (Rel.coe (.st x h hle hv))
  | fn h1 h2 h3 h4 => intro d' hf; simp only [Frz] at hf; subst hf; exact hmono (Rel.coe (.fn h1 h2 h3 h4))
def upO : Option Ob → Option Ob → Prop
  | some (.row v E z l), some (.row v' E' z' l') => v ≤ v' ∧ E = E' ∧ z = z' ∧ l = l'
  | some (.map v ag m es), some (.map v' ag' m' es') => v ≤ v' ∧ ag = ag' ∧ m = m' ∧ es = es'
  | a, b => a = b
def UpH (B H : Heap) : Prop := ∀ n, upO (B n) (H n)
theorem upO_refl (o : Option Ob) : upO o o := by
  cases o with
  | none => rfl
  | some o => cases o <;> simp [upO]
theorem UpH_refl (B : Heap) : UpH B B = True := by simp only [UpH, eq_iff_iff, iff_true]; exact fun n => upO_refl _
theorem UpH.upd {B H : Heap} (h : UpH B H) {n : Nat} {x y : Ob} (hxy : upO (some x) (some y)) : UpH (upd B n (some x)) (Sy.upd H n (some y)) := by
  intro m
  simp only [Sy.upd]
  split
  · exact hxy
  · exact h m
def verO (o : Ob) (d : Nat) : Nat := match o with | .row v _ _ _ => v | .map v _ _ _ => v | _ => d
def verUp (ρ : Env) (H : Heap) (n : Nat) : Nat := match H n with | some o => verO o (ρ.ver n) | none => ρ.ver n
theorem HSat.up {K : Ctx} {ρ : Env} {Z : Nat → Prop} {B H : Heap} {w : World} (h : HSat K ρ Z B w) (hu : UpH B H) :
    ρ.le { ρ with ver := verUp ρ H } ∧ HSat K { ρ with ver := verUp ρ H } Z H w := by
  have hkind : ∀ n o', H n = some o' → ∃ o, B n = some o ∧ upO (some o) (some o') := fun n o' ho' => by
    have := hu n
    rw [ho'] at this
    cases hb : B n with
    | none => rw [hb] at this; cases o' <;> simp [upO] at this
    | some o => rw [hb] at this; exact ⟨o, rfl, this⟩
  have hver : ∀ n, ρ.ver n ≤ verUp ρ H n := fun n => by
    unfold verUp
    cases hn : H n with
    | none => exact Nat.le_refl _
    | some o' =>
      obtain ⟨o, ho, hup⟩ := hkind n o' hn
      have hobj := (h.obj n o ho).2
      cases o <;> cases o' <;> simp only [upO, Option.some.injEq, reduceCtorEq, Ob.at_, verO] at hup hobj ⊢ <;> first | exact Nat.le_refl _ | (have := hobj.1; omega)
  have hle : ρ.le { ρ with ver := verUp ρ H } := ⟨fun _ h => h, fun _ _ => rfl, fun n _ => hver n, fun _ _ _ => rfl⟩
  have hblk : ∀ n o o', upO (some o) (some o') → o'.blk { ρ with ver := verUp ρ H } n = o.blk ρ n := fun n o o' hup => by
    cases o <;> cases o' <;> simp [upO] at hup <;> simp [Ob.blk]
  refine ⟨hle, ⟨h.os, h.tape, h.output, h.size, h.Zmono, h.Zlt, h.same, fun n o' ho' => ?_, fun n o' b ho' hb => ?_, fun n m o1 o2 b h1 h2 b1 b2 => ?_, h.bd⟩⟩
  · obtain ⟨o, ho, hup⟩ := hkind n o' ho'
    obtain ⟨hl, hobj⟩ := h.obj n o ho
    refine ⟨hl, ?_⟩
    have hvn : verUp ρ H n = verO o' (ρ.ver n) := by
      unfold verUp; rw [ho']
    cases o with
    | var cs T =>
      cases o' <;> simp [upO] at hup
      obtain ⟨rfl, rfl⟩ := hup
      obtain ⟨vs, h1, h2⟩ := hobj
      exact ⟨vs, h1, h2.mono (fun _ _ => rfl) (fun _ h => h) hle⟩
    | row v E z l =>
      cases o' <;> simp [upO] at hup
      obtain ⟨h1, rfl, rfl, rfl⟩ := hup
      obtain ⟨hv, hr, xs, ho, hrel⟩ := hobj
      exact ⟨hvn, hr, xs, ho, hrel.mono (fun _ _ => rfl) (fun _ h => h) hle⟩
    | map v ag m es =>
      cases o' <;> simp [upO] at hup
      obtain ⟨h1, rfl, rfl, rfl⟩ := hup
      obtain ⟨hv, ms, ck, k1, k2, k3, k4, k5, k6⟩ := hobj
      exact ⟨hvn, ms, ck, k1, k2, k3, k4, k5.mono (fun _ _ => rfl) (fun _ h => h) hle, k6⟩
    | iter mp v seen =>
      cases o' <;> simp [upO] at hup
      obtain ⟨rfl, rfl, rfl⟩ := hup
      obtain ⟨k1, k2, since, sn, stepped, k3, k4⟩ := hobj
      have := hver mp
      exact ⟨k1, Nat.le_trans k2 this, since, sn, stepped, k3, fun e => k4 (by have e' : v = verUp ρ H mp := e; omega)⟩
  · obtain ⟨o, ho, hup⟩ := hkind n o' ho'
    rw [hblk n o o' hup] at hb
    exact h.own n o b ho hb
  · obtain ⟨p1, q1, r1⟩ := hkind n o1 h1
    obtain ⟨p2, q2, r2⟩ := hkind m o2 h2
    rw [hblk n p1 o1 r1] at b1
    rw [hblk m p2 o2 r2] at b2
    exact h.inj n m p1 p2 b q1 q2 b1 b2
def retQ (P : Program) (fn : Func) (d : D) (H : Heap) (n0 : Nat) : Exit → St → Prop
  | .ret, S | .normal, S => (∃ ds, resL P S fn.results.toList = some ds ∧ Frz S (resOne ds) d) ∧ d.nms n0 ∧ UpH S.B H
  | _, _ => False
def envOf (args : List D) : Nat → D := fun t => args.getD t (.v undef)
theorem CRule.of_body {P : Program} {f : FuncId} {fn : Func} {c : Code} {args : List D} {rd sets : List (Nat × Ob)} {d : D} {N : Nat} (hf : P.funcs[f]? = some fn) (hb : fn.body = some c) (hN : fn.ntmps = N) (hn : args.length ≤ N)
    (h : ∀ (nx : Nat) (H : Heap) (lv : Nat → Prop), (∀ x ∈ rd, H x.1 = some x.2 ∧ x.1 < nx ∧ x.2.nms nx) → D.nmsL nx args → Awp P N c (retQ P fn d (setH H sets) nx) ⟨envOf args, H, nx, [], lv⟩) : CRule P f args rd d { set := sets } := by
  subst hN
  intro K ρ Z H w vs hm hrd _ hargs
  obtain ⟨nx, hnx⟩ := hm.bd
  have hlen := hargs.len
  have hS : SatS K fn.ntmps ρ Z ⟨envOf args, H, nx, [], ρ.live⟩ { tmps := vs.toArray ++ Array.replicate (fn.ntmps - vs.toArray.size) undef, defers := [] } w := by
    refine ⟨⟨by simp; omega, rfl, fun t => ?_, ?_, fun n hl => ⟨fun _ => hl, by simpa using hnx n hl⟩⟩, fun n o ho => ⟨hnx n (hm.obj n o ho).1, Ob.at_nms (hm.obj n o ho).2 hnx⟩⟩
    · show Rel ρ w Z (args.getD t (.v undef)) _
      rcases Nat.lt_or_ge t vs.length with ht | ht
      · have := hargs.at_ t ht
        have ht' : t < args.length := by omega
        simp only [List.getD_eq_getElem?_getD, List.getElem?_eq_getElem ht', List.getElem?_eq_getElem ht, Option.getD_some] at this ⊢
        simpa [Array.getD_eq_getD_getElem?, Array.getElem?_append, ht] using this
      · have ht' : args.length ≤ t := by omega
        have e : (vs.toArray ++ Array.replicate (fn.ntmps - vs.toArray.size) undef).getD t undef = undef := by
          simp only [Array.getD_eq_getD_getElem?, Array.getElem?_append, List.size_toArray]
          rw [if_neg (by omega)]
          rw [Array.getElem?_replicate]
          split <;> rfl
        rw [e, List.getD_eq_getElem?_getD, List.getElem?_eq_none ht']
        exact .c (.v undef)
    · have : (St.get ⟨envOf args, H, nx, [], ρ.live⟩) = H := by
        funext n
        unfold St.get
        split
        · rfl
        · rename_i hge
          cases hH : H n with
          | none => simp
          | some o => exact (hge (hnx n (hm.obj n o hH).1)).elim
      show HSat K ρ Z (St.get ⟨envOf args, H, nx, [], ρ.live⟩) w
      rw [this]
      exact hm
  refine calls_of_wp hf hb (wp_mono (h nx H ρ.live (fun x hx => ⟨hrd x hx, hnx _ (hm.obj _ _ (hrd x hx)).1, Ob.at_nms (hm.obj _ _ (hrd x hx)).2 hnx⟩) (hargs.nms hnx) K ρ Z _ w hS) fun e a' w' hp => ?_)
  obtain ⟨S', ρ', Z', q, e0, e1, hs, hx⟩ := hp
  have fin : ((∃ ds, resL P S' fn.results.toList = some ds ∧ Frz S' (resOne ds) d) ∧ d.nms nx ∧ UpH S'.B (setH H sets)) → a'.defers = [] ∧ ∃ v, (results fn a'.tmps).run P w' = .ok v w' ∧
      (∃ v' ρ'' Z'', Ending.returned v = .returned v' ∧ Rel ρ'' w' Z'' d v' ∧ HSat K ρ'' Z'' (Eff.app { set := sets } H) w' ∧ Ext ρ Z w ρ'' Z'' w' ∧ (∀ n, ρ''.live n → Eff.live { set := sets } ρ.live n)) := by
    rintro ⟨⟨ds, h1, hfz⟩, h2, h3⟩
    obtain ⟨v, r1, r2'⟩ := results_run hs h1
    have r2 := r2'.frz hs hfz
    have hg : ∀ n o, S'.B n = some o → S'.get n = some o ∧ o.nms nx := fun n o ho => by
      obtain ⟨h4, h5⟩ := hs.Bok n o ho
      rw [e0] at h4 h5
      refine ⟨?_, h5⟩
      unfold St.get
      rw [e0, if_pos h4]
      exact ho
    have hm' := hs.sat.mem
    have hcut : HSat K (ρ'.cut nx) (ZF S' ρ' Z') S'.B w' := by
      refine ⟨hm'.os, hm'.tape, hm'.output, hm'.size, fun b hb => .inl (hm'.Zmono b hb), fun b hb => ?_, hm'.same, fun n o ho => ?_, fun n o b ho hb => ?_, fun n m o o' b h4 h5 b1 b2 => ?_, ?_⟩
      · rcases hb with hb | ⟨n, ver, E, sz, r, _, hgr, hbb⟩
        · exact hm'.Zlt b hb
        · exact (hm'.own n _ b hgr hbb).2
      · obtain ⟨g1, g2⟩ := hg n o ho
        obtain ⟨o1, o2⟩ := hm'.obj n o g1
        have h4 := (hs.Bok n o ho).1
        rw [e0] at h4
        exact ⟨⟨o1, h4⟩, Ob.at_cut (Ob.at_mono o2 (fun _ _ => rfl) (fun _ _ => rfl) (fun _ h => .inl h) (.refl _) rfl rfl rfl) g2⟩
      · have hb' : o.blk ρ' n = some b := by cases o <;> exact hb
        have h9 := hm'.own n o b (hg n o ho).1 hb'
        refine ⟨fun hz => ?_, h9.2⟩
        rcases hz with hz | ⟨m, ver, E, sz, r, hm0, hgr, hbb⟩
        · exact h9.1 hz
        · have := hm'.inj n m o _ b (hg n o ho).1 hgr hb' hbb
          have h4 := (hs.Bok n o ho).1
          omega
      · exact hm'.inj n m o o' b (hg n o h4).1 (hg m o' h5).1 (by cases o <;> exact b1) (by cases o' <;> exact b2)
      · exact ⟨nx, fun n hl => hl.2⟩
    obtain ⟨hlu, hup⟩ := hcut.up h3
    refine ⟨hs.sat.defers, v, r1, v, { ρ'.cut nx with ver := verUp (ρ'.cut nx) (setH H sets) }, ZF S' ρ' Z', rfl, (r2.cut h2).mono (fun _ _ => rfl) (fun _ h => h) hlu, ?_,
      ⟨⟨fun n hl => ⟨(hx.le n (hnx n hl) hl).1, hnx n hl⟩, fun n hl => (hx.le n (hnx n hl) hl).2.1, fun n hl => Nat.le_trans (hx.le n (hnx n hl) hl).2.2.1 (hlu.ver n ⟨(hx.le n (hnx n hl) hl).1, hnx n hl⟩), fun n hl e => (hx.le n (hnx n hl) hl).2.2.2 (by
        have a1 := (hx.le n (hnx n hl) hl).2.2.1
        have a2 : ρ'.ver n ≤ verUp (ρ'.cut nx) (setH H sets) n := hlu.ver n ⟨(hx.le n (hnx n hl) hl).1, hnx n hl⟩
        have a3 : verUp (ρ'.cut nx) (setH H sets) n = ρ.ver n := e
        omega)⟩, fun b hb => .inl (hx.mono b hb), hx.same⟩, fun n hl => ?_⟩
    · exact hup
    · have := hs.sat.live n hl.1
      have h4 : n < S'.n0 := by rw [e0]; exact hl.2
      have h5 := this.1 h4
      rw [e1] at h5
      exact .inl h5
  cases e with
  | ret => exact fin q
  | normal => exact fin q
  | exit id => exact q.elim
  | goto l => exact q.elim
  | panic ch => exact q.elim
  | outgrown => exact q.elim
end Go.Sy

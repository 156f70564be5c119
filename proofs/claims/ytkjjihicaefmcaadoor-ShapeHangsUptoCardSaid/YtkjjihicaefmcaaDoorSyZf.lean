/-
  Texts: joined, and made of bytes. Rules for operations that the reckoning leaves open. Plain theorems.
-/
import Derived.Test.YtkjjihicaefmcaaDoorSyZe
import Derived.Laws.BytesArg
set_option linter.unusedVariables false
set_option linter.unusedSimpArgs false
set_option linter.unusedSectionVars false
namespace Go.Sy
open Go Go.RowKit
theorem OpN.val {P : Program} {c : Cx} {op : Op} {σ : Sx} {k : Kx} (x : X) (pre : List (Operand × X)) (hl : isLen op = false) (hs : isStore op = false) (hpre : ∀ p ∈ pre, evX σ.E p.1 = p.2) (hop : ∀ p ∈ pre, p.1 ∈ op.operands.toList)
    (hr : ∀ o : Oper, o.op = op → ORule P o (pre.map fun p => (p.1, p.2.toD c)) [] (x.toD c) .none) (h : k x ([], []) σ) : OpN P c op σ k := by
  refine ⟨fun hc o ho => ⟨pre.map fun p => (p.1, p.2.toD c), [], x.toD c, [], [], hr o ho, fun q hq => ?_, nil_all, nil_all, KD.pure hc x h rfl, fun q hq => ?_, fun _ => ⟨rfl, rfl, rfl⟩, fun _ => ⟨rfl, rfl⟩, fun h => ?_, fun h => ?_⟩⟩
  · obtain ⟨p, hp, rfl⟩ := List.mem_map.1 hq
    rw [ev_toSt, hpre p hp]
  · obtain ⟨p, hp, rfl⟩ := List.mem_map.1 hq
    rw [ho]
    exact hop p hp
  · rw [ho, hl] at h
    cases h
  · rw [ho, hs] at h
    cases h
theorem rule_bytes {P : Program} {o : Oper} {s t e : TypeId} {x : Operand} {dx : D} (ho : o.op = .convert s t x) (hs : tyK P s = .slice e) (he : tyK P e = .int .u8) (ht : tyK P t = .str) (zs : List Int) {n : Nat} {f : Nat → List C}
    (hd : dx.coe = .ro n f) (hn : zs.length = n) (hf : ∀ i, i < n → f i = [.v (.int .u8 (zs.getD i 0))]) : ORule P o [(x, dx)] [] (.v (.string (strOfNums zs))) .none :=
  .stay fun ρ w Z ac hp _ => by
    subst hn
    have hr : Rel ρ w Z (.ro zs.length f) (ac.eval x) := by
      have h2 := (hp (x, dx) (by simp)).coe
      simp only at h2
      rw [hd] at h2
      exact h2
    generalize hv : ac.eval x = v at hr
    have hx : execOp ac.eval o = (do let r ← convert s t v; pure (.value r)) := by simp only [execOp, ho, hv]
    cases hr with
    | c hr =>
      cases hr with
      | ro A cp sz us hm hnc hsz hA hc hr =>
        refine ⟨.string (strOfNums zs), ?_, .c (.v _)⟩
        have run : (convert s t (.slice A zs.length cp)).run P w = .ok (.string (strOfNums zs)) w := by
          rcases Nat.eq_zero_or_pos zs.length with h0 | h0
          · have hz : zs = [] := List.length_eq_zero_iff.1 h0
            subst hz
            cases A with
            | none => exact run_convert_bytes_nil w s e (tyK_slice hs) (tyK_int he) 0 cp t (tyK_str ht)
            | some ad =>
              show (convert s t (.slice (some ad) 0 cp)).run P w = _
              rw [run_convert_bytes_string w s t e _ 0 cp (tyK_slice hs) (tyK_int he) (tyK_str ht)]
              rw [run_bytesToString w ad 0 cp [] (by simp [loadCells, loadCellsFrom, Sem.run_pure])]
              rfl
          · obtain ⟨ad, rfl, hz, hsp⟩ := hA h0
            have hs1 : sz = 1 := by
              have := hsz 0 h0
              rw [hf 0 h0] at this
              simpa using this.symm
            subst hs1
            obtain ⟨b, off, sp⟩ := ad
            have : sp = none := hsp
            subst this
            refine run_convert_bytes_arg w s e (tyK_slice hs) (tyK_int he) b off zs.length cp zs rfl (fun i hi => ?_) t (tyK_str ht)
            have h1 := hc _ rfl i hi 0 (by omega)
            have h2 := hr i hi 0 (by omega)
            simp only [Nat.mul_one, Nat.add_zero] at h1
            rw [h1]
            rw [hf i hi] at h2
            simp only [List.getD_cons_zero] at h2
            generalize us i 0 = u at h2 ⊢
            cases h2
            rfl
        rw [hx, Sem.run_bind, run]
        rfl
def RR.bytes (r : RR) (zs : List Int) : Prop := r.rows = zs.map fun z => [.v (.int .u8 z)]
theorem RR.bytes_get {r : RR} {zs : List Int} (h : r.bytes zs) {i : Nat} (hi : i < r.rows.length) : zs.length = r.rows.length ∧ r.rows.getD i [] = [.v (.int .u8 (zs.getD i 0))] := by
  have h' : r.rows = zs.map fun z => [C.v (.int .u8 z)] := h
  rw [h'] at hi ⊢
  simp only [List.length_map] at hi
  refine ⟨(List.length_map _).symm, ?_⟩
  simp [List.getD_eq_getElem?_getD, hi]
theorem RR.bytes_len {r : RR} {zs : List Int} (h : r.bytes zs) : zs.length = r.rows.length := by
  have h' : r.rows = zs.map fun z => [C.v (.int .u8 z)] := h
  rw [h', List.length_map]
theorem OpN.bytes {P : Program} {c : Cx} {s t e : TypeId} {x : Operand} {σ : Sx} {k : Kx} {r : RR} (zs : List Int) (hs : tyK P s = .slice e) (he : tyK P e = .int .u8) (ht : tyK P t = .str) (hx : evX σ.E x = .ro r ∨ evX σ.E x = .lit r) (hr : r.bytes zs)
    (h : ∀ b, b = strOfNums zs → k (.v (.string b)) ([], []) σ) : OpN P c (.convert s t x) σ k := by
  refine .val (.v (.string (strOfNums zs))) [(x, evX σ.E x)] rfl rfl (fun p hp => by rw [List.mem_singleton.1 hp]) (by simp [Op.operands]) (fun o ho => ?_) (h _ rfl)
  refine rule_bytes (n := r.rows.length) (f := fun i => r.rows.getD i []) ho hs he ht zs ?_ (RR.bytes_len hr) (fun i hi => (RR.bytes_get hr hi).2)
  rcases hx with hx | hx <;> rw [hx] <;> rfl
def chunkX (sz : Nat) : Nat → List X → List (List X)
  | 0, _ => []
  | n + 1, cs => cs.take sz :: chunkX sz n (cs.drop sz)
theorem chunkX_len (sz : Nat) : ∀ (n : Nat) (cs : List X), (chunkX sz n cs).length = n
  | 0, _ => rfl
  | n + 1, cs => by rw [chunkX, List.length_cons, chunkX_len sz n]
theorem chunkX_get (sz : Nat) : ∀ (n : Nat) (cs : List X) (i : Nat), i < n → (chunkX sz n cs)[i]? = some ((cs.drop (i * sz)).take sz)
  | 0, _, i, h => absurd h (Nat.not_lt_zero i)
  | n + 1, cs, 0, _ => by simp [chunkX]
  | n + 1, cs, i + 1, h => by
    rw [chunkX, List.getElem?_cons_succ, chunkX_get sz n (cs.drop sz) i (by omega), List.drop_drop, Nat.succ_mul, Nat.add_comm sz]
theorem rule_asl {P : Program} {o : Oper} {t e : TypeId} {x : Operand} {lo : Option Operand} {n sz l : Nat} {cs : List X} (ho : o.op = .slice t x lo none none) (ht : tyK P t = .arr n e) (hs : tySz P e = some sz) (hz : 0 < sz) (hn : n ≤ maxLen) (hcs : cs.length = n * sz) (hl : l ≤ n)
    (pre : List (Operand × D)) (hlo : (lo = none ∧ l = 0 ∧ pre = []) ∨ ∃ q, lo = some q ∧ pre = [(q, .c (.v (.int .i64 l)))]) :
    ORule P o ((x, .rp (X.toCL cs) 0) :: pre) [] (.c (roL (X.toCLL ((chunkX sz n cs).drop l)))) .none :=
  .stay fun ρ w Z ac hp _ => by
    have hx := hp (x, .rp (X.toCL cs) 0) (by simp)
    simp only at hx
    generalize hv : ac.eval x = v at hx
    cases hx with
    | rp b of us hZ hc hr =>
      have hu := tyK_arr ht
      have e0 : (Instr.sliceAt t (.pointer (some ⟨b, of + 0, none⟩)) (lo.map ac.eval) none none).run P w = .ok (.slice (some (if n = l then ⟨b, of + 0, none⟩ else (⟨b, of + 0, none⟩ : Addr).add (l * sz))) (n - l) (n - l)) w := by
        rcases hlo with ⟨rfl, rfl, rfl⟩ | ⟨q, rfl, rfl⟩
        · simp [Instr.sliceAt, run_underlying hu, Instr.sureAddr, Instr.sliceBounds, tySz_run hs]
        · have hq := (hp (q, .c (.v (.int .i64 l))) (by simp)).inv_v
          simp only at hq
          simp [Instr.sliceAt, run_underlying hu, Instr.sureAddr, Instr.sliceBounds, Instr.sliceBound, tySz_run hs, hq, asIntOf, hl]
      refine ⟨_, by simp only [execOp, ho, hv, Option.map_none]; rw [Sem.run_bind, e0]; rfl, .c ?_⟩
      have hrl : (X.toCLL ((chunkX sz n cs).drop l)).length = n - l := by rw [toCLL_eq, List.length_map, List.length_drop, chunkX_len]
      have hrow : ∀ i, i < n - l → (X.toCLL ((chunkX sz n cs).drop l)).getD i [] = X.toCL ((cs.drop ((l + i) * sz)).take sz) := fun i hi => by
        rw [toCLL_eq, List.getD_eq_getElem?_getD, List.getElem?_map, List.getElem?_drop, chunkX_get sz n cs (l + i) (by omega)]
        rfl
      unfold roL
      rw [hrl]
      have hin : ∀ i, i < n - l → ∀ j, j < sz → (l + i) * sz + j < cs.length := fun i hi j hj => by
        rw [hcs]
        have : (l + i) * sz + sz ≤ n * sz := by rw [← Nat.succ_mul]; exact Nat.mul_le_mul_right _ (by omega)
        omega
      refine .ro _ (n - l) sz (fun i j => us ((l + i) * sz + j)) (by omega) (Nat.le_refl _) (fun i hi => ?_) (fun h => ?_) (fun ad had i hi j hj => ?_) (fun i hi j hj => ?_)
      · rw [hrow i hi, toCL_eq, List.length_map, List.length_take, List.length_drop]
        have := hin i hi (sz - 1) (by omega)
        omega
      · rw [if_neg (by omega)]
        exact ⟨_, rfl, by unfold Addr.add; split <;> exact hZ, by unfold Addr.add; split <;> simp_all⟩
      · rw [if_neg (by omega)] at had
        cases had
        have := hc ((l + i) * sz + j) (by rw [toCL_eq, List.length_map]; exact hin i hi j hj)
        rw [Addr.add_lit, Nat.add_zero]
        have e9 : of + l * sz + (i * sz + j) = of + ((l + i) * sz + j) := by rw [Nat.add_mul]; omega
        rw [e9]
        exact this
      · have := hr ((l + i) * sz + j) (by rw [toCL_eq, List.length_map]; exact hin i hi j hj)
        rw [hrow i hi]
        have e9 : (X.toCL ((cs.drop ((l + i) * sz)).take sz)).getD j default = (X.toCL cs).getD ((l + i) * sz + j) default := by
          rw [toCL_eq, toCL_eq]
          simp only [List.getD_eq_getElem?_getD, List.getElem?_map, List.getElem?_take, if_pos hj, List.getElem?_drop]
        rw [e9]
        exact this
theorem OpN.asl {P : Program} {c : Cx} {t e : TypeId} {x : Operand} {lo : Option Operand} {σ : Sx} {k : Kx} {n sz : Nat} {cs : List X} (l : Nat) (hx : evX σ.E x = .rp cs 0) (ht : tyK P t = .arr n e) (hs : tySz P e = some sz) (hz : 0 < sz) (hn : n ≤ maxLen) (hcs : cs.length = n * sz) (hl : l ≤ n)
    (hlo : (lo = none ∧ l = 0) ∨ ∃ q, lo = some q ∧ evX σ.E q = .i .i64 (.lit l)) (h : k (.ro (.lits ((chunkX sz n cs).drop l))) ([], []) σ) : OpN P c (.slice t x lo none none) σ k := by
  rcases hlo with ⟨rfl, rfl⟩ | ⟨q, rfl, hq⟩
  · exact .val (.ro (.lits ((chunkX sz n cs).drop 0))) [(x, .rp cs 0)] rfl rfl (fun p hp => by rw [List.mem_singleton.1 hp]; exact hx) (by simp [Op.operands]) (fun o ho => rule_asl ho ht hs hz hn hcs hl [] (.inl ⟨rfl, rfl, rfl⟩)) h
  · refine .val (.ro (.lits ((chunkX sz n cs).drop l))) [(x, .rp cs 0), (q, .i .i64 (.lit l))] rfl rfl (fun p hp => ?_) (by simp [Op.operands]) (fun o ho => rule_asl ho ht hs hz hn hcs hl [(q, .c (.v (.int .i64 l)))] (.inr ⟨q, rfl, rfl⟩)) h
    rcases List.mem_cons.1 hp with rfl | hp
    · exact hx
    · rw [List.mem_singleton.1 hp]; exact hq
theorem rule_app0 {P : Program} {o : Oper} {s x : Operand} {t e sz : Nat} {f g : Nat → List C} {dx : D} (ho : o.op = .call { callee := .builtin .append, args := #[s, x], argTypes := #[t, t] }) (ht : tyK P t = .slice e) (hs : tySz P e = some sz)
    (hd : dx.coe = .ro 0 g) : ORule P o [(s, .lit 0 f), (x, dx)] [] (.lit 0 f) .none :=
  .stay fun ρ w Z ac hp _ => by
    have h1 := hp (s, .lit 0 f) (by simp)
    have h2 := (hp (x, dx) (by simp)).coe
    simp only at h1 h2
    rw [hd] at h2
    refine ⟨ac.eval s, ?_, h1⟩
    generalize hv : ac.eval s = v at h1
    generalize hu : ac.eval x = u at h2
    cases h1 with
    | lit A h1 =>
      cases h2 with
      | c h2 =>
        cases h2 with
        | ro B c sz' us hn hnc hsz hA hc hr =>
          have hfc : (Builtin.firstCells sz 0 (.slice B 0 c)).run P w = .ok #[] w := by
            cases B <;> simp [Builtin.firstCells, loadCells, loadCellsFrom]
          have e1 : (Builtin.append_ #[t, t] o.type #[.slice A 0 0, .slice B 0 c]).run P w = .ok (.slice A 0 0) w := by
            cases A <;> simp [Builtin.append_, run_underlying (tyK_slice ht), tySz_run hs, Builtin.lenOf, hfc, storeCells]
          simp only [execOp, ho, resolve, List.map_toArray, List.map_cons, List.map_nil, hv, hu, Sem.run_bind, Sem.run_pure, Result.andThen_ok, invoke, builtin, e1]
theorem OpN.app0 {P : Program} {c : Cx} {s x : Operand} {t e sz : Nat} {σ : Sx} {k : Kx} {T : List (TypeId × TI)} {o : Ar} {q : RR} (ho : o = Ar.real) (hT : TOk P T) (hs : evX σ.E s = .lit (.lits [])) (hx : (evX σ.E x).coe = .ro q) (ht : tyK P t = .slice e) (hz : tySz P e = some sz)
    (h0 : q.rows.length = 0 → k (.lit (.lits [])) ([], []) σ) (h1 : 0 < q.rows.length → exOp o P c T (.call { callee := .builtin .append, args := #[s, x], argTypes := #[t, t] }) σ k) : OpN P c (.call { callee := .builtin .append, args := #[s, x], argTypes := #[t, t] }) σ k := by
  rcases Nat.eq_zero_or_pos q.rows.length with h | h
  · refine .val (.lit (.lits [])) [(s, .lit (.lits [])), (x, evX σ.E x)] rfl rfl (fun p hp => ?_) (fun p hp => ?_) (fun o ho => ?_) (h0 h)
    · rcases List.mem_cons.1 hp with rfl | hp
      · exact hs
      · rw [List.mem_singleton.1 hp]
    · show p.1 ∈ Array.toList _
      simp only [Op.operands, Call.operands]
      rcases List.mem_cons.1 hp with rfl | hp
      · simp
      · rw [List.mem_singleton.1 hp]; simp
    · refine rule_app0 (g := fun i => q.rows.getD i []) ho ht hz ?_
      show (X.toD c (evX σ.E x)).coe = _
      rw [← toD_coe, hx]
      simp only [X.toD]
      unfold roL
      rw [h]
  · have h1 := h1 h
    rw [ho] at h1
    refine ⟨fun hc o' ho' => ?_⟩
    have key : ∀ op, o'.op = op → exOp Ar.real P c T op σ k → LocOk P o' (σ.toSt c) (KD c σ k) := by
      rintro _ rfl h
      exact step_loc (o := o') (exOp_sound hT hc h)
    exact key _ ho' h1
end Go.Sy

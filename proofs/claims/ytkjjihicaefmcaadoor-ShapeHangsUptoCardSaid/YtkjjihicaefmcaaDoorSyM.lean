/-
  Maps: keys, entries, the operations on them. Plain theorems.
-/
import Derived.Test.YtkjjihicaefmcaaDoorSyL
set_option linter.unusedVariables false
set_option linter.unusedSectionVars false
set_option linter.unusedSimpArgs false
namespace Go.Sy
open Go Go.RowKit
def mfind (es : List (List Int × D)) (k : List Int) : Option Nat := es.findIdx? fun x => x.1 == k
def mget : List (List Int × D) → List Int → Option D
  | [], _ => none
  | (k', d) :: es, k => if k' = k then some d else mget es k
def mput : List (List Int × D) → List Int → D → List (List Int × D)
  | [], k, d => [(k, d)]
  | (k', d') :: es, k, d => if k' = k then (k', d) :: es else (k', d') :: mput es k d
def mdel : List (List Int × D) → List Int → List (List Int × D)
  | [], _ => []
  | (k', d') :: es, k => if k' = k then es else (k', d') :: mdel es k
def mplace : List (List Int × D) → List Int → Nat
  | [], _ => 0
  | (k', _) :: es, k => if k' = k then 0 else mplace es k + 1
theorem mfind_none {k : List Int} : ∀ {es : List (List Int × D)}, mfind es k = none → mget es k = none ∧ (∀ d, mput es k d = es ++ [(k, d)]) ∧ mdel es k = es ∧ mplace es k = es.length
  | [], _ => by simp [mget, mput, mdel, mplace]
  | (k', d') :: es, h => by
    unfold mfind at h
    rw [List.findIdx?_cons] at h
    split at h
    · cases h
    · rename_i hne
      have hne' : ¬ k' = k := by simpa using hne
      obtain ⟨h1, h2, h3, h4⟩ := mfind_none (es := es) (k := k) (by simpa [mfind] using h)
      simp [mget, mput, mdel, mplace, hne', h1, h2, h3, h4]
theorem mfind_some {k : List Int} : ∀ {es : List (List Int × D)} {j : Nat}, mfind es k = some j → ∃ d, es[j]? = some (k, d) ∧ mget es k = some d ∧ (∀ d, mput es k d = es.set j (k, d)) ∧ mdel es k = es.eraseIdx j ∧ mplace es k = j
  | [], j, h => by simp [mfind] at h
  | (k', d') :: es, j, h => by
    unfold mfind at h
    rw [List.findIdx?_cons] at h
    split at h
    · rename_i he
      have he' : k' = k := by simpa using he
      cases h
      subst he'
      exact ⟨d', by simp [mget, mput, mdel, mplace]⟩
    · rename_i hne
      have hne' : ¬ k' = k := by simpa using hne
      obtain ⟨j', hj', rfl⟩ := Option.map_eq_some_iff.1 h
      obtain ⟨d, h1, h2, h3, h4, h5⟩ := mfind_some (es := es) (k := k) (by simpa [mfind] using hj')
      exact ⟨d, by simpa using h1, by simp [mget, mput, mdel, mplace, hne', h2, h3, h4, h5]⟩
def intsD : List D → Option (List Int)
  | [] => some []
  | .c (.v (.int .i64 a)) :: l => match intsD l with | some r => some (a :: r) | none => none
  | _ => none
def keyD (ag : Bool) (d : D) : Option (List Int) :=
  match ag, d with
  | false, .c (.v (.int .i64 a)) => some [a]
  | true, .agg l => intsD l
  | _, _ => none
theorem intsD_map : ∀ {l : List D} {k : List Int}, intsD l = some k → l = k.map fun a => D.v (.int .i64 a)
  | [], k, h => by simp [intsD] at h; subst h; rfl
  | d :: l, k, h => by
    unfold intsD at h
    split at h
    · simp_all
    · rename_i a l' e
      cases e
      split at h
      · rename_i r hr; cases h; rw [intsD_map hr]; rfl
      · cases h
    · cases h
theorem keyD_val {ρ : Env} {w : World} {Z : Nat → Prop} {ag : Bool} {d : D} {v : Value} {k : List Int} (h : Rel ρ w Z d v) (hk : keyD ag d = some k) : v = kvs ag k := by
  unfold keyD at hk
  split at hk
  · cases hk
    have := h.inv_v
    simp [this, kvs]
  · rename_i l
    obtain ⟨vs, rfl, hr⟩ := h.inv_agg
    rw [intsD_map hk] at hr
    have hlen := hr.len
    simp only [List.length_map, Array.length_toList] at hlen
    simp only [kvs, if_true, Value.agg.injEq]
    apply Array.ext'
    refine List.ext_getElem (by simp [hlen]) (fun i h1 h2 => ?_)
    have := hr.at_ i (by simpa using h1)
    have h3 : i < k.length := by simpa using h2
    simp only [List.getD_eq_getElem?_getD, List.getElem?_map, List.getElem?_eq_getElem h3, Option.map_some, Option.getD_some, List.getElem?_eq_getElem h1] at this
    simpa using this.inv_v
  · cases hk
structure KL (P : Program) (kt : TypeId) (ag : Bool) (m : Nat) : Prop where
  flat : flat P 2 kt = some (List.replicate m .int)
  agg : aggOf P kt = ag
theorem eqC_ints : ∀ {m : Nat} {a b : List Int}, a.length = m → b.length = m → eqC (List.replicate m .int) (a.map (.int .i64)) (b.map (.int .i64)) = some (a == b)
  | 0, [], [], _, _ => rfl
  | m + 1, x :: a, y :: b, h1, h2 => by
    simp only [List.length_cons, Nat.add_right_cancel_iff] at h1 h2
    simp [List.replicate_succ, eqC, leafEq, eqC_ints h1 h2]
  | 0, x :: a, _, h, _ => by simp at h
  | 0, [], y :: b, _, h => by simp at h
  | m + 1, [], _, h, _ => by simp at h
  | m + 1, x :: a, [], _, h => by simp at h
section
variable {P : Program}
theorem kvs_mkV {kt : TypeId} {ag : Bool} {m : Nat} (h : KL P kt ag m) {k : List Int} (hk : k.length = m) : kvs ag k = mkV (aggOf P kt) (k.map (.int .i64)) := by
  rw [h.agg]
  cases hag : ag
  · have hl : m = 1 := by
      obtain ⟨_, _, h1⟩ := flat_under h.flat
      have := h1 (by rw [h.agg, hag])
      simpa using this
    subst hl
    obtain ⟨a, rfl⟩ := List.length_eq_one_iff.1 hk
    simp [kvs, mkV]
  · simp [kvs, mkV]
theorem checkKey_flat (em : Bool) (q : Nat) : ∀ (d : Nat) (t : TypeId) (l : List LK), flat P d t = some l → ∀ xs : List Value, xs.length = l.length → (∀ x ∈ xs, ∃ a, x = .int .i64 a) →
    ∀ w, (Instr.checkKey em (d + q) t (mkV (aggOf P t) xs)).run P w = .ok () w
  | 0, t, l, h => by simp [flat] at h
  | d + 1, t, l, h => by
    intro xs hl hx w
    have IH := checkKey_flat em q d
    rw [show d + 1 + q = (d + q) + 1 from by omega, Instr.checkKey]
    have hf := h
    simp only [flat] at h
    split at h
    · rename_i j hu
      cases h
      obtain ⟨x, rfl⟩ := List.length_eq_one_iff.1 hl
      obtain ⟨a, rfl⟩ := hx x (by simp)
      have ha : aggOf P t = false := by simp [aggOf, hu]
      simp [run_underlying hu, mkV, ha]
    · rename_i hu
      cases h
      obtain ⟨x, rfl⟩ := List.length_eq_one_iff.1 hl
      obtain ⟨a, rfl⟩ := hx x (by simp)
      have ha : aggOf P t = false := by simp [aggOf, hu]
      simp [run_underlying hu, mkV, ha]
    · rename_i hu
      cases h
      obtain ⟨x, rfl⟩ := List.length_eq_one_iff.1 hl
      obtain ⟨a, rfl⟩ := hx x (by simp)
      have ha : aggOf P t = false := by simp [aggOf, hu]
      simp [run_underlying hu, mkV, ha]
    · rename_i n e hu
      split at h
      · rename_i l0 hl0
        split at h
        · rename_i hc
          cases h
          have ha : aggOf P t = true := by simp [aggOf, hu]
          obtain ⟨i, hi⟩ := Option.isSome_iff_exists.1 hc.2
          obtain ⟨kd, hue, h1⟩ := flat_under hl0
          rw [ha]
          simp only [mkV, if_true, Sem.run_bind, run_underlying hu, Result.andThen_ok]
          simp only [Std.Legacy.Range.forIn_eq_forIn_range', Std.Legacy.Range.size, Nat.sub_zero, Nat.add_one_sub_one, Nat.div_one]
          have hall : ∀ j ∈ List.range' 0 n, j < n := fun j hj => by simpa using List.mem_range'.1 hj
          have hlen : xs.length = n * l0.length := by simpa using hl
          generalize List.range' 0 n = is at hall
          induction is with
          | nil => simp
          | cons j is ih =>
            have hj := hall j (by simp)
            have hb : j * l0.length + l0.length ≤ n * l0.length := by rw [← Nat.succ_mul]; exact Nat.mul_le_mul_right _ hj
            have p1 := run_partF hue hc.2 (cs := xs.toArray) (off := j * P.cellsOf e) (fun h => by rw [hc.1]; exact h1 h) (by rw [hc.1]; simp; omega) w
            have p2 := IH e l0 hl0 ((xs.drop (j * l0.length)).take l0.length) (by simp; omega) (fun x hx' => hx x (List.mem_of_mem_drop (List.mem_of_mem_take hx'))) w
            rw [hc.1] at p1
            simp only [List.forIn_cons, Sem.run_bind, run_sizeOf w hi, hc.1, Result.andThen_ok, p1, p2, Sem.run_pure]
            exact ih (fun y hy => hall y (by simp [hy]))
        · cases h
      · cases h
    · rename_i fs hu
      split at h
      · cases h
      · have ha : aggOf P t = true := by simp [aggOf, hu]
        rw [ha]
        simp only [mkV, if_true, Sem.run_bind, run_underlying hu, Result.andThen_ok]
        rw [← Array.forIn_toList]
        have key : ∀ (L : List Field) (off : Nat) (ls : List LK), flatFs P (flat P d) L off = some ls → off + ls.length = xs.length →
            (forIn L PUnit.unit (fun f (_ : PUnit) => do
              if f.name ≠ "_" then do
                let a ← part f.type xs.toArray f.offset
                let r ← Instr.checkKey em (d + q) f.type a
                pure (ForInStep.yield PUnit.unit)
              else pure (ForInStep.yield PUnit.unit)) : Sem PUnit).run P w = .ok PUnit.unit w := by
          intro L
          induction L with
          | nil => intro off ls _ _; simp
          | cons f L ih =>
            intro off ls hfl hoff
            simp only [flatFs] at hfl
            split at hfl
            · cases hfl
            · rename_i hn
              split at hfl
              · rename_i l1 ls1 hl1 hls
                split at hfl
                · rename_i hc
                  obtain ⟨c1, c2, c3⟩ := hc
                  cases hfl
                  have hn' : f.name ≠ "_" := by simpa using hn
                  obtain ⟨kd, hue, h1⟩ := flat_under hl1
                  simp only [List.length_append] at hoff
                  have p1 := run_partF hue c3 (cs := xs.toArray) (off := f.offset) (fun h => by rw [c2]; exact h1 h) (by rw [c2, c1]; simp; omega) w
                  have p2 := IH f.type l1 hl1 ((xs.drop off).take l1.length) (by simp; omega) (fun x hx' => hx x (List.mem_of_mem_drop (List.mem_of_mem_take hx'))) w
                  rw [c2] at hls p1
                  rw [c1] at p1
                  rw [List.forIn_cons]
                  simp only [Sem.run_bind, if_pos hn', c1, Result.andThen_ok, p1, p2, Sem.run_pure]
                  have := ih (off + l1.length) ls1 hls (by omega)
                  exact this
                · cases hfl
              · cases hfl
        have := key fs.toList 0 l h (by rw [hl]; simp)
        rw [this]
        rfl
    · cases h
theorem KL.check {kt : TypeId} {ag : Bool} {m : Nat} (h : KL P kt ag m) {k : List Int} (hk : k.length = m) (em : Bool) (w : World) : (Instr.checkKey em 10000 kt (kvs ag k)).run P w = .ok () w := by
  rw [kvs_mkV h hk]
  exact checkKey_flat em 9998 2 kt _ h.flat _ (by simp [hk]) (fun x hx => by obtain ⟨a, _, rfl⟩ := List.mem_map.1 hx; exact ⟨a, rfl⟩) w
theorem KL.eq {kt : TypeId} {ag : Bool} {m : Nat} (h : KL P kt ag m) {k k' : List Int} (hk : k.length = m) (hk' : k'.length = m) (w : World) : (Op.equal kt (kvs ag k) (kvs ag k')).run P w = .ok (k == k') w := by
  rw [kvs_mkV h hk, kvs_mkV h hk']
  exact equalIn_flat 9998 2 kt _ h.flat _ _ _ (eqC_ints hk hk') w
def fnd (es : List (List Int × D)) (k : List Int) (ms : List MapEntry) : Option (Nat × Value) := (mfind es k).map fun j => (j, ((ms[j]?).map (·.val)).getD undef)
theorem fnd_cons {x : List Int × D} {es : List (List Int × D)} {k : List Int} {e : MapEntry} {ms : List MapEntry} : fnd (x :: es) k (e :: ms) = if x.1 == k then some (0, e.val) else (fnd es k ms).map fun p => (p.1 + 1, p.2) := by
  unfold fnd mfind
  rw [List.findIdx?_cons]
  split
  · simp
  · simp [Option.map_map, Function.comp_def]
theorem findAsking_of {kt : TypeId} {ag : Bool} {m : Nat} (h : KL P kt ag m) {k : List Int} (hk : k.length = m) (w : World) : ∀ (es : List (List Int × D)) (ms : List MapEntry) (i : Nat), ms.map (·.key) = es.map (fun x => kvs ag x.1) → (∀ x ∈ es, x.1.length = m) →
    (Instr.findAsking kt (kvs ag k) ms i).run P w = .ok ((fnd es k ms).map fun p => (i + p.1, p.2)) w
  | [], [], i, _, _ => by simp [Instr.findAsking, fnd, mfind]
  | [], e :: ms, i, hm, _ => by simp at hm
  | x :: es, [], i, hm, _ => by simp at hm
  | x :: es, e :: ms, i, hm, hl => by
    simp only [List.map_cons, List.cons.injEq] at hm
    have heq := h.eq hk (hl x (by simp)) w
    rw [Instr.findAsking, fnd_cons]
    simp only [Sem.run_bind, hm.1, heq, Result.andThen_ok]
    by_cases hx : k = x.1
    · subst hx
      simp
    · have h1 : (k == x.1) = false := by simpa using hx
      have h2 : (x.1 == k) = false := by simpa using fun e => hx e.symm
      rw [h1, h2]
      simp only [Bool.false_eq_true, if_false]
      rw [findAsking_of h hk w es ms (i + 1) hm.2 (fun y hy => hl y (by simp [hy]))]
      cases fnd es k ms <;> simp; omega
theorem findNow_int {q : IntKind} {k : List Int} {a : Int} (hk : k = [a]) : ∀ (es : List (List Int × D)) (ms : List MapEntry) (i : Nat), ms.map (·.key) = es.map (fun x => kvs false x.1) → (∀ x ∈ es, x.1.length = 1) →
    Instr.findNow (.int q) (.int .i64 a) ms i = some ((fnd es k ms).map fun p => (i + p.1, p.2))
  | [], [], i, _, _ => by simp [Instr.findNow, fnd, mfind]
  | [], e :: ms, i, hm, _ => by simp at hm
  | x :: es, [], i, hm, _ => by simp at hm
  | x :: es, e :: ms, i, hm, hl => by
    simp only [List.map_cons, List.cons.injEq] at hm
    obtain ⟨b, hb⟩ := List.length_eq_one_iff.1 (hl x (by simp))
    have hkey : e.key = .int .i64 b := by rw [hm.1, hb]; simp [kvs]
    rw [Instr.findNow, fnd_cons, hkey]
    simp only [Instr.sameNow, if_true]
    by_cases hx : a = b
    · subst hx
      simp [hk, hb]
    · have h1 : (a == b) = false := by simpa using hx
      have h2 : (x.1 == k) = false := by rw [hb, hk]; simpa using fun e => hx e.symm
      rw [h1, h2]
      simp only [Bool.false_eq_true, if_false]
      rw [findNow_int hk es ms (i + 1) hm.2 (fun y hy => hl y (by simp [hy]))]
      cases fnd es k ms <;> simp; omega
theorem KL.find {kt : TypeId} {ag : Bool} {m : Nat} (h : KL P kt ag m) {k : List Int} (hk : k.length = m) {es : List (List Int × D)} {ms : List MapEntry} (hm : ms.map (·.key) = es.map (fun x => kvs ag x.1)) (hl : ∀ x ∈ es, x.1.length = m) (w : World) :
    (Instr.findKey kt (kvs ag k) ms).run P w = .ok (fnd es k ms) w := by
  have hask := findAsking_of h hk w es ms 0 hm hl
  have hid : ((fnd es k ms).map fun p => (0 + p.1, p.2)) = fnd es k ms := by cases fnd es k ms <;> simp
  rw [hid] at hask
  obtain ⟨kd, hu, h1⟩ := flat_under h.flat
  unfold Instr.findKey
  simp only [Sem.run_bind, run_underlying hu, Result.andThen_ok]
  cases hag : ag
  · subst hag
    have hm1 : m = 1 := by have := h1 h.agg; simpa using this
    subst hm1
    obtain ⟨a, rfl⟩ := List.length_eq_one_iff.1 hk
    have hkd : ∃ q, kd = .int q := by
      have hf : Sy.flat P (1 + 1) kt = _ := h.flat
      rw [Sy.flat, hu] at hf
      have ha := h.agg
      unfold aggOf at ha
      rw [hu] at ha
      cases kd <;> first | exact ⟨_, rfl⟩ | (simp at ha; done) | (simp [List.replicate] at hf; done)
    obtain ⟨q, rfl⟩ := hkd
    have hn := findNow_int (q := q) (k := [a]) rfl es ms 0 hm hl
    rw [hid] at hn
    have : kvs false [a] = .int .i64 a := by simp [kvs]
    rw [this, hn]
    rfl
  · subst hag
    have hkd : (∃ n e, kd = .array n e) ∨ ∃ fs, kd = .struct fs := by
      have ha := h.agg
      unfold aggOf at ha
      rw [hu] at ha
      cases kd <;> simp_all
    have hs : ∀ a b, Instr.sameNow kd a b = none := by
      intro a b
      rcases hkd with ⟨n, e, rfl⟩ | ⟨fs, rfl⟩ <;> rfl
    cases ms with
    | nil =>
      cases es with
      | nil => simp [Instr.findNow, fnd, mfind]
      | cons x es => simp at hm
    | cons e ms =>
      have : Instr.findNow kd (kvs true k) (e :: ms) 0 = none := by simp [Instr.findNow, hs]
      rw [this]
      exact hask
theorem sameBits_kvs (ag : Bool) (k : List Int) (n : Nat) (hn : 0 < n) : Instr.sameBits (n + 1) (kvs ag k) (kvs ag k) = true := by
  cases ag
  · simp [kvs, Instr.sameBits]
  · simp only [kvs, if_true, Instr.sameBits]
    simp only [beq_self_eq_true, Bool.true_and, List.all_eq_true]
    intro p hp
    obtain ⟨a, b⟩ := p
    obtain ⟨i, hi, he⟩ := List.getElem_of_mem hp
    simp at he
    obtain ⟨n, rfl⟩ : ∃ q, n = q + 1 := ⟨n - 1, by omega⟩
    rw [← he.1, ← he.2]
    simp [Instr.sameBits]
theorem stays_kvs (ag : Bool) (k : List Int) (w : World) : (Instr.keyThatStays (kvs ag k) (kvs ag k)).run P w = .ok (kvs ag k) w := by
  simp [Instr.keyThatStays, sameBits_kvs ag k 9999 (by omega)]
end
end Go.Sy

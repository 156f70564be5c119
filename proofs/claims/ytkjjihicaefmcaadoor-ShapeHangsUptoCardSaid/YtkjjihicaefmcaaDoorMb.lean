/-
  Sorting and compacting of whole numbers of 64 bits: contracts. Plain theorems.
-/
import Derived.Test.YtkjjihicaefmcaaDoorSyLd
import Derived.Test.YtkjjihicaefmcaaDoorSySp
import Derived.Shelf.SortM.Plain
import Derived.Shelf.SortM.SortNone
import Derived.Shelf.SlicesG.CompactI
import Derived.RangeFuncBox
import Derived.RangeFuncLeaves
import Derived.Shelf.Abstract
import Derived.WalkKit
import Derived.OwnWalkIn
import Derived.TacticsInMore
import Derived.LoopNIn
import Derived.LoopIn
import Derived.Maps.AppendAt
import Derived.Sort.OwnSortedInts
import Derived.Test.YtkjjihicaefmcaaDoorSySq
import Derived.Test.YtkjjihicaefmcaaDoorSyZg
import Derived.Test.YtkjjihicaefmcaaDoorSyVa
import Derived.Test.YtkjjihicaefmcaaDoorMa
import Derived.Test.YtkjjihicaefmcaaDoorSyZf
set_option linter.unusedSimpArgs false
set_option linter.unusedSectionVars false
set_option maxRecDepth 100000
set_option linter.unusedVariables false
set_option maxHeartbeats 8000000
namespace Go.Proofs.YtkjjihicaefmcaaDoor.Sy
open Go Go.Sy Go.Proofs Go.Proofs.YtkjjihicaefmcaaDoor
theorem sortsI64 : SortsI Tryd.prog 59 := ⟨fun w => AnyM.slices_Sort_int_none lsort64 none 0 w, fun blk off cap zs w h1 h2 h3 => AnyM.slices_Sort_int lsort64 blk off cap zs w h1 h2 h3⟩
theorem compactsI64 : CompactsI Tryd.prog 50 := ⟨fun A cap w => AnyG.slices_Compact_int_empty lcomp64 A cap w, fun blk off cap zs w h1 h2 h3 => AnyG.slices_Compact_int lcomp64 blk off cap zs w h1 h2 h3⟩
end Go.Proofs.YtkjjihicaefmcaaDoor.Sy
namespace Go.Proofs.YtkjjihicaefmcaaDoor.Sy
open Go Go.Proofs Go.RowKit Go.Shelf Go.Sort Go.Proofs.YtkjjihicaefmcaaDoor
attribute [local go_sem] Oper.semAt_some
def upto {α : Type} (f : Nat → α) (k : Nat) : List α := (List.range k).map f
theorem upto_succ {α : Type} (f : Nat → α) (k : Nat) : upto f (k + 1) = upto f k ++ [f k] := by simp [upto, List.range_succ]
theorem upto_length {α : Type} (f : Nat → α) (k : Nat) : (upto f k).length = k := by simp [upto]
theorem upto_all (zs : List Int) : upto (fun j => zs[j]?.getD 0) zs.length = zs := by
  apply List.ext_getElem
  · simp [upto]
  · intro i h1 h2
    simp [upto, h2]
theorem upto_take (zs : List Int) {k : Nat} (hk : k ≤ zs.length) : upto (fun j => zs[j]?.getD 0) k = zs.take k := by
  apply List.ext_getElem
  · simp [upto, hk]
  · intro i h1 h2
    have : i < zs.length := by simp [upto] at h1; omega
    simp [upto, this]
set_option maxRecDepth 100000 in
set_option maxHeartbeats 2000000 in
theorem values1_in (n : Nat) (hn : 1 ≤ n) (l Bs n₀ b off len cap : Nat) (zs : List Int) (hreach : len * 8 ≤ 140737488351232) (hb : b < n₀) (J Jx : List Int → World → Prop)
    (hY : ∀ pre x W, J pre W → pre.length < len → YieldAt Fence.wide (n - 1) Tryd.prog l #[.int .i64 x] W fun e W' =>
      (e = .returned (.bool true) ∧ J (pre ++ [x]) W' ∧ Below n₀ W W') ∨ (e = .returned (.bool false) ∧ Jx (pre ++ [x]) W'))
    (W : World) (hBs : W.cell? ⟨Bs, 0, none⟩ = some (.slice (some ⟨b, off, none⟩) len cap)) (hc : ∀ j, j < len → W.cell? ⟨b, off + j, none⟩ = some (.int .i64 (zs[j]?.getD 0))) (h0 : J [] W) :
    CallsIn Fence.wide n Tryd.prog 60 #[.func (.yield l) #[] #[], .pointer (some ⟨Bs, 0, none⟩)] W fun e W' => (∃ v, e = .returned v) ∧
      ((∃ ys, ys = upto (fun j => zs[j]?.getD 0) len ∧ J ys W') ∨ (∃ pre, (∃ k, k ≤ len ∧ pre = upto (fun j => zs[j]?.getD 0) k) ∧ Jx pre W')) := by
  refine callsIn_of_wp Tryd.func60 rfl trivial ?_ rfl
  simp only [Tryd.ntmps60, List.size_toArray, List.length_cons, List.length_nil, Nat.reduceAdd, Nat.reduceSub, Array.replicate_succ, Array.replicate_zero, List.push_toArray, List.append_toArray, List.nil_append, List.cons_append]
  gi_wp2
  gi_loopw [7] (fun i wr => ∃ k : Nat, k ≤ len ∧ i = .int .i64 k ∧ J (upto (fun j => zs[j]?.getD 0) k) wr ∧ Below n₀ W wr)
    (fun i _ => len - (intOf i).toNat)
  case atStart => exact ⟨0, Nat.zero_le _, rfl, h0, Below.refl _ _⟩
  case round =>
    obtain ⟨k, hk, rfl, hJs, hnx⟩ := hrel
    have hcx : k < len → wr.cell? ⟨b, off + k, none⟩ = some (.int .i64 (zs[k]?.getD 0)) := fun h => (hnx.cell (p := ⟨b, off + k, none⟩) hb).trans (hc k h)
    by_cases hlt : k < len
    · obtain ⟨fn, tmps, assign, body, hy, hR⟩ := hY _ (zs[k]?.getD 0) wr hJs (by rw [upto_length]; exact hlt)
      have hcx' := hcx hlt
      gi_wp2
      refine hR.mono ?_
      rintro e W3 (⟨rfl, hJ3, hk3⟩ | ⟨rfl, hJx3⟩)
      · gi_wp2
        go_roundw
        case rel => exact ⟨k + 1, by omega, by simp, by rw [upto_succ]; exact hJ3, hnx.trans hk3⟩
        case measure => simp [intOf]; omega
      · gi_wp2
        refine bodyPost_ret (results_none rfl _ _ _) rfl ?_
        exact ⟨⟨_, rfl⟩, .inr ⟨_, ⟨k + 1, by omega, (upto_succ _ _).symm⟩, hJx3⟩⟩
    · obtain rfl : k = len := by omega
      gi_wp2
      go_end0
      exact ⟨⟨_, rfl⟩, .inl ⟨_, rfl, hJs⟩⟩
def IntsAt (n₀ : Nat) (W : World) (sv : Value) (zs : List Int) : Prop :=
  ((∃ A c, sv = .slice A 0 c) ∧ zs = []) ∨ ∃ b off cap, sv = .slice (some ⟨b, off, none⟩) zs.length cap ∧ b < n₀ ∧ ∀ j, j < zs.length → W.cell? ⟨b, off + j, none⟩ = some (.int .i64 (zs[j]?.getD 0))
theorem IntsAt.below {n₀ : Nat} {A B : World} (h : Below n₀ A B) {sv : Value} {zs : List Int} : IntsAt n₀ A sv zs → IntsAt n₀ B sv zs
  | .inl e => .inl e
  | .inr ⟨b, off, cap, e, hb, hc⟩ => .inr ⟨b, off, cap, e, hb, fun j hj => (h.cell (p := ⟨b, off + j, none⟩) hb).trans (hc j hj)⟩
set_option maxRecDepth 100000 in
set_option maxHeartbeats 1000000 in
theorem values1_nil_in (n : Nat) (l Bs : Nat) (A : Option Addr) (c : Nat) (J : List Int → World → Prop) (W : World) (hBs : W.cell? ⟨Bs, 0, none⟩ = some (.slice A 0 c)) (h0 : J [] W) :
    CallsIn Fence.wide n Tryd.prog 60 #[.func (.yield l) #[] #[], .pointer (some ⟨Bs, 0, none⟩)] W fun e W' => (∃ v, e = .returned v) ∧ J [] W' := by
  refine callsIn_of_wp Tryd.func60 rfl trivial ?_ rfl
  simp only [Tryd.ntmps60, List.size_toArray, List.length_cons, List.length_nil, Nat.reduceAdd, Nat.reduceSub, Array.replicate_succ, Array.replicate_zero, List.push_toArray, List.append_toArray, List.nil_append, List.cons_append]
  gi_wp2
  gi_loopw [7] (fun i wr => i = .int .i64 0 ∧ J [] wr) (fun _ _ => 0)
  case atStart => exact ⟨rfl, h0⟩
  case round =>
    obtain ⟨rfl, hJs⟩ := hrel
    gi_wp2
    go_end0
    exact ⟨⟨_, rfl⟩, hJs⟩
theorem values_stops (n : Nat) (hn : 1 ≤ n) (Bs n₀ : Nat) (sv : Value) (zs : List Int) (hreach : zs.length * 8 ≤ 140737488351232) (w : World) (hBs : Bs < w.heap.size) (hn₀ : n₀ ≤ w.heap.size)
    (hc : w.cell? ⟨Bs, 0, none⟩ = some sv) (hI : IntsAt n₀ w sv zs) :
    SeqStopsK Fence.wide n Tryd.prog 60 #[.pointer (some ⟨Bs, 0, none⟩)] (fun x : Int => #[Value.int .i64 x]) (Below n₀) (fun ys => ys = zs) (fun pre => pre <+: zs) zs.length w := fun l J Jx W hW _ _ hY h0 => by
  have hc' := (hW.cell (p := ⟨Bs, 0, none⟩) hBs).trans hc
  rcases hI.below (hW.mono hn₀) with ⟨⟨A, c, rfl⟩, rfl⟩ | ⟨b, off, cap, rfl, hb, hcs⟩
  · exact (values1_nil_in n l Bs A c J W hc' h0).mono fun e W' ⟨he, hj⟩ => ⟨he, .inl ⟨_, rfl, hj⟩⟩
  · refine (values1_in n hn l Bs n₀ b off zs.length cap zs hreach hb J Jx hY W hc' hcs h0).mono ?_
    rintro e W' ⟨he, ⟨ys, rfl, hj⟩ | ⟨pre, ⟨k, hk, rfl⟩, hj⟩⟩
    · exact ⟨he, .inl ⟨_, upto_all zs, hj⟩⟩
    · exact ⟨he, .inr ⟨_, by rw [upto_take zs hk]; exact List.take_prefix _ _, hj⟩⟩
theorem info_i64 : (Tryd.prog.info? 2).map (fun i => (i.zero, i.size, i.bytes)) = some (some (.int .i64 0), 1, 8) := by kernel_rfl
set_option maxRecDepth 100000 in
set_option maxHeartbeats 2000000 in
theorem appendSeq_in (n : Nat) (hn : 3 ≤ n) (Bs : Nat) (sv : Value) (zs : List Int) (hlen : zs.length ≤ 1048576) (w : World) (hBs : Bs < w.heap.size) (hc : w.cell? ⟨Bs, 0, none⟩ = some sv) (hI : IntsAt w.heap.size w sv zs) :
    CallsIn Fence.wide n Tryd.prog 69 #[.slice none 0 0, .func (.func 60) #[] #[.pointer (some ⟨Bs, 0, none⟩)]] w fun e W' => ∃ v, e = .returned v ∧ W'.ownsRow w.heap.size 2 1 v zs.length (zs.map (Value.int .i64)) ∧ Below w.heap.size w W' := by
  have h1 : 1 ≤ n := by omega
  have hm : maxLen = 9223372036854775807 := rfl
  obtain ⟨i0, hi, hz0, hz1, hz2⟩ := info_parts info_i64
  refine callsIn_of_wp_marks Tryd.func69 rfl trivial ?_ rfl
  simp only [Tryd.ntmps69, List.size_toArray, List.length_cons, List.length_nil, Nat.reduceAdd, Nat.reduceSub, Array.replicate_succ, Array.replicate_zero, List.push_toArray, List.append_toArray, List.nil_append, List.cons_append]
  gi_wp2
  have bO := Boxed.new w 22 (.slice none 0 0)
  have hB0 : Below w.heap.size w (w.alloc (.cells #[.slice none 0 0] 22)) := (Below.refl _ w).alloc (Nat.le_refl _) _
  refine wpIn_rangeFunc_ownG rfl h1 (gf := 60) (lb := #[.pointer (some ⟨Bs, 0, none⟩)]) rfl trivial (enters_of Tryd.func60 (by kernel_rfl) rfl)
    (values_stops (n - 1) (by omega) Bs w.heap.size sv zs (by omega) _ (by simp; omega) (by simp) ((hB0.cell (p := ⟨Bs, 0, none⟩) hBs).trans hc) (hI.below hB0)) belowK_t (belowK_b (by simp)) (Below.refl _ _) (fun _ => rfl)
    (fun pre W => (∃ v, Boxed W w.heap.size 22 v ∧ W.ownsRow w.heap.size 2 1 v pre.length (pre.map (Value.int .i64)) ∧ True) ∧ Below w.heap.size w W)
    (fun _ _ _ => False)
    (OwnFrom.and (Own.from (holdsRow_own w.heap.size w.heap.size 22 2 1 (fun pre : List Int => pre.length) (fun pre => pre.map (Value.int .i64)) (fun _ _ => True)) _) (ownFrom_below (Nat.le_refl _) (by simp)))
    (fun _ _ _ _ _ hs _ _ => hs)
    ⟨⟨_, bO, World.ownsRow_nil _ _ _ _, trivial⟩, hB0⟩
    (fun x => { tmps := #[.slice none 0 0, .func (.func 60) #[] #[.pointer (some ⟨Bs, 0, none⟩)], .pointer (some ⟨w.heap.size, 0, none⟩), undef, .slice none 0 0, .int .i64 x, .func (.func 60) #[] #[.pointer (some ⟨Bs, 0, none⟩)], .int .i64 x, undef, undef, undef, undef, undef], defers := [] }) ?assign ?body ?done ?stop
  case assign =>
    intro l x W K hK
    gi_wp2
    exact hK
  case body =>
    rintro l pre x W ⟨⟨v, hv, hrow, _⟩, hB⟩ hlt
    have hc := hv.cell
    gi_wp2_with (gi_at_builtin; refine wpListIn_append_own _ rfl _ _ 22 rfl w.heap.size 2 i0 (.int .i64 0) 1 8 Tryd.underlying22 hi hz0 hz1 hz2 rfl (by decide) _ _ _ rfl (hrow.alloc _) ⟨W.heap.size, 0, none⟩ 1 1 [.int .i64 x] rfl rfl (cell_one_new _ _ _) (by simp [Value.oneCell']) (by omega) (by omega) (by have := hB.size; simp; omega) ?_; intro v' w1 hown' hgrow _; obtain ⟨g', cap', rfl⟩ := ownsRow_succ hown'; obtain ⟨hv1, hv2, hr2, hk2, hb2⟩ := hv.appended (by decide) hrow hB.size (Nat.le_refl _) hown' hgrow; have hc1 := hv1.cell; have hf1 := hv1.frozen)
    exact ⟨hk2.from _, hb2, ⟨_, hv2, by simpa using hr2, trivial⟩, hB.trans hb2⟩
  case done =>
    rintro D ys W hD rfl ⟨⟨v, hv, hrow, _⟩, hB⟩ hK
    have hc := hv.cell
    gi_wp2
    refine ⟨by simp, .inl ⟨_, _, rfl, run_takeDeferred hK, ?_⟩⟩
    exact ⟨_, results_tmp rfl _ _ _, v, rfl, ownsRow_putObj hrow _ hK rfl, hB.trans (belowK_b (w := w) (Nat.le_refl _) W D _ _ (by simp at hD; omega) hK rfl rfl)⟩
  case stop =>
    rintro D c pre W _ _ h _
    exact h.elim
end Go.Proofs.YtkjjihicaefmcaaDoor.Sy
namespace Go.Proofs.YtkjjihicaefmcaaDoor.Sy
open Go Go.Sy Go.Proofs Go.RowKit Go.Shelf Go.Sort Go.Proofs.YtkjjihicaefmcaaDoor
attribute [local go_sem] Oper.semAt_some
set_option maxRecDepth 100000 in
set_option maxHeartbeats 2000000 in
theorem sorted64_in (Bs : Nat) (sv : Value) (zs : List Int) (hlen : zs.length ≤ 1048576) (w : World) (hBs : Bs < w.heap.size) (hc : w.cell? ⟨Bs, 0, none⟩ = some sv) (hI : IntsAt w.heap.size w sv zs) :
    Calls Tryd.prog 48 #[.func (.func 60) #[] #[.pointer (some ⟨Bs, 0, none⟩)]] w fun e W' => ∃ v, e = .returned v ∧ W'.ownsRow w.heap.size 2 1 v (sortI zs).length ((sortI zs).map (Value.int .i64)) ∧ Below w.heap.size w W' := by
  have cC5 : CallsIn Fence.wide 5 Tryd.prog 58 #[.func (.func 60) #[] #[.pointer (some ⟨Bs, 0, none⟩)]] w fun e W' => ∃ v, e = .returned v ∧ W'.ownsRow w.heap.size 2 1 v zs.length (zs.map (Value.int .i64)) ∧ Below w.heap.size w W' := by
    have cA := appendSeq_in 4 (by omega) Bs sv zs hlen w hBs hc hI
    have hfA : Fence.wide.fn 69 := trivial
    refine callsIn_of_wp Tryd.func58 rfl trivial ?_ rfl
    simp only [Tryd.ntmps58, List.size_toArray, List.length_cons, List.length_nil, Nat.reduceAdd, Nat.reduceSub, Array.replicate_succ, Array.replicate_zero, List.push_toArray, List.append_toArray, List.nil_append, List.cons_append]
    gi_wp2_with (gi_at_call 69; refine cA.mono ?_; rintro e w' ⟨v, rfl, hrow, hb⟩)
    go_ret
    exact ⟨v, rfl, hrow, hb⟩
  have hm : maxLen = 9223372036854775807 := rfl
  have hfC : Fence.wide.fn 58 := trivial
  have hfS : Fence.wide.fn 59 := trivial
  refine (callsIn_wide (n := 6)).1 ?_
  refine callsIn_of_wp Tryd.func48 rfl trivial ?_ rfl
  simp only [Tryd.ntmps48, List.size_toArray, List.length_cons, List.length_nil, Nat.reduceAdd, Nat.reduceSub, Array.replicate_succ, Array.replicate_zero, List.push_toArray, List.append_toArray, List.nil_append, List.cons_append]
  gi_wp2_with (gi_at_call 58; refine cC5.mono ?_; rintro e W ⟨v, rfl, hrow, hb⟩)
  rcases hrow.2 with ⟨rfl, hz⟩ | ⟨gb, cap, cur, rfl, hbase, hgb, r1, r2, r3, r4⟩
  · have hss : zs = [] := List.eq_nil_of_length_eq_zero hz
    subst hss
    have cS : CallsIn Fence.wide 5 Tryd.prog 59 #[.slice none 0 0] W fun e w' => e = .returned (.tuple #[]) ∧ w' = W := callsIn_wide.2 (sortsI64.1 W)
    gi_wp2_with (gi_at_call 59; refine cS.mono ?_; rintro e w' ⟨rfl, rfl⟩)
    go_ret
    exact ⟨_, rfl, by simpa [sortI] using hrow, hb⟩
  · have hH : Holds (Value.int .i64) W gb 0 zs.toArray := holds_of_blockI hgb (by simpa using r4)
    have hgl : gb < W.heap.size := (Array.getElem?_eq_some_iff.1 hgb).1
    have cS := callsIn_wide (n := 5).2 (sortsI64.2 gb 0 cap zs W hH hgl (by omega))
    gi_wp2_with (gi_at_call 59; refine cS.mono ?_; rintro e w' ⟨rfl, nn, os, rfl⟩)
    go_ret
    refine ⟨_, rfl, ?_, hb.grown (grownBy_sortedI _) hb.size (fun j hj => by cases hj; exact hbase)⟩
    have h9 := ownsRow_sortedI (n := nn) (os := os) (sortI_len zs) hbase hgb r1 r2 r3
    rw [sortI_len]
    exact h9
end Go.Proofs.YtkjjihicaefmcaaDoor.Sy
namespace Go.Proofs.YtkjjihicaefmcaaDoor.Sy
open Go Go.Sy Go.Proofs Go.RowKit Go.Sort Go.Proofs.YtkjjihicaefmcaaDoor
theorem toD_ints {o : Ar} (ho : o = Ar.real) (c : Cx) (l : List Int) : X.toD c (.ro (SL o Go.Sy.encI l)) = .c (roL (l.map fun x => [C.v (.int .i64 x)])) := by
  simp only [X.toD, rows_SL o ho]
  rfl
theorem rel_ints {ρ : Env} {w : World} {Z : Nat → Prop} {l : List Int} {v : Value} (h : Rel ρ w Z (.c (roL (l.map fun x => [C.v (.int .i64 x)]))) v) : Rel ρ w Z (D.ro l.length fun i => [.v (.int .i64 (l.getD i 0))]) v := by
  unfold roL at h
  rw [List.length_map] at h
  refine rel_ro_ext h fun i hi => ?_
  simp [hi]
theorem rel_ints' {ρ : Env} {w : World} {Z : Nat → Prop} {l : List Int} {v : Value} (h : Rel ρ w Z (D.ro l.length fun i => [.v (.int .i64 (l.getD i 0))]) v) : Rel ρ w Z (.c (roL (l.map fun x => [C.v (.int .i64 x)]))) v := by
  unfold roL
  rw [List.length_map]
  refine rel_ro_ext h fun i hi => ?_
  simp [hi]
theorem x_Sorted64 (o : Ar) (ho : o = Ar.real) (l : List Int) (hl : l.length ≤ 1048576) :
    XC Tryd.prog 48 [.fn (.func 60) [] [.ptr (.out 0) 0]] [.var [.ro (SL o Go.Sy.encI l)] 22] (.ro (SL o Go.Sy.encI (sortI l))) [.var [.ro (SL o Go.Sy.encI l)] 22] := by
  intro c h1 h2
  match hc : c.ons, h2 with
  | [n], _ =>
    have e2 : X.toDL c [.fn (.func 60) [] [.ptr (.out 0) 0]] = [.fn (.func 60) [] [.ptr n 0]] := by
      simp only [X.toDL, X.toD, Nm.at, hc]
      rfl
    have e3 : OX.toOb c (.var [.ro (SL o Go.Sy.encI l)] 22) = .var [.c (roL (l.map fun x => [C.v (.int .i64 x)]))] 22 := by
      simp only [OX.toOb, X.toDL, toD_ints ho]
    simp only [List.map_cons, List.map_nil, e3, hc, List.zip_cons_cons, List.zip_nil_right, e2, toD_ints ho]
    intro K ρ Z H w vs hS hrd hf hargs
    obtain ⟨v, vs', rfl, hv, hnil⟩ := hargs.inv_cons
    obtain rfl := hnil.inv_nil
    have hH : H n = some (.var [.c (roL (l.map fun x => [C.v (.int .i64 x)]))] 22) := hrd (n, _) (by simp)
    obtain ⟨hlive, cells, hheap, hrel⟩ := hS.obj _ _ hH
    obtain ⟨sv, rest, hcs, hsv, hrest⟩ := hrel.inv_cons
    have hrest0 := hrest.inv_nil
    subst hrest0
    cases hv with
    | @fn f first caps fs vs h1 h2 h3 h4 =>
      have hfs : fs = #[] := Array.size_eq_zero_iff.1 h1.symm
      subst hfs
      have hvs : vs.size = 1 := h2.symm
      have h5 := (h4 0 (by omega)).inv_ptr
      obtain ⟨a, rfl⟩ : ∃ a, vs = #[a] := by
        obtain ⟨l⟩ := vs
        match l, hvs with
        | [a], _ => exact ⟨a, rfl⟩
      have ha : a = .pointer (some ⟨ρ.blk n, 0, none⟩) := h5.1
      subst ha
      have hcell : w.cell? ⟨ρ.blk n, 0, none⟩ = some sv := by
        rw [cell_of hheap, ← Array.getElem?_toList, hcs]
        rfl
      have hblk := (hS.own n _ (ρ.blk n) hH rfl).2
      have hints := ints_at hS (rel_ints hsv)
      refine (sorted64_in (ρ.blk n) sv l hl w hblk hcell hints).mono fun en w' => ?_
      rintro ⟨v, rfl, hown, hb⟩
      obtain ⟨hx, hm⟩ := hS.below hb
      have hr : Rel ρ w' (fun b => Z b ∨ (w.heap.size ≤ b ∧ b < w'.heap.size)) (D.ro (sortI l).length fun i => [.v (.int .i64 ((sortI l).getD i 0))]) v := rel_ownInts hown (by rw [sortI_len]; exact hl)
      refine ⟨v, ρ, _, rfl, rel_ints' hr, ?_, hx, fun m hm => .inl hm⟩
      have e9 : Eff.app { set := [(n, .var [.c (roL (l.map fun x => [C.v (.int .i64 x)]))] 22)] } H = H := by
        funext m
        show upd H n _ m = H m
        by_cases e : m = n
        · subst e
          rw [upd_same, hH]
        · rw [upd_ne _ _ _ _ e]
      rw [e9]
      exact hm
end Go.Proofs.YtkjjihicaefmcaaDoor.Sy
namespace Go.Proofs.YtkjjihicaefmcaaDoor.Sy
open Go Go.Sy Go.Proofs.YtkjjihicaefmcaaDoor Go.RowKit
theorem clone64_0 (A : Option Addr) (c : Nat) (w : World) : Calls Tryd.prog 29 #[.slice A 0 c] w fun e w' => ∃ A' c', e = .returned (.slice A' 0 c') ∧ (w' = w ∨ ∃ x, w' = w.alloc x) := by
  have h : Tryd.prog.underlying 22 = some (.slice 2) := by kernel_rfl
  have h1 := run_eq_nil0 h A c
  cases A with
  | none =>
    go_enter Tryd.func29, Tryd.ntmps29
    go_wp2
    go_ret
    exact ⟨_, _, rfl, .inl rfl⟩
  | some ad =>
    go_enter Tryd.func29, Tryd.ntmps29
    go_wp2
    go_ret
    exact ⟨_, _, rfl, .inr ⟨_, rfl⟩⟩
theorem compact64_0 (A : Option Addr) (c : Nat) (w : World) : Calls Tryd.prog 50 #[.slice A 0 c] w fun e w' => ∃ A' c', e = .returned (.slice A' 0 c') ∧ (w' = w ∨ ∃ x, w' = w.alloc x) :=
  (compactsI64.1 A c w).mono fun e w' ⟨h1, h2⟩ => ⟨A, c, h1, .inl h2⟩
theorem fits_I (o : Ar) (ho : o = Ar.real) (v : List Int) : (SL o Go.Sy.encI v).fits 1 := by
  intro row hr
  rw [rows_SL o ho] at hr
  obtain ⟨a, _, rfl⟩ := List.mem_map.1 hr
  exact ⟨rfl, rfl⟩
def twiceR (l : List Int) : Bool := decide ((cpcI (sortI l)).length < (sortI l).length)
theorem call_values {P : Program} (hP : P = Tryd.prog) {o : Ar} (ho : o = Ar.real) {c : Cx} {E : List (Nat × X)} {O : List OX} {k : X → Sx → Prop} (l : List Int)
    (h : k (.fn (.func 60) [] [.ptr (.loc 0) 0]) ⟨E, [some (.var [.ro (SL o Go.Sy.encI l)] 22)], O⟩) : CallI P c 49 [.ro (SL o Go.Sy.encI l)] ⟨E, [], O⟩ k := by
  have hm : P.follows .mixedOrders = true := hP ▸ mixed
  (refine CallI.inlK ([]) [.ro (SL o Go.Sy.encI l)] [] [] ho hP Tryd.func49 rfl rfl Tryd.ntmps49 mixed (T := tl49) tk49 (by kernel_rfl) (by simp) rfl rfl rfl (by rfl) rfl rfl trivial ?_; intro c2 K2 hK2; cbv)
  have hT := True.intro
  repeat' (first | (refine Br.mk (fun hb => ?_) (fun hb => ?_) <;> ((try rw [ho] at hb); (try dsimp only [Ar.real, IX.vo] at hb); (try simp only [QSyVa] at hb); (try simp only [QBo, beq_iff_eq, beq_eq_false_iff_ne, ne_eq] at hb))) | (refine StopN.mk ?_; cbv) | (refine hK _ _ ?_) | (refine NeedT.mk ?_ ?_))
  refine hK2 _ _ _ rfl rfl rfl rfl rfl ?_
  exact h
theorem x_twice (l : List Int) (hl : l.length ≤ 1048576) : XC Tryd.prog 23 [.ro (SL Ar.real Go.Sy.encI l)] [] (xb (twiceR l)) [] := by
  have hS := fun o ho => x_Sorted64 o ho l hl
  have hr : twiceR l = decide ((cpcI (sortI l)).length < (sortI l).length) := rfl
  have hsl := sortI_len l
  have hcl := cpcI_len (sortI l)
  generalize twiceR l = r at *
  generalize sortI l = s at *
  rcases Nat.eq_zero_or_pos s.length with h0 | h0
  · have hs0 : s = [] := List.length_eq_zero_iff.1 h0
    subst hs0
    have hq := XC.empty2 clone64_0
    have hq2 := XC.empty2 compact64_0
    (refine XC.of_body ([]) Tryd.func23 rfl Tryd.ntmps23 mixed (T := tl23) tk23 (by kernel_rfl) (by simp) rfl rfl rfl rfl rfl ?_; rintro o ho P hP c K hK; have hm : P.follows .mixedOrders = true := hP ▸ mixed; have hT : TOk P tl23 := hP ▸ tk23; (try rw [← ho]); cbv; (repeat (refine StopN.mk ?_; cbv)))
    have hS := hS o ho
    refine call_values hP ho l ?_
    cbv
    repeat' (first | (refine Br.mk (fun hb => ?_) (fun hb => ?_) <;> ((try rw [ho] at hb); (try dsimp only [Ar.real, IX.vo] at hb); (try simp only [QSyVa] at hb); (try simp only [QBo, beq_iff_eq, beq_eq_false_iff_ne, ne_eq] at hb))) | (refine StopN.mk ?_; cbv) | ((first | refine CallI.objs [.loc 0] hP hS fn48 rfl rfl rfl rfl (by rfl) rfl rfl rfl rfl (by rfl) ⟨⟨_, rfl, rfl⟩, trivial⟩ ?_ | refine CallI.pure hP hq fn29 rfl rfl (by rw [ho]; rfl) ?_ | refine CallI.pure hP hq2 fn50 rfl rfl rfl ?_); cbv) | (refine hK _ _ ?_) | (refine NeedT.mk ?_ ?_))
    rw [hr, decide_eq_false (p := (cpcI []).length < ([] : List Int).length) (Nat.not_lt_zero _), ho]
    exact .b rfl
  · (refine XC.of_body ([]) Tryd.func23 rfl Tryd.ntmps23 mixed (T := tl23) tk23 (by kernel_rfl) (by simp) rfl rfl rfl rfl rfl ?_; rintro o ho P hP c K hK; have hm : P.follows .mixedOrders = true := hP ▸ mixed; have hT : TOk P tl23 := hP ▸ tk23; (try rw [← ho]); cbv; (repeat (refine StopN.mk ?_; cbv)))
    have hS := hS o ho
    have hc := fun v => XC.cpcI compactsI64 o ho v 2 s (by omega)
    generalize cpcI s = cs at *
    refine call_values hP ho l ?_
    cbv
    repeat' (first | (refine Br.mk (fun hb => ?_) (fun hb => ?_) <;> ((try rw [ho] at hb); (try dsimp only [Ar.real, IX.vo] at hb); (try simp only [QSyVa] at hb); (try simp only [QBo, beq_iff_eq, beq_eq_false_iff_ne, ne_eq] at hb))) | (refine StopN.mk ?_; cbv) | ((first | refine CallI.objs [.loc 0] hP hS fn48 rfl rfl rfl rfl (by rfl) rfl rfl rfl rfl (by rfl) ⟨⟨_, rfl, rfl⟩, trivial⟩ ?_); cbv) | (refine CallI.pure hP (x_Clone64 _ ‹_›) fn29 (by first | rfl | (rw [ho]; try rfl)) (by rfl) (by first | rfl | (rw [ho]; try rfl)) ?_; (try rw [← ho]); cbv) | (refine hK _ _ ?_) | (refine NeedT.mk ?_ ?_))
    (refine CallI.inlK ([]) [.ro (SL o Go.Sy.encI s)] [] [] ho hP Tryd.func29 rfl rfl Tryd.ntmps29 mixed (T := tl29) tk29 (by kernel_rfl) (by simp) rfl rfl rfl (by rfl) rfl rfl trivial ?_; intro c2 K2 hK2; cbv)
    have hT9 := True.intro
    repeat' (first | (refine Br.mk (fun hb => ?_) (fun hb => ?_) <;> ((try rw [ho] at hb); (try dsimp only [Ar.real, IX.vo] at hb); (try simp only [QSyVa] at hb); (try simp only [QBo, beq_iff_eq, beq_eq_false_iff_ne, ne_eq] at hb))) | (refine StopN.mk ?_; cbv) | (refine hK _ _ ?_) | (refine NeedT.mk ?_ ?_))
    · ((try clear hR3); (try clear hR2); (try clear hR); (try clear hK); (try simp only [ncCast] at *); (try simp only [castI_eq] at *); (try rw [ho]); (try dsimp only [Ar.real, IX.vo, IX.val, BX.val, IX.toN]); (try simp only [QSyVa]); (try simp only [decide_eq_true_eq]); (all_goals (repeat rw [wrap_i64 (by omega) (by omega)])); (all_goals (first | omega | (simp only [Int.ofNat_eq_natCast]; omega))))
    have hr0 : 0 < (SL o Go.Sy.encI s).rows.length := by rw [rows_SL o ho, List.length_map]; exact h0
    refine OpN.app0 ho (T := tl29) (hP ▸ tk29) rfl rfl (by rw [hP]; exact tok22.k) (by rw [hP]; exact tok2.sz) (fun h => absurd h (Nat.ne_of_gt hr0)) (fun _ => ?_)
    cbv
    repeat' (first | (refine Br.mk (fun hb => ?_) (fun hb => ?_) <;> ((try rw [ho] at hb); (try dsimp only [Ar.real, IX.vo] at hb); (try simp only [QSyVa] at hb); (try simp only [QBo, beq_iff_eq, beq_eq_false_iff_ne, ne_eq] at hb))) | (refine StopN.mk ?_; cbv) | (refine hK _ _ ?_) | (refine NeedT.mk ?_ ?_) | (refine NeedP.mk (fits_I o ho s) ?_))
    any_goals (((try clear hR3); (try clear hR2); (try clear hR); (try clear hK); (try simp only [ncCast] at *); (try simp only [castI_eq] at *); (try rw [ho]); (try dsimp only [Ar.real, IX.vo, IX.val, BX.val, IX.toN]); (try simp only [QSyVa]); (try simp only [decide_eq_true_eq]); (all_goals (repeat rw [wrap_i64 (by omega) (by omega)])); (all_goals (first | omega | (simp only [Int.ofNat_eq_natCast]; omega)))); done)
    refine hK2 _ _ _ rfl rfl rfl rfl rfl ?_
    cbv
    repeat' (first | (refine Br.mk (fun hb => ?_) (fun hb => ?_) <;> ((try rw [ho] at hb); (try dsimp only [Ar.real, IX.vo] at hb); (try simp only [QSyVa] at hb); (try simp only [QBo, beq_iff_eq, beq_eq_false_iff_ne, ne_eq] at hb))) | (refine StopN.mk ?_; cbv) | ((first | (refine FrzN.done ?_; refine CallI.objs [.loc 1] hP (hc 1) fn50 rfl rfl rfl rfl (by rfl) rfl rfl rfl rfl (by rfl) ⟨⟨_, rfl, rfl⟩, trivial⟩ ?_)); cbv) | (refine hK _ _ ?_) | (refine NeedT.mk ?_ ?_))
    any_goals (((try clear hR3); (try clear hR2); (try clear hR); (try clear hK); (try simp only [ncCast] at *); (try simp only [castI_eq] at *); (try rw [ho]); (try dsimp only [Ar.real, IX.vo, IX.val, BX.val, IX.toN]); (try simp only [QSyVa]); (try simp only [decide_eq_true_eq]); (all_goals (repeat rw [wrap_i64 (by omega) (by omega)])); (all_goals (first | omega | (simp only [Int.ofNat_eq_natCast]; omega)))); done)
    refine .b ?_
    rw [hr, ho]
    show ltB (castI cs.length) (castI s.length) = _
    rw [ltB_eq, castI_eq, castI_eq]
    exact decide_eq_decide.2 (by omega)
end Go.Proofs.YtkjjihicaefmcaaDoor.Sy
namespace Go.Proofs.YtkjjihicaefmcaaDoor.Sy
open Go Go.Sy Go.Proofs.YtkjjihicaefmcaaDoor
theorem cpcI_nodup (l : List Int) : (cpcI (sortI l)).Nodup := (cpcI_up (sortI_up l)).imp fun h => Int.ne_of_lt h
theorem nodup_len : ∀ {l m : List Int}, l.Nodup → (∀ x ∈ l, x ∈ m) → l.length ≤ m.length
  | [], m, _, _ => Nat.zero_le _
  | a :: l, m, hn, hs => by
    obtain ⟨h1, h2⟩ := List.nodup_cons.1 hn
    have ha : a ∈ m := hs a (by simp)
    have h3 := nodup_len h2 (m := m.erase a) fun x hx => (List.mem_erase_of_ne (fun e : x = a => h1 (by rw [← e]; exact hx))).2 (hs x (by simp [hx]))
    rw [List.length_erase_of_mem ha] at h3
    have : 0 < m.length := List.length_pos_of_mem ha
    simp only [List.length_cons]
    omega
theorem not_nodup : ∀ {l : List Int}, ¬ l.Nodup → ∃ m : List Int, m.length < l.length ∧ ∀ x ∈ l, x ∈ m
  | [], h => absurd List.nodup_nil h
  | a :: l, h => by
    by_cases ha : a ∈ l
    · exact ⟨l, by simp, fun x hx => (List.mem_cons.1 hx).elim (fun e => e ▸ ha) id⟩
    · obtain ⟨m, h1, h2⟩ := not_nodup (l := l) fun hn => h (List.nodup_cons.2 ⟨ha, hn⟩)
      exact ⟨a :: m, by simpa using h1, fun x hx => by
        rcases List.mem_cons.1 hx with rfl | hx
        · simp
        · exact List.mem_cons_of_mem _ (h2 x hx)⟩
theorem twiceR_iff (l : List Int) : twiceR l = true ↔ ¬ l.Nodup := by
  have h1 := cpcI_nodup l
  have h2 : ∀ x, x ∈ cpcI (sortI l) ↔ x ∈ l := fun x => by rw [cpcI_mem, sortI_mem]
  have h3 : (sortI l).length = l.length := sortI_len l
  unfold twiceR
  rw [decide_eq_true_eq]
  constructor
  · intro h hn
    have h5 := nodup_len hn fun x hx => (h2 x).2 hx
    omega
  · intro h
    obtain ⟨m, h4, h5⟩ := not_nodup h
    have h6 := nodup_len h1 fun x hx => h5 x ((h2 x).1 hx)
    omega
end Go.Proofs.YtkjjihicaefmcaaDoor.Sy
namespace Go.Proofs.YtkjjihicaefmcaaDoor.Sy
open Go Go.Sy Go.Proofs.YtkjjihicaefmcaaDoor
theorem XC_at {P : Program} {f : FuncId} {args args' : List X} {O O' : List OX} {r r' : X} (h : XC P f args O r O') (e : ∀ c, X.toDL c args = X.toDL c args') (hr : ∀ c, r.toD c = r'.toD c) : XC P f args' O r' O' := by
  intro c h1 h2
  rw [← e c, ← hr c]
  exact h c h1 h2
@[reducible] def il (n : Int) : X := .i .i64 (.lit n)
def ixR {α : Type} [Inhabited α] (q : α → Bool) (l : List α) : Int := match nextAt (fun i => q (l.getD i default)) 0 l.length with | some i => i | none => -1
theorem ixR_hit {α : Type} [Inhabited α] {q : α → Bool} {l : List α} {i : Nat} (h1 : i < l.length) (hno : ∀ j, j < i → q (l.getD j default) = false) (h : q (l.getD i default) = true) : ixR q l = i := by
  unfold ixR
  rw [nextAt_some (k := i) (Nat.zero_le _) h1 h (fun j _ hj => hno j hj)]
theorem ixR_none {α : Type} [Inhabited α] {q : α → Bool} {l : List α} (hno : ∀ j, j < l.length → q (l.getD j default) = false) : ixR q l = -1 := by
  unfold ixR
  rw [nextAt_none (fun j _ hj => hno j hj)]
theorem ixR_any {α : Type} [Inhabited α] (q : α → Bool) (l : List α) : decide (0 ≤ ixR q l) = l.any q := by
  unfold ixR
  cases h : nextAt (fun i => q (l.getD i default)) 0 l.length with
  | some i =>
    unfold nextAt at h
    rw [List.find?_range'_eq_some] at h
    obtain ⟨h1, h2, _⟩ := h
    have hi : i < l.length := by simp at h2; omega
    rw [decide_eq_true (show (0 : Int) ≤ ((i : Nat) : Int) by omega)]
    symm
    rw [List.any_eq_true]
    simp only [List.getD_eq_getElem?_getD, List.getElem?_eq_getElem hi, Option.getD_some] at h1
    exact ⟨l[i], List.getElem_mem hi, h1⟩
  | none =>
    unfold nextAt at h
    rw [List.find?_range'_eq_none] at h
    rw [decide_eq_false (show ¬ (0 : Int) ≤ -1 by omega)]
    symm
    rw [List.any_eq_false]
    intro x hx
    obtain ⟨i, hi, rfl⟩ := List.getElem_of_mem hx
    have := h i (Nat.zero_le _) (by omega)
    simpa [List.getD_eq_getElem?_getD, hi] using this
end Go.Proofs.YtkjjihicaefmcaaDoor.Sy
namespace Go.Proofs.YtkjjihicaefmcaaDoor.Sy
open Go Go.Sy Go.Proofs.YtkjjihicaefmcaaDoor
structure Opn where
  kind : Int
  id : Int
  vec : List Part
  deriving DecidableEq
instance : Inhabited Opn := ⟨⟨0, 0, []⟩⟩
def foldAOpn_kind (e : Opn) := (by
  have h : PLift (e.kind = e.kind) := ⟨rfl⟩
  conv at h => arg 1; lhs; delta Opn.kind
  exact h)
theorem foldOpn_kind (e : Opn) : type_of% (foldAOpn_kind e).down := (foldAOpn_kind e).down
def foldAOpn_id (e : Opn) := (by
  have h : PLift (e.id = e.id) := ⟨rfl⟩
  conv at h => arg 1; lhs; delta Opn.id
  exact h)
theorem foldOpn_id (e : Opn) : type_of% (foldAOpn_id e).down := (foldAOpn_id e).down
def foldAOpn_vec (e : Opn) := (by
  have h : PLift (e.vec = e.vec) := ⟨rfl⟩
  conv at h => arg 1; lhs; delta Opn.vec
  exact h)
theorem foldOpn_vec (e : Opn) : type_of% (foldAOpn_vec e).down := (foldAOpn_vec e).down
theorem foldOpn : (⟨0, 0, []⟩ : Opn) = default := rfl
theorem QU1 : type_of% (And.intro @foldOpn (And.intro @foldOpn_kind (And.intro @foldOpn_id (And.intro @foldOpn_vec (And.intro QSyVa (QB7)))))) := And.intro @foldOpn (And.intro @foldOpn_kind (And.intro @foldOpn_id (And.intro @foldOpn_vec (And.intro QSyVa (QB7)))))
def Opn.X (o : Ar) (p : Opn) : List X := [xi p.kind, xi p.id, .ro (SL o Part.X p.vec)]
structure Cal where
  kind : Int
  frame : Int
  agent : Int
  id : Int
  role : Int
  weight : Int
  time : Int
  ids : List Int
  vec : List Part
  ops : List Opn
  deriving DecidableEq
def Cal.X (o : Ar) (c : Cal) : List X := [xi c.kind, xi c.frame, xi c.agent, xi c.id, xi c.role, xi c.weight, xi c.time, .ro (SL o Go.Sy.encI c.ids), .ro (SL o Part.X c.vec), .ro (SL o Opn.X c.ops)]
structure CalOk (c : Cal) : Prop where
  n_ids : c.ids.length ≤ 1048576
  n_vec : c.vec.length ≤ 1048576
  n_ops : c.ops.length ≤ 1048576
  o1 : ∀ i, (c.ops.getD i default).vec.length ≤ 1048576
structure CalFew (c : Cal) : Prop where
  ids : c.ids.length ≤ 60
  vec : c.vec.length ≤ 150
  ops : c.ops.length ≤ 60
  o1 : ∀ i, i < c.ops.length → (c.ops.getD i default).vec.length ≤ 150
noncomputable def fewC (c : Cal) : Bool := @decide (CalFew c) (Classical.propDecidable _)
theorem fewC_t {c : Cal} (h : CalFew c) : fewC c = true := @decide_eq_true _ (Classical.propDecidable _) h
theorem fewC_f {c : Cal} (h : ¬ CalFew c) : fewC c = false := @decide_eq_false _ (Classical.propDecidable _) h
def fieldsP (k : Int) : List Int :=
  if k = 1 then [1, 7] else if k = 2 ∨ k = 14 then [1] else if k = 3 then [0, 3, 4, 5] else if k = 6 then [0, 8, 6, 5] else if k = 7 then [0, 6, 5] else if k = 8 then [2] else
  if k = 11 ∨ k = 12 then [0, 2] else if k = 13 then [5] else if k = 4 ∨ k = 5 ∨ k = 9 ∨ k = 10 then [0] else []
theorem fieldsP_len (k : Int) : (fieldsP k).length ≤ 4 := by
  unfold fieldsP
  repeat' split
  all_goals decide
def hasP (k f : Int) : Bool := inR (fieldsP k) f
theorem fieldsP_out {k : Int} (h : k < 1 ∨ 15 < k) : fieldsP k = [] := by
  unfold fieldsP
  repeat rw [if_neg (by omega)]
theorem fieldsP_in {k f : Int} (h : f ∈ fieldsP k) : 0 ≤ f ∧ f ≤ 8 := by
  by_cases h2 : 1 ≤ k ∧ k ≤ 15
  · obtain ⟨n, rfl⟩ := Int.eq_ofNat_of_zero_le (by omega : 0 ≤ k)
    have : ∀ n : Fin 16, ∀ f ∈ fieldsP n.val, 0 ≤ f ∧ f ≤ 8 := by decide
    exact this ⟨n, by omega⟩ f h
  · rw [fieldsP_out (by omega)] at h
    cases h
theorem fieldsP_nil {k : Int} (h : (fieldsP k).length = 0) : k = 15 ∨ k < 1 ∨ 15 < k := by
  by_cases h2 : 1 ≤ k ∧ k ≤ 15
  · obtain ⟨n, rfl⟩ := Int.eq_ofNat_of_zero_le (by omega : 0 ≤ k)
    have : ∀ n : Fin 16, (fieldsP n.val).length = 0 → n.val = 15 ∨ n.val = 0 := by decide
    have := this ⟨n, by omega⟩ h
    simp only at this
    omega
  · omega
def numN (x : Int) : Bool := decide (1 ≤ x) && decide (x ≤ 9007199254740992)
def someB (v : List Part) : Bool := decide (0 < v.length) && vecRight v
def opB (p : Opn) : Bool := someB p.vec && (decide (p.kind = 1) && numN p.id || decide (p.kind = 2) && (p.vec.all fun x => decide (x.role = 0)) || decide (p.kind = 3) && (p.vec.all fun x => decide (x.role ≠ 0)))
def fieldB (c : Cal) (f : Int) : Bool :=
  if f = 0 then numN c.frame else if f = 1 then numN c.agent else if f = 2 then numN c.id else if f = 3 then decide (1 ≤ c.role) && decide (c.role ≤ 32) else if f = 4 then decide (1 ≤ c.weight) && decide (c.weight ≤ 1000)
  else if f = 5 then decide (c.time = 0) || numN c.time else if f = 6 then (decide (1 ≤ c.ids.length) && decide (c.ids.length ≤ 32)) && c.ids.all numN else if f = 7 then someB c.vec else decide (c.ops.length ≤ 32) && c.ops.all opB
def formB (c : Cal) : Bool := (decide (1 ≤ c.kind) && decide (c.kind ≤ 15)) && (fieldsP c.kind).all (fieldB c)
def launP (l : List Opn) : List Int := (l.filter fun x => decide (x.kind = 1)).map (·.id)
def twiB (c : Cal) : Bool := hasP c.kind 6 && twiceR c.ids || hasP c.kind 8 && twiceR (launP c.ops)
def checkC (c : Cal) : List Int := (if formB c then [] else [1]) ++ (if twiB c then [2] else [])
def bareO (p : Opn) : Opn := ⟨p.kind, if p.kind = 1 then p.id else 0, p.vec⟩
def bareC (c : Cal) : Cal where
  kind := c.kind
  frame := if hasP c.kind 0 then c.frame else 0
  agent := if hasP c.kind 1 then c.agent else 0
  id := if hasP c.kind 2 then c.id else 0
  role := if hasP c.kind 3 then c.role else 0
  weight := if hasP c.kind 4 then c.weight else 0
  time := if hasP c.kind 5 then c.time else 0
  ids := if hasP c.kind 6 then c.ids else []
  vec := if hasP c.kind 7 then c.vec else []
  ops := if hasP c.kind 8 then c.ops.map bareO else []
theorem bareC_ok {c : Cal} (h : CalOk c) : CalOk (bareC c) := by
  refine ⟨?_, ?_, ?_, fun i => ?_⟩
  · unfold bareC; dsimp only; split
    · exact h.n_ids
    · exact Nat.zero_le _
  · unfold bareC; dsimp only; split
    · exact h.n_vec
    · exact Nat.zero_le _
  · unfold bareC; dsimp only; split
    · rw [List.length_map]; exact h.n_ops
    · exact Nat.zero_le _
  · unfold bareC; dsimp only; split
    · have := h.o1 i
      simp only [List.getD_eq_getElem?_getD, List.getElem?_map] at this ⊢
      cases hx : c.ops[i]? with
      | none => exact Nat.zero_le _
      | some y => rw [hx] at this; exact this
    · exact Nat.zero_le _
end Go.Proofs.YtkjjihicaefmcaaDoor.Sy
namespace Go.Proofs.YtkjjihicaefmcaaDoor.Sy
open Go Go.Sy Go.Proofs.YtkjjihicaefmcaaDoor
theorem getD_g {α : Type} [Inhabited α] {l : List α} {i : Nat} (h : i < l.length) : l.getD i default = l[i] := by simp [List.getD_eq_getElem?_getD, h]
theorem nodup_pairs {α : Type} [Inhabited α] {l : List α} : l.Nodup ↔ ∀ i k, i < l.length → k < i → l.getD i default ≠ l.getD k default := by
  unfold List.Nodup
  rw [List.pairwise_iff_getElem]
  constructor
  · intro h i k hi hk
    rw [getD_g hi, getD_g (by omega)]
    exact fun e => h k i (by omega) hi hk e.symm
  · intro h i j hi hj hij
    have := h j i hj hij
    rw [getD_g hi, getD_g hj] at this
    exact fun e => this e.symm
theorem nodup_laun {l : List Opn} : (launP l).Nodup ↔ ∀ i k, i < l.length → k < i → (l.getD i default).kind = 1 → (l.getD k default).kind = 1 → (l.getD i default).id ≠ (l.getD k default).id := by
  unfold launP List.Nodup
  rw [List.pairwise_map, List.pairwise_filter, List.pairwise_iff_getElem]
  constructor
  · intro h i k hi hk
    rw [getD_g hi, getD_g (by omega : k < l.length)]
    intro a b
    exact fun e => h k i (by omega) hi hk (by simpa using b) (by simpa using a) e.symm
  · intro h i j hi hj hij a b
    have := h j i hj hij
    rw [getD_g hi, getD_g hj] at this
    exact fun e => this (by simpa using b) (by simpa using a) e.symm
theorem twi_f1 {c : Cal} {i k : Nat} (h : hasP c.kind 6 = true) (hi : i < c.ids.length) (hk : k < i) (e : c.ids.getD i default = c.ids.getD k default) : twiB c = true := by
  unfold twiB
  rw [h, (twiceR_iff c.ids).2 fun hn => nodup_pairs.1 hn i k hi hk e]
  rfl
theorem twi_f0 {c : Cal} (h1 : hasP c.kind 6 = true → ∀ i k, i < c.ids.length → k < i → c.ids.getD i default ≠ c.ids.getD k default)
    (h2 : hasP c.kind 8 = true → ∀ i k, i < c.ops.length → k < i → (c.ops.getD i default).kind = 1 → (c.ops.getD k default).kind = 1 → (c.ops.getD i default).id ≠ (c.ops.getD k default).id) : twiB c = false := by
  have a1 : hasP c.kind 6 = true → twiceR c.ids = false := fun h => by
    rw [← Bool.not_eq_true]
    exact fun ht => (twiceR_iff c.ids).1 ht (nodup_pairs.2 (h1 h))
  have a2 : hasP c.kind 8 = true → twiceR (launP c.ops) = false := fun h => by
    rw [← Bool.not_eq_true]
    exact fun ht => (twiceR_iff _).1 ht (nodup_laun.2 (h2 h))
  unfold twiB
  cases e1 : hasP c.kind 6 <;> cases e2 : hasP c.kind 8
  · rfl
  · rw [a2 e2]; rfl
  · rw [a1 e1]; rfl
  · rw [a1 e1, a2 e2]; rfl
theorem only_0 (v : List Part) (h : vecRight v = true) : onlyR v [0] = v.filter fun p => decide (p.role = 0) := by
  unfold onlyR
  rw [if_pos h]
  congr 1
  funext p
  exact decide_eq_decide.2 (by simp)
theorem only_lt {v : List Part} (h : vecRight v = true) : (onlyR v [0]).length < v.length ↔ (v.all fun p => decide (p.role = 0)) = false := by
  rw [only_0 v h, List.all_eq_false]
  have := List.length_filter_le (fun p : Part => decide (p.role = 0)) v
  constructor
  · intro hl
    apply Classical.byContradiction
    intro hn
    have : (v.filter fun p => decide (p.role = 0)) = v := List.filter_eq_self.2 fun x hx => by
      apply Classical.byContradiction
      intro h2
      exact hn ⟨x, hx, h2⟩
    rw [this] at hl
    omega
  · rintro ⟨x, hx, h2⟩
    refine Nat.lt_of_le_of_ne this fun e => h2 ?_
    have := List.filter_eq_self.1 (List.Sublist.eq_of_length List.filter_sublist e) x hx
    exact this
theorem only_pos {v : List Part} (h : vecRight v = true) : 0 < (onlyR v [0]).length ↔ (v.all fun p => decide (p.role ≠ 0)) = false := by
  rw [only_0 v h, List.all_eq_false, List.length_pos_iff_exists_mem]
  constructor
  · rintro ⟨x, hx⟩
    obtain ⟨h1, h2⟩ := List.mem_filter.1 hx
    exact ⟨x, h1, by simpa using h2⟩
  · rintro ⟨x, hx, h2⟩
    exact ⟨x, List.mem_filter.2 ⟨hx, by simpa using h2⟩⟩
theorem formB_iff (c : Cal) : formB c = true ↔ (1 ≤ c.kind ∧ c.kind ≤ 15) ∧ ∀ f, 0 ≤ f → f ≤ 8 → hasP c.kind f = true → fieldB c f = true := by
  unfold formB
  simp only [Bool.and_eq_true, decide_eq_true_eq, List.all_eq_true]
  refine and_congr_right fun _ => ?_
  constructor
  · intro h f _ _ hf
    exact h f (of_decide_eq_true hf)
  · intro h f hf
    exact h f (fieldsP_in hf).1 (fieldsP_in hf).2 (decide_eq_true hf)
theorem formB_no {c : Cal} (h : c.kind < 1 ∨ 15 < c.kind) : formB c = false := by
  rw [← Bool.not_eq_true, formB_iff]
  rintro ⟨h2, _⟩
  omega
theorem formB_any {c : Cal} (h : 1 ≤ c.kind ∧ c.kind ≤ 15) : ((fieldsP c.kind).any fun f => !fieldB c f) = !formB c := by
  unfold formB
  rw [decide_eq_true h.1, decide_eq_true h.2, List.all_eq_not_any_not, Bool.true_and, Bool.true_and, Bool.not_not]
end Go.Proofs.YtkjjihicaefmcaaDoor.Sy
namespace Go.Proofs.YtkjjihicaefmcaaDoor.Sy
open Go Go.Sy Go.Proofs.YtkjjihicaefmcaaDoor
theorem x_CalFew (c : Cal) (hc : CalOk c) : XC Tryd.prog 6 [.agg (Cal.X Ar.real c)] [] (xb (fewC c)) [] := by
  have n1 := hc.n_ids
  have n2 := hc.n_vec
  have n3 := hc.n_ops
  have F1 : 60 < c.ids.length → fewC c = false := fun h => fewC_f fun h2 => by have := h2.ids; omega
  have F2 : 150 < c.vec.length → fewC c = false := fun h => fewC_f fun h2 => by have := h2.vec; omega
  have F3 : 60 < c.ops.length → fewC c = false := fun h => fewC_f fun h2 => by have := h2.ops; omega
  have F4 : ∀ i, i < c.ops.length → 150 < (c.ops.getD i default).vec.length → fewC c = false := fun i hi h => fewC_f fun h2 => by have := h2.o1 i hi; omega
  have F0 : c.ids.length ≤ 60 → c.vec.length ≤ 150 → c.ops.length ≤ 60 → (∀ j, j < c.ops.length → (c.ops.getD j default).vec.length ≤ 150) → fewC c = true := fun a1 a2 a3 a4 => fewC_t ⟨a1, a2, a3, a4⟩
  have o1 := hc.o1
  generalize fewC c = r at *
  obtain ⟨k1, k2, k3, k4, k5, k6, k7, ids, vec, ops⟩ := c
  clear hc
  dsimp only at *
  (refine XC.of_body ([]) Tryd.func6 rfl Tryd.ntmps6 mixed (T := tl6) tk6 (by kernel_rfl) (by simp) rfl rfl rfl rfl rfl ?_; rintro o ho P hP c K hK; have hm : P.follows .mixedOrders = true := hP ▸ mixed; have hT : TOk P tl6 := hP ▸ tk6; (try rw [← ho]); cbv; (repeat (refine StopN.mk ?_; cbv)))
  repeat' (first | (refine Br.mk (fun hb => ?_) (fun hb => ?_) <;> ((try rw [ho] at hb); (try dsimp only [Ar.real, IX.vo] at hb); (try simp only [QU1] at hb); (try simp only [QBo, beq_iff_eq, beq_eq_false_iff_ne, ne_eq] at hb))) | (refine StopN.mk ?_; cbv) | (refine hK _ _ ?_) | (refine NeedT.mk ?_ ?_))
  all_goals try first
    | (rw [F1 (by ((try clear hR3); (try clear hR2); (try clear hR); (try clear hK); (try simp only [ncCast] at *); (try simp only [castI_eq] at *)); omega)]; exact .b rfl)
    | (rw [F2 (by ((try clear hR3); (try clear hR2); (try clear hR); (try clear hK); (try simp only [ncCast] at *); (try simp only [castI_eq] at *)); omega)]; exact .b rfl)
    | (rw [F3 (by ((try clear hR3); (try clear hR2); (try clear hR); (try clear hK); (try simp only [ncCast] at *); (try simp only [castI_eq] at *)); omega)]; exact .b rfl)
  have F0 := F0 (by ((try clear hR3); (try clear hR2); (try clear hR); (try clear hK); (try simp only [ncCast] at *); (try simp only [castI_eq] at *)); omega) (by ((try clear hR3); (try clear hR2); (try clear hR); (try clear hK); (try simp only [ncCast] at *); (try simp only [castI_eq] at *)); omega) (by ((try clear hR3); (try clear hR2); (try clear hR); (try clear hK); (try simp only [ncCast] at *); (try simp only [castI_eq] at *)); omega)
  clear F1 F2 F3
  refine LoopN.over (o := o) (D := []) ho hm hT (by kernel_rfl) (fun i : Nat => [(3, xn i)]) (fun _ => []) (fun _ => []) (fun i => i ≤ ops.length ∧ ∀ j, j < i → (ops.getD j default).vec.length ≤ 150) (fun i => ops.length - i) 0 ⟨Nat.zero_le _, fun j hj => by omega⟩ ?_ ?_
  · (refine ⟨?_, ?_, ?_, ?_⟩ <;> cbv <;> repeat' (first | trivial | exact EqX.rfl' | exact EqO.rfl' | apply And.intro | ((try clear hR3); (try clear hR2); (try clear hR); (try clear hK); (try simp only [ncCast] at *); (try simp only [castI_eq] at *); refine EqX.i ?_; (try rw [ho]); (try dsimp only [Ar.real, IX.vo, IX.val, BX.val, IX.toN]); (try simp only [QU1]); (repeat rw [wrap_i64 (by omega) (by omega)]); omega)))
  · rintro i ⟨hi, hno⟩ R hR
    have ei : o.nth ops i = ops.getD i default := by rw [ho, real_nth]
    have f4 := F4 i
    have g1 := o1 i
    have st : (ops.getD i default).vec.length ≤ 150 → ∀ j, j < i + 1 → (ops.getD j default).vec.length ≤ 150 := fun h j hj => by
      rcases Nat.lt_or_ge j i with h3 | h3
      · exact hno j h3
      · obtain rfl : j = i := by omega
        exact h
    clear F4 o1 ei
    cbv
    repeat' (first | (refine Br.mk (fun hb => ?_) (fun hb => ?_) <;> ((try rw [ho] at hb); (try dsimp only [Ar.real, IX.vo] at hb); (try simp only [QU1] at hb); (try simp only [QBo, beq_iff_eq, beq_eq_false_iff_ne, ne_eq] at hb))) | (refine StopN.mk ?_; cbv) | (refine hK _ _ ?_) | (refine NeedT.mk ?_ ?_))
    any_goals (((try clear hR3); (try clear hR2); (try clear hR); (try clear hK); (try simp only [ncCast] at *); (try simp only [castI_eq] at *); (try rw [ho]); (try dsimp only [Ar.real, IX.vo, IX.val, BX.val, IX.toN]); (try simp only [QU1]); (try simp only [decide_eq_true_eq]); (all_goals (repeat rw [wrap_i64 (by omega) (by omega)])); (all_goals (first | omega | (simp only [Int.ofNat_eq_natCast]; omega)))); done)
    · rw [f4 (by ((try clear hR3); (try clear hR2); (try clear hR); (try clear hK); (try simp only [ncCast] at *); (try simp only [castI_eq] at *)); omega) (by ((try clear hR3); (try clear hR2); (try clear hR); (try clear hK); (try simp only [ncCast] at *); (try simp only [castI_eq] at *)); omega)]
      exact .b rfl
    · refine hR _ (i + 1) (by show ops.length - (i + 1) < ops.length - i; ((try clear hR3); (try clear hR2); (try clear hR); (try clear hK); (try simp only [ncCast] at *); (try simp only [castI_eq] at *)); omega) ⟨by show i + 1 ≤ ops.length; ((try clear hR3); (try clear hR2); (try clear hR); (try clear hK); (try simp only [ncCast] at *); (try simp only [castI_eq] at *)); omega, st (by ((try clear hR3); (try clear hR2); (try clear hR); (try clear hK); (try simp only [ncCast] at *); (try simp only [castI_eq] at *)); omega)⟩ ?_
      (refine ⟨?_, ?_, ?_, ?_⟩ <;> cbv <;> repeat' (first | trivial | exact EqX.rfl' | exact EqO.rfl' | apply And.intro | ((try clear hR3); (try clear hR2); (try clear hR); (try clear hK); (try simp only [ncCast] at *); (try simp only [castI_eq] at *); refine EqX.i ?_; (try rw [ho]); (try dsimp only [Ar.real, IX.vo, IX.val, BX.val, IX.toN]); (try simp only [QU1]); (repeat rw [wrap_i64 (by omega) (by omega)]); omega)))
    · obtain rfl : i = ops.length := by ((try clear hR3); (try clear hR2); (try clear hR); (try clear hK); (try simp only [ncCast] at *); (try simp only [castI_eq] at *)); omega
      rw [F0 hno]
      exact .b rfl
theorem x_fields (k : Int) : XC Tryd.prog 19 [xi k] [] (.ro (SL Ar.real Go.Sy.encI (fieldsP k))) [] := by
  have H : ∀ n l, k = n → fieldsP n = l → fieldsP k = l := fun n l h e => by rw [h, e]
  have H0 : k ≠ 1 → k ≠ 2 → k ≠ 14 → k ≠ 3 → k ≠ 6 → k ≠ 7 → k ≠ 8 → k ≠ 11 → k ≠ 12 → k ≠ 13 → k ≠ 4 → k ≠ 5 → k ≠ 9 → k ≠ 10 → fieldsP k = [] := fun _ _ _ _ _ _ _ _ _ _ _ _ _ _ => by
    unfold fieldsP
    repeat rw [if_neg (by omega)]
  generalize fieldsP k = l at *
  (refine XC.of_body ([]) Tryd.func19 rfl Tryd.ntmps19 mixed (T := tl19) tk19 (by kernel_rfl) (by simp) rfl rfl rfl rfl rfl ?_; rintro o ho P hP c K hK; have hm : P.follows .mixedOrders = true := hP ▸ mixed; have hT : TOk P tl19 := hP ▸ tk19; (try rw [← ho]); cbv; (repeat (refine StopN.mk ?_; cbv)))
  repeat' (first | (refine Br.mk (fun hb => ?_) (fun hb => ?_) <;> ((try rw [ho] at hb); (try dsimp only [Ar.real, IX.vo] at hb); (try simp only [QU1] at hb); (try simp only [QBo, beq_iff_eq, beq_eq_false_iff_ne, ne_eq] at hb))) | (refine StopN.mk ?_; cbv) | (refine NeedT.mk (by rw [ho]; rfl) ?_) | (refine hK _ _ ?_) | (refine NeedT.mk ?_ ?_))
  all_goals first
    | (rw [H 1 [1, 7] hb (by decide)]; exact .ro rfl)
    | (rw [H 2 [1] hb (by decide)]; exact .ro rfl)
    | (rw [H 14 [1] hb (by decide)]; exact .ro rfl)
    | (rw [H 3 [0, 3, 4, 5] hb (by decide)]; exact .ro rfl)
    | (rw [H 6 [0, 8, 6, 5] hb (by decide)]; exact .ro rfl)
    | (rw [H 7 [0, 6, 5] hb (by decide)]; exact .ro rfl)
    | (rw [H 8 [2] hb (by decide)]; exact .ro rfl)
    | (rw [H 11 [0, 2] hb (by decide)]; exact .ro rfl)
    | (rw [H 12 [0, 2] hb (by decide)]; exact .ro rfl)
    | (rw [H 13 [5] hb (by decide)]; exact .ro rfl)
    | (rw [H 4 [0] hb (by decide)]; exact .ro rfl)
    | (rw [H 5 [0] hb (by decide)]; exact .ro rfl)
    | (rw [H 9 [0] hb (by decide)]; exact .ro rfl)
    | (rw [H 10 [0] hb (by decide)]; exact .ro rfl)
    | (rw [H0 ‹_› ‹_› ‹_› ‹_› ‹_› ‹_› ‹_› ‹_› ‹_› ‹_› ‹_› ‹_› ‹_› ‹_›]; exact .ro rfl)
end Go.Proofs.YtkjjihicaefmcaaDoor.Sy
namespace Go.Proofs.YtkjjihicaefmcaaDoor.Sy
open Go Go.Sy Go.Proofs.YtkjjihicaefmcaaDoor
theorem lt_step {p : Nat → Prop} {i : Nat} (h : ∀ j, j < i → p j) (hi : p i) : ∀ j, j < i + 1 → p j := fun j hj => by
  rcases Nat.lt_or_ge j i with h3 | h3
  · exact h j h3
  · obtain rfl : j = i := by omega
    exact hi
theorem x_IndexFl (l : List Int) (x : Int) (hl : l.length ≤ 1048576) : XC Tryd.prog 52 [.ro (SL Ar.real Go.Sy.encI l), xi x] [] (xi (idxR l x)) [] := by
  (refine XC.of_body ([]) Tryd.func52 rfl Tryd.ntmps52 mixed (T := tl52) tk52 (by kernel_rfl) (by simp) rfl rfl rfl rfl rfl ?_; rintro o ho P hP c K hK; have hm : P.follows .mixedOrders = true := hP ▸ mixed; have hT : TOk P tl52 := hP ▸ tk52; (try rw [← ho]); cbv; (repeat (refine StopN.mk ?_; cbv)))
  refine LoopN.over (o := o) (D := []) ho hm hT (by kernel_rfl) (fun i : Nat => [(8, xn i)]) (fun _ => []) (fun _ => []) (fun i => i ≤ l.length ∧ ∀ j, j < i → decide (x = l.getD j default) = false) (fun i => l.length - i) 0 ⟨Nat.zero_le _, fun j hj => by omega⟩ ?_ ?_
  · (refine ⟨?_, ?_, ?_, ?_⟩ <;> cbv <;> repeat' (first | trivial | exact EqX.rfl' | exact EqO.rfl' | apply And.intro | ((try clear hR3); (try clear hR2); (try clear hR); (try clear hK); (try simp only [ncCast] at *); (try simp only [castI_eq] at *); refine EqX.i ?_; (try rw [ho]); (try dsimp only [Ar.real, IX.vo, IX.val, BX.val, IX.toN]); (try simp only [QU1]); (repeat rw [wrap_i64 (by omega) (by omega)]); omega)))
  · rintro i ⟨hi, hno⟩ R hR
    cbv
    repeat' (first | (refine Br.mk (fun hb => ?_) (fun hb => ?_) <;> ((try rw [ho] at hb); (try dsimp only [Ar.real, IX.vo] at hb); (try simp only [QU1] at hb); (try simp only [QBo, beq_iff_eq, beq_eq_false_iff_ne, ne_eq] at hb))) | (refine StopN.mk ?_; cbv) | (refine hK _ _ ?_) | (refine NeedT.mk ?_ ?_))
    any_goals (((try clear hR3); (try clear hR2); (try clear hR); (try clear hK); (try simp only [ncCast] at *); (try simp only [castI_eq] at *); (try rw [ho]); (try dsimp only [Ar.real, IX.vo, IX.val, BX.val, IX.toN]); (try simp only [QU1]); (try simp only [decide_eq_true_eq]); (all_goals (repeat rw [wrap_i64 (by omega) (by omega)])); (all_goals (first | omega | (simp only [Int.ofNat_eq_natCast]; omega)))); done)
    · have hf := nextAt_some (p := fun i => decide (x = l.getD i default)) (a := 0) (n := l.length) (k := i) (Nat.zero_le _) (by ((try clear hR3); (try clear hR2); (try clear hR); (try clear hK); (try simp only [ncCast] at *); (try simp only [castI_eq] at *)); omega) (decide_eq_true hb) (fun j _ h => hno j h)
      refine .i ?_
      rw [idxR, hf]
      rfl
    · refine hR _ (i + 1) (by show l.length - (i + 1) < l.length - i; ((try clear hR3); (try clear hR2); (try clear hR); (try clear hK); (try simp only [ncCast] at *); (try simp only [castI_eq] at *)); omega) ⟨by show i + 1 ≤ l.length; ((try clear hR3); (try clear hR2); (try clear hR); (try clear hK); (try simp only [ncCast] at *); (try simp only [castI_eq] at *)); omega, lt_step hno (decide_eq_false hb)⟩ ?_
      (refine ⟨?_, ?_, ?_, ?_⟩ <;> cbv <;> repeat' (first | trivial | exact EqX.rfl' | exact EqO.rfl' | apply And.intro | ((try clear hR3); (try clear hR2); (try clear hR); (try clear hK); (try simp only [ncCast] at *); (try simp only [castI_eq] at *); refine EqX.i ?_; (try rw [ho]); (try dsimp only [Ar.real, IX.vo, IX.val, BX.val, IX.toN]); (try simp only [QU1]); (repeat rw [wrap_i64 (by omega) (by omega)]); omega)))
    · have hf := nextAt_none (p := fun i => decide (x = l.getD i default)) (a := 0) (n := l.length) (fun j _ h => hno j (by ((try clear hR3); (try clear hR2); (try clear hR); (try clear hK); (try simp only [ncCast] at *); (try simp only [castI_eq] at *)); omega))
      refine .i ?_
      rw [idxR, hf]
      rfl
theorem x_ContainsFl (l : List Int) (x : Int) (hl : l.length ≤ 1048576) : XC Tryd.prog 28 [.ro (SL Ar.real Go.Sy.encI l), xi x] [] (xb (inR l x)) [] := by
  have h := idxR_in l x
  (refine XC.of_body ([]) Tryd.func28 rfl Tryd.ntmps28 mixed (T := tl28) tk28 (by kernel_rfl) (by simp) rfl rfl rfl rfl rfl ?_; rintro o ho P hP c K hK; have hm : P.follows .mixedOrders = true := hP ▸ mixed; have hT : TOk P tl28 := hP ▸ tk28; (try rw [← ho]); cbv; (repeat (refine StopN.mk ?_; cbv)))
  repeat' (first | (refine Br.mk (fun hb => ?_) (fun hb => ?_) <;> ((try rw [ho] at hb); (try dsimp only [Ar.real, IX.vo] at hb); (try simp only [QU1] at hb); (try simp only [QBo, beq_iff_eq, beq_eq_false_iff_ne, ne_eq] at hb))) | (refine StopN.mk ?_; cbv) | (refine CallI.pure hP (x_IndexFl _ _ ‹_›) fn52 (by first | rfl | (rw [ho]; try rfl)) (by rfl) (by first | rfl | (rw [ho]; try rfl)) ?_; (try rw [← ho]); generalize hr : idxR _ _ = r; (try rw [ho] at hr); (try dsimp only [Ar.real, IX.vo] at hr); (try simp only [QU1] at hr); cbv) | (refine hK _ _ ?_) | (refine NeedT.mk ?_ ?_))
  refine .b ?_
  ((try clear hR3); (try clear hR2); (try clear hR); (try clear hK); (try simp only [ncCast] at *); (try simp only [castI_eq] at *); (try rw [ho]); (try dsimp only [Ar.real, IX.vo, IX.val, BX.val, IX.toN]); (try simp only [QU1]))
  rw [← h, hr]
theorem x_Has (k f : Int) : XC Tryd.prog 10 [xi k, xi f] [] (xb (hasP k f)) [] := by
  have hl := fieldsP_len k
  have h1 := x_fields k
  have h2 := x_ContainsFl (fieldsP k) f (by omega)
  unfold hasP
  generalize inR (fieldsP k) f = r at *
  generalize fieldsP k = l at *
  (refine XC.of_body ([]) Tryd.func10 rfl Tryd.ntmps10 mixed (T := tl10) tk10 (by kernel_rfl) (by simp) rfl rfl rfl rfl rfl ?_; rintro o ho P hP c K hK; have hm : P.follows .mixedOrders = true := hP ▸ mixed; have hT : TOk P tl10 := hP ▸ tk10; (try rw [← ho]); cbv; (repeat (refine StopN.mk ?_; cbv)))
  rw [← ho] at h1 h2
  repeat' (first | (refine Br.mk (fun hb => ?_) (fun hb => ?_) <;> ((try rw [ho] at hb); (try dsimp only [Ar.real, IX.vo] at hb); (try simp only [QU1] at hb); (try simp only [QBo, beq_iff_eq, beq_eq_false_iff_ne, ne_eq] at hb))) | (refine StopN.mk ?_; cbv) | (first | refine CallI.pure hP h1 fn19 rfl rfl rfl ?_ | refine CallI.pure hP h2 fn28 rfl rfl rfl ?_); cbv | (refine hK _ _ ?_) | (refine NeedT.mk ?_ ?_))
  exact .b rfl
theorem x_snum (x : Int) : XC Tryd.prog 40 [xi x] [] (xb (numN x)) [] := by
  (refine XC.of_body ([]) Tryd.func40 rfl Tryd.ntmps40 mixed (T := tl40) tk40 (by kernel_rfl) (by simp) rfl rfl rfl rfl rfl ?_; rintro o ho P hP c K hK; have hm : P.follows .mixedOrders = true := hP ▸ mixed; have hT : TOk P tl40 := hP ▸ tk40; (try rw [← ho]); cbv; (repeat (refine StopN.mk ?_; cbv)))
  repeat' (first | (refine Br.mk (fun hb => ?_) (fun hb => ?_) <;> ((try rw [ho] at hb); (try dsimp only [Ar.real, IX.vo] at hb); (try simp only [QU1] at hb); (try simp only [QBo, beq_iff_eq, beq_eq_false_iff_ne, ne_eq] at hb))) | (refine StopN.mk ?_; cbv) | (refine hK _ _ ?_) | (refine NeedT.mk ?_ ?_))
  all_goals
    refine .b ?_
    unfold numN
    ((try clear hR3); (try clear hR2); (try clear hR); (try clear hK); (try simp only [ncCast] at *); (try simp only [castI_eq] at *); (try rw [ho]); (try dsimp only [Ar.real, IX.vo, IX.val, BX.val, IX.toN]); (try simp only [QU1]))
    simp [*]
  all_goals omega
theorem x_some14 (v : List Part) (hv : v.length ≤ 1048576) : XC Tryd.prog 43 [.ro (SL Ar.real Part.X v)] [] (xb (someB v)) [] := by
  have hv2 : v.length ≤ 9223372036854775807 := by omega
  (refine XC.of_body ([]) Tryd.func43 rfl Tryd.ntmps43 mixed (T := tl43) tk43 (by kernel_rfl) (by simp) rfl rfl rfl rfl rfl ?_; rintro o ho P hP c K hK; have hm : P.follows .mixedOrders = true := hP ▸ mixed; have hT : TOk P tl43 := hP ▸ tk43; (try rw [← ho]); cbv; (repeat (refine StopN.mk ?_; cbv)))
  repeat' (first | (refine Br.mk (fun hb => ?_) (fun hb => ?_) <;> ((try rw [ho] at hb); (try dsimp only [Ar.real, IX.vo] at hb); (try simp only [QU1] at hb); (try simp only [QBo, beq_iff_eq, beq_eq_false_iff_ne, ne_eq] at hb))) | (refine StopN.mk ?_; cbv) | (refine CallI.pure hP (x_vec_Right _ ‹_›) fn55 (by first | rfl | (rw [ho]; try rfl)) (by rfl) (by first | rfl | (rw [ho]; try rfl)) ?_; (try rw [← ho]); generalize hr : vecRight _ = r; (try rw [ho] at hr); (try dsimp only [Ar.real, IX.vo] at hr); (try simp only [QU1] at hr); cbv) | (refine hK _ _ ?_) | (refine NeedT.mk ?_ ?_))
  all_goals
    refine .b ?_
    unfold someB
    ((try clear hR3); (try clear hR2); (try clear hR); (try clear hK); (try simp only [ncCast] at *); (try simp only [castI_eq] at *); (try rw [ho]); (try dsimp only [Ar.real, IX.vo, IX.val, BX.val, IX.toN]); (try simp only [QU1]))
    simp [*]
  all_goals omega
end Go.Proofs.YtkjjihicaefmcaaDoor.Sy
namespace Go.Proofs.YtkjjihicaefmcaaDoor.Sy
open Go Go.Sy Go.Proofs.YtkjjihicaefmcaaDoor
theorem x_sop (p : Opn) (hp : p.vec.length ≤ 1048576) : XC Tryd.prog 46 [.agg (Opn.X Ar.real p)] [] (xb (opB p)) [] := by
  have hn := x_snum p.id
  have hs := x_some14 p.vec hp
  have ho1 : XC Tryd.prog 57 [.ro (SL Ar.real Part.X p.vec), .ro (.lits [[il 0]])] [] (.ro (SL Ar.real Part.X (onlyR p.vec [0]))) [] := XC_at (x_Only p.vec [0] hp (by decide)) (fun c => rfl) (fun c => rfl)
  have E1 : p.kind = 1 → opB p = (someB p.vec && numN p.id) := fun h => by unfold opB; simp [h]
  have E2 : p.kind = 2 → opB p = (someB p.vec && !decide ((onlyR p.vec [0]).length < p.vec.length)) := fun h => by
    unfold opB
    cases hs : someB p.vec
    · simp
    · have hv : vecRight p.vec = true := by unfold someB at hs; simp only [Bool.and_eq_true] at hs; exact hs.2
      have := only_lt hv
      simp only [h]
      cases ha : (p.vec.all fun p => decide (p.role = 0))
      · rw [decide_eq_true (this.2 ha)]; simp
      · have h4 : ¬ (onlyR p.vec [0]).length < p.vec.length := fun h5 => by rw [this.1 h5] at ha; cases ha
        rw [decide_eq_false h4]; simp
  have E3 : p.kind = 3 → opB p = (someB p.vec && !decide (0 < (onlyR p.vec [0]).length)) := fun h => by
    unfold opB
    cases hs : someB p.vec
    · simp
    · have hv : vecRight p.vec = true := by unfold someB at hs; simp only [Bool.and_eq_true] at hs; exact hs.2
      have := only_pos hv
      simp only [h]
      cases ha : (p.vec.all fun p => decide (p.role ≠ 0))
      · rw [decide_eq_true (this.2 ha)]; simp
      · have h4 : ¬ 0 < (onlyR p.vec [0]).length := fun h5 => by rw [this.1 h5] at ha; cases ha
        rw [decide_eq_false h4]; simp
  have E0 : p.kind ≠ 1 → p.kind ≠ 2 → p.kind ≠ 3 → opB p = false := fun h1 h2 h3 => by unfold opB; simp [h1, h2, h3]
  generalize opB p = r at *
  generalize onlyR p.vec [0] = L at *
  generalize someB p.vec = sv at *
  generalize numN p.id = nn at *
  obtain ⟨k1, k2, vec⟩ := p
  dsimp only at *
  (refine XC.of_body (dt46) Tryd.func46 rfl Tryd.ntmps46 mixed (T := tl46) tk46 (by kernel_rfl) (by simp) rfl rfl rfl rfl rfl ?_; rintro o ho P hP c K hK; have hm : P.follows .mixedOrders = true := hP ▸ mixed; have hT : TOk P tl46 := hP ▸ tk46; (try rw [← ho]); cbv; (repeat (refine StopN.mk ?_; cbv)))
  rw [← ho] at hs ho1
  repeat' (first | (refine Br.mk (fun hb => ?_) (fun hb => ?_) <;> ((try rw [ho] at hb); (try dsimp only [Ar.real, IX.vo] at hb); (try simp only [QU1] at hb); (try simp only [QBo, beq_iff_eq, beq_eq_false_iff_ne, ne_eq] at hb))) | (refine StopN.mk ?_; cbv) | (first | refine CallN.pure hP ho1 fn57 rfl rfl rfl ?_ | refine CallI.pure hP ho1 fn57 rfl rfl rfl ?_ | refine CallI.pure hP hs fn43 rfl rfl rfl ?_ | refine CallI.pure hP hn fn40 rfl rfl rfl ?_); cbv | (refine hK _ _ ?_) | (refine NeedT.mk ?_ ?_))
  all_goals first
    | (rw [E0 ‹_› ‹_› ‹_›]; exact .b rfl)
    | (refine .b ?_; (first | rw [E1 ‹_›] | rw [E2 ‹_›] | rw [E3 ‹_›]); ((try clear hR3); (try clear hR2); (try clear hR); (try clear hK); (try simp only [ncCast] at *); (try simp only [castI_eq] at *); (try rw [ho]); (try dsimp only [Ar.real, IX.vo, IX.val, BX.val, IX.toN]); (try simp only [QU1])); (try simp [*]); (try omega))
end Go.Proofs.YtkjjihicaefmcaaDoor.Sy
namespace Go.Proofs.YtkjjihicaefmcaaDoor.Sy
open Go Go.Sy Go.Proofs.YtkjjihicaefmcaaDoor
theorem x_Ix64 (q : Int → Bool) (g : FuncId) (hg : FnOk Tryd.prog g) (hq : ∀ a, XC Tryd.prog g [xi a] [] (xb (q a)) []) (l : List Int) (hl : l.length ≤ 1048576) :
    XC Tryd.prog 54 [.ro (SL Ar.real Go.Sy.encI l), .fn (.func g) [] []] [] (xi (ixR q l)) [] := by
  have h1 := fun i => ixR_hit (q := q) (l := l) (i := i)
  have h2 := ixR_none (q := q) (l := l)
  generalize ixR q l = r at *
  (refine XC.of_body ([]) Tryd.func54 rfl Tryd.ntmps54 mixed (T := tl54) tk54 (by kernel_rfl) (by simp) rfl rfl rfl rfl rfl ?_; rintro o ho P hP c K hK; have hm : P.follows .mixedOrders = true := hP ▸ mixed; have hT : TOk P tl54 := hP ▸ tk54; (try rw [← ho]); cbv; (repeat (refine StopN.mk ?_; cbv)))
  refine LoopN.over (o := o) (D := []) ho hm hT (by kernel_rfl) (fun i : Nat => [(8, xn i)]) (fun _ => []) (fun _ => []) (fun i => i ≤ l.length ∧ ∀ j, j < i → q (l.getD j default) = false) (fun i => l.length - i) 0 ⟨Nat.zero_le _, fun j hj => by omega⟩ ?_ ?_
  · (refine ⟨?_, ?_, ?_, ?_⟩ <;> cbv <;> repeat' (first | trivial | exact EqX.rfl' | exact EqO.rfl' | apply And.intro | ((try clear hR3); (try clear hR2); (try clear hR); (try clear hK); (try simp only [ncCast] at *); (try simp only [castI_eq] at *); refine EqX.i ?_; (try rw [ho]); (try dsimp only [Ar.real, IX.vo, IX.val, BX.val, IX.toN]); (try simp only [QU1, QB7]); (repeat rw [wrap_i64 (by omega) (by omega)]); omega)))
  · rintro i ⟨hi, hno⟩ R hR
    have e1 := hq (l.getD i default)
    have e2 := h1 i
    have el : o.nth l i = l.getD i default := by rw [ho, real_nth]
    rw [← el] at e1 e2
    have e3 := fun h : q (o.nth l i) = false => lt_step (p := fun j => q (l.getD j default) = false) hno (by rw [← el]; exact h)
    generalize q (o.nth l i) = b at *
    cbv
    repeat' (first | (refine Br.mk (fun hb => ?_) (fun hb => ?_) <;> ((try rw [ho] at hb); (try dsimp only [Ar.real, IX.vo] at hb); (try simp only [QU1, QB7] at hb); (try simp only [QBo, beq_iff_eq, beq_eq_false_iff_ne, ne_eq] at hb))) | (refine StopN.mk ?_; cbv) | (refine CallI.pure hP e1 hg rfl rfl rfl ?_); cbv | (refine hK _ _ ?_) | (refine NeedT.mk ?_ ?_))
    any_goals (((try clear hR3); (try clear hR2); (try clear hR); (try clear hK); (try simp only [ncCast] at *); (try simp only [castI_eq] at *); (try rw [ho]); (try dsimp only [Ar.real, IX.vo, IX.val, BX.val, IX.toN]); (try simp only [QU1, QB7]); (try simp only [decide_eq_true_eq]); (all_goals (repeat rw [wrap_i64 (by omega) (by omega)])); (all_goals (first | omega | (simp only [Int.ofNat_eq_natCast]; omega)))); done)
    · rw [e2 (by ((try clear hR3); (try clear hR2); (try clear hR); (try clear hK); (try simp only [ncCast] at *); (try simp only [castI_eq] at *)); omega) hno (by assumption)]
      exact .i rfl
    · refine hR _ (i + 1) (by show l.length - (i + 1) < l.length - i; ((try clear hR3); (try clear hR2); (try clear hR); (try clear hK); (try simp only [ncCast] at *); (try simp only [castI_eq] at *)); omega) ⟨by show i + 1 ≤ l.length; ((try clear hR3); (try clear hR2); (try clear hR); (try clear hK); (try simp only [ncCast] at *); (try simp only [castI_eq] at *)); omega, e3 (by assumption)⟩ ?_
      (refine ⟨?_, ?_, ?_, ?_⟩ <;> cbv <;> repeat' (first | trivial | exact EqX.rfl' | exact EqO.rfl' | apply And.intro | ((try clear hR3); (try clear hR2); (try clear hR); (try clear hK); (try simp only [ncCast] at *); (try simp only [castI_eq] at *); refine EqX.i ?_; (try rw [ho]); (try dsimp only [Ar.real, IX.vo, IX.val, BX.val, IX.toN]); (try simp only [QU1, QB7]); (repeat rw [wrap_i64 (by omega) (by omega)]); omega)))
    · obtain rfl : i = l.length := by ((try clear hR3); (try clear hR2); (try clear hR); (try clear hK); (try simp only [ncCast] at *); (try simp only [castI_eq] at *)); omega
      rw [h2 hno]
      exact .i rfl
theorem x_CF64 (q : Int → Bool) (g : FuncId) (hg : FnOk Tryd.prog g) (hq : ∀ a, XC Tryd.prog g [xi a] [] (xb (q a)) []) (l : List Int) (hl : l.length ≤ 1048576) :
    XC Tryd.prog 41 [.ro (SL Ar.real Go.Sy.encI l), .fn (.func g) [] []] [] (xb (l.any q)) [] := by
  have h := x_Ix64 q g hg hq l hl
  have e := ixR_any q l
  generalize l.any q = r at *
  generalize ixR q l = n at *
  (refine XC.of_body ([]) Tryd.func41 rfl Tryd.ntmps41 mixed (T := tl41) tk41 (by kernel_rfl) (by simp) rfl rfl rfl rfl rfl ?_; rintro o ho P hP c K hK; have hm : P.follows .mixedOrders = true := hP ▸ mixed; have hT : TOk P tl41 := hP ▸ tk41; (try rw [← ho]); cbv; (repeat (refine StopN.mk ?_; cbv)))
  rw [← ho] at h
  repeat' (first | (refine Br.mk (fun hb => ?_) (fun hb => ?_) <;> ((try rw [ho] at hb); (try dsimp only [Ar.real, IX.vo] at hb); (try simp only [QU1, QB7] at hb); (try simp only [QBo, beq_iff_eq, beq_eq_false_iff_ne, ne_eq] at hb))) | (refine StopN.mk ?_; cbv) | (refine CallI.pure hP h fn54 rfl rfl rfl ?_); cbv | (refine hK _ _ ?_) | (refine NeedT.mk ?_ ?_))
  refine .b ?_
  ((try clear hR3); (try clear hR2); (try clear hR); (try clear hK); (try simp only [ncCast] at *); (try simp only [castI_eq] at *); (try rw [ho]); (try dsimp only [Ar.real, IX.vo, IX.val, BX.val, IX.toN]); (try simp only [QU1, QB7]))
  exact e
theorem x_IxOp (q : Opn → Bool) (g : FuncId) (hg : FnOk Tryd.prog g) (l : List Opn) (hq : ∀ i, XC Tryd.prog g [.agg (Opn.X Ar.real (l.getD i default))] [] (xb (q (l.getD i default))) []) (hl : l.length ≤ 1048576) :
    XC Tryd.prog 56 [.ro (SL Ar.real Opn.X l), .fn (.func g) [] []] [] (xi (ixR q l)) [] := by
  have h1 := fun i => ixR_hit (q := q) (l := l) (i := i)
  have h2 := ixR_none (q := q) (l := l)
  generalize ixR q l = r at *
  (refine XC.of_body ([]) Tryd.func56 rfl Tryd.ntmps56 mixed (T := tl56) tk56 (by kernel_rfl) (by simp) rfl rfl rfl rfl rfl ?_; rintro o ho P hP c K hK; have hm : P.follows .mixedOrders = true := hP ▸ mixed; have hT : TOk P tl56 := hP ▸ tk56; (try rw [← ho]); cbv; (repeat (refine StopN.mk ?_; cbv)))
  refine LoopN.over (o := o) (D := []) ho hm hT (by kernel_rfl) (fun i : Nat => [(8, xn i)]) (fun _ => []) (fun _ => []) (fun i => i ≤ l.length ∧ ∀ j, j < i → q (l.getD j default) = false) (fun i => l.length - i) 0 ⟨Nat.zero_le _, fun j hj => by omega⟩ ?_ ?_
  · (refine ⟨?_, ?_, ?_, ?_⟩ <;> cbv <;> repeat' (first | trivial | exact EqX.rfl' | exact EqO.rfl' | apply And.intro | ((try clear hR3); (try clear hR2); (try clear hR); (try clear hK); (try simp only [ncCast] at *); (try simp only [castI_eq] at *); refine EqX.i ?_; (try rw [ho]); (try dsimp only [Ar.real, IX.vo, IX.val, BX.val, IX.toN]); (try simp only [QU1, QB7]); (repeat rw [wrap_i64 (by omega) (by omega)]); omega)))
  · rintro i ⟨hi, hno⟩ R hR
    have e1 := hq i
    have e2 := h1 i
    have el : o.nth l i = l.getD i default := by rw [ho, real_nth]
    rw [← ho, ← el] at e1
    rw [← el] at e2
    have e3 := fun h : q (o.nth l i) = false => lt_step (p := fun j => q (l.getD j default) = false) hno (by rw [← el]; exact h)
    generalize q (o.nth l i) = b at *
    cbv
    repeat' (first | (refine Br.mk (fun hb => ?_) (fun hb => ?_) <;> ((try rw [ho] at hb); (try dsimp only [Ar.real, IX.vo] at hb); (try simp only [QU1, QB7] at hb); (try simp only [QBo, beq_iff_eq, beq_eq_false_iff_ne, ne_eq] at hb))) | (refine StopN.mk ?_; cbv) | (refine CallI.pure hP e1 hg rfl rfl rfl ?_); cbv | (refine hK _ _ ?_) | (refine NeedT.mk ?_ ?_))
    any_goals (((try clear hR3); (try clear hR2); (try clear hR); (try clear hK); (try simp only [ncCast] at *); (try simp only [castI_eq] at *); (try rw [ho]); (try dsimp only [Ar.real, IX.vo, IX.val, BX.val, IX.toN]); (try simp only [QU1, QB7]); (try simp only [decide_eq_true_eq]); (all_goals (repeat rw [wrap_i64 (by omega) (by omega)])); (all_goals (first | omega | (simp only [Int.ofNat_eq_natCast]; omega)))); done)
    · rw [e2 (by ((try clear hR3); (try clear hR2); (try clear hR); (try clear hK); (try simp only [ncCast] at *); (try simp only [castI_eq] at *)); omega) hno (by assumption)]
      exact .i rfl
    · refine hR _ (i + 1) (by show l.length - (i + 1) < l.length - i; ((try clear hR3); (try clear hR2); (try clear hR); (try clear hK); (try simp only [ncCast] at *); (try simp only [castI_eq] at *)); omega) ⟨by show i + 1 ≤ l.length; ((try clear hR3); (try clear hR2); (try clear hR); (try clear hK); (try simp only [ncCast] at *); (try simp only [castI_eq] at *)); omega, e3 (by assumption)⟩ ?_
      (refine ⟨?_, ?_, ?_, ?_⟩ <;> cbv <;> repeat' (first | trivial | exact EqX.rfl' | exact EqO.rfl' | apply And.intro | ((try clear hR3); (try clear hR2); (try clear hR); (try clear hK); (try simp only [ncCast] at *); (try simp only [castI_eq] at *); refine EqX.i ?_; (try rw [ho]); (try dsimp only [Ar.real, IX.vo, IX.val, BX.val, IX.toN]); (try simp only [QU1, QB7]); (repeat rw [wrap_i64 (by omega) (by omega)]); omega)))
    · obtain rfl : i = l.length := by ((try clear hR3); (try clear hR2); (try clear hR); (try clear hK); (try simp only [ncCast] at *); (try simp only [castI_eq] at *)); omega
      rw [h2 hno]
      exact .i rfl
theorem x_CFOp (q : Opn → Bool) (g : FuncId) (hg : FnOk Tryd.prog g) (l : List Opn) (hq : ∀ i, XC Tryd.prog g [.agg (Opn.X Ar.real (l.getD i default))] [] (xb (q (l.getD i default))) []) (hl : l.length ≤ 1048576) :
    XC Tryd.prog 44 [.ro (SL Ar.real Opn.X l), .fn (.func g) [] []] [] (xb (l.any q)) [] := by
  have h := x_IxOp q g hg l hq hl
  have e := ixR_any q l
  generalize l.any q = r at *
  generalize ixR q l = n at *
  (refine XC.of_body ([]) Tryd.func44 rfl Tryd.ntmps44 mixed (T := tl44) tk44 (by kernel_rfl) (by simp) rfl rfl rfl rfl rfl ?_; rintro o ho P hP c K hK; have hm : P.follows .mixedOrders = true := hP ▸ mixed; have hT : TOk P tl44 := hP ▸ tk44; (try rw [← ho]); cbv; (repeat (refine StopN.mk ?_; cbv)))
  rw [← ho] at h
  repeat' (first | (refine Br.mk (fun hb => ?_) (fun hb => ?_) <;> ((try rw [ho] at hb); (try dsimp only [Ar.real, IX.vo] at hb); (try simp only [QU1, QB7] at hb); (try simp only [QBo, beq_iff_eq, beq_eq_false_iff_ne, ne_eq] at hb))) | (refine StopN.mk ?_; cbv) | (refine CallI.pure hP h fn56 rfl rfl rfl ?_); cbv | (refine hK _ _ ?_) | (refine NeedT.mk ?_ ?_))
  refine .b ?_
  ((try clear hR3); (try clear hR2); (try clear hR); (try clear hK); (try simp only [ncCast] at *); (try simp only [castI_eq] at *); (try rw [ho]); (try dsimp only [Ar.real, IX.vo, IX.val, BX.val, IX.toN]); (try simp only [QU1, QB7]))
  exact e
theorem x_right1 (a : Int) : XC Tryd.prog 42 [xi a] [] (xb (!numN a)) [] := by
  have h := x_snum a
  generalize numN a = r at *
  (refine XC.of_body ([]) Tryd.func42 rfl Tryd.ntmps42 mixed (T := tl42) tk42 (by kernel_rfl) (by simp) rfl rfl rfl rfl rfl ?_; rintro o ho P hP c K hK; have hm : P.follows .mixedOrders = true := hP ▸ mixed; have hT : TOk P tl42 := hP ▸ tk42; (try rw [← ho]); cbv; (repeat (refine StopN.mk ?_; cbv)))
  repeat' (first | (refine Br.mk (fun hb => ?_) (fun hb => ?_) <;> ((try rw [ho] at hb); (try dsimp only [Ar.real, IX.vo] at hb); (try simp only [QU1, QB7] at hb); (try simp only [QBo, beq_iff_eq, beq_eq_false_iff_ne, ne_eq] at hb))) | (refine StopN.mk ?_; cbv) | (refine CallI.pure hP h fn40 rfl rfl rfl ?_); cbv | (refine hK _ _ ?_) | (refine NeedT.mk ?_ ?_))
  refine .b ?_
  ((try clear hR3); (try clear hR2); (try clear hR); (try clear hK); (try simp only [ncCast] at *); (try simp only [castI_eq] at *); (try rw [ho]); (try dsimp only [Ar.real, IX.vo, IX.val, BX.val, IX.toN]); (try simp only [QU1, QB7]))
theorem x_right2 (p : Opn) (hp : p.vec.length ≤ 1048576) : XC Tryd.prog 45 [.agg (Opn.X Ar.real p)] [] (xb (!opB p)) [] := by
  have h := x_sop p hp
  generalize opB p = r at *
  obtain ⟨k1, k2, vec⟩ := p
  (refine XC.of_body ([]) Tryd.func45 rfl Tryd.ntmps45 mixed (T := tl45) tk45 (by kernel_rfl) (by simp) rfl rfl rfl rfl rfl ?_; rintro o ho P hP c K hK; have hm : P.follows .mixedOrders = true := hP ▸ mixed; have hT : TOk P tl45 := hP ▸ tk45; (try rw [← ho]); cbv; (repeat (refine StopN.mk ?_; cbv)))
  rw [← ho] at h
  repeat' (first | (refine Br.mk (fun hb => ?_) (fun hb => ?_) <;> ((try rw [ho] at hb); (try dsimp only [Ar.real, IX.vo] at hb); (try simp only [QU1, QB7] at hb); (try simp only [QBo, beq_iff_eq, beq_eq_false_iff_ne, ne_eq] at hb))) | (refine StopN.mk ?_; cbv) | (refine CallI.pure hP h fn46 rfl rfl rfl ?_); cbv | (refine hK _ _ ?_) | (refine NeedT.mk ?_ ?_))
  refine .b ?_
  ((try clear hR3); (try clear hR2); (try clear hR); (try clear hK); (try simp only [ncCast] at *); (try simp only [castI_eq] at *); (try rw [ho]); (try dsimp only [Ar.real, IX.vo, IX.val, BX.val, IX.toN]); (try simp only [QU1, QB7]))
theorem any_not {α : Type} (q : α → Bool) (l : List α) : (l.any fun x => !q x) = !l.all q := by rw [List.all_eq_not_any_not, Bool.not_not]
theorem x_sright (c : Cal) (hc : CalOk c) (f : Int) : XC Tryd.prog 21 [.agg (Cal.X Ar.real c), xi f] [] (xb (fieldB c f)) [] := by
  have a0 := x_snum c.frame
  have a1 := x_snum c.agent
  have a2 := x_snum c.id
  have a5 := x_snum c.time
  have a6 := x_CF64 (fun n => !numN n) 42 fn42 x_right1 c.ids hc.n_ids
  have a7 := x_some14 c.vec hc.n_vec
  have a8 := x_CFOp (fun p => !opB p) 45 fn45 c.ops (fun i => x_right2 _ (hc.o1 i)) hc.n_ops
  rw [any_not] at a6 a8
  have n1 := hc.n_ids
  have n2 := hc.n_vec
  have n3 := hc.n_ops
  have E0 : f = 0 → fieldB c f = numN c.frame := fun h => by rw [h]; rfl
  have E1 : f = 1 → fieldB c f = numN c.agent := fun h => by rw [h]; rfl
  have E2 : f = 2 → fieldB c f = numN c.id := fun h => by rw [h]; rfl
  have E3 : f = 3 → fieldB c f = (decide (1 ≤ c.role) && decide (c.role ≤ 32)) := fun h => by rw [h]; rfl
  have E4 : f = 4 → fieldB c f = (decide (1 ≤ c.weight) && decide (c.weight ≤ 1000)) := fun h => by rw [h]; rfl
  have E5 : f = 5 → fieldB c f = (decide (c.time = 0) || numN c.time) := fun h => by rw [h]; rfl
  have E6 : f = 6 → fieldB c f = ((decide (1 ≤ c.ids.length) && decide (c.ids.length ≤ 32)) && c.ids.all numN) := fun h => by rw [h]; rfl
  have E7 : f = 7 → fieldB c f = someB c.vec := fun h => by rw [h]; rfl
  have E8 : f ≠ 0 → f ≠ 1 → f ≠ 2 → f ≠ 3 → f ≠ 4 → f ≠ 5 → f ≠ 6 → f ≠ 7 → fieldB c f = (decide (c.ops.length ≤ 32) && c.ops.all opB) := fun _ _ _ _ _ _ _ _ => by
    unfold fieldB
    repeat rw [if_neg (by assumption)]
  generalize fieldB c f = r at *
  generalize c.ids.all numN = b6 at *
  generalize c.ops.all opB = b8 at *
  generalize someB c.vec = b7 at *
  generalize numN c.frame = b0 at *
  generalize numN c.agent = b1 at *
  generalize numN c.id = b2 at *
  generalize numN c.time = b5 at *
  obtain ⟨k1, k2, k3, k4, k5, k6, k7, ids, vec, ops⟩ := c
  clear hc
  dsimp only at *
  (refine XC.of_body ([]) Tryd.func21 rfl Tryd.ntmps21 mixed (T := tl21) tk21 (by kernel_rfl) (by simp) rfl rfl rfl rfl rfl ?_; rintro o ho P hP c K hK; have hm : P.follows .mixedOrders = true := hP ▸ mixed; have hT : TOk P tl21 := hP ▸ tk21; (try rw [← ho]); cbv; (repeat (refine StopN.mk ?_; cbv)))
  rw [← ho] at a6 a7 a8
  repeat' (first | (refine Br.mk (fun hb => ?_) (fun hb => ?_) <;> ((try rw [ho] at hb); (try dsimp only [Ar.real, IX.vo] at hb); (try simp only [QU1, QB7] at hb); (try simp only [QBo, beq_iff_eq, beq_eq_false_iff_ne, ne_eq] at hb))) | (refine StopN.mk ?_; cbv) | (first | refine CallI.pure hP a0 fn40 rfl rfl rfl ?_ | refine CallI.pure hP a1 fn40 rfl rfl rfl ?_ | refine CallI.pure hP a2 fn40 rfl rfl rfl ?_ | refine CallI.pure hP a5 fn40 rfl rfl rfl ?_ | refine CallI.pure hP a6 fn41 rfl rfl rfl ?_ | refine CallI.pure hP a7 fn43 rfl rfl rfl ?_ | refine CallI.pure hP a8 fn44 rfl rfl rfl ?_); cbv | (refine hK _ _ ?_) | (refine NeedT.mk ?_ ?_))
  all_goals first
    | (refine .b ?_; (first | rw [E0 ‹_›] | rw [E1 ‹_›] | rw [E2 ‹_›] | rw [E3 ‹_›] | rw [E4 ‹_›] | rw [E5 ‹_›] | rw [E6 ‹_›] | rw [E7 ‹_›] | rw [E8 ‹_› ‹_› ‹_› ‹_› ‹_› ‹_› ‹_› ‹_›]); ((try clear hR3); (try clear hR2); (try clear hR); (try clear hK); (try simp only [ncCast] at *); (try simp only [castI_eq] at *); (try rw [ho]); (try dsimp only [Ar.real, IX.vo, IX.val, BX.val, IX.toN]); (try simp only [QU1, QB7])); (try (cases b6 <;> cases b8 <;> simp [*] <;> omega)))
end Go.Proofs.YtkjjihicaefmcaaDoor.Sy
namespace Go.Proofs.YtkjjihicaefmcaaDoor.Sy
open Go Go.Sy Go.Proofs.YtkjjihicaefmcaaDoor
end Go.Proofs.YtkjjihicaefmcaaDoor.Sy
namespace Go.Proofs.YtkjjihicaefmcaaDoor.Sy
open Go Go.Sy Go.Proofs.YtkjjihicaefmcaaDoor
@[reducible] def cOb (o : Ar) (c : Cal) : List OX := [.var (Cal.X o c) 26]
theorem x_odd (o : Ar) (ho : o = Ar.real) (c : Cal) (hc : CalOk c) (f : Int) : XC Tryd.prog 20 [xi f, .ptr (.out 0) 0] (cOb o c) (xb (!fieldB c f)) (cOb o c) := by
  have h := x_sright c hc f
  generalize fieldB c f = r at *
  obtain ⟨k1, k2, k3, k4, k5, k6, k7, ids, vec, ops⟩ := c
  clear hc
  rw [← ho] at h
  (refine XC.of_body ([]) Tryd.func20 rfl Tryd.ntmps20 mixed (T := tl20) tk20 (by kernel_rfl) (by simp) rfl rfl rfl rfl rfl ?_; rintro o2 ho2 P hP c K hK; have hm : P.follows .mixedOrders = true := hP ▸ mixed; have hT : TOk P tl20 := hP ▸ tk20; (try rw [← ho2]); have e2 : o = o2 := ho.trans ho2.symm; subst e2; cbv; (repeat (refine StopN.mk ?_; cbv)))
  repeat' (first | (refine Br.mk (fun hb => ?_) (fun hb => ?_) <;> ((try rw [ho] at hb); (try dsimp only [Ar.real, IX.vo] at hb); (try simp only [QU1, QB7] at hb); (try simp only [QBo, beq_iff_eq, beq_eq_false_iff_ne, ne_eq] at hb))) | (refine StopN.mk ?_; cbv) | (refine CallI.pure hP h fn21 rfl rfl rfl ?_); cbv | (refine hK _ _ ?_) | (refine NeedT.mk ?_ ?_))
  refine FinX_bOr ?_ rfl
  ((try clear hR3); (try clear hR2); (try clear hR); (try clear hK); (try simp only [ncCast] at *); (try simp only [castI_eq] at *); (try rw [ho]); (try dsimp only [Ar.real, IX.vo, IX.val, BX.val, IX.toN]); (try simp only [QU1, QB7]))
theorem x_IxFl (o : Ar) (ho : o = Ar.real) (c : Cal) (hc : CalOk c) (l : List Int) (hl : l.length ≤ 1048576) :
    XC Tryd.prog 47 [.ro (SL o Go.Sy.encI l), .fn (.func 20) [] [.ptr (.out 0) 0]] (cOb o c) (xi (ixR (fun f => !fieldB c f) l)) (cOb o c) := by
  have hq := fun a => x_odd o ho c hc a
  have h1 := fun i => ixR_hit (q := fun f => !fieldB c f) (l := l) (i := i)
  have h2 := ixR_none (q := fun f => !fieldB c f) (l := l)
  generalize ixR (fun f => !fieldB c f) l = r at *
  obtain ⟨q, hq9⟩ : ∃ q : Int → Bool, q = fun f => !fieldB c f := ⟨_, rfl⟩
  have hq8 : ∀ f, (!fieldB c f) = q f := fun f => by rw [hq9]
  simp only [hq8] at hq h1 h2
  clear hq9 hq8
  obtain ⟨k1, k2, k3, k4, k5, k6, k7, ids, vec, ops⟩ := c
  clear hc
  (refine XC.of_body ([]) Tryd.func47 rfl Tryd.ntmps47 mixed (T := tl47) tk47 (by kernel_rfl) (by simp) rfl rfl rfl rfl rfl ?_; rintro o2 ho2 P hP c K hK; have hm : P.follows .mixedOrders = true := hP ▸ mixed; have hT : TOk P tl47 := hP ▸ tk47; (try rw [← ho2]); have e2 : o = o2 := ho.trans ho2.symm; subst e2; cbv; (repeat (refine StopN.mk ?_; cbv)))
  refine LoopN.over (o := o) (D := []) ho hm hT (by kernel_rfl) (fun i : Nat => [(8, xn i)]) (fun _ => []) (fun _ => []) (fun i => i ≤ l.length ∧ ∀ j, j < i → q (l.getD j default) = false) (fun i => l.length - i) 0 ⟨Nat.zero_le _, fun j hj => by omega⟩ ?_ ?_
  · (refine ⟨?_, ?_, ?_, ?_⟩ <;> cbv <;> repeat' (first | trivial | exact EqX.rfl' | exact EqO.rfl' | apply And.intro | ((try clear hR3); (try clear hR2); (try clear hR); (try clear hK); (try simp only [ncCast] at *); (try simp only [castI_eq] at *); refine EqX.i ?_; (try rw [ho]); (try dsimp only [Ar.real, IX.vo, IX.val, BX.val, IX.toN]); (try simp only [QU1, QB7]); (repeat rw [wrap_i64 (by omega) (by omega)]); omega)))
  · rintro i ⟨hi, hno⟩ R hR
    have e1 := hq (l.getD i default)
    have e2 := h1 i
    have el : o.nth l i = l.getD i default := by rw [ho, real_nth]
    rw [← el] at e1 e2
    have e3 := fun h : q (o.nth l i) = false => lt_step (p := fun j => q (l.getD j default) = false) hno (by rw [← el]; exact h)
    generalize q (o.nth l i) = b at *
    cbv
    repeat' (first | (refine Br.mk (fun hb => ?_) (fun hb => ?_) <;> ((try rw [ho] at hb); (try dsimp only [Ar.real, IX.vo] at hb); (try simp only [QU1, QB7] at hb); (try simp only [QBo, beq_iff_eq, beq_eq_false_iff_ne, ne_eq] at hb))) | (refine StopN.mk ?_; cbv) | (refine CallI.objs [.out 0] hP e1 fn20 rfl rfl rfl rfl (by rfl) rfl rfl rfl rfl (by rfl) ⟨⟨_, rfl, rfl⟩, trivial⟩ ?_); cbv | (refine hK _ _ ?_) | (refine NeedT.mk ?_ ?_))
    any_goals (((try clear hR3); (try clear hR2); (try clear hR); (try clear hK); (try simp only [ncCast] at *); (try simp only [castI_eq] at *); (try rw [ho]); (try dsimp only [Ar.real, IX.vo, IX.val, BX.val, IX.toN]); (try simp only [QU1, QB7]); (try simp only [decide_eq_true_eq]); (all_goals (repeat rw [wrap_i64 (by omega) (by omega)])); (all_goals (first | omega | (simp only [Int.ofNat_eq_natCast]; omega)))); done)
    · rw [e2 (by ((try clear hR3); (try clear hR2); (try clear hR); (try clear hK); (try simp only [ncCast] at *); (try simp only [castI_eq] at *)); omega) hno (by assumption)]
      exact FinX_iOr rfl rfl
    · refine hR _ (i + 1) (by show l.length - (i + 1) < l.length - i; ((try clear hR3); (try clear hR2); (try clear hR); (try clear hK); (try simp only [ncCast] at *); (try simp only [castI_eq] at *)); omega) ⟨by show i + 1 ≤ l.length; ((try clear hR3); (try clear hR2); (try clear hR); (try clear hK); (try simp only [ncCast] at *); (try simp only [castI_eq] at *)); omega, e3 (by assumption)⟩ ?_
      (refine ⟨?_, ?_, ?_, ?_⟩ <;> cbv <;> repeat' (first | trivial | exact EqX.rfl' | exact EqO.rfl' | apply And.intro | ((try clear hR3); (try clear hR2); (try clear hR); (try clear hK); (try simp only [ncCast] at *); (try simp only [castI_eq] at *); refine EqX.i ?_; (try rw [ho]); (try dsimp only [Ar.real, IX.vo, IX.val, BX.val, IX.toN]); (try simp only [QU1, QB7]); (repeat rw [wrap_i64 (by omega) (by omega)]); omega)))
    · obtain rfl : i = l.length := by ((try clear hR3); (try clear hR2); (try clear hR); (try clear hK); (try simp only [ncCast] at *); (try simp only [castI_eq] at *)); omega
      rw [h2 hno]
      exact FinX_iOr rfl rfl
theorem x_CFl (o : Ar) (ho : o = Ar.real) (c : Cal) (hc : CalOk c) (l : List Int) (hl : l.length ≤ 1048576) :
    XC Tryd.prog 22 [.ro (SL o Go.Sy.encI l), .fn (.func 20) [] [.ptr (.out 0) 0]] (cOb o c) (xb (l.any fun f => !fieldB c f)) (cOb o c) := by
  have h := x_IxFl o ho c hc l hl
  have e := ixR_any (fun f => !fieldB c f) l
  generalize (l.any fun f => !fieldB c f) = r at *
  generalize ixR (fun f => !fieldB c f) l = n at *
  obtain ⟨k1, k2, k3, k4, k5, k6, k7, ids, vec, ops⟩ := c
  clear hc
  (refine XC.of_body ([]) Tryd.func22 rfl Tryd.ntmps22 mixed (T := tl22) tk22 (by kernel_rfl) (by simp) rfl rfl rfl rfl rfl ?_; rintro o2 ho2 P hP c K hK; have hm : P.follows .mixedOrders = true := hP ▸ mixed; have hT : TOk P tl22 := hP ▸ tk22; (try rw [← ho2]); have e2 : o = o2 := ho.trans ho2.symm; subst e2; cbv; (repeat (refine StopN.mk ?_; cbv)))
  repeat' (first | (refine Br.mk (fun hb => ?_) (fun hb => ?_) <;> ((try rw [ho] at hb); (try dsimp only [Ar.real, IX.vo] at hb); (try simp only [QU1, QB7] at hb); (try simp only [QBo, beq_iff_eq, beq_eq_false_iff_ne, ne_eq] at hb))) | (refine StopN.mk ?_; cbv) | (refine CallI.objs [.out 0] hP h fn47 rfl rfl rfl rfl (by rfl) rfl rfl rfl rfl (by rfl) ⟨⟨_, rfl, rfl⟩, trivial⟩ ?_); cbv | (refine hK _ _ ?_) | (refine NeedT.mk ?_ ?_))
  refine FinX_bOr ?_ rfl
  ((try clear hR3); (try clear hR2); (try clear hR); (try clear hK); (try simp only [ncCast] at *); (try simp only [castI_eq] at *); (try rw [ho]); (try dsimp only [Ar.real, IX.vo, IX.val, BX.val, IX.toN]); (try simp only [QU1, QB7]))
  exact e
theorem launP_take (l : List Opn) (i : Nat) (h : i < l.length) : launP (l.take (i + 1)) = if (l.getD i default).kind = 1 then launP (l.take i) ++ [(l.getD i default).id] else launP (l.take i) := by
  unfold launP
  rw [List.take_succ_eq_append_getElem h, List.filter_append, List.map_append, getD_g h]
  split
  · rename_i e
    simp [e]
  · rename_i e
    simp [e]
theorem launP_len (l : List Opn) (i : Nat) : (launP (l.take i)).length ≤ i := by
  unfold launP
  rw [List.length_map]
  exact Nat.le_trans (List.length_filter_le _ _) (by rw [List.length_take]; omega)
theorem x_launched (l : List Opn) (hl : l.length ≤ 1048576) : XC Tryd.prog 24 [.ro (SL Ar.real Opn.X l)] [] (.ro (SL Ar.real Go.Sy.encI (launP l))) [] := by
  have hM := fun i => launP_take l i
  have hL := fun i => launP_len l i
  have hE : ∀ i, l.length ≤ i → launP l = launP (l.take i) := fun i h => by rw [List.take_of_length_le h]
  generalize launP l = r at *
  obtain ⟨M, hm9⟩ : ∃ M : Nat → List Int, M = fun i => launP (l.take i) := ⟨_, rfl⟩
  have h0 : M 0 = [] := by rw [hm9]; rfl
  have hq : ∀ i, launP (l.take i) = M i := fun i => by rw [hm9]
  simp only [hq] at hM hL hE
  clear hm9 hq
  (refine XC.of_body ([]) Tryd.func24 rfl Tryd.ntmps24 mixed (T := tl24) tk24 (by kernel_rfl) (by simp) rfl rfl rfl rfl rfl ?_; rintro o ho P hP c K hK; have hm : P.follows .mixedOrders = true := hP ▸ mixed; have hT : TOk P tl24 := hP ▸ tk24; (try rw [← ho]); cbv; (repeat (refine StopN.mk ?_; cbv)))
  refine LoopN.ghost 3 2 1 rfl ?_
  refine LoopN.over (o := o) (D := []) ho hm hT (by kernel_rfl) (fun s : StL Int => [(8, xn s.i), (3, .own (.loc 0) s.rv)]) (fun s => [(0, .row s.rv 2 1 (SL o Go.Sy.encI s.out))]) (fun _ => []) (fun s => s.i ≤ l.length ∧ s.out = M s.i) (fun s => l.length - s.i) ⟨0, 0, []⟩ ⟨Nat.zero_le _, h0.symm⟩ ?_ ?_
  · (refine ⟨?_, ?_, ?_, ?_⟩ <;> cbv <;> repeat' (first | trivial | exact EqX.rfl' | exact EqO.rfl' | apply And.intro | ((try clear hR3); (try clear hR2); (try clear hR); (try clear hK); (try simp only [ncCast] at *); (try simp only [castI_eq] at *); refine EqX.i ?_; (try rw [ho]); (try dsimp only [Ar.real, IX.vo, IX.val, BX.val, IX.toN]); (try simp only [QU1, QB7]); (repeat rw [wrap_i64 (by omega) (by omega)]); omega) | exact EqO.row rfl (rows_nil_SL o ho Go.Sy.encI)))
  · rintro ⟨i, rv, out⟩ ⟨hi, hout⟩ R hR
    dsimp only at hi hout
    have e1 := hM i
    have e2 := hL i
    have e3 := hE i
    rw [← hout] at e1 e2 e3
    generalize hz : M (i + 1) = z at *
    cbv
    repeat' (first | (refine Br.mk (fun hb => ?_) (fun hb => ?_) <;> ((try rw [ho] at hb); (try dsimp only [Ar.real, IX.vo] at hb); (try simp only [QU1, QB7] at hb); (try simp only [QBo, beq_iff_eq, beq_eq_false_iff_ne, ne_eq] at hb))) | (refine StopN.mk ?_; cbv) | (refine hK _ _ ?_) | (refine NeedT.mk ?_ ?_))
    all_goals try (((try clear hR3); (try clear hR2); (try clear hR); (try clear hK); (try simp only [ncCast] at *); (try simp only [castI_eq] at *); (try rw [ho]); (try dsimp only [Ar.real, IX.vo, IX.val, BX.val, IX.toN]); (try simp only [QU1, QB7]); (try simp only [decide_eq_true_eq]); (all_goals (repeat rw [wrap_i64 (by omega) (by omega)])); (all_goals (first | omega | (simp only [Int.ofNat_eq_natCast]; omega)))); done)
    · have e1 := e1 (by assumption)
      rw [if_pos hb] at e1
      refine hR _ ⟨i + 1, rv + 1, z⟩ (by show l.length - (i + 1) < l.length - i; ((try clear hR3); (try clear hR2); (try clear hR); (try clear hK); (try simp only [ncCast] at *); (try simp only [castI_eq] at *)); omega) ⟨by show i + 1 ≤ l.length; ((try clear hR3); (try clear hR2); (try clear hR); (try clear hK); (try simp only [ncCast] at *); (try simp only [castI_eq] at *)); omega, hz.symm⟩ ?_
      (refine ⟨?_, ?_, ?_, ?_⟩ <;> cbv <;> repeat' (first | trivial | exact EqX.rfl' | exact EqO.rfl' | apply And.intro | ((try clear hR3); (try clear hR2); (try clear hR); (try clear hK); (try simp only [ncCast] at *); (try simp only [castI_eq] at *); refine EqX.i ?_; (try rw [ho]); (try dsimp only [Ar.real, IX.vo, IX.val, BX.val, IX.toN]); (try simp only [QU1, QB7]); (repeat rw [wrap_i64 (by omega) (by omega)]); omega) | (refine EqO.snoc ho Go.Sy.encI out _ _ _ rfl e1 ?_; rw [ho]; rfl)))
    · have e1 := e1 (by assumption)
      rw [if_neg hb] at e1
      refine hR _ ⟨i + 1, rv, z⟩ (by show l.length - (i + 1) < l.length - i; ((try clear hR3); (try clear hR2); (try clear hR); (try clear hK); (try simp only [ncCast] at *); (try simp only [castI_eq] at *)); omega) ⟨by show i + 1 ≤ l.length; ((try clear hR3); (try clear hR2); (try clear hR); (try clear hK); (try simp only [ncCast] at *); (try simp only [castI_eq] at *)); omega, hz.symm⟩ ?_
      rw [e1]
      (refine ⟨?_, ?_, ?_, ?_⟩ <;> cbv <;> repeat' (first | trivial | exact EqX.rfl' | exact EqO.rfl' | apply And.intro | ((try clear hR3); (try clear hR2); (try clear hR); (try clear hK); (try simp only [ncCast] at *); (try simp only [castI_eq] at *); refine EqX.i ?_; (try rw [ho]); (try dsimp only [Ar.real, IX.vo, IX.val, BX.val, IX.toN]); (try simp only [QU1, QB7]); (repeat rw [wrap_i64 (by omega) (by omega)]); omega)))
    · rw [e3 (by assumption)]
      exact .ro (by rw [ho])
theorem x_sCheck (c : Cal) (hc : CalOk c) : XC Tryd.prog 7 [.agg (Cal.X Ar.real c)] [] (.ro (SL Ar.real Go.Sy.encI (checkC c))) [] := by
  have a1 := x_fields c.kind
  have a2 := fun o ho => x_CFl o ho c hc (fieldsP c.kind) (Nat.le_trans (fieldsP_len c.kind) (by decide))
  have h6 : XC Tryd.prog 10 [xi c.kind, il 6] [] (xb (hasP c.kind 6)) [] := XC_at (x_Has c.kind 6) (fun c => rfl) (fun c => rfl)
  have h8 : XC Tryd.prog 10 [xi c.kind, il 8] [] (xb (hasP c.kind 8)) [] := XC_at (x_Has c.kind 8) (fun c => rfl) (fun c => rfl)
  have a3 := x_twice c.ids hc.n_ids
  have a4 := x_launched c.ops hc.n_ops
  have nl : (launP c.ops).length ≤ 1048576 := Nat.le_trans (by unfold launP; rw [List.length_map]; exact List.length_filter_le _ _) hc.n_ops
  have a5 := x_twice (launP c.ops) nl
  have l1 := fieldsP_len c.kind
  have H1 : (fieldsP c.kind).length = 0 → c.kind ≠ 15 → formB c = false := fun h h2 => formB_no (by have := fieldsP_nil h; omega)
  have H2 : (fieldsP c.kind).length ≠ 0 ∨ c.kind = 15 → ((fieldsP c.kind).any fun f => !fieldB c f) = !formB c := fun h => by
    refine formB_any (Classical.byContradiction fun h2 => ?_)
    have := fieldsP_out (k := c.kind) (by omega)
    rw [this] at h
    rcases h with h | h
    · exact h rfl
    · omega
  have R1 : formB c = true → twiB c = true → checkC c = [2] := fun a b => by unfold checkC; rw [a, b]; rfl
  have R2 : formB c = true → twiB c = false → checkC c = [] := fun a b => by unfold checkC; rw [a, b]; rfl
  have R3 : formB c = false → twiB c = true → checkC c = [1, 2] := fun a b => by unfold checkC; rw [a, b]; rfl
  have R4 : formB c = false → twiB c = false → checkC c = [1] := fun a b => by unfold checkC; rw [a, b]; rfl
  have T : twiB c = (hasP c.kind 6 && twiceR c.ids || hasP c.kind 8 && twiceR (launP c.ops)) := rfl
  have n1 := hc.n_ids
  have n2 := hc.n_vec
  have n3 := hc.n_ops
  generalize checkC c = r at *
  generalize ((fieldsP c.kind).any fun f => !fieldB c f) = an at *
  generalize formB c = fm at *
  generalize twiB c = tw at *
  generalize twiceR (launP c.ops) = t8 at *
  generalize twiceR c.ids = t6 at *
  generalize launP c.ops = lo at *
  generalize hasP c.kind 6 = b6 at *
  generalize hasP c.kind 8 = b8 at *
  generalize fieldsP c.kind = fl at *
  obtain ⟨k1, k2, k3, k4, k5, k6, k7, ids, vec, ops⟩ := c
  clear hc
  dsimp only at *
  (refine XC.of_body ([]) Tryd.func7 rfl Tryd.ntmps7 mixed (T := tl7) tk7 (by kernel_rfl) (by simp) rfl rfl rfl rfl rfl ?_; rintro o ho P hP c K hK; have hm : P.follows .mixedOrders = true := hP ▸ mixed; have hT : TOk P tl7 := hP ▸ tk7; (try rw [← ho]); cbv; (repeat (refine StopN.mk ?_; cbv)))
  have a2 := a2 o ho
  rw [← ho] at a1 a3 a4 a5
  repeat' (first | (refine Br.mk (fun hb => ?_) (fun hb => ?_) <;> ((try rw [ho] at hb); (try dsimp only [Ar.real, IX.vo] at hb); (try simp only [QU1, QB7] at hb); (try simp only [QBo, beq_iff_eq, beq_eq_false_iff_ne, ne_eq] at hb))) | (refine StopN.mk ?_; cbv) | (first | refine NeedT.mk (by rw [ho]; rfl) ?_ | refine CallI.pure hP a1 fn19 rfl rfl rfl ?_ | refine CallI.objs [.loc 0] hP a2 fn22 rfl rfl rfl rfl (by rfl) rfl rfl rfl rfl (by rfl) ⟨⟨_, rfl, rfl⟩, trivial⟩ ?_ | refine CallI.pure hP h6 fn10 rfl rfl rfl ?_ | refine CallI.pure hP h8 fn10 rfl rfl rfl ?_ | refine CallI.pure hP a3 fn23 rfl rfl rfl ?_ | refine CallI.pure hP a4 fn24 rfl rfl rfl ?_ | refine CallI.pure hP a5 fn23 rfl rfl rfl ?_); cbv | (refine hK _ _ ?_) | (refine NeedT.mk ?_ ?_))
  all_goals
    clear a1 a2 a3 a4 a5 h6 h8
    clear a2
    cases fm <;> cases tw
    all_goals first
      | (rw [R1 rfl rfl]; exact .ro rfl)
      | (rw [R2 rfl rfl]; exact .ro rfl)
      | (rw [R3 rfl rfl]; exact .ro rfl)
      | (rw [R4 rfl rfl]; exact .ro rfl)
      | (exfalso
         clear R1 R2 R3 R4 n1 n2 n3
         ((try clear hR3); (try clear hR2); (try clear hR); (try clear hK); (try simp only [ncCast] at *); (try simp only [castI_eq] at *))
         cases b6 <;> cases t6 <;> cases b8 <;> cases t8 <;> cases an <;> first | contradiction | exact absurd T (by decide) | exact absurd (H1 (by omega) (by assumption)) (by decide) | exact absurd (H2 (by omega)) (by decide))
end Go.Proofs.YtkjjihicaefmcaaDoor.Sy
namespace Go.Proofs.YtkjjihicaefmcaaDoor.Sy
open Go Go.Sy Go.Proofs.YtkjjihicaefmcaaDoor
theorem rows_app1 {α : Type} [Inhabited α] {o : Ar} (ho : o = Ar.real) (enc : Ar → α → List X) (l : List α) : (RR.app (.lits []) (SL o enc l)).rows = (SL o enc l).rows := by
  subst ho
  simp [RR.rows, X.toCLL]
theorem x_Clone64 (l : List Int) (hl : l.length ≤ 1048576) : XC Tryd.prog 29 [.ro (SL Ar.real Go.Sy.encI l)] [] (.ro (SL Ar.real Go.Sy.encI l)) [] := by
  rcases Nat.eq_zero_or_pos l.length with h0 | h0
  · obtain rfl := List.length_eq_zero_iff.1 h0
    exact XC_at (XC.empty2 clone64_0) (fun _ => rfl) (fun _ => rfl)
  · (refine XC.of_body ([]) Tryd.func29 rfl Tryd.ntmps29 mixed (T := tl29) tk29 (by kernel_rfl) (by simp) rfl rfl rfl rfl rfl ?_; rintro o ho P hP c K hK; have hm : P.follows .mixedOrders = true := hP ▸ mixed; have hT : TOk P tl29 := hP ▸ tk29; (try rw [← ho]); cbv; (repeat (refine StopN.mk ?_; cbv)))
    repeat' (first | (refine Br.mk (fun hb => ?_) (fun hb => ?_) <;> ((try rw [ho] at hb); (try dsimp only [Ar.real, IX.vo] at hb); (try simp only [QU1, QB7] at hb); (try simp only [QBo, beq_iff_eq, beq_eq_false_iff_ne, ne_eq] at hb))) | (refine StopN.mk ?_; cbv) | (refine hK _ _ ?_) | (refine NeedT.mk ?_ ?_))
    any_goals (((try clear hR3); (try clear hR2); (try clear hR); (try clear hK); (try simp only [ncCast] at *); (try simp only [castI_eq] at *); (try rw [ho]); (try dsimp only [Ar.real, IX.vo, IX.val, BX.val, IX.toN]); (try simp only [QU1, QB7]); (try simp only [decide_eq_true_eq]); (all_goals (repeat rw [wrap_i64 (by omega) (by omega)])); (all_goals (first | omega | (simp only [Int.ofNat_eq_natCast]; omega)))); done)
    have hr : 0 < (SL o Go.Sy.encI l).rows.length := by rw [rows_SL o ho, List.length_map]; exact h0
    refine OpN.app0 ho hT rfl rfl (by rw [hP]; exact tok22.k) (by rw [hP]; exact tok2.sz) (fun h => absurd h (Nat.ne_of_gt hr)) (fun _ => ?_)
    cbv
    repeat' (first | (refine Br.mk (fun hb => ?_) (fun hb => ?_) <;> ((try rw [ho] at hb); (try dsimp only [Ar.real, IX.vo] at hb); (try simp only [QU1, QB7] at hb); (try simp only [QBo, beq_iff_eq, beq_eq_false_iff_ne, ne_eq] at hb))) | (refine StopN.mk ?_; cbv) | (refine hK _ _ ?_) | (refine NeedT.mk ?_ ?_) | (refine NeedP.mk (fits_I o ho l) ?_))
    any_goals (((try clear hR3); (try clear hR2); (try clear hR); (try clear hK); (try simp only [ncCast] at *); (try simp only [castI_eq] at *); (try rw [ho]); (try dsimp only [Ar.real, IX.vo, IX.val, BX.val, IX.toN]); (try simp only [QU1, QB7]); (try simp only [decide_eq_true_eq]); (all_goals (repeat rw [wrap_i64 (by omega) (by omega)])); (all_goals (first | omega | (simp only [Int.ofNat_eq_natCast]; omega)))); done)
    exact .ro ((rows_app1 ho Go.Sy.encI l).trans (by rw [ho]))
theorem bareO_take (l : List Opn) (i : Nat) (h : i < l.length) : (l.take (i + 1)).map bareO = (l.take i).map bareO ++ [bareO (l.getD i default)] := by
  rw [List.take_succ_eq_append_getElem h, List.map_append, getD_g h]
  rfl
theorem x_bareOps (l : List Opn) (hl : l.length ≤ 1048576) (hv : ∀ i, (l.getD i default).vec.length ≤ 1048576) : XC Tryd.prog 31 [.ro (SL Ar.real Opn.X l)] [] (.ro (SL Ar.real Opn.X (l.map bareO))) [] := by
  have hC := fun i => x_Copy (l.getD i default).vec (hv i)
  have hM := fun i => bareO_take l i
  have hL : ∀ i, ((l.take i).map bareO).length ≤ i := fun i => by rw [List.length_map, List.length_take]; omega
  have hE : ∀ i, l.length ≤ i → l.map bareO = (l.take i).map bareO := fun i h => by rw [List.take_of_length_le h]
  generalize l.map bareO = r at *
  obtain ⟨M, hm9⟩ : ∃ M : Nat → List Opn, M = fun i => (l.take i).map bareO := ⟨_, rfl⟩
  have h0 : M 0 = [] := by rw [hm9]; rfl
  have hq : ∀ i, (l.take i).map bareO = M i := fun i => by rw [hm9]
  simp only [hq] at hM hL hE
  clear hm9 hq
  (refine XC.of_body (dt31) Tryd.func31 rfl Tryd.ntmps31 mixed (T := tl31) tk31 (by kernel_rfl) (by simp) rfl rfl rfl rfl rfl ?_; rintro o ho P hP c K hK; have hm : P.follows .mixedOrders = true := hP ▸ mixed; have hT : TOk P tl31 := hP ▸ tk31; (try rw [← ho]); cbv; (repeat (refine StopN.mk ?_; cbv)))
  refine LoopN.ghost 3 46 3 rfl ?_
  refine LoopN.over (o := o) (D := dt31) ho hm hT (by kernel_rfl) (fun s : StL Opn => [(9, xn s.i), (3, .own (.loc 0) s.rv)]) (fun s => [(0, .row s.rv 46 3 (SL o Opn.X s.out))]) (fun _ => []) (fun s => s.i ≤ l.length ∧ s.out = M s.i) (fun s => l.length - s.i) ⟨0, 0, []⟩ ⟨Nat.zero_le _, h0.symm⟩ ?_ ?_
  · (refine ⟨?_, ?_, ?_, ?_⟩ <;> cbv <;> repeat' (first | trivial | exact EqX.rfl' | exact EqO.rfl' | apply And.intro | ((try clear hR3); (try clear hR2); (try clear hR); (try clear hK); (try simp only [ncCast] at *); (try simp only [castI_eq] at *); refine EqX.i ?_; (try rw [ho]); (try dsimp only [Ar.real, IX.vo, IX.val, BX.val, IX.toN]); (try simp only [QU1, QB7]); (repeat rw [wrap_i64 (by omega) (by omega)]); omega) | exact EqO.row rfl (rows_nil_SL o ho Opn.X)))
  · rintro ⟨i, rv, out⟩ ⟨hi, hout⟩ R hR
    dsimp only at hi hout
    have e0 := hC i
    have e1 := hM i
    have e2 := hL i
    have e3 := hE i
    rw [← hout] at e1 e2 e3
    generalize hz : M (i + 1) = z at *
    have el : o.nth l i = l.getD i default := by rw [ho, real_nth]
    rw [← el] at e0 e1
    rw [← ho] at e0
    have K1 : (o.nth l i).kind = 1 → bareO (o.nth l i) = ⟨(o.nth l i).kind, (o.nth l i).id, (o.nth l i).vec⟩ := fun h => by unfold bareO; rw [if_pos h]
    have K0 : (o.nth l i).kind ≠ 1 → bareO (o.nth l i) = ⟨(o.nth l i).kind, 0, (o.nth l i).vec⟩ := fun h => by unfold bareO; rw [if_neg h]
    clear hC hM hL hE
    cbv
    repeat' (first | (refine Br.mk (fun hb => ?_) (fun hb => ?_) <;> ((try rw [ho] at hb); (try dsimp only [Ar.real, IX.vo] at hb); (try simp only [QU1, QB7] at hb); (try simp only [QBo, beq_iff_eq, beq_eq_false_iff_ne, ne_eq] at hb))) | (refine StopN.mk ?_; cbv) | (first | refine CallN.pure hP e0 fn30 rfl rfl rfl ?_ | refine CallI.pure hP e0 fn30 rfl rfl rfl ?_); cbv | (refine hK _ _ ?_) | (refine NeedT.mk ?_ ?_))
    all_goals try (((try clear hR3); (try clear hR2); (try clear hR); (try clear hK); (try simp only [ncCast] at *); (try simp only [castI_eq] at *); (try rw [ho]); (try dsimp only [Ar.real, IX.vo, IX.val, BX.val, IX.toN]); (try simp only [QU1, QB7]); (try simp only [decide_eq_true_eq]); (all_goals (repeat rw [wrap_i64 (by omega) (by omega)])); (all_goals (first | omega | (simp only [Int.ofNat_eq_natCast]; omega)))); done)
    · have e1 := e1 (by assumption)
      rw [K1 (by rw [el]; exact hb)] at e1
      refine hR _ ⟨i + 1, rv + 1, z⟩ (by show l.length - (i + 1) < l.length - i; ((try clear hR3); (try clear hR2); (try clear hR); (try clear hK); (try simp only [ncCast] at *); (try simp only [castI_eq] at *)); omega) ⟨by show i + 1 ≤ l.length; ((try clear hR3); (try clear hR2); (try clear hR); (try clear hK); (try simp only [ncCast] at *); (try simp only [castI_eq] at *)); omega, hz.symm⟩ ?_
      (refine ⟨?_, ?_, ?_, ?_⟩ <;> cbv <;> repeat' (first | trivial | exact EqX.rfl' | exact EqO.rfl' | apply And.intro | ((try clear hR3); (try clear hR2); (try clear hR); (try clear hK); (try simp only [ncCast] at *); (try simp only [castI_eq] at *); refine EqX.i ?_; (try rw [ho]); (try dsimp only [Ar.real, IX.vo, IX.val, BX.val, IX.toN]); (try simp only [QU1, QB7]); (repeat rw [wrap_i64 (by omega) (by omega)]); omega) | (refine EqO.snoc ho Opn.X out _ _ _ rfl e1 ?_; rw [ho]; rfl)))
    · have e1 := e1 (by assumption)
      rw [K0 (by rw [el]; exact hb)] at e1
      refine hR _ ⟨i + 1, rv + 1, z⟩ (by show l.length - (i + 1) < l.length - i; ((try clear hR3); (try clear hR2); (try clear hR); (try clear hK); (try simp only [ncCast] at *); (try simp only [castI_eq] at *)); omega) ⟨by show i + 1 ≤ l.length; ((try clear hR3); (try clear hR2); (try clear hR); (try clear hK); (try simp only [ncCast] at *); (try simp only [castI_eq] at *)); omega, hz.symm⟩ ?_
      (refine ⟨?_, ?_, ?_, ?_⟩ <;> cbv <;> repeat' (first | trivial | exact EqX.rfl' | exact EqO.rfl' | apply And.intro | ((try clear hR3); (try clear hR2); (try clear hR); (try clear hK); (try simp only [ncCast] at *); (try simp only [castI_eq] at *); refine EqX.i ?_; (try rw [ho]); (try dsimp only [Ar.real, IX.vo, IX.val, BX.val, IX.toN]); (try simp only [QU1, QB7]); (repeat rw [wrap_i64 (by omega) (by omega)]); omega) | (refine EqO.snoc ho Opn.X out _ _ _ rfl e1 ?_; rw [ho]; rfl)))
    · rw [e3 (by assumption)]
      exact .ro (by rw [ho])
end Go.Proofs.YtkjjihicaefmcaaDoor.Sy
namespace Go.Proofs.YtkjjihicaefmcaaDoor.Sy
open Go Go.Sy Go.Proofs.YtkjjihicaefmcaaDoor
def litsI (l : List Int) : X := .ro (.lits (l.map fun x => [il x]))
theorem toD_litsI (c : Cx) (l : List Int) : (X.ro (SL Ar.real Go.Sy.encI l)).toD c = (litsI l).toD c := by
  have h : (RR.lits (l.map fun x => [il x])).rows = (SL Ar.real Go.Sy.encI l).rows := by
    rw [rows_SL Ar.real rfl]
    simp only [RR.rows, toCLL_eq, List.map_map]
    rfl
  unfold litsI
  simp only [X.toD, h]
theorem x_fieldsL (k : Int) : XC Tryd.prog 19 [xi k] [] (litsI (fieldsP k)) [] := XC_at (x_fields k) (fun c => rfl) (fun c => toD_litsI c _)
theorem x_sBare (c : Cal) (hc : CalOk c) : XC Tryd.prog 11 [.agg (Cal.X Ar.real c)] [] (.agg (Cal.X Ar.real (bareC c))) [] := by
  have a1 := x_Clone64 c.ids hc.n_ids
  have a2 := x_Copy c.vec hc.n_vec
  have a3 := x_bareOps c.ops hc.n_ops hc.o1
  obtain ⟨k1, k2, k3, k4, k5, k6, k7, ids, vec, ops⟩ := c
  clear hc
  dsimp only at *
  have hf := x_fieldsL k1
  by_cases hk : 1 ≤ k1 ∧ k1 ≤ 15
  · rcases (by omega : k1 = 1 ∨ k1 = 2 ∨ k1 = 3 ∨ k1 = 4 ∨ k1 = 5 ∨ k1 = 6 ∨ k1 = 7 ∨ k1 = 8 ∨ k1 = 9 ∨ k1 = 10 ∨ k1 = 11 ∨ k1 = 12 ∨ k1 = 13 ∨ k1 = 14 ∨ k1 = 15) with rfl | rfl | rfl | rfl | rfl | rfl | rfl | rfl | rfl | rfl | rfl | rfl | rfl | rfl | rfl
    all_goals
      simp [litsI, fieldsP] at hf
      simp [bareC, hasP, fieldsP, inR]
      generalize ops.map bareO = bops at *
      (refine XC.of_body ([]) Tryd.func11 rfl Tryd.ntmps11 mixed (T := tl11) tk11 (by kernel_rfl) (by simp) rfl rfl rfl rfl rfl ?_; rintro o ho P hP c K hK; have hm : P.follows .mixedOrders = true := hP ▸ mixed; have hT : TOk P tl11 := hP ▸ tk11; (try rw [← ho]); cbv; (repeat (refine StopN.mk ?_; cbv)))
      rw [← ho] at a1 a2 a3
      repeat' (first | (refine Br.mk (fun hb => ?_) (fun hb => ?_) <;> ((try rw [ho] at hb); (try dsimp only [Ar.real, IX.vo] at hb); (try simp only [QU1, QB7] at hb); (try simp only [QBo, beq_iff_eq, beq_eq_false_iff_ne, ne_eq] at hb))) | (refine StopN.mk ?_; cbv) | (first | refine NeedT.mk (by rw [ho]; rfl) ?_ | refine CallI.pure hP hf fn19 rfl rfl rfl ?_ | refine CallI.pure hP a1 fn29 rfl rfl rfl ?_ | refine CallI.pure hP a2 fn30 rfl rfl rfl ?_ | refine CallI.pure hP a3 fn31 rfl rfl rfl ?_); cbv | (refine hK _ _ ?_) | (refine NeedT.mk ?_ ?_) | (refine LoopN.lay (o := o) (D := []) 5 ho hm hT (by kernel_rfl) ?_; cbv))
      exact .pure fun _ => by first | rfl | (rw [ho]; rfl)
  · have hz : ∀ f, hasP k1 f = false := fun f => by unfold hasP; rw [fieldsP_out (by omega)]; rfl
    rw [fieldsP_out (by omega)] at hf
    simp [litsI] at hf
    simp [bareC, hz]
    (refine XC.of_body ([]) Tryd.func11 rfl Tryd.ntmps11 mixed (T := tl11) tk11 (by kernel_rfl) (by simp) rfl rfl rfl rfl rfl ?_; rintro o ho P hP c K hK; have hm : P.follows .mixedOrders = true := hP ▸ mixed; have hT : TOk P tl11 := hP ▸ tk11; (try rw [← ho]); cbv; (repeat (refine StopN.mk ?_; cbv)))
    repeat' (first | (refine Br.mk (fun hb => ?_) (fun hb => ?_) <;> ((try rw [ho] at hb); (try dsimp only [Ar.real, IX.vo] at hb); (try simp only [QU1, QB7] at hb); (try simp only [QBo, beq_iff_eq, beq_eq_false_iff_ne, ne_eq] at hb))) | (refine StopN.mk ?_; cbv) | (first | refine NeedT.mk (by rw [ho]; rfl) ?_ | refine CallI.pure hP hf fn19 rfl rfl rfl ?_); cbv | (refine CallI.pure hP (x_Clone64 _ ‹_›) fn29 (by first | rfl | (rw [ho]; try rfl)) (by rfl) (by first | rfl | (rw [ho]; try rfl)) ?_; (try rw [← ho]); cbv) | (refine CallI.pure hP (x_Copy _ ‹_›) fn30 (by first | rfl | (rw [ho]; try rfl)) (by rfl) (by first | rfl | (rw [ho]; try rfl)) ?_; (try rw [← ho]); cbv) | (refine CallI.pure hP (x_bareOps _ ‹_› ‹_›) fn31 (by first | rfl | (rw [ho]; try rfl)) (by rfl) (by first | rfl | (rw [ho]; try rfl)) ?_; (try rw [← ho]); cbv) | (refine hK _ _ ?_) | (refine NeedT.mk ?_ ?_) | (refine LoopN.lay (o := o) (D := []) 5 ho hm hT (by kernel_rfl) ?_; cbv))
    exact .pure fun _ => rfl
end Go.Proofs.YtkjjihicaefmcaaDoor.Sy
namespace Go.Proofs.YtkjjihicaefmcaaDoor.Sy
open Go Go.Sy Go.Proofs.YtkjjihicaefmcaaDoor
theorem Part.ext9 {a b : Part} (h1 : a.kind = b.kind) (h2 : a.role = b.role) (h3 : a.amount = b.amount) : a = b := by cases a; cases b; simp_all
def vEq (a b : List Part) : Bool := decide (a = b)
theorem x_EqualV (a b : List Part) (hab : a.length ≤ 1048576 ∧ b.length ≤ 1048576) : XC Tryd.prog 53 [.ro (SL Ar.real Part.X a), .ro (SL Ar.real Part.X b)] [] (xb (vEq a b)) [] := by
  obtain ⟨ha, hb'⟩ := hab
  (refine XC.of_body (dt53) Tryd.func53 rfl Tryd.ntmps53 mixed (T := tl53) tk53 (by kernel_rfl) (by simp) rfl rfl rfl rfl rfl ?_; rintro o ho P hP c K hK; have hm : P.follows .mixedOrders = true := hP ▸ mixed; have hT : TOk P tl53 := hP ▸ tk53; (try rw [← ho]); cbv; (repeat (refine StopN.mk ?_; cbv)))
  repeat' (first | (refine Br.mk (fun hb => ?_) (fun hb => ?_) <;> ((try rw [ho] at hb); (try dsimp only [Ar.real, IX.vo] at hb); (try simp only [QSyVa, QB7] at hb); (try simp only [QBo, beq_iff_eq, beq_eq_false_iff_ne, ne_eq] at hb))) | (refine StopN.mk ?_; cbv) | (refine hK _ _ ?_) | (refine NeedT.mk ?_ ?_))
  · refine .b ?_
    ((try clear hR3); (try clear hR2); (try clear hR); (try clear hK); (try simp only [ncCast] at *); (try simp only [castI_eq] at *); (try rw [ho]); (try dsimp only [Ar.real, IX.vo, IX.val, BX.val, IX.toN]); (try simp only [QSyVa, QB7]))
    have hne : a ≠ b := fun e => ‹¬ a.length = b.length› (by rw [e])
    simp only [vEq, decide_eq_false hne]
  refine LoopN.over (o := o) (D := dt53) ho hm hT (by kernel_rfl) (fun i : Nat => [(13, xn i)]) (fun _ => []) (fun _ => []) (fun i => i ≤ a.length ∧ ∀ j, j < i → a.getD j default = b.getD j default) (fun i => a.length - i) 0 ⟨Nat.zero_le _, fun j hj => by omega⟩ ?_ ?_
  · (refine ⟨?_, ?_, ?_, ?_⟩ <;> cbv <;> repeat' (first | trivial | exact EqX.rfl' | exact EqO.rfl' | apply And.intro | ((try clear hR3); (try clear hR2); (try clear hR); (try clear hK); (try simp only [ncCast] at *); (try simp only [castI_eq] at *); refine EqX.i ?_; (try rw [ho]); (try dsimp only [Ar.real, IX.vo, IX.val, BX.val, IX.toN]); (try simp only [QSyVa, QB7]); (repeat rw [wrap_i64 (by omega) (by omega)]); omega)))
  · rintro i ⟨hi, hj⟩ R hR
    cbv
    repeat' (first | (refine Br.mk (fun hb => ?_) (fun hb => ?_) <;> ((try rw [ho] at hb); (try dsimp only [Ar.real, IX.vo] at hb); (try simp only [QSyVa, QB7] at hb); (try simp only [QBo, beq_iff_eq, beq_eq_false_iff_ne, ne_eq] at hb))) | (refine StopN.mk ?_; cbv) | (refine hK _ _ ?_) | (refine NeedT.mk ?_ ?_))
    any_goals (((try clear hR3); (try clear hR2); (try clear hR); (try clear hK); (try simp only [ncCast] at *); (try simp only [castI_eq] at *); (try rw [ho]); (try dsimp only [Ar.real, IX.vo, IX.val, BX.val, IX.toN]); (try simp only [QSyVa, QB7]); (try simp only [decide_eq_true_eq]); (all_goals (repeat rw [wrap_i64 (by omega) (by omega)])); (all_goals (first | omega | (simp only [Int.ofNat_eq_natCast]; omega)))); done)
    · have hne : a ≠ b := fun e => by
        ((try clear hR3); (try clear hR2); (try clear hR); (try clear hK); (try simp only [ncCast] at *); (try simp only [castI_eq] at *))
        subst e
        simp at hb
      refine .b ?_
      ((try clear hR3); (try clear hR2); (try clear hR); (try clear hK); (try simp only [ncCast] at *); (try simp only [castI_eq] at *); (try rw [ho]); (try dsimp only [Ar.real, IX.vo, IX.val, BX.val, IX.toN]); (try simp only [QSyVa, QB7]))
      simp only [vEq, decide_eq_false hne]
    · have he : a.getD i default = b.getD i default := by
        ((try clear hR3); (try clear hR2); (try clear hR); (try clear hK); (try simp only [ncCast] at *); (try simp only [castI_eq] at *))
        simp only [Bool.and_eq_true, decide_eq_true_eq] at hb
        exact Part.ext9 hb.1 hb.2.1 hb.2.2
      refine hR _ (i + 1) (by omega) ⟨by omega, fun j h => ?_⟩ ?_
      · rcases Nat.lt_or_ge j i with h3 | h3
        · exact hj j h3
        · obtain rfl : j = i := by omega
          exact he
      · (refine ⟨?_, ?_, ?_, ?_⟩ <;> cbv <;> repeat' (first | trivial | exact EqX.rfl' | exact EqO.rfl' | apply And.intro | ((try clear hR3); (try clear hR2); (try clear hR); (try clear hK); (try simp only [ncCast] at *); (try simp only [castI_eq] at *); refine EqX.i ?_; (try rw [ho]); (try dsimp only [Ar.real, IX.vo, IX.val, BX.val, IX.toN]); (try simp only [QSyVa, QB7]); (repeat rw [wrap_i64 (by omega) (by omega)]); omega)))
    · have he : a = b := by
        apply List.ext_getElem ‹a.length = b.length›
        intro j g1 g2
        have := hj j (by omega)
        simpa [List.getD_eq_getElem?_getD, g1, g2] using this
      refine .b ?_
      ((try clear hR3); (try clear hR2); (try clear hR); (try clear hK); (try simp only [ncCast] at *); (try simp only [castI_eq] at *); (try rw [ho]); (try dsimp only [Ar.real, IX.vo, IX.val, BX.val, IX.toN]); (try simp only [QSyVa, QB7]))
      simp only [vEq, decide_eq_true he]
theorem x_SameV (a b : List Part) (hab : a.length ≤ 1048576 ∧ b.length ≤ 1048576) : XC Tryd.prog 33 [.ro (SL Ar.real Part.X a), .ro (SL Ar.real Part.X b)] [] (xb (vEq a b)) [] := by
  (refine XC.of_body ([]) Tryd.func33 rfl Tryd.ntmps33 mixed (T := tl33) tk33 (by kernel_rfl) (by simp) rfl rfl rfl rfl rfl ?_; rintro o ho P hP c K hK; have hm : P.follows .mixedOrders = true := hP ▸ mixed; have hT : TOk P tl33 := hP ▸ tk33; (try rw [← ho]); cbv; (repeat (refine StopN.mk ?_; cbv)))
  repeat' (first | (refine Br.mk (fun hb => ?_) (fun hb => ?_) <;> ((try rw [ho] at hb); (try dsimp only [Ar.real, IX.vo] at hb); (try simp only [QSyVa, QB7] at hb); (try simp only [QBo, beq_iff_eq, beq_eq_false_iff_ne, ne_eq] at hb))) | (refine StopN.mk ?_; cbv) | (refine CallI.pure hP (x_EqualV _ _ ‹_›) fn53 (by first | rfl | (rw [ho]; try rfl)) (by rfl) (by first | rfl | (rw [ho]; try rfl)) ?_; (try rw [← ho]); generalize hr : vEq _ _ = r; (try rw [ho] at hr); (try dsimp only [Ar.real, IX.vo] at hr); (try simp only [QSyVa, QB7] at hr); cbv) | (refine hK _ _ ?_) | (refine NeedT.mk ?_ ?_))
  subst hr
  exact .b rfl
end Go.Proofs.YtkjjihicaefmcaaDoor.Sy
namespace Go.Proofs.YtkjjihicaefmcaaDoor.Sy
open Go Go.Sy Go.Proofs.YtkjjihicaefmcaaDoor
theorem list_ext9 {α : Type} [Inhabited α] {a b : List α} (hl : a.length = b.length) (h : ∀ j, j < a.length → a.getD j default = b.getD j default) : a = b := by
  apply List.ext_getElem hl
  intro j g1 g2
  have := h j g1
  rwa [getD_g g1, getD_g g2] at this
theorem Opn.ext9 {a b : Opn} (h1 : a.kind = b.kind) (h2 : a.id = b.id) (h3 : a.vec = b.vec) : a = b := by cases a; cases b; simp_all
theorem x_EqI64 (a b : List Int) (hab : a.length ≤ 1048576 ∧ b.length ≤ 1048576) : XC Tryd.prog 34 [.ro (SL Ar.real Go.Sy.encI a), .ro (SL Ar.real Go.Sy.encI b)] [] (xb (decide (a = b))) [] := by
  obtain ⟨ha, hb'⟩ := hab
  have G1 : a.length ≠ b.length → decide (a = b) = false := fun h => decide_eq_false fun e => h (by rw [e])
  have G2 : ∀ i, a.getD i default ≠ b.getD i default → decide (a = b) = false := fun i h => decide_eq_false fun e => h (by rw [e])
  have G0 : a.length = b.length → (∀ j, j < a.length → a.getD j default = b.getD j default) → decide (a = b) = true := fun h h2 => decide_eq_true (list_ext9 h h2)
  generalize decide (a = b) = r at *
  (refine XC.of_body (dt34) Tryd.func34 rfl Tryd.ntmps34 mixed (T := tl34) tk34 (by kernel_rfl) (by simp) rfl rfl rfl rfl rfl ?_; rintro o ho P hP c K hK; have hm : P.follows .mixedOrders = true := hP ▸ mixed; have hT : TOk P tl34 := hP ▸ tk34; (try rw [← ho]); cbv; (repeat (refine StopN.mk ?_; cbv)))
  repeat' (first | (refine Br.mk (fun hb => ?_) (fun hb => ?_) <;> ((try rw [ho] at hb); (try dsimp only [Ar.real, IX.vo] at hb); (try simp only [QU1, QB7, QSyVa] at hb); (try simp only [QBo, beq_iff_eq, beq_eq_false_iff_ne, ne_eq] at hb))) | (refine StopN.mk ?_; cbv) | (refine hK _ _ ?_) | (refine NeedT.mk ?_ ?_))
  · rw [G1 (by ((try clear hR3); (try clear hR2); (try clear hR); (try clear hK); (try simp only [ncCast] at *); (try simp only [castI_eq] at *)); omega)]
    exact .b rfl
  have G0 := G0 (by ((try clear hR3); (try clear hR2); (try clear hR); (try clear hK); (try simp only [ncCast] at *); (try simp only [castI_eq] at *)); omega)
  refine LoopN.over (o := o) (D := dt34) ho hm hT (by kernel_rfl) (fun i : Nat => [(13, xn i)]) (fun _ => []) (fun _ => []) (fun i => i ≤ a.length ∧ ∀ j, j < i → a.getD j default = b.getD j default) (fun i => a.length - i) 0 ⟨Nat.zero_le _, fun j hj => by omega⟩ ?_ ?_
  · (refine ⟨?_, ?_, ?_, ?_⟩ <;> cbv <;> repeat' (first | trivial | exact EqX.rfl' | exact EqO.rfl' | apply And.intro | ((try clear hR3); (try clear hR2); (try clear hR); (try clear hK); (try simp only [ncCast] at *); (try simp only [castI_eq] at *); refine EqX.i ?_; (try rw [ho]); (try dsimp only [Ar.real, IX.vo, IX.val, BX.val, IX.toN]); (try simp only [QU1, QB7, QSyVa]); (repeat rw [wrap_i64 (by omega) (by omega)]); omega)))
  · rintro i ⟨hi, hj⟩ R hR
    have g2 := G2 i
    have st := lt_step (p := fun j => a.getD j default = b.getD j default) hj
    cbv
    repeat' (first | (refine Br.mk (fun hb => ?_) (fun hb => ?_) <;> ((try rw [ho] at hb); (try dsimp only [Ar.real, IX.vo] at hb); (try simp only [QU1, QB7, QSyVa] at hb); (try simp only [QBo, beq_iff_eq, beq_eq_false_iff_ne, ne_eq] at hb))) | (refine StopN.mk ?_; cbv) | (refine hK _ _ ?_) | (refine NeedT.mk ?_ ?_))
    all_goals try (((try clear hR3); (try clear hR2); (try clear hR); (try clear hK); (try simp only [ncCast] at *); (try simp only [castI_eq] at *); (try rw [ho]); (try dsimp only [Ar.real, IX.vo, IX.val, BX.val, IX.toN]); (try simp only [QU1, QB7, QSyVa]); (try simp only [decide_eq_true_eq]); (all_goals (repeat rw [wrap_i64 (by omega) (by omega)])); (all_goals (first | omega | (simp only [Int.ofNat_eq_natCast]; omega)))); done)
    · rw [g2 hb]
      exact .b rfl
    · refine hR _ (i + 1) (by show a.length - (i + 1) < a.length - i; ((try clear hR3); (try clear hR2); (try clear hR); (try clear hK); (try simp only [ncCast] at *); (try simp only [castI_eq] at *)); omega) ⟨by show i + 1 ≤ a.length; ((try clear hR3); (try clear hR2); (try clear hR); (try clear hK); (try simp only [ncCast] at *); (try simp only [castI_eq] at *)); omega, st (by simpa using hb)⟩ ?_
      (refine ⟨?_, ?_, ?_, ?_⟩ <;> cbv <;> repeat' (first | trivial | exact EqX.rfl' | exact EqO.rfl' | apply And.intro | ((try clear hR3); (try clear hR2); (try clear hR); (try clear hK); (try simp only [ncCast] at *); (try simp only [castI_eq] at *); refine EqX.i ?_; (try rw [ho]); (try dsimp only [Ar.real, IX.vo, IX.val, BX.val, IX.toN]); (try simp only [QU1, QB7, QSyVa]); (repeat rw [wrap_i64 (by omega) (by omega)]); omega)))
    · obtain rfl : i = a.length := by ((try clear hR3); (try clear hR2); (try clear hR); (try clear hK); (try simp only [ncCast] at *); (try simp only [castI_eq] at *)); omega
      rw [G0 hj]
      exact .b rfl
theorem x_Same1 (a b : Opn) (ha : a.vec.length ≤ 1048576) (hb : b.vec.length ≤ 1048576) : XC Tryd.prog 32 [.agg (Opn.X Ar.real a), .agg (Opn.X Ar.real b)] [] (xb (decide (a = b))) [] := by
  have h1 := x_SameV a.vec b.vec ⟨ha, hb⟩
  have G1 : a.kind ≠ b.kind → decide (a = b) = false := fun h => decide_eq_false fun e => h (by rw [e])
  have G2 : a.id ≠ b.id → decide (a = b) = false := fun h => decide_eq_false fun e => h (by rw [e])
  have G0 : a.kind = b.kind → a.id = b.id → decide (a = b) = vEq a.vec b.vec := fun h h2 => decide_eq_decide.2 ⟨fun e => by rw [e], fun h3 => Opn.ext9 h h2 h3⟩
  generalize decide (a = b) = r at *
  generalize vEq a.vec b.vec = q at *
  obtain ⟨a1, a2, a3⟩ := a
  obtain ⟨b1, b2, b3⟩ := b
  dsimp only at *
  clear ha hb
  (refine XC.of_body ([]) Tryd.func32 rfl Tryd.ntmps32 mixed (T := tl32) tk32 (by kernel_rfl) (by simp) rfl rfl rfl rfl rfl ?_; rintro o ho P hP c K hK; have hm : P.follows .mixedOrders = true := hP ▸ mixed; have hT : TOk P tl32 := hP ▸ tk32; (try rw [← ho]); cbv; (repeat (refine StopN.mk ?_; cbv)))
  rw [← ho] at h1
  repeat' (first | (refine Br.mk (fun hb => ?_) (fun hb => ?_) <;> ((try rw [ho] at hb); (try dsimp only [Ar.real, IX.vo] at hb); (try simp only [QU1, QB7, QSyVa] at hb); (try simp only [QBo, beq_iff_eq, beq_eq_false_iff_ne, ne_eq] at hb))) | (refine StopN.mk ?_; cbv) | (refine CallI.pure hP h1 fn33 rfl rfl rfl ?_); cbv | (refine hK _ _ ?_) | (refine NeedT.mk ?_ ?_))
  · rw [G0 (by assumption) (by assumption)]
    exact .b rfl
  · rw [G2 (by assumption)]
    exact .b rfl
  · rw [G1 (by assumption)]
    exact .b rfl
theorem x_EqFOp (a b : List Opn) (ha : a.length ≤ 1048576) (hb : b.length ≤ 1048576) (va : ∀ i, (a.getD i default).vec.length ≤ 1048576) (vb : ∀ i, (b.getD i default).vec.length ≤ 1048576) :
    XC Tryd.prog 35 [.ro (SL Ar.real Opn.X a), .ro (SL Ar.real Opn.X b), .fn (.func 32) [] []] [] (xb (decide (a = b))) [] := by
  have hq := fun i => x_Same1 (a.getD i default) (b.getD i default) (va i) (vb i)
  have G1 : a.length ≠ b.length → decide (a = b) = false := fun h => decide_eq_false fun e => h (by rw [e])
  have G2 : ∀ i, decide (a.getD i default = b.getD i default) = false → decide (a = b) = false := fun i h => decide_eq_false fun e => of_decide_eq_false h (by rw [e])
  have G0 : a.length = b.length → (∀ j, j < a.length → decide (a.getD j default = b.getD j default) = true) → decide (a = b) = true := fun h h2 => decide_eq_true (list_ext9 h fun j hj => of_decide_eq_true (h2 j hj))
  generalize decide (a = b) = r at *
  clear va vb
  (refine XC.of_body ([]) Tryd.func35 rfl Tryd.ntmps35 mixed (T := tl35) tk35 (by kernel_rfl) (by simp) rfl rfl rfl rfl rfl ?_; rintro o ho P hP c K hK; have hm : P.follows .mixedOrders = true := hP ▸ mixed; have hT : TOk P tl35 := hP ▸ tk35; (try rw [← ho]); cbv; (repeat (refine StopN.mk ?_; cbv)))
  repeat' (first | (refine Br.mk (fun hb => ?_) (fun hb => ?_) <;> ((try rw [ho] at hb); (try dsimp only [Ar.real, IX.vo] at hb); (try simp only [QU1, QB7, QSyVa] at hb); (try simp only [QBo, beq_iff_eq, beq_eq_false_iff_ne, ne_eq] at hb))) | (refine StopN.mk ?_; cbv) | (refine hK _ _ ?_) | (refine NeedT.mk ?_ ?_))
  · rw [G1 (by ((try clear hR3); (try clear hR2); (try clear hR); (try clear hK); (try simp only [ncCast] at *); (try simp only [castI_eq] at *)); omega)]
    exact .b rfl
  have G0 := G0 (by ((try clear hR3); (try clear hR2); (try clear hR); (try clear hK); (try simp only [ncCast] at *); (try simp only [castI_eq] at *)); omega)
  refine LoopN.over (o := o) (D := []) ho hm hT (by kernel_rfl) (fun i : Nat => [(17, xn i)]) (fun _ => []) (fun _ => []) (fun i => i ≤ a.length ∧ ∀ j, j < i → decide (a.getD j default = b.getD j default) = true) (fun i => a.length - i) 0 ⟨Nat.zero_le _, fun j hj => by omega⟩ ?_ ?_
  · (refine ⟨?_, ?_, ?_, ?_⟩ <;> cbv <;> repeat' (first | trivial | exact EqX.rfl' | exact EqO.rfl' | apply And.intro | ((try clear hR3); (try clear hR2); (try clear hR); (try clear hK); (try simp only [ncCast] at *); (try simp only [castI_eq] at *); refine EqX.i ?_; (try rw [ho]); (try dsimp only [Ar.real, IX.vo, IX.val, BX.val, IX.toN]); (try simp only [QU1, QB7, QSyVa]); (repeat rw [wrap_i64 (by omega) (by omega)]); omega)))
  · rintro i ⟨hi, hj⟩ R hR
    have g2 := G2 i
    have st := lt_step (p := fun j => decide (a.getD j default = b.getD j default) = true) hj
    have e1 := hq i
    have ea : o.nth a i = a.getD i default := by rw [ho, real_nth]
    have eb : o.nth b i = b.getD i default := by rw [ho, real_nth]
    rw [← ho] at e1
    generalize decide (a.getD i default = b.getD i default) = q at *
    rw [← ea, ← eb] at e1
    cbv
    repeat' (first | (refine Br.mk (fun hb => ?_) (fun hb => ?_) <;> ((try rw [ho] at hb); (try dsimp only [Ar.real, IX.vo] at hb); (try simp only [QU1, QB7, QSyVa] at hb); (try simp only [QBo, beq_iff_eq, beq_eq_false_iff_ne, ne_eq] at hb))) | (refine StopN.mk ?_; cbv) | (refine CallI.pure hP e1 fn32 rfl rfl rfl ?_); cbv | (refine hK _ _ ?_) | (refine NeedT.mk ?_ ?_))
    all_goals try (((try clear hR3); (try clear hR2); (try clear hR); (try clear hK); (try simp only [ncCast] at *); (try simp only [castI_eq] at *); (try rw [ho]); (try dsimp only [Ar.real, IX.vo, IX.val, BX.val, IX.toN]); (try simp only [QU1, QB7, QSyVa]); (try simp only [decide_eq_true_eq]); (all_goals (repeat rw [wrap_i64 (by omega) (by omega)])); (all_goals (first | omega | (simp only [Int.ofNat_eq_natCast]; omega)))); done)
    all_goals first
      | (rw [g2 (by assumption)]; exact .b rfl)
      | (refine hR _ (i + 1) (by show a.length - (i + 1) < a.length - i; ((try clear hR3); (try clear hR2); (try clear hR); (try clear hK); (try simp only [ncCast] at *); (try simp only [castI_eq] at *)); omega) ⟨by show i + 1 ≤ a.length; ((try clear hR3); (try clear hR2); (try clear hR); (try clear hK); (try simp only [ncCast] at *); (try simp only [castI_eq] at *)); omega, st (by assumption)⟩ ?_
         (refine ⟨?_, ?_, ?_, ?_⟩ <;> cbv <;> repeat' (first | trivial | exact EqX.rfl' | exact EqO.rfl' | apply And.intro | ((try clear hR3); (try clear hR2); (try clear hR); (try clear hK); (try simp only [ncCast] at *); (try simp only [castI_eq] at *); refine EqX.i ?_; (try rw [ho]); (try dsimp only [Ar.real, IX.vo, IX.val, BX.val, IX.toN]); (try simp only [QU1, QB7, QSyVa]); (repeat rw [wrap_i64 (by omega) (by omega)]); omega))))
      | (obtain rfl : i = a.length := by ((try clear hR3); (try clear hR2); (try clear hR); (try clear hK); (try simp only [ncCast] at *); (try simp only [castI_eq] at *)); omega
         rw [G0 hj]
         exact .b rfl)
def samC (a b : Cal) : Bool := decide (a = b)
theorem Cal.ext9 {a b : Cal} (h1 : a.kind = b.kind) (h2 : a.frame = b.frame) (h3 : a.agent = b.agent) (h4 : a.id = b.id) (h5 : a.role = b.role) (h6 : a.weight = b.weight) (h7 : a.time = b.time) (h8 : a.ids = b.ids) (h9 : a.vec = b.vec) (h10 : a.ops = b.ops) : a = b := by
  cases a; cases b; simp_all
theorem x_sSame (a b : Cal) (ha : CalOk a) (hb : CalOk b) : XC Tryd.prog 12 [.agg (Cal.X Ar.real a), .agg (Cal.X Ar.real b)] [] (xb (samC a b)) [] := by
  have c1 := x_EqI64 a.ids b.ids ⟨ha.n_ids, hb.n_ids⟩
  have c2 := x_SameV a.vec b.vec ⟨ha.n_vec, hb.n_vec⟩
  have c3 := x_EqFOp a.ops b.ops ha.n_ops hb.n_ops ha.o1 hb.o1
  have N : ∀ {p : Prop}, (a = b → p) → ¬ p → samC a b = false := fun h h2 => decide_eq_false fun e => h2 (h e)
  have G1 : a.kind ≠ b.kind → samC a b = false := fun h => N (fun e => by rw [e]) h
  have G2 : a.frame ≠ b.frame → samC a b = false := fun h => N (fun e => by rw [e]) h
  have G3 : a.agent ≠ b.agent → samC a b = false := fun h => N (fun e => by rw [e]) h
  have G4 : a.id ≠ b.id → samC a b = false := fun h => N (fun e => by rw [e]) h
  have G5 : a.role ≠ b.role → samC a b = false := fun h => N (fun e => by rw [e]) h
  have G6 : a.weight ≠ b.weight → samC a b = false := fun h => N (fun e => by rw [e]) h
  have G7 : a.time ≠ b.time → samC a b = false := fun h => N (fun e => by rw [e]) h
  have G8 : decide (a.ids = b.ids) = false → samC a b = false := fun h => N (fun e => by rw [e]) (of_decide_eq_false h)
  have G9 : vEq a.vec b.vec = false → samC a b = false := fun h => N (fun e => by rw [e]) (of_decide_eq_false h)
  have G0 : a.kind = b.kind → a.frame = b.frame → a.agent = b.agent → a.id = b.id → a.role = b.role → a.weight = b.weight → a.time = b.time → decide (a.ids = b.ids) = true → vEq a.vec b.vec = true → samC a b = decide (a.ops = b.ops) :=
    fun h1 h2 h3 h4 h5 h6 h7 h8 h9 => decide_eq_decide.2 ⟨fun e => by rw [e], fun h => Cal.ext9 h1 h2 h3 h4 h5 h6 h7 (of_decide_eq_true h8) (of_decide_eq_true h9) h⟩
  clear N
  generalize samC a b = r at *
  generalize decide (a.ids = b.ids) = q1 at *
  generalize vEq a.vec b.vec = q2 at *
  generalize decide (a.ops = b.ops) = q3 at *
  obtain ⟨a1, a2, a3, a4, a5, a6, a7, a8, a9, a10⟩ := a
  obtain ⟨b1, b2, b3, b4, b5, b6, b7, b8, b9, b10⟩ := b
  dsimp only at *
  clear ha hb
  (refine XC.of_body ([]) Tryd.func12 rfl Tryd.ntmps12 mixed (T := tl12) tk12 (by kernel_rfl) (by simp) rfl rfl rfl rfl rfl ?_; rintro o ho P hP c K hK; have hm : P.follows .mixedOrders = true := hP ▸ mixed; have hT : TOk P tl12 := hP ▸ tk12; (try rw [← ho]); cbv; (repeat (refine StopN.mk ?_; cbv)))
  rw [← ho] at c1 c2 c3
  repeat' (first | (refine Br.mk (fun hb => ?_) (fun hb => ?_) <;> ((try rw [ho] at hb); (try dsimp only [Ar.real, IX.vo] at hb); (try simp only [QU1, QB7, QSyVa] at hb); (try simp only [QBo, beq_iff_eq, beq_eq_false_iff_ne, ne_eq] at hb))) | (refine StopN.mk ?_; cbv) | (first | refine CallI.pure hP c1 fn34 rfl rfl rfl ?_ | refine CallI.pure hP c2 fn33 rfl rfl rfl ?_ | refine CallI.pure hP c3 fn35 rfl rfl rfl ?_); cbv | (refine CallI.pure hP (x_Same1 _ _ ‹_› ‹_›) fn32 (by first | rfl | (rw [ho]; try rfl)) (by rfl) (by first | rfl | (rw [ho]; try rfl)) ?_; (try rw [← ho]); generalize hr : decide (_ = _) = r; (try rw [ho] at hr); (try dsimp only [Ar.real, IX.vo] at hr); (try simp only [QU1, QB7, QSyVa] at hr); cbv) | (refine hK _ _ ?_) | (refine NeedT.mk ?_ ?_))
  all_goals first
    | (rw [G1 (by assumption)]; exact .b rfl)
    | (rw [G2 (by assumption)]; exact .b rfl)
    | (rw [G3 (by assumption)]; exact .b rfl)
    | (rw [G4 (by assumption)]; exact .b rfl)
    | (rw [G5 (by assumption)]; exact .b rfl)
    | (rw [G6 (by assumption)]; exact .b rfl)
    | (rw [G7 (by assumption)]; exact .b rfl)
    | (rw [G8 (by assumption)]; exact .b rfl)
    | (rw [G9 (by assumption)]; exact .b rfl)
    | (rw [G0 (by assumption) (by assumption) (by assumption) (by assumption) (by assumption) (by assumption) (by assumption) (by assumption) (by assumption)]; exact .b rfl)
end Go.Proofs.YtkjjihicaefmcaaDoor.Sy
namespace Go.Proofs.YtkjjihicaefmcaaDoor.Sy
open Go Go.Sy Go.Proofs.YtkjjihicaefmcaaDoor
end Go.Proofs.YtkjjihicaefmcaaDoor.Sy
namespace Go.Proofs.YtkjjihicaefmcaaDoor.Sy
open Go Go.Sy Go.Proofs.YtkjjihicaefmcaaDoor
theorem toList_loop (s : ByteArray) : ∀ (n i : Nat) (r : List UInt8), s.size - i = n → i ≤ s.size → ByteArray.toList.loop s i r = r.reverse ++ s.data.toList.drop i
  | 0, i, r, h, hi => by
    unfold ByteArray.toList.loop
    have e : ¬ i < s.size := by omega
    rw [if_neg e, List.drop_of_length_le, List.append_nil]
    show s.data.size ≤ i
    exact Nat.le_of_not_lt e
  | n + 1, i, r, h, hi => by
    unfold ByteArray.toList.loop
    have e : i < s.size := by omega
    rw [if_pos e, toList_loop s n (i + 1) _ (by omega) (by omega)]
    have e2 : i < s.data.toList.length := e
    rw [List.drop_eq_getElem_cons e2]
    have e3 : s.get! i = s.data.toList[i] := by
      show s.data[i]! = _
      have e4 : i < s.data.size := e
      rw [getElem!_pos s.data i e4, Array.getElem_toList]
    rw [e3]
    simp
theorem toList_data (s : ByteArray) : s.toList = s.data.toList := by
  unfold ByteArray.toList
  rw [toList_loop s _ 0 [] rfl (Nat.zero_le _)]
  rfl
def encS (_ : Ar) (s : ByteArray) : List X := [.v (.string s)]
def nmsB : List ByteArray := [⟨#[]⟩, ⟨#[114, 101, 103, 105, 115, 116, 101, 114]⟩, ⟨#[108, 111, 115, 101]⟩, ⟨#[115, 117, 98, 115, 99, 114, 105, 98, 101]⟩, ⟨#[100, 105, 115, 99, 111, 110, 110, 101, 99, 116]⟩, ⟨#[116, 101, 97, 114, 100, 111, 119, 110]⟩, ⟨#[97, 99, 99, 101, 112, 116]⟩, ⟨#[100, 101, 99, 108, 105, 110, 101]⟩, ⟨#[114, 101, 115, 99, 105, 110, 100]⟩, ⟨#[114, 101, 118, 105, 118, 101]⟩, ⟨#[115, 117, 112, 112, 114, 101, 115, 115]⟩, ⟨#[107, 105, 108, 108]⟩, ⟨#[102, 105, 110, 105, 115, 104]⟩, ⟨#[116, 105, 99, 107]⟩, ⟨#[97, 108, 108, 111, 99, 97, 116, 101]⟩, ⟨#[97, 108, 108]⟩]
def idxS (l : List ByteArray) (s : ByteArray) : Int := ixR (fun x => decide (s.data.toList = x.data.toList)) l
def kindP (s : ByteArray) : Int × Bool := if idxS nmsB s < 1 then (0, false) else (idxS nmsB s, true)
theorem x_IndexS (l : List ByteArray) (s : ByteArray) (hl : l.length ≤ 1048576) : XC Tryd.prog 37 [.ro (SL Ar.real encS l), .v (.string s)] [] (xi (idxS l s)) [] := by
  have h1 := fun i => ixR_hit (q := fun x : ByteArray => decide (s.data.toList = x.data.toList)) (l := l) (i := i)
  have h2 := ixR_none (q := fun x : ByteArray => decide (s.data.toList = x.data.toList)) (l := l)
  unfold idxS
  generalize ixR (fun x : ByteArray => decide (s.data.toList = x.data.toList)) l = r at *
  (refine XC.of_body ([]) Tryd.func37 rfl Tryd.ntmps37 mixed (T := tl37) tk37 (by kernel_rfl) (by simp) rfl rfl rfl rfl rfl ?_; rintro o ho P hP c K hK; have hm : P.follows .mixedOrders = true := hP ▸ mixed; have hT : TOk P tl37 := hP ▸ tk37; (try rw [← ho]); cbv; (repeat (refine StopN.mk ?_; cbv)))
  refine LoopN.over (o := o) (D := []) ho hm hT (by kernel_rfl) (fun i : Nat => [(8, xn i)]) (fun _ => []) (fun _ => []) (fun i => i ≤ l.length ∧ ∀ j, j < i → decide (s.data.toList = (l.getD j default).data.toList) = false) (fun i => l.length - i) 0 ⟨Nat.zero_le _, fun j hj => by omega⟩ ?_ ?_
  · (refine ⟨?_, ?_, ?_, ?_⟩ <;> cbv <;> repeat' (first | trivial | exact EqX.rfl' | exact EqO.rfl' | apply And.intro | ((try clear hR3); (try clear hR2); (try clear hR); (try clear hK); (try simp only [ncCast] at *); (try simp only [castI_eq] at *); refine EqX.i ?_; (try rw [ho]); (try dsimp only [Ar.real, IX.vo, IX.val, BX.val, IX.toN]); (try simp only [QU1, QB7, QSyVa]); (repeat rw [wrap_i64 (by omega) (by omega)]); omega)))
  · rintro i ⟨hi, hno⟩ R hR
    have e2 := h1 i
    have st := lt_step (p := fun j => decide (s.data.toList = (l.getD j default).data.toList) = false) hno
    cbv
    repeat' (first | (refine Br.mk (fun hb => ?_) (fun hb => ?_) <;> ((try rw [ho] at hb); (try dsimp only [Ar.real, IX.vo] at hb); (try simp only [QU1, QB7, QSyVa] at hb); (try simp only [QBo, beq_iff_eq, beq_eq_false_iff_ne, ne_eq] at hb))) | (refine StopN.mk ?_; cbv) | (refine hK _ _ ?_) | (refine NeedT.mk ?_ ?_))
    any_goals (((try clear hR3); (try clear hR2); (try clear hR); (try clear hK); (try simp only [ncCast] at *); (try simp only [castI_eq] at *); (try rw [ho]); (try dsimp only [Ar.real, IX.vo, IX.val, BX.val, IX.toN]); (try simp only [QU1, QB7, QSyVa]); (try simp only [decide_eq_true_eq]); (all_goals (repeat rw [wrap_i64 (by omega) (by omega)])); (all_goals (first | omega | (simp only [Int.ofNat_eq_natCast]; omega)))); done)
    · rw [e2 (by ((try clear hR3); (try clear hR2); (try clear hR); (try clear hK); (try simp only [ncCast] at *); (try simp only [castI_eq] at *)); omega) hno (by ((try clear hR3); (try clear hR2); (try clear hR); (try clear hK); (try simp only [ncCast] at *); (try simp only [castI_eq] at *)); rw [toList_data, toList_data] at hb; exact decide_eq_true hb)]
      exact .i rfl
    · refine hR _ (i + 1) (by show l.length - (i + 1) < l.length - i; ((try clear hR3); (try clear hR2); (try clear hR); (try clear hK); (try simp only [ncCast] at *); (try simp only [castI_eq] at *)); omega) ⟨by show i + 1 ≤ l.length; ((try clear hR3); (try clear hR2); (try clear hR); (try clear hK); (try simp only [ncCast] at *); (try simp only [castI_eq] at *)); omega, st (by ((try clear hR3); (try clear hR2); (try clear hR); (try clear hK); (try simp only [ncCast] at *); (try simp only [castI_eq] at *)); rw [toList_data, toList_data] at hb; exact decide_eq_false hb)⟩ ?_
      (refine ⟨?_, ?_, ?_, ?_⟩ <;> cbv <;> repeat' (first | trivial | exact EqX.rfl' | exact EqO.rfl' | apply And.intro | ((try clear hR3); (try clear hR2); (try clear hR); (try clear hK); (try simp only [ncCast] at *); (try simp only [castI_eq] at *); refine EqX.i ?_; (try rw [ho]); (try dsimp only [Ar.real, IX.vo, IX.val, BX.val, IX.toN]); (try simp only [QU1, QB7, QSyVa]); (repeat rw [wrap_i64 (by omega) (by omega)]); omega)))
    · obtain rfl : i = l.length := by ((try clear hR3); (try clear hR2); (try clear hR); (try clear hK); (try simp only [ncCast] at *); (try simp only [castI_eq] at *)); omega
      rw [h2 hno]
      exact .i rfl
theorem x_sKind (s : ByteArray) : XC Tryd.prog 15 [.v (.string s)] [] (.tup [xi (kindP s).1, xb (kindP s).2]) [] := by
  have h1 : XC Tryd.prog 37 [.ro (.lits (nmsB.map (encS Ar.real))), .v (.string s)] [] (xi (idxS nmsB s)) [] := XC_at (x_IndexS nmsB s (by decide)) (fun c => rfl) (fun c => rfl)
  have E1 : idxS nmsB s < 1 → kindP s = (0, false) := fun h => by unfold kindP; rw [if_pos h]
  have E2 : ¬ idxS nmsB s < 1 → kindP s = (idxS nmsB s, true) := fun h => by unfold kindP; rw [if_neg h]
  generalize kindP s = r at *
  generalize idxS nmsB s = n at *
  (refine XC.of_body ([]) Tryd.func15 rfl Tryd.ntmps15 mixed (T := tl15) tk15 (by kernel_rfl) (by simp) rfl rfl rfl rfl rfl ?_; rintro o ho P hP c K hK; have hm : P.follows .mixedOrders = true := hP ▸ mixed; have hT : TOk P tl15 := hP ▸ tk15; (try rw [← ho]); cbv; (repeat (refine StopN.mk ?_; cbv)))
  refine OpN.asl 0 rfl (by rw [hP]; exact tok64.k) (by rw [hP]; exact tok9.sz) (by decide) (by decide) rfl (by decide) (.inl ⟨rfl, rfl⟩) ?_
  cbv
  repeat' (first | (refine Br.mk (fun hb => ?_) (fun hb => ?_) <;> ((try rw [ho] at hb); (try dsimp only [Ar.real, IX.vo] at hb); (try simp only [QU1, QB7, QSyVa] at hb); (try simp only [QBo, beq_iff_eq, beq_eq_false_iff_ne, ne_eq] at hb))) | (refine StopN.mk ?_; cbv) | (refine CallI.pure hP h1 fn37 rfl rfl rfl ?_); cbv | (refine hK _ _ ?_) | (refine NeedT.mk ?_ ?_))
  · rw [E1 (by ((try clear hR3); (try clear hR2); (try clear hR); (try clear hK); (try simp only [ncCast] at *); (try simp only [castI_eq] at *)); omega)]
    exact .pure fun _ => rfl
  · rw [E2 (by ((try clear hR3); (try clear hR2); (try clear hR); (try clear hK); (try simp only [ncCast] at *); (try simp only [castI_eq] at *)); omega)]
    exact .pure fun _ => rfl
theorem x_OpName2 : XC Tryd.prog 27 [il 2] [] (.v (.string ⟨#[114, 101, 115, 101, 114, 118, 101]⟩)) [] := by
  (refine XC.of_body ([]) Tryd.func27 rfl Tryd.ntmps27 mixed (T := tl27) tk27 (by kernel_rfl) (by simp) rfl rfl rfl rfl rfl ?_; rintro o ho P hP c K hK; have hm : P.follows .mixedOrders = true := hP ▸ mixed; have hT : TOk P tl27 := hP ▸ tk27; (try rw [← ho]); cbv; (repeat (refine StopN.mk ?_; cbv)))
  repeat' (first | (refine Br.mk (fun hb => ?_) (fun hb => ?_) <;> ((try rw [ho] at hb); (try dsimp only [Ar.real, IX.vo] at hb); (try simp only [QU1, QB7, QSyVa] at hb); (try simp only [QBo, beq_iff_eq, beq_eq_false_iff_ne, ne_eq] at hb))) | (refine StopN.mk ?_; cbv) | (refine NeedT.mk (by rw [ho]; rfl) ?_) | (refine hK _ _ ?_) | (refine NeedT.mk ?_ ?_))
  exact .pure fun _ => rfl
end Go.Proofs.YtkjjihicaefmcaaDoor.Sy

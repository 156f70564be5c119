/-
  Numbers by words: multiplied. Plain theorems.
-/
import Derived.Test.YtddgcegimmcbgaaMb
import Derived.Test.YtddgcegimmcbgaaSyZc
import Derived.Test.YtddgcegimmcbgaaSyZd
set_option linter.unusedSectionVars false
set_option maxRecDepth 100000
set_option maxHeartbeats 8000000
set_option linter.unusedVariables false
set_option linter.unusedSimpArgs false
namespace Go.Proofs.Ytddgcegimmcbgaa.Sy
open Go Go.Sy Go.Proofs.Ytddgcegimmcbgaa
theorem x_nmul (a b : Nat) (ha : (wd a).length ≤ 131072) (hb' : (wd b).length ≤ 131072) : XC Try.prog 136 [.ro (SL Ar.real encU (wd a)), .ro (SL Ar.real encU (wd b))] [] (.ro (SL Ar.real encU (wd (a * b)))) [] := by
  have wa := wd_ok a
  have wb := wd_ok b
  obtain ⟨M, hM⟩ : ∃ M, M = (wd a).length + (wd b).length := ⟨_, rfl⟩
  have hend : ∀ out, InMu a b M ⟨(wd a).length, out⟩ → vl out = a * b := fun out h => by
    have := h.val
    dsimp only at this
    rwa [wd_mod] at this
  have hTr := fun out (h : WOk out) (hl : out.length ≤ 1048576) => x_trim out h hl
  have st := fun V A c i k out => mul_step (V := V) (A := A) (b := b) (c := c) (i := i) (k := k) (out := out) rfl rfl
  have se := fun i out0 out c (h : InMu a b M ⟨i, out0⟩) => mul_end (out := out) (c := c) h hM
  obtain ⟨z, hz⟩ : ∃ q, q = List.replicate M (0 : Nat) := ⟨_, rfl⟩
  have h0 : InMu a b M ⟨0, z⟩ := ⟨Nat.zero_le _, by rw [hz, List.length_replicate], by rw [hz]; exact WOk_rep M, by rw [hz, vl_rep]; simp [Nat.mod_one], fun j _ => by
    rw [hz]
    simp only [List.getD_eq_getElem?_getD, List.getElem?_replicate]
    split <;> rfl⟩
  have hM2 : M ≤ 262144 := by omega
  obtain ⟨s, hs⟩ : ∃ s, s = a * b := ⟨_, rfl⟩
  rw [← hs] at hend ⊢
  generalize hres : wd s = res at *
  have il := fun (s : StMu) (h : InMu a b M s) => h.i
  have kl := fun V A i out0 (s : StMi) (h : InMi b M V A i out0 s) => h.k
  have k0 : ∀ (V A i : Nat) out0, WOk out0 → out0.length = M → vl out0 = V → InMi b M V A i out0 ⟨0, 0, out0⟩ := fun V A i out0 h h' h'' => ⟨Nat.zero_le _, h', h, ⟨Int.le_refl 0, show (0 : Int) < 4294967296 by decide⟩, by simp [h'', Nat.mod_one], fun _ _ => rfl⟩
  have k1 : ∀ (V A i k c : Nat) out0 out (c0 : Int), InMi b M V A i out0 ⟨k, c0, out⟩ → k < (wd b).length → i + k < M → c = c0.toNat → A < 4294967296 → InMi b M V A i out0 ⟨k + 1, (((c + (A * (wd b).getD k 0 + out.getD (i + k) 0)) / 4294967296 : Nat) : Int), out.set (i + k) ((c + (A * (wd b).getD k 0 + out.getD (i + k) 0)) % 4294967296)⟩ := by
    rintro V A i k c out0 out c0 ⟨h1, h2, h3, h4, h5, h6⟩ hk hi hc hA
    dsimp only at *
    have hB := wb k
    have hX := h3 (i + k)
    have hm : A * (wd b).getD k 0 ≤ 4294967295 * 4294967295 := Nat.mul_le_mul (by omega) (by omega)
    have hs := st V A c i k out (by omega) (by rw [hc]; exact h5)
    refine ⟨by show k + 1 ≤ _; omega, by show (out.set _ _).length = M; rw [List.length_set]; exact h2, h3.set (Nat.mod_lt _ (by decide)), by dsimp only; omega, ?_, fun j hj => ?_⟩
    · show _ + (Int.toNat _) * _ = _
      rw [Int.toNat_natCast]
      exact hs
    · show (out.set _ _).getD j 0 = _
      have hj' : i + (k + 1) ≤ j := hj
      rw [getD_setN _ _ _ _ (by omega), if_neg (by omega), h6 j (by omega)]
  clear st
  generalize hx : wd a = x at *
  generalize hy : wd b = y at *
  have hfit : IntKind.i64.wrap ((x.length : Int) + y.length) = (M : Int) := by rw [wrap_i64 (by omega) (by omega), hM]; omega
  have hz1 : (IntKind.i64.wrap ((x.length : Int) + y.length)).toNat = M := by rw [hfit, Int.toNat_natCast]
  (refine XC.of_body ([(9, [])]) Try.func136 rfl Try.ntmps136 mixed (T := [(3, ti3), (142, ti142), (155, ti155), (220, ti220)]) (.cons tok3 (.cons tok142 (.cons tok155 (.cons tok220 .nil)))) (by kernel_rfl) (by simp) rfl rfl rfl rfl rfl ?_; rintro o ho P hP c K hK; have hm : P.follows .mixedOrders = true := hP ▸ mixed; have hT : TOk P [(3, ti3), (142, ti142), (155, ti155), (220, ti220)] := hP ▸ (.cons tok3 (.cons tok142 (.cons tok155 (.cons tok220 .nil)))); (try rw [← ho]); cbv; (repeat (refine StopN.mk ?_; cbv)))
  repeat' (first | (refine Br.mk (fun hb => ?_) (fun hb => ?_) <;> ((try rw [ho] at hb); (try dsimp only [Ar.real, IX.vo] at hb); (try simp only [QB7] at hb); (try simp only [QBo, beq_iff_eq, beq_eq_false_iff_ne, ne_eq] at hb))) | (refine StopN.mk ?_; cbv) | ((first | refine CallI.pure hP (x_trim _ ‹_› ‹_›) fn185 (by first | rfl | (rw [ho]; done) | (rw [ho]; rfl)) (by rfl) (by first | rfl | (rw [ho]; done) | (rw [ho]; rfl)) ?_ | refine CallN.pure hP (x_trim _ ‹_› ‹_›) fn185 (by first | rfl | (rw [ho]; done) | (rw [ho]; rfl)) (by rfl) (by first | rfl | (rw [ho]; done) | (rw [ho]; rfl)) ?_); (try rw [← ho]); cbv) | (refine hK _ _ ?_) | (refine NeedT.mk ?_ ?_))
  any_goals (((try clear hR3); (try clear hR2); (try clear hR); (try clear hK); (try simp only [ncCast] at *); (try simp only [castI_eq] at *); (try rw [ho]); (try dsimp only [Ar.real, IX.vo, IX.val, BX.val, IX.toN]); (try simp only [QB7]); (try simp only [decide_eq_true_eq]); (all_goals (repeat rw [wrap_i64 (by omega) (by omega)])); (all_goals (first | omega | (simp only [Int.ofNat_eq_natCast]; omega)))); done)
  refine LoopN.over (o := o) (D := [(9, [])]) ho hm hT (by kernel_rfl) (fun s : StMu => [(17, xn s.i)]) (fun s => [(0, .row 0 220 1 (SL o encU s.out))]) (fun _ => []) (InMu a b M) (fun s => x.length - s.i) ⟨0, z⟩ h0 ?_ ?_
  · refine ⟨(by cbv), by cbv; repeat' (first | trivial | exact EqX.rfl' | exact EqO.rfl' | apply And.intro | ((try clear hR3); (try clear hR2); (try clear hR); (try clear hK); (try simp only [ncCast] at *); (try simp only [castI_eq] at *); refine EqX.i ?_; (try rw [ho]); (try dsimp only [Ar.real, IX.vo, IX.val, BX.val, IX.toN]); (try simp only [QB7]); (repeat rw [wrap_i64 (by omega) (by omega)]); omega) | (refine EqO.row rfl (rows_zeroU ho hz ?_); rw [ho]; exact hz1)), by cbv; repeat' (first | trivial | exact EqO.rfl' | apply And.intro | (refine EqO.row rfl (rows_zeroU ho hz ?_); rw [ho]; exact hz1)), by cbv; repeat' (first | trivial | exact EqO.rfl' | apply And.intro | (refine EqO.row rfl (rows_zeroU ho hz ?_); rw [ho]; exact hz1))⟩
  · rintro ⟨i, out0⟩ hI R hR
    have hi := il _ hI
    have hl0 := hI.len
    have hok0 := hI.ok
    dsimp only at hi hl0 hok0
    have se1 := se i out0
    have kk0 := k0 (vl out0) (x.getD i 0) i out0 hok0 hl0 rfl
    have kk1 := fun k c out => k1 (vl out0) (x.getD i 0) i k c out0 out
    have kl1 := kl (vl out0) (x.getD i 0) i out0
    have hpw := wa i
    generalize hA : x.getD i 0 = A at *
    generalize vl out0 = V at *
    cbv
    repeat' (first | (refine Br.mk (fun hb => ?_) (fun hb => ?_) <;> ((try rw [ho] at hb); (try dsimp only [Ar.real, IX.vo] at hb); (try simp only [QB7] at hb); (try simp only [QBo, beq_iff_eq, beq_eq_false_iff_ne, ne_eq] at hb))) | (refine StopN.mk ?_; cbv) | (first | refine FrzN.frz 0 [66] rfl (fun t ht => by rw [List.mem_singleton.1 ht]; rfl) (.done ?_)); cbv | ((first | refine CallI.pure hP (x_trim _ ‹_› ‹_›) fn185 (by first | rfl | (rw [ho]; done) | (rw [ho]; rfl)) (by rfl) (by first | rfl | (rw [ho]; done) | (rw [ho]; rfl)) ?_ | refine CallN.pure hP (x_trim _ ‹_› ‹_›) fn185 (by first | rfl | (rw [ho]; done) | (rw [ho]; rfl)) (by rfl) (by first | rfl | (rw [ho]; done) | (rw [ho]; rfl)) ?_); (try rw [← ho]); cbv) | (refine hK _ _ ?_) | (refine NeedT.mk ?_ ?_))
    · refine LoopN.over (o := o) (D := [(9, [])]) ho hm hT (by kernel_rfl) (fun s : StMi => [(22, xn s.k), (7, xu s.c)]) (fun s => [(0, .row 0 220 1 (SL o encU s.out))]) (fun _ => []) (InMi b M V A i out0) (fun s => y.length - s.k) ⟨0, 0, out0⟩ kk0 ?_ ?_
      · refine ⟨(by cbv), by cbv; repeat' (first | trivial | exact EqX.rfl' | exact EqO.rfl' | apply And.intro | ((try clear hR3); (try clear hR2); (try clear hR); (try clear hK); (try simp only [ncCast] at *); (try simp only [castI_eq] at *); refine EqX.i ?_; (try rw [ho]); (try dsimp only [Ar.real, IX.vo, IX.val, BX.val, IX.toN]); (try simp only [QB7]); (repeat rw [wrap_i64 (by omega) (by omega)]); omega) | (refine EqX.i ?_; rfl)), by cbv; repeat' (first | trivial | exact EqO.rfl' | apply And.intro | (refine EqX.i ?_; rfl)), by cbv; repeat' (first | trivial | exact EqO.rfl' | apply And.intro | (refine EqX.i ?_; rfl))⟩
      · rintro ⟨k, c, out⟩ hJ R2 hR2
        have hk := kl1 _ hJ
        have hl := hJ.len
        have hok := hJ.ok
        have hcb := hJ.c
        dsimp only at hk hl hok hcb
        have kk2 := kk1 k c.toNat out c hJ
        have hqw := wb k
        have hxw := hok (i + k)
        generalize hB : y.getD k 0 = B at *
        generalize hX : out.getD (i + k) 0 = Xd at *
        cbv
        repeat' (first | (refine Br.mk (fun hb => ?_) (fun hb => ?_) <;> ((try rw [ho] at hb); (try dsimp only [Ar.real, IX.vo] at hb); (try simp only [QB7] at hb); (try simp only [QBo, beq_iff_eq, beq_eq_false_iff_ne, ne_eq] at hb))) | (refine StopN.mk ?_; cbv) | ((first | refine CallI.pure hP (x_trim _ ‹_› ‹_›) fn185 (by first | rfl | (rw [ho]; done) | (rw [ho]; rfl)) (by rfl) (by first | rfl | (rw [ho]; done) | (rw [ho]; rfl)) ?_ | refine CallN.pure hP (x_trim _ ‹_› ‹_›) fn185 (by first | rfl | (rw [ho]; done) | (rw [ho]; rfl)) (by rfl) (by first | rfl | (rw [ho]; done) | (rw [ho]; rfl)) ?_); (try rw [← ho]); cbv) | (refine hK _ _ ?_) | (refine NeedT.mk ?_ ?_))
        any_goals (((try clear hR3); (try clear hR2); (try clear hR); (try clear hK); (try simp only [ncCast] at *); (try simp only [castI_eq] at *); (try rw [ho]); (try dsimp only [Ar.real, IX.vo, IX.val, BX.val, IX.toN]); (try simp only [QB7]); (try simp only [decide_eq_true_eq]); (all_goals (repeat rw [wrap_i64 (by omega) (by omega)])); (all_goals (first | omega | (simp only [Int.ofNat_eq_natCast]; omega)))); done)
        · have hik : i < x.length := by ((try clear hR3); (try clear hR2); (try clear hR); (try clear hK); (try simp only [ncCast] at *); (try simp only [castI_eq] at *)); omega
          have hkk : k < y.length := by ((try clear hR3); (try clear hR2); (try clear hR); (try clear hK); (try simp only [ncCast] at *); (try simp only [castI_eq] at *)); omega
          have hiM : i + k < M := by omega
          have hJ' := kk2 hkk hiM rfl hpw
          have hcn : (c.toNat : Int) = c := by omega
          have hm : A * B ≤ 4294967295 * 4294967295 := Nat.mul_le_mul (by omega) (by omega)
          have hix : (IntKind.i64.wrap ((i : Int) + k)).toNat = i + k := by rw [wrap_i64 (by omega) (by omega)]; omega
          have hN : o.wrap .u64 (o.add c (o.wrap .u64 (o.add (o.wrap .u64 (o.mul (o.wrap .u64 (o.ofNat (o.nth x i))) (o.wrap .u64 (o.ofNat (o.nth y k))))) (o.wrap .u64 (o.ofNat (o.nth out (o.toNat (o.wrap .i64 (o.add (o.ofNat i) (o.ofNat k)))))))))) = ((c.toNat + (A * B + Xd) : Nat) : Int) := by
            rw [ho]
            show IntKind.u64.wrap (c + IntKind.u64.wrap (IntKind.u64.wrap (IntKind.u64.wrap ((x.getD i 0 : Nat) : Int) * IntKind.u64.wrap ((y.getD k 0 : Nat) : Int)) + IntKind.u64.wrap ((out.getD (IntKind.i64.wrap ((i : Int) + k)).toNat 0 : Nat) : Int))) = _
            rw [hix, hA, hB, hX, wrap_u64 (a := (A : Int)) (by omega) (by omega), wrap_u64 (a := (B : Int)) (by omega) (by omega), wrap_u64 (a := (Xd : Int)) (by omega) (by omega), ← Int.natCast_mul]
            rw [wrap_u64 (a := ((A * B : Nat) : Int)) (by omega) (by omega), wrap_u64 (a := ((A * B : Nat) : Int) + Xd) (by omega) (by omega), wrap_u64 (by omega) (by omega)]
            omega
          have hnb : c.toNat + (A * B + Xd) < 18446744073709551616 := by omega
          generalize c.toNat + (A * B + Xd) = n at *
          have e2 := low_u32w (n := n) hnb
          have e3 := shr_nat .u64 n 32 (by decide)
          obtain ⟨out', hout'⟩ : ∃ o', o' = out.set (i + k) (n % 4294967296) := ⟨_, rfl⟩
          obtain ⟨c', hc'⟩ : ∃ c' : Int, c' = ((n / 4294967296 : Nat) : Int) := ⟨_, rfl⟩
          replace hJ' : InMi b M V A i out0 ⟨k + 1, c', out'⟩ := by rw [hc', hout']; exact hJ'
          have hv0 : (IX.s (o.wrap .i64 (o.add (o.ofNat i) (o.ofNat k)))).val = ((i + k : Nat) : Int) := by
            rw [ho]
            show IntKind.i64.wrap ((i : Int) + k) = _
            rw [wrap_i64 (by omega) (by omega)]
            omega
          have hv1 : X.toCL [.i .u32 (.s (o.wrap .u32 (o.wrap .u64 (o.band .u64 (o.wrap .u64 (o.add c (o.wrap .u64 (o.add (o.wrap .u64 (o.mul (o.wrap .u64 (o.ofNat (o.nth x i))) (o.wrap .u64 (o.ofNat (o.nth y k))))) (o.wrap .u64 (o.ofNat (o.nth out (o.toNat (o.wrap .i64 (o.add (o.ofNat i) (o.ofNat k)))))))))) ) 4294967295))))] = X.toCL (encU Ar.real (n % 4294967296)) := by
            rw [hN, ho]
            show [C.v (.int .u32 (IntKind.u32.wrap (IntKind.u64.wrap ((BitVec.ofInt 64 (n : Int) &&& BitVec.ofInt 64 4294967295).toNat : Int))))] = [C.v (.int .u32 ((n % 4294967296 : Nat) : Int))]
            rw [e2]
          have hv2 : (IX.s (o.shr .u64 (o.wrap .u64 (o.add c (o.wrap .u64 (o.add (o.wrap .u64 (o.mul (o.wrap .u64 (o.ofNat (o.nth x i))) (o.wrap .u64 (o.ofNat (o.nth y k))))) (o.wrap .u64 (o.ofNat (o.nth out (o.toNat (o.wrap .i64 (o.add (o.ofNat i) (o.ofNat k)))))))))) ) 32)).val = c' := by
            rw [hN, ho, hc']
            exact e3
          refine hR2 _ ⟨k + 1, c', out'⟩ (by show y.length - (k + 1) < y.length - k; omega) hJ' ?_
          refine ⟨(by cbv), by cbv; repeat' (first | trivial | exact EqX.rfl' | exact EqO.rfl' | apply And.intro | ((try clear hR3); (try clear hR2); (try clear hR); (try clear hK); (try simp only [ncCast] at *); (try simp only [castI_eq] at *); refine EqX.i ?_; (try rw [ho]); (try dsimp only [Ar.real, IX.vo, IX.val, BX.val, IX.toN]); (try simp only [QB7]); (repeat rw [wrap_i64 (by omega) (by omega)]); omega) | (exact EqX.i hv2) | (exact EqO.set ho encU out _ _ (i + k) _ _ rfl hout' hv0 hv1)), by cbv; repeat' (first | trivial | exact EqO.rfl' | apply And.intro | (exact EqX.i hv2) | (exact EqO.set ho encU out _ _ (i + k) _ _ rfl hout' hv0 hv1)), by cbv; repeat' (first | trivial | exact EqO.rfl' | apply And.intro | (exact EqX.i hv2) | (exact EqO.set ho encU out _ _ (i + k) _ _ rfl hout' hv0 hv1))⟩
        · have hik : i < x.length := by ((try clear hR3); (try clear hR2); (try clear hR); (try clear hK); (try simp only [ncCast] at *); (try simp only [castI_eq] at *)); omega
          obtain rfl : k = y.length := by ((try clear hR3); (try clear hR2); (try clear hR); (try clear hK); (try simp only [ncCast] at *); (try simp only [castI_eq] at *)); omega
          have hI' := se1 out c hI hik hJ
          have hix : IntKind.i64.wrap ((i : Int) + y.length) = ((i + y.length : Nat) : Int) := by rw [wrap_i64 (by omega) (by omega)]; omega
          obtain ⟨out', hout'⟩ : ∃ o', o' = out.set (i + y.length) c.toNat := ⟨_, rfl⟩
          rw [← hout'] at hI'
          have hv0 : (IX.s (o.wrap .i64 (o.add (o.ofNat i) (o.ofNat (o.len y))))).val = ((i + y.length : Nat) : Int) := by
            rw [ho]
            exact hix
          have hv1 : X.toCL [.i .u32 (.s (o.wrap .u32 c))] = X.toCL (encU Ar.real c.toNat) := by
            rw [ho]
            show [C.v (.int .u32 (IntKind.u32.wrap c))] = [C.v (.int .u32 ((c.toNat : Nat) : Int))]
            rw [wrap_u32 (by omega) (by omega), show ((c.toNat : Nat) : Int) = c by omega]
          refine hR _ ⟨i + 1, out'⟩ (by show x.length - (i + 1) < x.length - i; omega) hI' ?_
          refine ⟨(by cbv), by cbv; repeat' (first | trivial | exact EqX.rfl' | exact EqO.rfl' | apply And.intro | ((try clear hR3); (try clear hR2); (try clear hR); (try clear hK); (try simp only [ncCast] at *); (try simp only [castI_eq] at *); refine EqX.i ?_; (try rw [ho]); (try dsimp only [Ar.real, IX.vo, IX.val, BX.val, IX.toN]); (try simp only [QB7]); (repeat rw [wrap_i64 (by omega) (by omega)]); omega) | (exact EqO.set ho encU out _ _ (i + y.length) _ _ rfl hout' hv0 hv1)), by cbv; repeat' (first | trivial | exact EqO.rfl' | apply And.intro | (exact EqO.set ho encU out _ _ (i + y.length) _ _ rfl hout' hv0 hv1)), by cbv; repeat' (first | trivial | exact EqO.rfl' | apply And.intro | (exact EqO.set ho encU out _ _ (i + y.length) _ _ rfl hout' hv0 hv1))⟩
    · obtain rfl : i = x.length := by ((try clear hR3); (try clear hR2); (try clear hR); (try clear hK); (try simp only [ncCast] at *); (try simp only [castI_eq] at *)); omega
      have hT1 := hTr out0 hok0 (by omega)
      rw [hend out0 hI, hres, ← ho] at hT1
      refine CallI.pure hP hT1 fn185 rfl rfl rfl ?_
      cbv
      repeat' (first | (refine Br.mk (fun hb => ?_) (fun hb => ?_) <;> ((try rw [ho] at hb); (try dsimp only [Ar.real, IX.vo] at hb); (try simp only [QB7] at hb); (try simp only [QBo, beq_iff_eq, beq_eq_false_iff_ne, ne_eq] at hb))) | (refine StopN.mk ?_; cbv) | ((first | refine CallI.pure hP (x_trim _ ‹_› ‹_›) fn185 (by first | rfl | (rw [ho]; done) | (rw [ho]; rfl)) (by rfl) (by first | rfl | (rw [ho]; done) | (rw [ho]; rfl)) ?_ | refine CallN.pure hP (x_trim _ ‹_› ‹_›) fn185 (by first | rfl | (rw [ho]; done) | (rw [ho]; rfl)) (by rfl) (by first | rfl | (rw [ho]; done) | (rw [ho]; rfl)) ?_); (try rw [← ho]); cbv) | (refine hK _ _ ?_) | (refine NeedT.mk ?_ ?_))
      exact .ro (by rw [ho])
end Go.Proofs.Ytddgcegimmcbgaa.Sy
namespace Go.Proofs.Ytddgcegimmcbgaa.Sy
open Go Go.Sy Go.Proofs.Ytddgcegimmcbgaa
theorem vl_at {l : List Nat} (h : WOk l) : ∀ i, l.getD i 0 = vl l / 4294967296 ^ i % 4294967296 := by
  induction l with
  | nil => intro i; simp [vl]
  | cons d l ih =>
    intro i
    have hd := h.head
    cases i with
    | zero =>
      simp only [vl, List.getD_cons_zero, Nat.pow_zero, Nat.div_one]
      omega
    | succ i =>
      rw [List.getD_cons_succ, ih h.tail i, Nat.pow_succ, Nat.mul_comm (4294967296 ^ i), ← Nat.div_div_eq_div_mul]
      congr 2
      simp only [vl]
      omega
theorem pow_word (j : Nat) : 4294967296 ^ j = 2 ^ (32 * j) := by
  rw [Nat.pow_mul]
theorem bit_word (x m : Nat) : x / 4294967296 ^ (m / 32) % 4294967296 / 2 ^ (m % 32) % 2 = x / 2 ^ m % 2 := by
  have h1 : 2 ^ m = 4294967296 ^ (m / 32) * 2 ^ (m % 32) := by
    rw [pow_word, ← Nat.pow_add]
    congr 1
    omega
  rw [h1, ← Nat.div_div_eq_div_mul]
  generalize x / 4294967296 ^ (m / 32) = y
  have hk : m % 32 < 32 := Nat.mod_lt _ (by decide)
  generalize m % 32 = k at *
  have h2 : 4294967296 = 2 ^ k * (2 * 2 ^ (31 - k)) := by
    rw [← Nat.pow_succ', ← Nat.pow_add]
    have : k + (31 - k + 1) = 32 := by omega
    rw [this]
  rw [h2, Nat.mod_mul_right_div_self, Nat.mod_mul_right_mod]
theorem or_bit {w k : Nat} (h : w / 2 ^ k % 2 = 0) : w ||| 2 ^ k = w + 2 ^ k := by
  have hl : w % 2 ^ k < 2 ^ k := Nat.mod_lt _ (Nat.pow_pos (by decide))
  have hw : w = (w / 2 ^ k / 2) <<< (k + 1) + w % 2 ^ k := by
    rw [Nat.shiftLeft_eq, Nat.pow_succ]
    have h1 := Nat.div_add_mod w (2 ^ k)
    have h2 : w / 2 ^ k = 2 * (w / 2 ^ k / 2) := by omega
    have h3 : w / 2 ^ k / 2 * (2 ^ k * 2) = 2 ^ k * (w / 2 ^ k) := by
      rw [show 2 ^ k * (w / 2 ^ k) = 2 ^ k * (2 * (w / 2 ^ k / 2)) by rw [← h2]]
      rw [Nat.mul_comm, Nat.mul_assoc]
    omega
  generalize w % 2 ^ k = l at *
  generalize w / 2 ^ k / 2 = g at *
  have h2 : 2 ^ k + l < 2 ^ (k + 1) := by rw [Nat.pow_succ]; omega
  have hl2 : l < 2 ^ (k + 1) := by omega
  have e1 : w ||| 2 ^ k = g <<< (k + 1) ||| (l ||| 2 ^ k) := by rw [hw, Nat.shiftLeft_add_eq_or_of_lt hl2, Nat.or_assoc]
  have e2 : w + 2 ^ k = g <<< (k + 1) ||| (2 ^ k ||| l) := by
    have h3 := Nat.two_pow_add_eq_or_of_lt hl 1
    rw [Nat.mul_one] at h3
    rw [← h3, ← Nat.shiftLeft_add_eq_or_of_lt h2]
    omega
  rw [e1, e2, Nat.or_comm l]
theorem div_step {a b m : Nat} (hb : 0 < b) : (a / 2 ^ (m + 1) % b + a / 2 ^ (m + 1) % b + a / 2 ^ m % 2 < b → a / 2 ^ m % b = a / 2 ^ (m + 1) % b + a / 2 ^ (m + 1) % b + a / 2 ^ m % 2 ∧ a / 2 ^ m / b * 2 ^ m = a / 2 ^ (m + 1) / b * 2 ^ (m + 1)) ∧
    (b ≤ a / 2 ^ (m + 1) % b + a / 2 ^ (m + 1) % b + a / 2 ^ m % 2 → a / 2 ^ m % b = a / 2 ^ (m + 1) % b + a / 2 ^ (m + 1) % b + a / 2 ^ m % 2 - b ∧ a / 2 ^ m / b * 2 ^ m = a / 2 ^ (m + 1) / b * 2 ^ (m + 1) + 2 ^ m) := by
  have h0 : a / 2 ^ m = 2 * (a / 2 ^ (m + 1)) + a / 2 ^ m % 2 := by
    rw [Nat.pow_succ, ← Nat.div_div_eq_div_mul]
    omega
  have hbit : a / 2 ^ m % 2 < 2 := Nat.mod_lt _ (by decide)
  generalize a / 2 ^ m % 2 = t at *
  generalize a / 2 ^ (m + 1) = A at *
  rw [h0]
  have h1 := Nat.div_add_mod A b
  have h2 := Nat.mod_lt A hb
  generalize A / b = q at *
  generalize A % b = r at *
  refine ⟨fun h => ?_, fun h => ?_⟩
  · have e : 2 * A + t = (r + r + t) + b * (2 * q) := by rw [← h1]; grind
    rw [e, Nat.add_mul_mod_self_left, Nat.add_mul_div_left _ _ hb, Nat.mod_eq_of_lt h, Nat.div_eq_of_lt h, Nat.zero_add, Nat.pow_succ]
    exact ⟨rfl, by grind⟩
  · have e : 2 * A + t = (r + r + t - b) + b * (2 * q + 1) := by
      have : b * (2 * q + 1) = b * (2 * q) + b := by rw [Nat.mul_add, Nat.mul_one]
      have h3 : 2 * A + t = (r + r + t) + b * (2 * q) := by rw [← h1]; grind
      omega
    have h4 : r + r + t - b < b := by omega
    rw [e, Nat.add_mul_mod_self_left, Nat.add_mul_div_left _ _ hb, Nat.mod_eq_of_lt h4, Nat.div_eq_of_lt h4, Nat.zero_add, Nat.pow_succ]
    exact ⟨rfl, by grind⟩
structure StDv where
  n : Nat
  i : Int
  r : Nat
  rl : List Nat
  out : List Nat
structure InDv (a b M : Nat) (s : StDv) : Prop where
  n : s.n ≤ 32 * M
  i : s.i = (s.n : Int) - 1
  r : s.r = a / 2 ^ s.n % b
  rl : s.rl = wd s.r
  len : s.out.length = M
  ok : WOk s.out
  val : vl s.out = a / 2 ^ s.n / b * 2 ^ s.n
theorem set_bit {m : Nat} {out : List Nat} {Q : Nat} (hok : WOk out) (hm : m / 32 < out.length) (hv : vl out = Q * 2 ^ (m + 1)) : WOk (out.set (m / 32) (out.getD (m / 32) 0 ||| 2 ^ (m % 32))) ∧ vl (out.set (m / 32) (out.getD (m / 32) 0 ||| 2 ^ (m % 32))) = Q * 2 ^ (m + 1) + 2 ^ m ∧ out.getD (m / 32) 0 ||| 2 ^ (m % 32) < 4294967296 := by
  have h1 := vl_at hok (m / 32)
  have h2 : out.getD (m / 32) 0 / 2 ^ (m % 32) % 2 = 0 := by
    rw [h1, bit_word, hv, Nat.pow_succ, Nat.mul_comm (2 ^ m), ← Nat.mul_assoc, Nat.mul_div_cancel _ (Nat.pow_pos (by decide))]
    omega
  have h3 : out.getD (m / 32) 0 ||| 2 ^ (m % 32) < 2 ^ 32 := Nat.or_lt_two_pow (hok _) (Nat.pow_lt_pow_right (by decide) (Nat.mod_lt _ (by decide)))
  refine ⟨hok.set h3, ?_, h3⟩
  rw [or_bit h2]
  have h4 := vl_set out (m / 32) (out.getD (m / 32) 0 + 2 ^ (m % 32)) hm
  rw [Nat.add_mul] at h4
  have h5 : 2 ^ (m % 32) * 4294967296 ^ (m / 32) = 2 ^ m := by
    rw [pow_word, ← Nat.pow_add]
    congr 1
    omega
  rw [h5] at h4
  omega
theorem wrap_u32n {n : Nat} (h : n < 4294967296) : IntKind.u32.wrap (n : Int) = n := wrap_u32 (by omega) (by omega)
theorem or_u32 {w v : Nat} (hw : w < 4294967296) (hv : v < 4294967296) : ((BitVec.ofInt 32 (w : Int) ||| BitVec.ofInt 32 (v : Int)).toNat : Int) = ((w ||| v : Nat) : Int) := by
  rw [BitVec.ofInt_natCast, BitVec.ofInt_natCast, BitVec.toNat_or, BitVec.toNat_ofNat, BitVec.toNat_ofNat, Nat.mod_eq_of_lt (by omega), Nat.mod_eq_of_lt (by omega)]
theorem toDL1i {c : Cx} {k : IntKind} {x y : IX} (h : x.val = y.val) : X.toDL c [.i k x] = X.toDL c [.i k y] := by simp only [X.toDL, X.toD, h]
theorem x_ndiv (a b : Nat) (hb0 : 0 < b) (ha : (wd a).length ≤ 131072) (hb' : (wd b).length ≤ 131072) : XC Try.prog 188 [.ro (SL Ar.real encU (wd a)), .ro (SL Ar.real encU (wd b))] [] (.tup [.ro (SL Ar.real encU (wd (a / b))), .ro (SL Ar.real encU (wd (a % b)))]) [] := by
  have wa := wd_ok a
  have hbits := fun i (h : i ≤ 1073741824) => x_nbit (wd a) i wa (by omega) h
  have hbv : ∀ i, (wd a).getD (i / 32) 0 / 2 ^ (i % 32) % 2 = a / 2 ^ i % 2 := fun i => by rw [wd_at, bit_word]
  obtain ⟨bt, hbt⟩ : ∃ f : Nat → Int, ∀ i, f i = ((a / 2 ^ i % 2 : Nat) : Int) := ⟨_, fun _ => rfl⟩
  simp only [hbv, ← hbt] at hbits
  clear hbv
  obtain ⟨M, hM⟩ : ∃ M, M = (wd a).length := ⟨_, rfl⟩
  have haM : a < 2 ^ (32 * M) := by rw [← pow_word, hM]; exact wd_lt a
  have hst := fun m => div_step (a := a) (b := b) (m := m) hb0
  have hrb : ∀ r, r < b → (wd r).length ≤ 131072 := fun r h => Nat.le_trans (wd_len (Nat.lt_trans h (wd_lt b))) hb'
  have hr2 : ∀ r, r < b + b → (wd r).length ≤ 131073 := fun r h => Nat.le_trans (wd_len (k := (wd b).length + 1) (by
    have h1 := wd_lt b
    rw [Nat.pow_succ]
    generalize 4294967296 ^ (wd b).length = P at *
    omega)) (by omega)
  have hAdd := fun x y (hx : (wd x).length ≤ 131073) (hy : (wd y).length ≤ 131073) => x_nadd x y (by omega) (by omega)
  have hSub := fun x (h : b ≤ x) (hx : (wd x).length ≤ 131073) => x_nsub x b h (by omega) (by omega)
  have hCmp := fun x (hx : (wd x).length ≤ 131073) => x_ncmp x b (by omega) (by omega)
  have hNo := fun x (hx : x < 2) => x_natOf x (by omega)
  have hw1 : ∀ x, x < 2 → (wd x).length ≤ 131073 := fun x h => Nat.le_trans (wd_len (k := 1) (by omega)) (by decide)
  have hTr := fun out (h : WOk out) (hl : out.length ≤ 1048576) => x_trim out h hl
  have hsb := fun m out Q => set_bit (m := m) (out := out) (Q := Q)
  obtain ⟨z, hz⟩ : ∃ q, q = List.replicate M (0 : Nat) := ⟨_, rfl⟩
  obtain ⟨N0, hN0⟩ : ∃ n, n = 32 * M := ⟨_, rfl⟩
  obtain ⟨i0, hi0⟩ : ∃ q, q = (N0 : Int) - 1 := ⟨_, rfl⟩
  have hM2 : M ≤ 131072 := by omega
  have h0 : InDv a b M ⟨N0, i0, 0, [], z⟩ := ⟨by show N0 ≤ _; omega, hi0, by show 0 = a / 2 ^ N0 % b; rw [hN0, Nat.div_eq_of_lt haM, Nat.zero_mod], wd_zero.symm, by show z.length = M; rw [hz, List.length_replicate], by show WOk z; rw [hz]; exact WOk_rep M, by show vl z = a / 2 ^ N0 / b * 2 ^ N0; rw [hz, vl_rep, hN0, Nat.div_eq_of_lt haM, Nat.zero_div, Nat.zero_mul]⟩
  have hi1 : IntKind.i64.wrap (IntKind.i64.wrap (((wd a).length : Int) * 32) - 1) = i0 := by
    rw [hi0, hN0, wrap_i64 (x := ((wd a).length : Int) * 32) (by omega) (by omega), wrap_i64 (by omega) (by omega)]
    omega
  have hend : ∀ i r rl out, InDv a b M ⟨0, i, r, rl, out⟩ → vl out = a / b ∧ rl = wd (a % b) := fun i r rl out h => by
    have h1 := h.val
    have h2 := h.rl
    have h3 := h.r
    simp only [Nat.pow_zero, Nat.div_one, Nat.mul_one] at h1 h3
    dsimp only at h2 h3
    exact ⟨h1, by rw [h2, h3]⟩
  obtain ⟨dv, hdv⟩ : ∃ x, x = a / b := ⟨_, rfl⟩
  obtain ⟨md, hmd⟩ : ∃ x, x = a % b := ⟨_, rfl⟩
  rw [← hdv, ← hmd]
  simp only [← hdv, ← hmd] at hend
  generalize hd1 : wd dv = resq at *
  generalize hd2 : wd md = resr at *
  generalize hx : wd a = x at *
  generalize hy : wd b = y at *
  (refine XC.of_body ([(9, [])]) Try.func188 rfl Try.ntmps188 mixed (T := [(3, ti3), (142, ti142), (155, ti155), (220, ti220)]) (.cons tok3 (.cons tok142 (.cons tok155 (.cons tok220 .nil)))) (by kernel_rfl) (by simp) rfl rfl rfl rfl rfl ?_; rintro o ho P hP c K hK; have hm : P.follows .mixedOrders = true := hP ▸ mixed; have hT : TOk P [(3, ti3), (142, ti142), (155, ti155), (220, ti220)] := hP ▸ (.cons tok3 (.cons tok142 (.cons tok155 (.cons tok220 .nil)))); (try rw [← ho]); cbv; (repeat (refine StopN.mk ?_; cbv)))
  repeat' (first | (refine Br.mk (fun hb => ?_) (fun hb => ?_) <;> ((try rw [ho] at hb); (try dsimp only [Ar.real, IX.vo] at hb); (try simp only [QB7] at hb); (try simp only [QBo, beq_iff_eq, beq_eq_false_iff_ne, ne_eq] at hb))) | (refine StopN.mk ?_; cbv) | ((first | refine CallI.pure hP (x_natOf _ ‹_›) fn141 (by first | rfl | (rw [ho]; done) | (rw [ho]; rfl)) (by rfl) (by first | rfl | (rw [ho]; done) | (rw [ho]; rfl)) ?_ | refine CallN.pure hP (x_natOf _ ‹_›) fn141 (by first | rfl | (rw [ho]; done) | (rw [ho]; rfl)) (by rfl) (by first | rfl | (rw [ho]; done) | (rw [ho]; rfl)) ?_); (try rw [← ho]); generalize hr : wd _ = r; (try rw [ho] at hr); (try dsimp only [Ar.real, IX.vo] at hr); (try simp only [QB7] at hr); cbv) | ((first | refine CallI.pure hP (x_trim _ ‹_› ‹_›) fn185 (by first | rfl | (rw [ho]; done) | (rw [ho]; rfl)) (by rfl) (by first | rfl | (rw [ho]; done) | (rw [ho]; rfl)) ?_ | refine CallN.pure hP (x_trim _ ‹_› ‹_›) fn185 (by first | rfl | (rw [ho]; done) | (rw [ho]; rfl)) (by rfl) (by first | rfl | (rw [ho]; done) | (rw [ho]; rfl)) ?_); (try rw [← ho]); cbv) | ((first | refine CallI.pure hP (x_nbit _ _ ‹_› ‹_›) fn212 (by first | rfl | (rw [ho]; done) | (rw [ho]; rfl)) (by rfl) (by first | rfl | (rw [ho]; done) | (rw [ho]; rfl)) ?_ | refine CallN.pure hP (x_nbit _ _ ‹_› ‹_›) fn212 (by first | rfl | (rw [ho]; done) | (rw [ho]; rfl)) (by rfl) (by first | rfl | (rw [ho]; done) | (rw [ho]; rfl)) ?_); (try rw [← ho]); cbv) | (refine hK _ _ ?_) | (refine NeedT.mk ?_ ?_))
  any_goals (((try clear hR3); (try clear hR2); (try clear hR); (try clear hK); (try simp only [ncCast] at *); (try simp only [castI_eq] at *); (try rw [ho]); (try dsimp only [Ar.real, IX.vo, IX.val, BX.val, IX.toN]); (try simp only [QB7]); (try simp only [decide_eq_true_eq]); (all_goals (repeat rw [wrap_i64 (by omega) (by omega)])); (all_goals (first | omega | (simp only [Int.ofNat_eq_natCast]; omega)))); done)
  refine LoopN.coe 7 ?_
  refine LoopN.over (o := o) (D := [(9, [])]) ho hm hT (by kernel_rfl) (fun s : StDv => [(8, xi s.i), (7, .ro (SL o encU s.rl))]) (fun s => [(0, .row 0 220 1 (SL o encU s.out))]) (fun _ => []) (InDv a b M) (fun s => s.n) ⟨N0, i0, 0, [], z⟩ h0 ?_ ?_
  · refine ⟨(by cbv), by cbv; repeat' (first | trivial | exact EqX.rfl' | exact EqO.rfl' | apply And.intro | ((try clear hR3); (try clear hR2); (try clear hR); (try clear hK); (try simp only [ncCast] at *); (try simp only [castI_eq] at *); refine EqX.i ?_; (try rw [ho]); (try dsimp only [Ar.real, IX.vo, IX.val, BX.val, IX.toN]); (try simp only [QB7]); (repeat rw [wrap_i64 (by omega) (by omega)]); omega) | (refine EqX.i ?_; rw [ho]; exact hi1) | (exact EqX.ro (rows_nil_SL o ho encU)) | (refine EqO.row rfl (rows_zeroU ho hz ?_); rw [ho]; exact hM.symm)), by cbv; repeat' (first | trivial | exact EqO.rfl' | apply And.intro | (refine EqX.i ?_; rw [ho]; exact hi1) | (exact EqX.ro (rows_nil_SL o ho encU)) | (refine EqO.row rfl (rows_zeroU ho hz ?_); rw [ho]; exact hM.symm)), by cbv; repeat' (first | trivial | exact EqO.rfl' | apply And.intro | (refine EqX.i ?_; rw [ho]; exact hi1) | (exact EqX.ro (rows_nil_SL o ho encU)) | (refine EqO.row rfl (rows_zeroU ho hz ?_); rw [ho]; exact hM.symm))⟩
  · rintro ⟨n, i, r, rl, out⟩ hI R hR
    obtain ⟨hn, hi, hr, hrl, hlen, hok, hval⟩ := id hI
    dsimp only at hn hi hr hrl hlen hok hval
    have hrb1 : r < b := by rw [hr]; exact Nat.mod_lt _ hb0
    obtain ⟨m, hm⟩ : ∃ m, m = i.toNat := ⟨_, rfl⟩
    obtain ⟨t, ht⟩ : ∃ t, t = a / 2 ^ m % 2 := ⟨_, rfl⟩
    have ht2 : t < 2 := by rw [ht]; exact Nat.mod_lt _ (by decide)
    have hA1 := hAdd r r (Nat.le_succ_of_le (hrb r hrb1)) (Nat.le_succ_of_le (hrb r hrb1))
    have hB1 := fun h => hbits m h
    have hB2 := hNo t ht2
    have hA2 := hAdd (r + r) t (hr2 _ (by omega)) (hw1 t ht2)
    have hC1 := hCmp (r + r + t) (hr2 _ (by omega))
    have hS1 := fun h => hSub (r + r + t) h (hr2 _ (by omega))
    have hbm := hbt m
    rw [← ht] at hbm
    rw [← hrl] at hA1
    generalize hl1 : wd (r + r) = l1 at *
    generalize hlt : wd t = lt at *
    generalize hl2 : wd (r + r + t) = l2 at *
    generalize hl3 : wd (r + r + t - b) = l3 at *
    have hcp : ncmp (r + r + t) b < 0 ↔ r + r + t < b := by unfold ncmp; split <;> (try split) <;> omega
    generalize ncmp (r + r + t) b = cp at *
    generalize bt m = bm at *
    have hNi : 0 ≤ i → (IX.s i).val = (IX.nat m).val := fun h => by show i = (m : Int); omega
    have hm1 : 0 ≤ i → m ≤ 1073741824 := fun h => by omega
    have hwi : 0 ≤ i → IntKind.i64.wrap (i - 1) = i - 1 := fun h => wrap_i64 (by omega) (by omega)
    have hidx : 0 ≤ i → IntKind.i64.wrap (i.tdiv 32) = ((m / 32 : Nat) : Int) := fun h => by rw [Int.tdiv_eq_ediv_of_nonneg h, wrap_i64 (by omega) (by omega)]; omega
    have hrem : 0 ≤ i → i.tmod 32 = ((m % 32 : Nat) : Int) := fun h => by rw [Int.tmod_eq_emod_of_nonneg h]; omega
    have hbu : (IX.s (o.wrap .u64 bm)).val = (IX.s (t : Int)).val := by
      rw [ho]
      show IntKind.u64.wrap bm = (t : Int)
      have e : bm = (t : Int) := hbm
      rw [e, wrap_u64 (by omega) (by omega)]
    rw [← ho] at hA1 hB2 hA2 hC1
    simp only [← ho] at hS1
    cbv
    repeat' (first | (refine Br.mk (fun hb => ?_) (fun hb => ?_) <;> ((try rw [ho] at hb); (try dsimp only [Ar.real, IX.vo] at hb); (try simp only [QB7] at hb); (try simp only [QBo, beq_iff_eq, beq_eq_false_iff_ne, ne_eq] at hb))) | (refine StopN.mk ?_; cbv) | (first | refine CallI.pure hP hA1 fn137 rfl rfl rfl ?_ | refine CallI.pure hP (by rw [ho]; exact hB1 (hm1 ‹_›)) fn212 rfl rfl (toDL2i (hNi ‹_›)) ?_ | refine CallI.pure hP hB2 fn141 rfl rfl (toDL1i hbu) ?_ | refine CallI.pure hP hA2 fn137 rfl rfl rfl ?_ | refine CallI.pure hP hC1 fn138 rfl rfl rfl ?_ | refine CallI.pure hP (hS1 (by omega)) fn139 rfl rfl rfl ?_ | refine FrzN.frz 0 [46] rfl (fun t ht => by rw [List.mem_singleton.1 ht]; rfl) (.done ?_)); cbv | ((first | refine CallI.pure hP (x_natOf _ ‹_›) fn141 (by first | rfl | (rw [ho]; done) | (rw [ho]; rfl)) (by rfl) (by first | rfl | (rw [ho]; done) | (rw [ho]; rfl)) ?_ | refine CallN.pure hP (x_natOf _ ‹_›) fn141 (by first | rfl | (rw [ho]; done) | (rw [ho]; rfl)) (by rfl) (by first | rfl | (rw [ho]; done) | (rw [ho]; rfl)) ?_); (try rw [← ho]); generalize hr : wd _ = r; (try rw [ho] at hr); (try dsimp only [Ar.real, IX.vo] at hr); (try simp only [QB7] at hr); cbv) | ((first | refine CallI.pure hP (x_trim _ ‹_› ‹_›) fn185 (by first | rfl | (rw [ho]; done) | (rw [ho]; rfl)) (by rfl) (by first | rfl | (rw [ho]; done) | (rw [ho]; rfl)) ?_ | refine CallN.pure hP (x_trim _ ‹_› ‹_›) fn185 (by first | rfl | (rw [ho]; done) | (rw [ho]; rfl)) (by rfl) (by first | rfl | (rw [ho]; done) | (rw [ho]; rfl)) ?_); (try rw [← ho]); cbv) | ((first | refine CallI.pure hP (x_nbit _ _ ‹_› ‹_›) fn212 (by first | rfl | (rw [ho]; done) | (rw [ho]; rfl)) (by rfl) (by first | rfl | (rw [ho]; done) | (rw [ho]; rfl)) ?_ | refine CallN.pure hP (x_nbit _ _ ‹_› ‹_›) fn212 (by first | rfl | (rw [ho]; done) | (rw [ho]; rfl)) (by rfl) (by first | rfl | (rw [ho]; done) | (rw [ho]; rfl)) ?_); (try rw [← ho]); cbv) | (refine hK _ _ ?_) | (refine NeedT.mk ?_ ?_))
    any_goals (((try clear hR3); (try clear hR2); (try clear hR); (try clear hK); (try simp only [ncCast] at *); (try simp only [castI_eq] at *); (try rw [ho]); (try dsimp only [Ar.real, IX.vo, IX.val, BX.val, IX.toN]); (try simp only [QB7]); (try simp only [decide_eq_true_eq]); (all_goals (repeat rw [wrap_i64 (by omega) (by omega)])); (all_goals (first | omega | (simp only [Int.ofNat_eq_natCast]; omega)))); done)
    all_goals try (
      have h1 := hidx (by assumption)
      rw [ho]
      show decide (0 ≤ IntKind.i64.wrap (i.tdiv 32) ∧ IntKind.i64.wrap (i.tdiv 32) < (out.length : Int)) = true
      rw [h1]
      exact decide_eq_true (by ((try clear hR3); (try clear hR2); (try clear hR); (try clear hK); (try simp only [ncCast] at *); (try simp only [castI_eq] at *)); omega))
    all_goals try (
      have h1 := hrem (by assumption)
      rw [ho]
      show decide ((0 : Int) ≤ i.tmod 32) = true
      rw [h1]
      exact decide_eq_true (by ((try clear hR3); (try clear hR2); (try clear hR); (try clear hK); (try simp only [ncCast] at *); (try simp only [castI_eq] at *)); omega))
    · have hi0' : 0 ≤ i := by assumption
      have h1 := hidx hi0'
      have h2 := hrem hi0'
      have hnm : n = m + 1 := by ((try clear hR3); (try clear hR2); (try clear hR); (try clear hK); (try simp only [ncCast] at *); (try simp only [castI_eq] at *)); omega
      have hge : b ≤ r + r + t := by
        apply Classical.byContradiction
        intro hn'
        have := hcp.2 (by omega)
        ((try clear hR3); (try clear hR2); (try clear hR); (try clear hK); (try simp only [ncCast] at *); (try simp only [castI_eq] at *))
        omega
      have hd := (hst m).2
      rw [← hnm, ← hr, ← ht] at hd
      obtain ⟨d1, d2⟩ := hd hge
      rw [hnm] at hval
      obtain ⟨b1, b2, b3⟩ := hsb m out _ hok (by omega) hval
      obtain ⟨out', hout'⟩ : ∃ o', o' = out.set (m / 32) (out.getD (m / 32) 0 ||| 2 ^ (m % 32)) := ⟨_, rfl⟩
      obtain ⟨i', hi'⟩ : ∃ i', i' = i - 1 := ⟨_, rfl⟩
      obtain ⟨r', hr'⟩ : ∃ r', r' = r + r + t - b := ⟨_, rfl⟩
      rw [← hout'] at b1 b2
      rw [← hr'] at d1 hl3
      have hk32 : m % 32 < 32 := Nat.mod_lt _ (by decide)
      have hpk : 2 ^ (m % 32) < 4294967296 := Nat.pow_lt_pow_right (a := 2) (m := m % 32) (n := 32) (by decide) hk32
      have hw32 := hok (m / 32)
      have hv0 : (IX.s (o.wrap .i64 (o.quo i 32))).val = ((m / 32 : Nat) : Int) := by
        rw [ho]
        exact h1
      have hv1 : X.toCL [.i .u32 (.s (o.wrap .u32 (o.bor .u32 (o.ofNat (o.nth out (o.toNat (o.wrap .i64 (o.quo i 32))))) (o.wrap .u32 (o.shl .u32 1 (o.rem i 32))))))] = X.toCL (encU Ar.real (out.getD (m / 32) 0 ||| 2 ^ (m % 32))) := by
        rw [ho]
        show [C.v (.int .u32 (IntKind.u32.wrap ((BitVec.ofInt 32 ((out.getD (IntKind.i64.wrap (i.tdiv 32)).toNat 0 : Nat) : Int) ||| BitVec.ofInt 32 (IntKind.u32.wrap (1 * 2 ^ (min (i.tmod 32).toNat IntKind.u32.bits)))).toNat : Int)))] = [C.v (.int .u32 ((out.getD (m / 32) 0 ||| 2 ^ (m % 32) : Nat) : Int))]
        have e5 : (1 : Int) * 2 ^ (min (m % 32) IntKind.u32.bits) = ((2 ^ (m % 32) : Nat) : Int) := by
          have e6 : min (m % 32) IntKind.u32.bits = m % 32 := Nat.min_eq_left (by show m % 32 ≤ 32; omega)
          rw [e6, Int.one_mul]
          norm_cast
        rw [h1, h2, Int.toNat_natCast, Int.toNat_natCast, e5, wrap_u32n hpk, or_u32 hw32 hpk, wrap_u32n b3]
      have hvi : (IX.s (o.wrap .i64 (o.sub i 1))).val = i' := by
        rw [ho, hi']
        exact hwi hi0'
      refine hR _ ⟨m, i', r', l3, out'⟩ (by show m < n; omega) ⟨by show m ≤ 32 * M; omega, by show i' = (m : Int) - 1; omega, by show r' = a / 2 ^ m % b; exact d1.symm, hl3.symm, by show out'.length = M; rw [hout', List.length_set]; exact hlen, b1, by show vl out' = a / 2 ^ m / b * 2 ^ m; rw [b2, d2, hnm]⟩ ?_
      refine ⟨(by cbv), by cbv; repeat' (first | trivial | exact EqX.rfl' | exact EqO.rfl' | apply And.intro | ((try clear hR3); (try clear hR2); (try clear hR); (try clear hK); (try simp only [ncCast] at *); (try simp only [castI_eq] at *); refine EqX.i ?_; (try rw [ho]); (try dsimp only [Ar.real, IX.vo, IX.val, BX.val, IX.toN]); (try simp only [QB7]); (repeat rw [wrap_i64 (by omega) (by omega)]); omega) | (exact EqX.i hvi) | (exact EqO.set ho encU out _ _ (m / 32) _ _ rfl hout' hv0 hv1)), by cbv; repeat' (first | trivial | exact EqO.rfl' | apply And.intro | (exact EqX.i hvi) | (exact EqO.set ho encU out _ _ (m / 32) _ _ rfl hout' hv0 hv1)), by cbv; repeat' (first | trivial | exact EqO.rfl' | apply And.intro | (exact EqX.i hvi) | (exact EqO.set ho encU out _ _ (m / 32) _ _ rfl hout' hv0 hv1))⟩
    · have hi0' : 0 ≤ i := by assumption
      have hnm : n = m + 1 := by ((try clear hR3); (try clear hR2); (try clear hR); (try clear hK); (try simp only [ncCast] at *); (try simp only [castI_eq] at *)); omega
      have hlt : r + r + t < b := hcp.1 (by ((try clear hR3); (try clear hR2); (try clear hR); (try clear hK); (try simp only [ncCast] at *); (try simp only [castI_eq] at *)); omega)
      have hd := (hst m).1
      rw [← hnm, ← hr, ← ht] at hd
      obtain ⟨d1, d2⟩ := hd hlt
      obtain ⟨i', hi'⟩ : ∃ i', i' = i - 1 := ⟨_, rfl⟩
      obtain ⟨r', hr'⟩ : ∃ r', r' = r + r + t := ⟨_, rfl⟩
      rw [← hr'] at d1 hl2
      have hvi : (IX.s (o.wrap .i64 (o.sub i 1))).val = i' := by
        rw [ho, hi']
        exact hwi hi0'
      refine hR _ ⟨m, i', r', l2, out⟩ (by show m < n; omega) ⟨by show m ≤ 32 * M; omega, by show i' = (m : Int) - 1; omega, by show r' = a / 2 ^ m % b; exact d1.symm, hl2.symm, hlen, hok, by show vl out = a / 2 ^ m / b * 2 ^ m; rw [d2]; exact hval⟩ ?_
      refine ⟨(by cbv), by cbv; repeat' (first | trivial | exact EqX.rfl' | exact EqO.rfl' | apply And.intro | ((try clear hR3); (try clear hR2); (try clear hR); (try clear hK); (try simp only [ncCast] at *); (try simp only [castI_eq] at *); refine EqX.i ?_; (try rw [ho]); (try dsimp only [Ar.real, IX.vo, IX.val, BX.val, IX.toN]); (try simp only [QB7]); (repeat rw [wrap_i64 (by omega) (by omega)]); omega) | (exact EqX.i hvi)), by cbv; repeat' (first | trivial | exact EqO.rfl' | apply And.intro | (exact EqX.i hvi)), by cbv; repeat' (first | trivial | exact EqO.rfl' | apply And.intro | (exact EqX.i hvi))⟩
    · have hn0 : n = 0 := by ((try clear hR3); (try clear hR2); (try clear hR); (try clear hK); (try simp only [ncCast] at *); (try simp only [castI_eq] at *)); omega
      rw [hn0] at hI
      obtain ⟨e1, e2⟩ := hend i r rl out hI
      have hT1 := hTr out hok (by omega)
      rw [e1, hd1, ← ho] at hT1
      rw [e2]
      refine CallI.pure hP hT1 fn185 rfl rfl rfl ?_
      cbv
      repeat' (first | (refine Br.mk (fun hb => ?_) (fun hb => ?_) <;> ((try rw [ho] at hb); (try dsimp only [Ar.real, IX.vo] at hb); (try simp only [QB7] at hb); (try simp only [QBo, beq_iff_eq, beq_eq_false_iff_ne, ne_eq] at hb))) | (refine StopN.mk ?_; cbv) | ((first | refine CallI.pure hP (x_natOf _ ‹_›) fn141 (by first | rfl | (rw [ho]; done) | (rw [ho]; rfl)) (by rfl) (by first | rfl | (rw [ho]; done) | (rw [ho]; rfl)) ?_ | refine CallN.pure hP (x_natOf _ ‹_›) fn141 (by first | rfl | (rw [ho]; done) | (rw [ho]; rfl)) (by rfl) (by first | rfl | (rw [ho]; done) | (rw [ho]; rfl)) ?_); (try rw [← ho]); generalize hr : wd _ = r; (try rw [ho] at hr); (try dsimp only [Ar.real, IX.vo] at hr); (try simp only [QB7] at hr); cbv) | ((first | refine CallI.pure hP (x_trim _ ‹_› ‹_›) fn185 (by first | rfl | (rw [ho]; done) | (rw [ho]; rfl)) (by rfl) (by first | rfl | (rw [ho]; done) | (rw [ho]; rfl)) ?_ | refine CallN.pure hP (x_trim _ ‹_› ‹_›) fn185 (by first | rfl | (rw [ho]; done) | (rw [ho]; rfl)) (by rfl) (by first | rfl | (rw [ho]; done) | (rw [ho]; rfl)) ?_); (try rw [← ho]); cbv) | ((first | refine CallI.pure hP (x_nbit _ _ ‹_› ‹_›) fn212 (by first | rfl | (rw [ho]; done) | (rw [ho]; rfl)) (by rfl) (by first | rfl | (rw [ho]; done) | (rw [ho]; rfl)) ?_ | refine CallN.pure hP (x_nbit _ _ ‹_› ‹_›) fn212 (by first | rfl | (rw [ho]; done) | (rw [ho]; rfl)) (by rfl) (by first | rfl | (rw [ho]; done) | (rw [ho]; rfl)) ?_); (try rw [← ho]); cbv) | (refine hK _ _ ?_) | (refine NeedT.mk ?_ ?_))
      exact .pure fun _ => by rw [ho]
end Go.Proofs.Ytddgcegimmcbgaa.Sy
namespace Go.Proofs.Ytddgcegimmcbgaa.Sy
open Go Go.Sy Go.Proofs.Ytddgcegimmcbgaa
structure StG where
  p : Nat
  q : Nat
  x : List Nat
  y : List Nat
structure InG (a b : Nat) (s : StG) : Prop where
  x : s.x = wd s.p
  y : s.y = wd s.q
  g : Nat.gcd s.p s.q = Nat.gcd a b
  lx : (wd s.p).length ≤ 131072
  ly : (wd s.q).length ≤ 131072
theorem wd_len0 {n : Nat} : 0 < (wd n).length ↔ 0 < n := by
  constructor
  · intro h
    apply Classical.byContradiction
    intro hn
    obtain rfl : n = 0 := by omega
    rw [wd_zero] at h
    exact absurd h (by decide)
  · intro h
    rw [wd_pos (by omega)]
    simp
theorem wd_mono {m n : Nat} (h : m ≤ n) : (wd m).length ≤ (wd n).length := wd_len (Nat.lt_of_le_of_lt h (wd_lt n))
theorem x_ngcd (a b : Nat) (ha : (wd a).length ≤ 131072) (hb' : (wd b).length ≤ 131072) : XC Try.prog 187 [.ro (SL Ar.real encU (wd a)), .ro (SL Ar.real encU (wd b))] [] (.ro (SL Ar.real encU (wd (Nat.gcd a b)))) [] := by
  have hD := fun p q (h : 0 < q) h1 h2 => x_ndiv p q h h1 h2
  have h0 : ∀ x y, x = wd a → y = wd b → InG a b ⟨a, b, x, y⟩ := fun x y h h' => ⟨h, h', rfl, ha, hb'⟩
  obtain ⟨g, hg⟩ : ∃ g, g = Nat.gcd a b := ⟨_, rfl⟩
  rw [← hg]
  generalize hres : wd g = res at *
  generalize hx : wd a = x at *
  generalize hy : wd b = y at *
  (refine XC.of_body ([]) Try.func187 rfl Try.ntmps187 mixed (T := [(3, ti3), (142, ti142), (220, ti220)]) (.cons tok3 (.cons tok142 (.cons tok220 .nil))) (by kernel_rfl) (by simp) rfl rfl rfl rfl rfl ?_; rintro o ho P hP c K hK; have hm : P.follows .mixedOrders = true := hP ▸ mixed; have hT : TOk P [(3, ti3), (142, ti142), (220, ti220)] := hP ▸ (.cons tok3 (.cons tok142 (.cons tok220 .nil))); (try rw [← ho]); cbv; (repeat (refine StopN.mk ?_; cbv)))
  refine LoopN.over (o := o) (D := []) ho hm hT (by kernel_rfl) (fun s : StG => [(0, .ro (SL o encU s.x)), (1, .ro (SL o encU s.y))]) (fun _ => []) (fun _ => []) (InG a b) (fun s => s.q) ⟨a, b, x, y⟩ (h0 x y rfl rfl) ?_ ?_
  · refine ⟨(by cbv), by cbv; repeat' (first | trivial | exact EqX.rfl' | exact EqO.rfl' | apply And.intro | ((try clear hR3); (try clear hR2); (try clear hR); (try clear hK); (try simp only [ncCast] at *); (try simp only [castI_eq] at *); refine EqX.i ?_; (try rw [ho]); (try dsimp only [Ar.real, IX.vo, IX.val, BX.val, IX.toN]); (try simp only [QB7]); (repeat rw [wrap_i64 (by omega) (by omega)]); omega)), by cbv; repeat' (first | trivial | exact EqO.rfl' | apply And.intro), by cbv; repeat' (first | trivial | exact EqO.rfl' | apply And.intro)⟩
  · rintro ⟨p, q, u, v⟩ ⟨hu, hv, hg1, hlp, hlq⟩ R hR
    dsimp only at hu hv hg1 hlp hlq
    have hl0 := wd_len0 (n := q)
    rw [← hv] at hl0
    have hD1 := fun h => hD p q h hlp hlq
    have hmo := fun h : 0 < q => wd_mono (Nat.le_of_lt (Nat.mod_lt p h))
    rw [← hu, ← hv] at hD1
    generalize hr1 : wd (p / q) = r1 at *
    generalize hr2 : wd (p % q) = r2 at *
    have hq0 : (0 : Int) < v.length → 0 < q := fun h => hl0.1 (by omega)
    simp only [← ho] at hD1
    cbv
    repeat' (first | (refine Br.mk (fun hb => ?_) (fun hb => ?_) <;> ((try rw [ho] at hb); (try dsimp only [Ar.real, IX.vo] at hb); (try simp only [QB7] at hb); (try simp only [QBo, beq_iff_eq, beq_eq_false_iff_ne, ne_eq] at hb))) | (refine StopN.mk ?_; cbv) | (first | refine CallI.pure hP (hD1 (hq0 ‹_›)) fn188 rfl rfl rfl ?_); cbv | (refine hK _ _ ?_) | (refine NeedT.mk ?_ ?_))
    · have hq1 := hq0 hb
      refine hR _ ⟨q, p % q, v, r2⟩ (Nat.mod_lt p hq1) ⟨hv, hr2.symm, by show Nat.gcd q (p % q) = _; rw [← hg1, Nat.gcd_comm p q, Nat.gcd_rec q p]; exact Nat.gcd_comm _ _, hlq, by show (wd (p % q)).length ≤ _; rw [hr2]; have := hmo hq1; omega⟩ ?_
      refine ⟨(by cbv), by cbv; repeat' (first | trivial | exact EqX.rfl' | exact EqO.rfl' | apply And.intro | ((try clear hR3); (try clear hR2); (try clear hR); (try clear hK); (try simp only [ncCast] at *); (try simp only [castI_eq] at *); refine EqX.i ?_; (try rw [ho]); (try dsimp only [Ar.real, IX.vo, IX.val, BX.val, IX.toN]); (try simp only [QB7]); (repeat rw [wrap_i64 (by omega) (by omega)]); omega)), by cbv; repeat' (first | trivial | exact EqO.rfl' | apply And.intro), by cbv; repeat' (first | trivial | exact EqO.rfl' | apply And.intro)⟩
    · have hq1 : q = 0 := by
        have := hl0.2
        ((try clear hR3); (try clear hR2); (try clear hR); (try clear hK); (try simp only [ncCast] at *); (try simp only [castI_eq] at *))
        omega
      rw [hq1, Nat.gcd_zero_right, ← hg] at hg1
      rw [hg1, hres] at hu
      subst hu
      exact .ro (by rw [ho])
theorem or_u64 {w v : Nat} (hw : w < 18446744073709551616) (hv : v < 18446744073709551616) : ((BitVec.ofInt 64 (w : Int) ||| BitVec.ofInt 64 (v : Int)).toNat : Int) = ((w ||| v : Nat) : Int) := by
  rw [BitVec.ofInt_natCast, BitVec.ofInt_natCast, BitVec.toNat_or, BitVec.toNat_ofNat, BitVec.toNat_ofNat, Nat.mod_eq_of_lt (by omega), Nat.mod_eq_of_lt (by omega)]
theorem wrap_u64n {n : Nat} (h : n < 18446744073709551616) : IntKind.u64.wrap (n : Int) = n := wrap_u64 (by omega) (by omega)
theorem join_u64 {l h : Nat} (hl : l < 4294967296) (hh : h < 4294967296) : IntKind.u64.wrap (((BitVec.ofInt 64 (l : Int) ||| BitVec.ofInt 64 (IntKind.u64.wrap ((h : Int) * 2 ^ (min (Int.toNat 32) IntKind.u64.bits)))).toNat : Int)) = ((h * 4294967296 + l : Nat) : Int) := by
  have e : (h : Int) * 2 ^ (min (Int.toNat 32) IntKind.u64.bits) = ((h * 4294967296 : Nat) : Int) := by
    have : (2 : Int) ^ (min (Int.toNat 32) IntKind.u64.bits) = 4294967296 := by decide
    rw [this]
    omega
  have e2 : l ||| h * 4294967296 = h * 4294967296 + l := by
    have h3 := Nat.shiftLeft_add_eq_or_of_lt (i := 32) (b := l) (by omega) h
    rw [Nat.shiftLeft_eq] at h3
    rw [Nat.or_comm]
    exact h3.symm
  rw [e, wrap_u64n (n := h * 4294967296) (by omega), or_u64 (by omega) (by omega), e2, wrap_u64n (by omega)]
theorem x_number (a : Nat) (ha : (wd a).length ≤ 131072) : XC Try.prog 142 [.ro (SL Ar.real encU (wd a))] [] (.tup [xi (IntKind.i64.wrap ((a % 18446744073709551616 : Nat) : Int)), xb (decide (a < 9223372036854775808))]) [] := by
  have wa := wd_ok a
  obtain ⟨pa, hpa⟩ : ∃ f : Nat → Int, ∀ i, f i = (((wd a).getD i 0 : Nat) : Int) := ⟨_, fun _ => rfl⟩
  have hA := fun i => x_natI (wd a) i wa (by omega) (pa i) (hpa i)
  have hA0 := hA 0
  have hA1 := hA 1
  have e0 : (wd a).getD 0 0 = a % 4294967296 := (wd_at 0 a).trans (by rw [Nat.pow_zero, Nat.div_one])
  have e1 : (wd a).getD 1 0 = a / 4294967296 % 4294967296 := (wd_at 1 a).trans (by rw [Nat.pow_one])
  have p0 := hpa 0
  have p1 := hpa 1
  rw [e0] at p0
  rw [e1] at p1
  have hlen : (wd a).length ≤ 2 ↔ a < 18446744073709551616 := ⟨fun h => Nat.lt_of_lt_of_le (wd_lt a) (Nat.pow_le_pow_right (n := 4294967296) (by decide) h), fun h => wd_len h⟩
  obtain ⟨l, hl⟩ : ∃ l, l = a % 4294967296 := ⟨_, rfl⟩
  obtain ⟨h, hh⟩ : ∃ h, h = a / 4294967296 % 4294967296 := ⟨_, rfl⟩
  obtain ⟨n, hn⟩ : ∃ n, n = a % 18446744073709551616 := ⟨_, rfl⟩
  have hnl : n = h * 4294967296 + l := by omega
  have hbig : a < 9223372036854775808 ↔ a < 18446744073709551616 ∧ n < 9223372036854775808 := by omega
  rw [← hn]
  rw [← hl] at p0
  rw [← hh] at p1
  obtain ⟨res, hres⟩ : ∃ r, r = IntKind.i64.wrap (n : Int) := ⟨_, rfl⟩
  obtain ⟨ok, hok⟩ : ∃ r, r = decide (a < 9223372036854775808) := ⟨_, rfl⟩
  rw [← hres, ← hok]
  clear hA hpa
  generalize pa 0 = q0 at *
  generalize pa 1 = q1 at *
  generalize hx : wd a = x at *
  (refine XC.of_body ([]) Try.func142 rfl Try.ntmps142 mixed (T := [(2, ti2), (3, ti3), (142, ti142), (155, ti155), (220, ti220)]) (.cons tok2 (.cons tok3 (.cons tok142 (.cons tok155 (.cons tok220 .nil))))) (by kernel_rfl) (by simp) rfl rfl rfl rfl rfl ?_; rintro o ho P hP c K hK; have hm : P.follows .mixedOrders = true := hP ▸ mixed; have hT : TOk P [(2, ti2), (3, ti3), (142, ti142), (155, ti155), (220, ti220)] := hP ▸ (.cons tok2 (.cons tok3 (.cons tok142 (.cons tok155 (.cons tok220 .nil))))); (try rw [← ho]); cbv; (repeat (refine StopN.mk ?_; cbv)))
  rw [← ho] at hA0 hA1
  repeat' (first | (refine Br.mk (fun hb => ?_) (fun hb => ?_) <;> ((try rw [ho] at hb); (try dsimp only [Ar.real, IX.vo] at hb); (try simp only [QB7] at hb); (try simp only [QBo, beq_iff_eq, beq_eq_false_iff_ne, ne_eq] at hb))) | (refine StopN.mk ?_; cbv) | (first | refine CallI.pure hP hA0 fn186 rfl rfl rfl ?_ | refine CallI.pure hP hA1 fn186 rfl rfl rfl ?_); cbv | ((first | refine CallI.pure hP (x_nat _ _ ‹_› ‹_›) fn186 (by first | rfl | (rw [ho]; done) | (rw [ho]; rfl)) (by rfl) (by first | rfl | (rw [ho]; done) | (rw [ho]; rfl)) ?_ | refine CallN.pure hP (x_nat _ _ ‹_› ‹_›) fn186 (by first | rfl | (rw [ho]; done) | (rw [ho]; rfl)) (by rfl) (by first | rfl | (rw [ho]; done) | (rw [ho]; rfl)) ?_); (try rw [← ho]); cbv) | (refine hK _ _ ?_) | (refine NeedT.mk ?_ ?_))
  all_goals
    have hlb : l < 4294967296 := by omega
    have hhb : h < 4294967296 := by omega
    have hv0 : o.wrap .u64 (o.bor .u64 q0 (o.wrap .u64 (o.shl .u64 q1 32))) = (n : Int) := by
      rw [ho]
      show IntKind.u64.wrap ((BitVec.ofInt 64 q0 ||| BitVec.ofInt 64 (IntKind.u64.wrap (q1 * 2 ^ (min (Int.toNat 32) IntKind.u64.bits)))).toNat : Int) = _
      have e3 : q0 = (l : Int) := p0
      have e4 : q1 = (h : Int) := p1
      rw [e3, e4, join_u64 hlb hhb, hnl]
    have hv1 : (IX.s (o.wrap .i64 (o.wrap .u64 (o.bor .u64 q0 (o.wrap .u64 (o.shl .u64 q1 32)))))).val = res := by
      rw [hv0, ho]
      exact hres.symm
  any_goals (((try clear hR3); (try clear hR2); (try clear hR); (try clear hK); (try simp only [ncCast] at *); (try simp only [castI_eq] at *); (try rw [ho]); (try dsimp only [Ar.real, IX.vo, IX.val, BX.val, IX.toN]); (try simp only [QB7]); (try simp only [decide_eq_true_eq]); (all_goals (repeat rw [wrap_i64 (by omega) (by omega)])); (all_goals (first | omega | (simp only [Int.ofNat_eq_natCast]; omega)))); done)
  · have h2 : a < 18446744073709551616 := hlen.1 (by ((try clear hR3); (try clear hR2); (try clear hR); (try clear hK); (try simp only [ncCast] at *); (try simp only [castI_eq] at *)); omega)
    have e5 := shr_nat .u64 n 63 (by decide)
    have e6 : (BX.s (o.eq (o.shr .u64 (o.wrap .u64 (o.bor .u64 q0 (o.wrap .u64 (o.shl .u64 q1 32)))) 63) 0)).val = ok := by
      rw [hv0, ho, hok]
      show ((n : Int).fdiv (2 ^ min (Int.toNat 63) IntKind.u64.bits) == 0) = _
      have e7 : (n : Int).fdiv (2 ^ min (Int.toNat 63) IntKind.u64.bits) = ((n / 2 ^ 63 : Nat) : Int) := e5
      rw [e7, Bool.eq_iff_iff, beq_iff_eq, decide_eq_true_eq, hbig]
      omega
    exact FinX_ib' hv1 e6
  · have h2 : ¬ a < 18446744073709551616 := fun h3 => by
      have := hlen.2 h3
      ((try clear hR3); (try clear hR2); (try clear hR); (try clear hK); (try simp only [ncCast] at *); (try simp only [castI_eq] at *))
      omega
    refine FinX_ib' hv1 ?_
    rw [hok]
    exact (decide_eq_false (by omega)).symm
end Go.Proofs.Ytddgcegimmcbgaa.Sy
namespace Go.Proofs.Ytddgcegimmcbgaa.Sy
open Go Go.Sy Go.Proofs.Ytddgcegimmcbgaa
structure Rt where
  m : Bool
  n : Nat
  d : Nat
  deriving DecidableEq
@[reducible] def RX (o : Ar) (m : Bool) (x y : List Nat) : X := .agg [xb m, .ro (SL o encU x), .ro (SL o encU y)]
@[reducible] def Rt.X (r : Rt) : X := RX Ar.real r.m (wd r.n) (wd r.d)
structure Rt.Ok (k : Nat) (r : Rt) : Prop where
  d : 0 < r.d
  ln : r.n < 4294967296 ^ k
  ld : r.d < 4294967296 ^ k
def Rt.low (r : Rt) : Rt := ⟨r.m && decide (0 < r.n / Nat.gcd r.n r.d), r.n / Nat.gcd r.n r.d, r.d / Nat.gcd r.n r.d⟩
theorem Rt.Ok.mono {k l : Nat} {r : Rt} (h : r.Ok k) (hk : k ≤ l) : r.Ok l := ⟨h.d, Nat.lt_of_lt_of_le h.ln (Nat.pow_le_pow_right (by decide) hk), Nat.lt_of_lt_of_le h.ld (Nat.pow_le_pow_right (by decide) hk)⟩
theorem Rt.Ok.low {k : Nat} {r : Rt} (h : r.Ok k) : r.low.Ok k :=
  ⟨Nat.div_pos (Nat.gcd_le_right _ h.d) (Nat.gcd_pos_of_pos_right _ h.d), Nat.lt_of_le_of_lt (Nat.div_le_self _ _) h.ln, Nat.lt_of_le_of_lt (Nat.div_le_self _ _) h.ld⟩
theorem FinX_rt {o : Ar} (ho : o = Ar.real) {m : Bool} {x y : List Nat} {b : BX} (h : b.val = m) : FinX (RX Ar.real m x y) [] (.agg [.b b, .ro (SL o encU x), .ro (SL o encU y)]) [] := .pure fun _ => by
  subst ho
  simp only [X.toD, X.toDL, h]
  rfl
theorem x_low (r : Rt) (k : Nat) (hr : r.Ok k) (hk : k ≤ 131072) : XC Try.prog 140 [r.X] [] r.low.X [] := by
  have hg0 : 0 < Nat.gcd r.n r.d := Nat.gcd_pos_of_pos_right _ hr.d
  have l1 : (wd r.n).length ≤ 131072 := Nat.le_trans (wd_len hr.ln) hk
  have l2 : (wd r.d).length ≤ 131072 := Nat.le_trans (wd_len hr.ld) hk
  have l3 : (wd (Nat.gcd r.n r.d)).length ≤ 131072 := Nat.le_trans (wd_mono (Nat.gcd_le_right _ hr.d)) l2
  have hG := x_ngcd r.n r.d l1 l2
  have hD1 := x_ndiv r.n (Nat.gcd r.n r.d) hg0 l1 l3
  have hD2 := x_ndiv r.d (Nat.gcd r.n r.d) hg0 l2 l3
  have hpos := wd_len0 (n := r.n / Nat.gcd r.n r.d)
  unfold Rt.low Rt.X
  dsimp only
  obtain ⟨m, n, d⟩ := r
  dsimp only at *
  obtain ⟨bb, hbb⟩ : ∃ b, b = (m && decide (0 < n / Nat.gcd n d)) := ⟨_, rfl⟩
  rw [← hbb]
  have hb1 : m = false → bb = false := fun h => by rw [hbb, h]; rfl
  have hb2 : m = true → bb = decide (0 < n / Nat.gcd n d) := fun h => by rw [hbb, h]; rfl
  have hb3 : 0 < (wd (n / Nat.gcd n d)).length → m = true → bb = true := fun h h' => by rw [hb2 h']; exact decide_eq_true (hpos.1 h)
  have hb4 : (wd (n / Nat.gcd n d)).length = 0 → bb = false := fun h => by rw [hbb, decide_eq_false (fun h' => by have := hpos.2 h'; omega), Bool.and_false]
  clear hbb hb2 hpos
  generalize wd (Nat.gcd n d) = g at *
  generalize wd (n / Nat.gcd n d) = n1 at *
  generalize wd (n % Nat.gcd n d) = n2 at *
  generalize wd (d / Nat.gcd n d) = d1 at *
  generalize wd (d % Nat.gcd n d) = d2 at *
  generalize wd n = x at *
  generalize wd d = y at *
  clear hr hg0
  (refine XC.of_body ([]) Try.func140 rfl Try.ntmps140 mixed (T := [(3, ti3), (4, ti4), (142, ti142), (144, ti144), (220, ti220)]) (.cons tok3 (.cons tok4 (.cons tok142 (.cons tok144 (.cons tok220 .nil))))) (by kernel_rfl) (by simp) rfl rfl rfl rfl rfl ?_; rintro o ho P hP c K hK; have hm : P.follows .mixedOrders = true := hP ▸ mixed; have hT : TOk P [(3, ti3), (4, ti4), (142, ti142), (144, ti144), (220, ti220)] := hP ▸ (.cons tok3 (.cons tok4 (.cons tok142 (.cons tok144 (.cons tok220 .nil))))); (try rw [← ho]); cbv; (repeat (refine StopN.mk ?_; cbv)))
  rw [← ho] at hG hD1 hD2
  repeat' (first | (refine Br.mk (fun hb => ?_) (fun hb => ?_) <;> ((try rw [ho] at hb); (try dsimp only [Ar.real, IX.vo] at hb); (try simp only [QB7] at hb); (try simp only [QBo, beq_iff_eq, beq_eq_false_iff_ne, ne_eq] at hb))) | (refine StopN.mk ?_; cbv) | (first | refine CallI.pure hP hG fn187 rfl rfl rfl ?_ | refine CallI.pure hP hD1 fn188 rfl rfl rfl ?_ | refine CallI.pure hP hD2 fn188 rfl rfl rfl ?_); cbv | (refine hK _ _ ?_) | (refine NeedT.mk ?_ ?_))
  · refine FinX_rt ho ?_
    rw [ho]
    show decide ((0 : Int) < (n1.length : Int)) = bb
    by_cases h : 0 < n1.length
    · rw [hb3 h hb]
      exact decide_eq_true (by omega)
    · rw [hb4 (by omega)]
      exact decide_eq_false (by omega)
  · exact FinX_rt ho (hb1 hb).symm
def Rt.of (n d : Nat) : Rt := Rt.low ⟨false, n, d⟩
theorem Rt.of_ok {n d k : Nat} (hd : 0 < d) (h1 : n < 4294967296 ^ k) (h2 : d < 4294967296 ^ k) : (Rt.of n d).Ok k := Rt.Ok.low ⟨hd, h1, h2⟩
theorem x_ratOf (n d : Nat) (hd : 0 < d) (hn : n < 9223372036854775808) (hd2 : d < 9223372036854775808) : XC Try.prog 80 [.agg [xi n, xi d]] [] (Rt.of n d).X [] := by
  have hL := x_low ⟨false, n, d⟩ 2 ⟨hd, by show n < _; omega, by show d < _; omega⟩ (by decide)
  have hN := x_natOf n (by omega)
  have hD := x_natOf d (by omega)
  have w1 : IntKind.u64.wrap (n : Int) = (n : Int) := wrap_u64n (by omega)
  have w2 : IntKind.u64.wrap (d : Int) = (d : Int) := wrap_u64n (by omega)
  unfold Rt.of
  generalize Rt.low ⟨false, n, d⟩ = r at *
  unfold Rt.X at *
  obtain ⟨m, a, b⟩ := r
  dsimp only at *
  generalize wd n = x at *
  generalize wd d = y at *
  generalize wd a = x' at *
  generalize wd b = y' at *
  obtain ⟨ni, hni⟩ : ∃ t : Int, t = (n : Int) := ⟨_, rfl⟩
  obtain ⟨di, hdi⟩ : ∃ t : Int, t = (d : Int) := ⟨_, rfl⟩
  rw [← hni] at hN w1 ⊢
  rw [← hdi] at hD w2 ⊢
  (refine XC.of_body ([(1, [(3, 4), (3, 5)])]) Try.func80 rfl Try.ntmps80 mixed (T := [(2, ti2), (4, ti4), (64, ti64), (142, ti142), (144, ti144), (155, ti155)]) (.cons tok2 (.cons tok4 (.cons tok64 (.cons tok142 (.cons tok144 (.cons tok155 .nil)))))) (by kernel_rfl) (by simp) rfl rfl rfl rfl rfl ?_; rintro o ho P hP c K hK; have hm : P.follows .mixedOrders = true := hP ▸ mixed; have hT : TOk P [(2, ti2), (4, ti4), (64, ti64), (142, ti142), (144, ti144), (155, ti155)] := hP ▸ (.cons tok2 (.cons tok4 (.cons tok64 (.cons tok142 (.cons tok144 (.cons tok155 .nil)))))); (try rw [← ho]); cbv; (repeat (refine StopN.mk ?_; cbv)))
  have v1 : (IX.s (o.wrap .u64 ni)).val = (IX.s ni).val := by rw [ho]; exact w1
  have v2 : (IX.s (o.wrap .u64 di)).val = (IX.s di).val := by rw [ho]; exact w2
  rw [← ho] at hN hD hL
  repeat' (first | (refine Br.mk (fun hb => ?_) (fun hb => ?_) <;> ((try rw [ho] at hb); (try dsimp only [Ar.real, IX.vo] at hb); (try simp only [QB7] at hb); (try simp only [QBo, beq_iff_eq, beq_eq_false_iff_ne, ne_eq] at hb))) | (refine StopN.mk ?_; cbv) | (first | refine CallN.pure hP hN fn141 rfl rfl (toDL1i v1) ?_ | refine CallN.pure hP hD fn141 rfl rfl (toDL1i v2) ?_ | refine CallN.pure hP hL fn140 rfl rfl rfl ?_ | refine CallI.pure hP hL fn140 rfl rfl rfl ?_); cbv | ((first | refine CallI.pure hP (x_natOf _ ‹_›) fn141 (by first | rfl | (rw [ho]; done) | (rw [ho]; rfl)) (by rfl) (by first | rfl | (rw [ho]; done) | (rw [ho]; rfl)) ?_ | refine CallN.pure hP (x_natOf _ ‹_›) fn141 (by first | rfl | (rw [ho]; done) | (rw [ho]; rfl)) (by rfl) (by first | rfl | (rw [ho]; done) | (rw [ho]; rfl)) ?_); (try rw [← ho]); generalize hr : wd _ = r; (try rw [ho] at hr); (try dsimp only [Ar.real, IX.vo] at hr); (try simp only [QB7] at hr); cbv) | (refine hK _ _ ?_) | (refine NeedT.mk ?_ ?_))
  exact FinX_rt ho rfl
def Rt.whole (n : Nat) : Rt := Rt.of n 1
theorem x_whole (n : Nat) (hn : n < 9223372036854775808) : XC Try.prog 77 [xi n] [] (Rt.whole n).X [] := by
  have hR := x_ratOf n 1 (by decide) hn (by decide)
  unfold Rt.whole
  generalize Rt.of n 1 = r at *
  unfold Rt.X at *
  obtain ⟨m, a, b⟩ := r
  dsimp only at *
  generalize wd a = x' at *
  generalize wd b = y' at *
  obtain ⟨ni, hni⟩ : ∃ t : Int, t = (n : Int) := ⟨_, rfl⟩
  rw [← hni] at hR ⊢
  (refine XC.of_body ([]) Try.func77 rfl Try.ntmps77 mixed (T := [(2, ti2), (4, ti4), (64, ti64), (142, ti142), (144, ti144)]) (.cons tok2 (.cons tok4 (.cons tok64 (.cons tok142 (.cons tok144 .nil))))) (by kernel_rfl) (by simp) rfl rfl rfl rfl rfl ?_; rintro o ho P hP c K hK; have hm : P.follows .mixedOrders = true := hP ▸ mixed; have hT : TOk P [(2, ti2), (4, ti4), (64, ti64), (142, ti142), (144, ti144)] := hP ▸ (.cons tok2 (.cons tok4 (.cons tok64 (.cons tok142 (.cons tok144 .nil))))); (try rw [← ho]); cbv; (repeat (refine StopN.mk ?_; cbv)))
  rw [← ho] at hR
  repeat' (first | (refine Br.mk (fun hb => ?_) (fun hb => ?_) <;> ((try rw [ho] at hb); (try dsimp only [Ar.real, IX.vo] at hb); (try simp only [QB7] at hb); (try simp only [QBo, beq_iff_eq, beq_eq_false_iff_ne, ne_eq] at hb))) | (refine StopN.mk ?_; cbv) | (first | refine CallN.pure hP hR fn80 rfl rfl rfl ?_ | refine CallI.pure hP hR fn80 rfl rfl rfl ?_); cbv | (refine hK _ _ ?_) | (refine NeedT.mk ?_ ?_))
  exact FinX_rt ho rfl
def Rt.neg (r : Rt) : Rt := ⟨!r.m && decide (0 < r.n), r.n, r.d⟩
theorem Rt.Ok.neg {k : Nat} {r : Rt} (h : r.Ok k) : r.neg.Ok k := ⟨h.d, h.ln, h.ld⟩
theorem x_neg (r : Rt) (k : Nat) (hr : r.Ok k) (hk : k ≤ 131072) : XC Try.prog 147 [r.X] [] r.neg.X [] := by
  have l1 : (wd r.n).length ≤ 131072 := Nat.le_trans (wd_len hr.ln) hk
  have hpos := wd_len0 (n := r.n)
  unfold Rt.neg Rt.X
  obtain ⟨m, n, d⟩ := r
  dsimp only at *
  obtain ⟨bb, hbb⟩ : ∃ b, b = (!m && decide (0 < n)) := ⟨_, rfl⟩
  rw [← hbb]
  have hb1 : m = true → bb = false := fun h => by rw [hbb, h]; rfl
  have hb3 : 0 < (wd n).length → m = false → bb = true := fun h h' => by rw [hbb, h', decide_eq_true (hpos.1 h)]; rfl
  have hb4 : (wd n).length = 0 → bb = false := fun h => by rw [hbb, decide_eq_false (fun h' => by have := hpos.2 h'; omega), Bool.and_false]
  clear hbb hpos hr
  generalize wd n = x at *
  generalize wd d = y at *
  (refine XC.of_body ([]) Try.func147 rfl Try.ntmps147 mixed (T := [(3, ti3), (4, ti4), (142, ti142), (144, ti144), (220, ti220)]) (.cons tok3 (.cons tok4 (.cons tok142 (.cons tok144 (.cons tok220 .nil))))) (by kernel_rfl) (by simp) rfl rfl rfl rfl rfl ?_; rintro o ho P hP c K hK; have hm : P.follows .mixedOrders = true := hP ▸ mixed; have hT : TOk P [(3, ti3), (4, ti4), (142, ti142), (144, ti144), (220, ti220)] := hP ▸ (.cons tok3 (.cons tok4 (.cons tok142 (.cons tok144 (.cons tok220 .nil))))); (try rw [← ho]); cbv; (repeat (refine StopN.mk ?_; cbv)))
  repeat' (first | (refine Br.mk (fun hb => ?_) (fun hb => ?_) <;> ((try rw [ho] at hb); (try dsimp only [Ar.real, IX.vo] at hb); (try simp only [QB7] at hb); (try simp only [QBo, beq_iff_eq, beq_eq_false_iff_ne, ne_eq] at hb))) | (refine StopN.mk ?_; cbv) | (refine hK _ _ ?_) | (refine NeedT.mk ?_ ?_))
  · refine FinX_rt ho ?_
    rw [ho]
    show decide ((0 : Int) < (x.length : Int)) = bb
    by_cases h : 0 < x.length
    · rw [hb3 h hb]
      exact decide_eq_true (by omega)
    · rw [hb4 (by omega)]
      exact decide_eq_false (by omega)
  · exact FinX_rt ho (hb1 hb).symm
end Go.Proofs.Ytddgcegimmcbgaa.Sy
namespace Go.Proofs.Ytddgcegimmcbgaa.Sy
open Go Go.Sy Go.Proofs.Ytddgcegimmcbgaa
theorem toDL1ab {c : Cx} {o : Ar} {m : Bool} {b : BX} {x y : List Nat} (h : b.val = m) : X.toDL c [.agg [.b b, .ro (SL o encU x), .ro (SL o encU y)]] = X.toDL c [RX o m x y] := by
  simp only [X.toDL, X.toD, h]
  rfl
def Rt.mul (r s : Rt) : Rt := Rt.low ⟨r.m != s.m, r.n * s.n, r.d * s.d⟩
theorem pow_mul_lt {a b k l : Nat} (ha : a < 4294967296 ^ k) (hb : b < 4294967296 ^ l) : a * b < 4294967296 ^ (k + l) := by
  rw [Nat.pow_add]
  exact Nat.mul_lt_mul_of_lt_of_lt ha hb
theorem Rt.mul_ok0 {k l : Nat} {r s : Rt} (hr : r.Ok k) (hs : s.Ok l) (m : Bool) : Rt.Ok (k + l) ⟨m, r.n * s.n, r.d * s.d⟩ := ⟨Nat.mul_pos hr.d hs.d, pow_mul_lt hr.ln hs.ln, pow_mul_lt hr.ld hs.ld⟩
theorem Rt.Ok.mul {k l : Nat} {r s : Rt} (hr : r.Ok k) (hs : s.Ok l) : (r.mul s).Ok (k + l) := Rt.Ok.low (Rt.mul_ok0 hr hs _)
theorem x_rmul (r s : Rt) (k l : Nat) (hr : r.Ok k) (hs : s.Ok l) (hkl : k + l ≤ 131072) : XC Try.prog 92 [r.X, s.X] [] (r.mul s).X [] := by
  have hM1 := x_nmul r.n s.n (Nat.le_trans (wd_len hr.ln) (by omega)) (Nat.le_trans (wd_len hs.ln) (by omega))
  have hM2 := x_nmul r.d s.d (Nat.le_trans (wd_len hr.ld) (by omega)) (Nat.le_trans (wd_len hs.ld) (by omega))
  have hL := x_low _ _ (Rt.mul_ok0 hr hs (r.m != s.m)) hkl
  unfold Rt.mul
  generalize Rt.low ⟨r.m != s.m, r.n * s.n, r.d * s.d⟩ = t at *
  clear hr hs
  obtain ⟨m1, n1, d1⟩ := r
  obtain ⟨m2, n2, d2⟩ := s
  obtain ⟨m3, n3, d3⟩ := t
  unfold Rt.X at *
  dsimp only at *
  obtain ⟨mm, hmm⟩ : ∃ b, b = (m1 != m2) := ⟨_, rfl⟩
  rw [← hmm] at hL
  generalize wd (n1 * n2) = p at *
  generalize wd (d1 * d2) = q at *
  generalize wd n1 = x1 at *
  generalize wd d1 = y1 at *
  generalize wd n2 = x2 at *
  generalize wd d2 = y2 at *
  generalize wd n3 = x3 at *
  generalize wd d3 = y3 at *
  (refine XC.of_body ([(1, [(0, 9), (1, 9), (2, 9), (3, 9), (9, 10), (9, 11), (9, 12), (9, 13), (0, 14), (1, 14), (2, 14), (3, 14)])]) Try.func92 rfl Try.ntmps92 mixed (T := [(4, ti4), (142, ti142), (144, ti144), (220, ti220)]) (.cons tok4 (.cons tok142 (.cons tok144 (.cons tok220 .nil)))) (by kernel_rfl) (by simp) rfl rfl rfl rfl rfl ?_; rintro o ho P hP c K hK; have hm : P.follows .mixedOrders = true := hP ▸ mixed; have hT : TOk P [(4, ti4), (142, ti142), (144, ti144), (220, ti220)] := hP ▸ (.cons tok4 (.cons tok142 (.cons tok144 (.cons tok220 .nil)))); (try rw [← ho]); cbv; (repeat (refine StopN.mk ?_; cbv)))
  have hb0 : (BX.s (o.not (o.eqB m1 m2))).val = mm := by
    rw [ho, hmm]
    show (!(m1 == m2)) = _
    cases m1 <;> cases m2 <;> rfl
  rw [← ho] at hM1 hM2 hL
  repeat' (first | (refine Br.mk (fun hb => ?_) (fun hb => ?_) <;> ((try rw [ho] at hb); (try dsimp only [Ar.real, IX.vo] at hb); (try simp only [QB7] at hb); (try simp only [QBo, beq_iff_eq, beq_eq_false_iff_ne, ne_eq] at hb))) | (refine StopN.mk ?_; cbv) | (first | refine CallN.pure hP hM1 fn136 rfl rfl rfl ?_ | refine CallN.pure hP hM2 fn136 rfl rfl rfl ?_ | refine CallN.pure hP hL fn140 rfl rfl (toDL1ab hb0) ?_); cbv | (refine hK _ _ ?_) | (refine NeedT.mk ?_ ?_))
  exact FinX_rt ho rfl
def Rt.add (r s : Rt) : Rt :=
  if r.m = s.m then Rt.low ⟨r.m, r.n * s.d + s.n * r.d, r.d * s.d⟩
  else if s.n * r.d ≤ r.n * s.d then Rt.low ⟨r.m, r.n * s.d - s.n * r.d, r.d * s.d⟩
  else Rt.low ⟨s.m, s.n * r.d - r.n * s.d, r.d * s.d⟩
theorem Rt.add_ok0 {k l : Nat} {r s : Rt} (hr : r.Ok k) (hs : s.Ok l) (m : Bool) {n : Nat} (hn : n ≤ r.n * s.d + s.n * r.d) : Rt.Ok (k + l + 1) ⟨m, n, r.d * s.d⟩ := by
  have h1 := pow_mul_lt hr.ln hs.ld
  have h2 := pow_mul_lt hs.ln hr.ld
  have h3 := pow_mul_lt hr.ld hs.ld
  rw [Nat.add_comm l k] at h2
  refine ⟨Nat.mul_pos hr.d hs.d, ?_, ?_⟩
  · show n < 4294967296 ^ (k + l + 1)
    rw [Nat.pow_succ]
    omega
  · show r.d * s.d < 4294967296 ^ (k + l + 1)
    rw [Nat.pow_succ]
    omega
theorem Rt.Ok.add {k l : Nat} {r s : Rt} (hr : r.Ok k) (hs : s.Ok l) : (r.add s).Ok (k + l + 1) := by
  unfold Rt.add
  split
  · exact Rt.Ok.low (Rt.add_ok0 hr hs _ (Nat.le_refl _))
  · split
    · exact Rt.Ok.low (Rt.add_ok0 hr hs _ (by omega))
    · exact Rt.Ok.low (Rt.add_ok0 hr hs _ (by omega))
theorem x_radd (r s : Rt) (k l : Nat) (hr : r.Ok k) (hs : s.Ok l) (hkl : k + l + 1 ≤ 131072) : XC Try.prog 79 [r.X, s.X] [] (r.add s).X [] := by
  have b1 := pow_mul_lt hr.ln hs.ld
  have b2 := pow_mul_lt hs.ln hr.ld
  have hM1 := x_nmul r.n s.d (Nat.le_trans (wd_len hr.ln) (by omega)) (Nat.le_trans (wd_len hs.ld) (by omega))
  have hM2 := x_nmul s.n r.d (Nat.le_trans (wd_len hs.ln) (by omega)) (Nat.le_trans (wd_len hr.ld) (by omega))
  have hM3 := x_nmul r.d s.d (Nat.le_trans (wd_len hr.ld) (by omega)) (Nat.le_trans (wd_len hs.ld) (by omega))
  have la : (wd (r.n * s.d)).length ≤ 131072 := Nat.le_trans (wd_len b1) (by omega)
  have lb : (wd (s.n * r.d)).length ≤ 131072 := Nat.le_trans (wd_len b2) (by omega)
  have hA := x_nadd (r.n * s.d) (s.n * r.d) (by omega) (by omega)
  have hC := x_ncmp (r.n * s.d) (s.n * r.d) (by omega) (by omega)
  have hS1 := fun h => x_nsub (r.n * s.d) (s.n * r.d) h (by omega) (by omega)
  have hS2 := fun h => x_nsub (s.n * r.d) (r.n * s.d) h (by omega) (by omega)
  have hcp : ncmp (r.n * s.d) (s.n * r.d) < 0 ↔ ¬ s.n * r.d ≤ r.n * s.d := by unfold ncmp; split <;> (try split) <;> omega
  have hL1 : r.m = s.m → XC Try.prog 140 [Rt.X ⟨r.m, r.n * s.d + s.n * r.d, r.d * s.d⟩] [] (r.add s).X [] := fun h => by
    unfold Rt.add
    rw [if_pos h]
    exact x_low _ _ (Rt.add_ok0 hr hs _ (Nat.le_refl _)) hkl
  have hL2 : r.m ≠ s.m → s.n * r.d ≤ r.n * s.d → XC Try.prog 140 [Rt.X ⟨r.m, r.n * s.d - s.n * r.d, r.d * s.d⟩] [] (r.add s).X [] := fun h h' => by
    unfold Rt.add
    rw [if_neg h, if_pos h']
    exact x_low _ _ (Rt.add_ok0 hr hs _ (by omega)) hkl
  have hL3 : r.m ≠ s.m → ¬ s.n * r.d ≤ r.n * s.d → XC Try.prog 140 [Rt.X ⟨s.m, s.n * r.d - r.n * s.d, r.d * s.d⟩] [] (r.add s).X [] := fun h h' => by
    unfold Rt.add
    rw [if_neg h, if_neg h']
    exact x_low _ _ (Rt.add_ok0 hr hs _ (by omega)) hkl
  generalize r.add s = t at *
  clear hr hs b1 b2
  obtain ⟨m1, n1, d1⟩ := r
  obtain ⟨m2, n2, d2⟩ := s
  obtain ⟨m3, n3, d3⟩ := t
  unfold Rt.X at *
  dsimp only at *
  generalize n1 * d2 = a at *
  generalize n2 * d1 = b at *
  generalize ncmp a b = cp at *
  generalize wd (a + b) = ab at *
  generalize wd (a - b) = s1 at *
  generalize wd (b - a) = s2 at *
  generalize wd a = la0 at *
  generalize wd b = lb0 at *
  generalize wd (d1 * d2) = q at *
  generalize wd n1 = x1 at *
  generalize wd d1 = y1 at *
  generalize wd n2 = x2 at *
  generalize wd d2 = y2 at *
  generalize wd n3 = x3 at *
  generalize wd d3 = y3 at *
  have hc1 : 0 ≤ cp → b ≤ a := fun h => by
    apply Classical.byContradiction
    intro h'
    have := hcp.2 h'
    omega
  have hc2 : cp < 0 → ¬ b ≤ a := fun h => hcp.1 h
  have hc3 : cp < 0 → a ≤ b := fun h => by have := hcp.1 h; omega
  clear hcp
  (refine XC.of_body ([(1, [(4, 5), (4, 6), (4, 7), (4, 8)]), (2, [(0, 6), (1, 6), (0, 8), (1, 8), (2, 8), (3, 8), (4, 8), (5, 8), (6, 8)]), (3, [(2, 3), (2, 4), (3, 6), (4, 6)])]) Try.func79 rfl Try.ntmps79 mixed (T := [(3, ti3), (4, ti4), (142, ti142), (144, ti144), (220, ti220)]) (.cons tok3 (.cons tok4 (.cons tok142 (.cons tok144 (.cons tok220 .nil))))) (by kernel_rfl) (by simp) rfl rfl rfl rfl rfl ?_; rintro o ho P hP c K hK; have hm : P.follows .mixedOrders = true := hP ▸ mixed; have hT : TOk P [(3, ti3), (4, ti4), (142, ti142), (144, ti144), (220, ti220)] := hP ▸ (.cons tok3 (.cons tok4 (.cons tok142 (.cons tok144 (.cons tok220 .nil))))); (try rw [← ho]); cbv; (repeat (refine StopN.mk ?_; cbv)))
  rw [← ho] at hM1 hM2 hM3 hA hC
  simp only [← ho] at hS1 hS2 hL1 hL2 hL3
  repeat' (first | (refine Br.mk (fun hb => ?_) (fun hb => ?_) <;> ((try rw [ho] at hb); (try dsimp only [Ar.real, IX.vo] at hb); (try simp only [QB7] at hb); (try simp only [QBo, beq_iff_eq, beq_eq_false_iff_ne, ne_eq] at hb))) | (refine StopN.mk ?_; cbv) | (first | refine CallN.pure hP hM1 fn136 rfl rfl rfl ?_ | refine CallN.pure hP hM2 fn136 rfl rfl rfl ?_ | refine CallN.pure hP hM3 fn136 rfl rfl rfl ?_ | refine CallI.pure hP hA fn137 rfl rfl rfl ?_ | refine CallI.pure hP hC fn138 rfl rfl rfl ?_ | refine CallI.pure hP (hS1 (hc1 ‹_›)) fn139 rfl rfl rfl ?_ | refine CallN.pure hP (hS2 (hc3 ‹_›)) fn139 rfl rfl rfl ?_); cbv | (refine hK _ _ ?_) | (refine NeedT.mk ?_ ?_))
  · refine CallI.pure hP (hL1 hb) fn140 rfl rfl rfl ?_
    cbv
    repeat' (first | (refine Br.mk (fun hb => ?_) (fun hb => ?_) <;> ((try rw [ho] at hb); (try dsimp only [Ar.real, IX.vo] at hb); (try simp only [QB7] at hb); (try simp only [QBo, beq_iff_eq, beq_eq_false_iff_ne, ne_eq] at hb))) | (refine StopN.mk ?_; cbv) | (refine hK _ _ ?_) | (refine NeedT.mk ?_ ?_))
    exact FinX_rt ho rfl
  · refine CallI.pure hP (hL2 (by assumption) (hc1 hb)) fn140 rfl rfl rfl ?_
    cbv
    repeat' (first | (refine Br.mk (fun hb => ?_) (fun hb => ?_) <;> ((try rw [ho] at hb); (try dsimp only [Ar.real, IX.vo] at hb); (try simp only [QB7] at hb); (try simp only [QBo, beq_iff_eq, beq_eq_false_iff_ne, ne_eq] at hb))) | (refine StopN.mk ?_; cbv) | (refine hK _ _ ?_) | (refine NeedT.mk ?_ ?_))
    exact FinX_rt ho rfl
  · refine CallI.pure hP (hL3 (by assumption) (hc2 hb)) fn140 rfl rfl rfl ?_
    cbv
    repeat' (first | (refine Br.mk (fun hb => ?_) (fun hb => ?_) <;> ((try rw [ho] at hb); (try dsimp only [Ar.real, IX.vo] at hb); (try simp only [QB7] at hb); (try simp only [QBo, beq_iff_eq, beq_eq_false_iff_ne, ne_eq] at hb))) | (refine StopN.mk ?_; cbv) | (refine hK _ _ ?_) | (refine NeedT.mk ?_ ?_))
    exact FinX_rt ho rfl
def Rt.above (r s : Rt) : Bool := !(r.add s.neg).m && decide (0 < (r.add s.neg).n)
theorem x_above (r s : Rt) (k l : Nat) (hr : r.Ok k) (hs : s.Ok l) (hkl : k + l + 1 ≤ 131072) : XC Try.prog 93 [r.X, s.X] [] (xb (r.above s)) [] := by
  have hN := x_neg s l hs (by omega)
  have hA := x_radd r s.neg k l hr hs.neg hkl
  unfold Rt.above
  have hpos := wd_len0 (n := (r.add s.neg).n)
  generalize r.add s.neg = t at *
  generalize s.neg = s' at *
  clear hr hs
  obtain ⟨m1, n1, d1⟩ := r
  obtain ⟨m2, n2, d2⟩ := s
  obtain ⟨m3, n3, d3⟩ := t
  obtain ⟨m4, n4, d4⟩ := s'
  unfold Rt.X at *
  dsimp only at *
  obtain ⟨bb, hbb⟩ : ∃ b, b = (!m3 && decide (0 < n3)) := ⟨_, rfl⟩
  rw [← hbb]
  have hb1 : m3 = true → bb = false := fun h => by rw [hbb, h]; rfl
  have hb3 : 0 < (wd n3).length → m3 = false → bb = true := fun h h' => by rw [hbb, h', decide_eq_true (hpos.1 h)]; rfl
  have hb4 : (wd n3).length = 0 → bb = false := fun h => by rw [hbb, decide_eq_false (fun h' => by have := hpos.2 h'; omega), Bool.and_false]
  clear hbb hpos
  generalize wd n1 = x1 at *
  generalize wd d1 = y1 at *
  generalize wd n2 = x2 at *
  generalize wd d2 = y2 at *
  generalize wd n3 = x3 at *
  generalize wd d3 = y3 at *
  generalize wd n4 = x4 at *
  generalize wd d4 = y4 at *
  (refine XC.of_body ([(1, [(0, 2), (0, 4), (1, 4), (2, 4), (3, 4)])]) Try.func93 rfl Try.ntmps93 mixed (T := [(3, ti3), (4, ti4), (142, ti142), (144, ti144), (220, ti220)]) (.cons tok3 (.cons tok4 (.cons tok142 (.cons tok144 (.cons tok220 .nil))))) (by kernel_rfl) (by simp) rfl rfl rfl rfl rfl ?_; rintro o ho P hP c K hK; have hm : P.follows .mixedOrders = true := hP ▸ mixed; have hT : TOk P [(3, ti3), (4, ti4), (142, ti142), (144, ti144), (220, ti220)] := hP ▸ (.cons tok3 (.cons tok4 (.cons tok142 (.cons tok144 (.cons tok220 .nil))))); (try rw [← ho]); cbv; (repeat (refine StopN.mk ?_; cbv)))
  rw [← ho] at hN hA
  repeat' (first | (refine Br.mk (fun hb => ?_) (fun hb => ?_) <;> ((try rw [ho] at hb); (try dsimp only [Ar.real, IX.vo] at hb); (try simp only [QB7] at hb); (try simp only [QBo, beq_iff_eq, beq_eq_false_iff_ne, ne_eq] at hb))) | (refine StopN.mk ?_; cbv) | (first | refine CallN.pure hP hN fn147 rfl rfl rfl ?_ | refine CallN.pure hP hA fn79 rfl rfl rfl ?_); cbv | (refine hK _ _ ?_) | (refine NeedT.mk ?_ ?_))
  · refine .b ?_
    rw [ho]
    show decide ((0 : Int) < (x3.length : Int)) = bb
    by_cases h : 0 < x3.length
    · rw [hb3 h hb]
      exact decide_eq_true (by omega)
    · rw [hb4 (by omega)]
      exact decide_eq_false (by omega)
  · rw [hb1 hb]
    exact .b rfl
def Rt.frac (r : Rt) : Fr × Bool := if r.n < 9223372036854775808 ∧ r.d < 9223372036854775808 ∧ r.m = false then (⟨r.n, r.d⟩, true) else (⟨0, 0⟩, false)
theorem FinX_fr {a b : Int} {w : Bool} {x y : IX} {z : BX} (h1 : x.val = a) (h2 : y.val = b) (h3 : z.val = w) : FinX (.tup [.agg [xi a, xi b], xb w]) [] (.tup [.agg [.i .i64 x, .i .i64 y], .b z]) [] := .pure fun _ => by
  simp only [X.toD, X.toDL, h1, h2, h3]
  rfl
theorem x_frac (r : Rt) (k : Nat) (hr : r.Ok k) (hk : k ≤ 131072) : XC Try.prog 81 [r.X] [] (.tup [.agg [xi r.frac.1.num, xi r.frac.1.den], xb r.frac.2]) [] := by
  have hN := x_number r.n (Nat.le_trans (wd_len hr.ln) hk)
  have hD := x_number r.d (Nat.le_trans (wd_len hr.ld) hk)
  have q1 : r.n < 9223372036854775808 → r.d < 9223372036854775808 → r.m = false → r.frac = (⟨IntKind.i64.wrap ((r.n % 18446744073709551616 : Nat) : Int), IntKind.i64.wrap ((r.d % 18446744073709551616 : Nat) : Int)⟩, true) := fun h1 h2 h3 => by
    have e1 : IntKind.i64.wrap ((r.n % 18446744073709551616 : Nat) : Int) = (r.n : Int) := by rw [Nat.mod_eq_of_lt (by omega), wrap_i64 (by omega) (by omega)]
    have e2 : IntKind.i64.wrap ((r.d % 18446744073709551616 : Nat) : Int) = (r.d : Int) := by rw [Nat.mod_eq_of_lt (by omega), wrap_i64 (by omega) (by omega)]
    rw [e1, e2]
    exact if_pos ⟨h1, h2, h3⟩
  have q2 : ¬ (r.n < 9223372036854775808 ∧ r.d < 9223372036854775808 ∧ r.m = false) → r.frac = (⟨0, 0⟩, false) := fun h => if_neg h
  obtain ⟨a, ha⟩ : ∃ a, a = IntKind.i64.wrap ((r.n % 18446744073709551616 : Nat) : Int) := ⟨_, rfl⟩
  obtain ⟨b, hb0⟩ : ∃ a, a = IntKind.i64.wrap ((r.d % 18446744073709551616 : Nat) : Int) := ⟨_, rfl⟩
  rw [← ha] at hN q1
  rw [← hb0] at hD q1
  obtain ⟨p, hp⟩ : ∃ p, p = decide (r.n < 9223372036854775808) := ⟨_, rfl⟩
  obtain ⟨q, hq⟩ : ∃ p, p = decide (r.d < 9223372036854775808) := ⟨_, rfl⟩
  have p1 : p = true → r.n < 9223372036854775808 := fun h => of_decide_eq_true (hp.symm.trans h)
  have p0 : p = false → ¬ r.n < 9223372036854775808 := fun h => of_decide_eq_false (hp.symm.trans h)
  have r1 : q = true → r.d < 9223372036854775808 := fun h => of_decide_eq_true (hq.symm.trans h)
  have r0 : q = false → ¬ r.d < 9223372036854775808 := fun h => of_decide_eq_false (hq.symm.trans h)
  rw [← hp] at hN
  rw [← hq] at hD
  generalize r.frac = res at *
  clear hr hp hq ha hb0
  obtain ⟨m1, n1, d1⟩ := r
  obtain ⟨⟨u, v⟩, w⟩ := res
  unfold Rt.X
  dsimp only at *
  generalize wd n1 = x1 at *
  generalize wd d1 = y1 at *
  (refine XC.of_body ([]) Try.func81 rfl Try.ntmps81 mixed (T := [(2, ti2), (4, ti4), (64, ti64), (142, ti142), (144, ti144), (220, ti220)]) (.cons tok2 (.cons tok4 (.cons tok64 (.cons tok142 (.cons tok144 (.cons tok220 .nil)))))) (by kernel_rfl) (by simp) rfl rfl rfl rfl rfl ?_; rintro o ho P hP c K hK; have hm : P.follows .mixedOrders = true := hP ▸ mixed; have hT : TOk P [(2, ti2), (4, ti4), (64, ti64), (142, ti142), (144, ti144), (220, ti220)] := hP ▸ (.cons tok2 (.cons tok4 (.cons tok64 (.cons tok142 (.cons tok144 (.cons tok220 .nil)))))); (try rw [← ho]); cbv; (repeat (refine StopN.mk ?_; cbv)))
  rw [← ho] at hN hD
  repeat' (first | (refine Br.mk (fun hb => ?_) (fun hb => ?_) <;> ((try rw [ho] at hb); (try dsimp only [Ar.real, IX.vo] at hb); (try simp only [QB7] at hb); (try simp only [QBo, beq_iff_eq, beq_eq_false_iff_ne, ne_eq] at hb))) | (refine StopN.mk ?_; cbv) | (first | refine CallI.pure hP hN fn142 rfl rfl rfl ?_ | refine CallI.pure hP hD fn142 rfl rfl rfl ?_); cbv | (refine hK _ _ ?_) | (refine NeedT.mk ?_ ?_))
  · have e := q2 (fun h => p0 hb h.1)
    cases e
    exact FinX_fr rfl rfl rfl
  · have e := q2 (fun h => r0 hb h.2.1)
    cases e
    exact FinX_fr rfl rfl rfl
  · have e := q2 (fun h => by rw [hb] at h; exact absurd h.2.2 (by decide))
    cases e
    exact FinX_fr rfl rfl rfl
  · have e := q1 (p1 (by assumption)) (r1 (by assumption)) hb
    cases e
    exact FinX_fr rfl rfl rfl
theorem rows_appU {o : Ar} (ho : o = Ar.real) (l : List Nat) : (RR.app (.lits []) (SL o encU l)).rows = (SL o encU l).rows := by
  subst ho
  simp [RR.rows, X.toCLL]
theorem x_nclone (l : List Nat) (hl : l.length ≤ 1048576) (h0 : 0 < l.length) : XC Try.prog 148 [.ro (SL Ar.real encU l)] [] (.ro (SL Ar.real encU l)) [] := by
  (refine XC.of_body ([]) Try.func148 rfl Try.ntmps148 mixed (T := [(142, ti142), (220, ti220)]) (.cons tok142 (.cons tok220 .nil)) (by kernel_rfl) (by simp) rfl rfl rfl rfl rfl ?_; rintro o ho P hP c K hK; have hm : P.follows .mixedOrders = true := hP ▸ mixed; have hT : TOk P [(142, ti142), (220, ti220)] := hP ▸ (.cons tok142 (.cons tok220 .nil)); (try rw [← ho]); cbv; (repeat (refine StopN.mk ?_; cbv)))
  repeat' (first | (refine Br.mk (fun hb => ?_) (fun hb => ?_) <;> ((try rw [ho] at hb); (try dsimp only [Ar.real, IX.vo] at hb); (try simp only [QB7] at hb); (try simp only [QBo, beq_iff_eq, beq_eq_false_iff_ne, ne_eq] at hb))) | (refine StopN.mk ?_; cbv) | (refine hK _ _ ?_) | (refine NeedT.mk ?_ ?_) | (refine NeedP.mk (fits_U o ho l) ?_))
  any_goals (((try clear hR3); (try clear hR2); (try clear hR); (try clear hK); (try simp only [ncCast] at *); (try simp only [castI_eq] at *); (try rw [ho]); (try dsimp only [Ar.real, IX.vo, IX.val, BX.val, IX.toN]); (try simp only [QB7]); (try simp only [decide_eq_true_eq]); (all_goals (repeat rw [wrap_i64 (by omega) (by omega)])); (all_goals (first | omega | (simp only [Int.ofNat_eq_natCast]; omega)))); done)
  exact .ro ((rows_appU ho l).trans (by rw [ho]))
end Go.Proofs.Ytddgcegimmcbgaa.Sy
namespace Go.Proofs.Ytddgcegimmcbgaa.Sy
open Go Go.Sy Go.Proofs.Ytddgcegimmcbgaa
theorem not_eq0 {x : Int} (h : x ≠ 0) : (!(x == 0)) = true := by simp [h]
structure StGi where
  p : Int
  q : Int
structure InGi (a b : Int) (s : StGi) : Prop where
  p : 0 ≤ s.p
  q : 0 ≤ s.q
  pb : s.p ≤ 9223372036854775807
  qb : s.q ≤ 9223372036854775807
  g : Nat.gcd s.p.toNat s.q.toNat = Nat.gcd a.toNat b.toNat
theorem gi_step {a b : Int} {p q : Int} (h : InGi a b ⟨p, q⟩) (hq : 0 < q) : InGi a b ⟨q, p.tmod q⟩ := by
  obtain ⟨h1, h2, h3, h4, h5⟩ := h
  dsimp only at h1 h2 h3 h4 h5
  rw [Int.tmod_eq_emod_of_nonneg h1]
  have m1 := Int.emod_nonneg p (show q ≠ 0 by omega)
  have m2 := Int.emod_lt_of_pos p hq
  refine ⟨by dsimp only; omega, by dsimp only; exact m1, by dsimp only; omega, by dsimp only; omega, ?_⟩
  show Nat.gcd q.toNat (p % q).toNat = _
  have e : (p % q).toNat = p.toNat % q.toNat := by
    obtain ⟨x, rfl⟩ := Int.eq_ofNat_of_zero_le h1
    obtain ⟨y, rfl⟩ := Int.eq_ofNat_of_zero_le h2
    rw [Int.toNat_natCast, Int.toNat_natCast]
    norm_cast
  have e2 : Nat.gcd p.toNat q.toNat = Nat.gcd (p.toNat % q.toNat) q.toNat := by rw [Nat.gcd_comm, Nat.gcd_rec]
  rw [e, ← h5, e2]
  exact Nat.gcd_comm _ _
def gcdR (a b : Int) : Int := if a < 0 ∨ b < 0 then 0 else ((Nat.gcd a.toNat b.toNat : Nat) : Int)
theorem x_Gcd (a b : Int) (ha : i64B a) (hb' : i64B b) : XC Try.prog 145 [xi a, xi b] [] (xi (gcdR a b)) [] := by
  have q0 : (a < 0 ∨ b < 0) → gcdR a b = 0 := fun h => if_pos h
  have q1 : 0 ≤ a → 0 ≤ b → gcdR a b = ((Nat.gcd a.toNat b.toNat : Nat) : Int) := fun h h' => if_neg (by omega)
  obtain ⟨a1, a2⟩ := ha
  obtain ⟨b1, b2⟩ := hb'
  generalize gcdR a b = res at *
  have h0 : 0 ≤ a → 0 ≤ b → InGi a b ⟨a, b⟩ := fun h h' => ⟨h, h', a2, b2, rfl⟩
  (refine XC.of_body ([(4, [])]) Try.func145 rfl Try.ntmps145 mixed (T := [(2, ti2)]) (.cons tok2 .nil) (by kernel_rfl) (by simp) rfl rfl rfl rfl rfl ?_; rintro o ho P hP c K hK; have hm : P.follows .mixedOrders = true := hP ▸ mixed; have hT : TOk P [(2, ti2)] := hP ▸ (.cons tok2 .nil); (try rw [← ho]); cbv; (repeat (refine StopN.mk ?_; cbv)))
  repeat' (first | (refine Br.mk (fun hb => ?_) (fun hb => ?_) <;> ((try rw [ho] at hb); (try dsimp only [Ar.real, IX.vo] at hb); (try simp only [QB7] at hb); (try simp only [QBo, beq_iff_eq, beq_eq_false_iff_ne, ne_eq] at hb))) | (refine StopN.mk ?_; cbv) | (refine hK _ _ ?_) | (refine NeedT.mk ?_ ?_))
  · rw [q0 (.inl hb)]
    exact .i rfl
  · rw [q0 (.inr hb)]
    exact .i rfl
  have q2 := q1 (by assumption) (by assumption)
  have h1 := h0 (by assumption) (by assumption)
  refine LoopN.over (o := o) (D := [(4, [])]) ho hm hT (by kernel_rfl) (fun s : StGi => [(0, xi s.p), (1, xi s.q)]) (fun _ => []) (fun _ => []) (InGi a b) (fun s => s.q.toNat) ⟨a, b⟩ h1 ?_ ?_
  · refine ⟨(by cbv), by cbv; repeat' (first | trivial | exact EqX.rfl' | exact EqO.rfl' | apply And.intro | ((try clear hR3); (try clear hR2); (try clear hR); (try clear hK); (try simp only [ncCast] at *); (try simp only [castI_eq] at *); refine EqX.i ?_; (try rw [ho]); (try dsimp only [Ar.real, IX.vo, IX.val, BX.val, IX.toN]); (try simp only [QB7]); (repeat rw [wrap_i64 (by omega) (by omega)]); omega)), by cbv; repeat' (first | trivial | exact EqO.rfl' | apply And.intro), by cbv; repeat' (first | trivial | exact EqO.rfl' | apply And.intro)⟩
  · rintro ⟨p, q⟩ hI R hR
    have hst := gi_step hI
    obtain ⟨i1, i2, i3, i4, i5⟩ := id hI
    dsimp only at i1 i2 i3 i4 i5
    obtain ⟨q', hq'⟩ : ∃ q', q' = p.tmod q := ⟨_, rfl⟩
    rw [← hq'] at hst
    cbv
    repeat' (first | (refine Br.mk (fun hb => ?_) (fun hb => ?_) <;> ((try rw [ho] at hb); (try dsimp only [Ar.real, IX.vo] at hb); (try simp only [QB7] at hb); (try simp only [QBo, beq_iff_eq, beq_eq_false_iff_ne, ne_eq] at hb))) | (refine StopN.mk ?_; cbv) | (refine hK _ _ ?_) | (refine NeedT.mk ?_ ?_))
    · rw [ho]
      exact not_eq0 (by omega)
    · have hq0 : 0 < q := by assumption
      have hs := hst hq0
      refine hR _ ⟨q, q'⟩ (by
        show q'.toNat < q.toNat
        rw [hq', Int.tmod_eq_emod_of_nonneg i1]
        have m1 := Int.emod_nonneg p (show q ≠ 0 by omega)
        have m2 := Int.emod_lt_of_pos p hq0
        omega) hs ?_
      refine ⟨(by cbv), by cbv; repeat' (first | trivial | exact EqX.rfl' | exact EqO.rfl' | apply And.intro | ((try clear hR3); (try clear hR2); (try clear hR); (try clear hK); (try simp only [ncCast] at *); (try simp only [castI_eq] at *); refine EqX.i ?_; (try rw [ho]); (try dsimp only [Ar.real, IX.vo, IX.val, BX.val, IX.toN]); (try simp only [QB7]); (repeat rw [wrap_i64 (by omega) (by omega)]); omega) | (refine EqX.i ?_; rw [ho, hq']; rfl)), by cbv; repeat' (first | trivial | exact EqO.rfl' | apply And.intro | (refine EqX.i ?_; rw [ho, hq']; rfl)), by cbv; repeat' (first | trivial | exact EqO.rfl' | apply And.intro | (refine EqX.i ?_; rw [ho, hq']; rfl))⟩
    · have hq0 : q = 0 := by ((try clear hR3); (try clear hR2); (try clear hR); (try clear hK); (try simp only [ncCast] at *); (try simp only [castI_eq] at *)); omega
      refine .i ?_
      rw [q2, ← i5, hq0]
      show p = _
      rw [show (0 : Int).toNat = 0 from rfl, Nat.gcd_zero_right]
      exact (Int.toNat_of_nonneg i1).symm
def lowF (n d : Nat) : Fr := ⟨((n / Nat.gcd n d : Nat) : Int), ((d / Nat.gcd n d : Nat) : Int)⟩
theorem quo_nat {a : Int} {g : Nat} (ha : 0 ≤ a) (h2 : a ≤ 9223372036854775807) (hg : 0 < g) : IntKind.i64.wrap (a.tdiv (g : Int)) = ((a.toNat / g : Nat) : Int) := by
  obtain ⟨x, rfl⟩ := Int.eq_ofNat_of_zero_le ha
  have h1 : (x : Int).tdiv (g : Int) = ((x / g : Nat) : Int) := by
    rw [Int.tdiv_eq_ediv_of_nonneg ha]
    norm_cast
  have h3 : x / g ≤ x := Nat.div_le_self _ _
  rw [h1, Int.toNat_natCast]
  generalize x / g = y at *
  exact wrap_i64 (by omega) (by omega)
def lowR (n d : Int) : Fr := if fracRight n d = true then lowF n.toNat d.toNat else ⟨0, 0⟩
theorem x_Low (n d : Int) (hn : i64B n) (hd : i64B d) : XC Try.prog 84 [.agg [xi n, xi d]] [] (.agg [xi (lowR n d).num, xi (lowR n d).den]) [] := by
  have hF := x_fracRight n d
  have hG := x_Gcd n d hn hd
  have q0 : fracRight n d = false → lowR n d = ⟨0, 0⟩ := fun h => by unfold lowR; rw [h]; rfl
  have q1 : fracRight n d = true → 0 < gcdR n d ∧ lowR n d = ⟨IntKind.i64.wrap (n.tdiv (gcdR n d)), IntKind.i64.wrap (d.tdiv (gcdR n d))⟩ := fun h => by
    have h0 := h
    simp only [fracRight, Bool.and_eq_true, decide_eq_true_eq] at h0
    have hg : gcdR n d = ((Nat.gcd n.toNat d.toNat : Nat) : Int) := if_neg (by omega)
    have hp : 0 < Nat.gcd n.toNat d.toNat := Nat.gcd_pos_of_pos_right _ (by omega)
    refine ⟨by omega, ?_⟩
    rw [hg, quo_nat h0.1 hn.2 hp, quo_nat (by omega) hd.2 hp]
    exact if_pos h
  generalize lowR n d = res at *
  generalize gcdR n d = g at *
  generalize fracRight n d = F at *
  clear hn hd
  (refine XC.of_body ([(4, [])]) Try.func84 rfl Try.ntmps84 mixed (T := [(2, ti2), (4, ti4), (64, ti64)]) (.cons tok2 (.cons tok4 (.cons tok64 .nil))) (by kernel_rfl) (by simp) rfl rfl rfl rfl rfl ?_; rintro o ho P hP c K hK; have hm : P.follows .mixedOrders = true := hP ▸ mixed; have hT : TOk P [(2, ti2), (4, ti4), (64, ti64)] := hP ▸ (.cons tok2 (.cons tok4 (.cons tok64 .nil))); (try rw [← ho]); cbv; (repeat (refine StopN.mk ?_; cbv)))
  repeat' (first | (refine Br.mk (fun hb => ?_) (fun hb => ?_) <;> ((try rw [ho] at hb); (try dsimp only [Ar.real, IX.vo] at hb); (try simp only [QB7] at hb); (try simp only [QBo, beq_iff_eq, beq_eq_false_iff_ne, ne_eq] at hb))) | (refine StopN.mk ?_; cbv) | (first | refine CallI.pure hP hF fn78 rfl rfl rfl ?_ | refine CallI.pure hP hG fn145 rfl rfl rfl ?_); cbv | ((first | refine CallI.pure hP (x_fracRight _ _) fn78 (by first | rfl | (rw [ho]; done) | (rw [ho]; rfl)) (by rfl) (by first | rfl | (rw [ho]; done) | (rw [ho]; rfl)) ?_ | refine CallN.pure hP (x_fracRight _ _) fn78 (by first | rfl | (rw [ho]; done) | (rw [ho]; rfl)) (by rfl) (by first | rfl | (rw [ho]; done) | (rw [ho]; rfl)) ?_); (try rw [← ho]); generalize hr : fracRight _ _ = r; (try rw [ho] at hr); (try dsimp only [Ar.real, IX.vo] at hr); (try simp only [QB7] at hr); cbv) | (refine hK _ _ ?_) | (refine NeedT.mk ?_ ?_))
  · rw [q0 (by assumption)]
    exact FinX_agg2 rfl rfl
  all_goals have q2 := q1 (by assumption)
  iterate 2
    · rw [ho]
      show (!(g == 0)) = true
      rw [Bool.not_eq_true', beq_eq_false_iff_ne]
      omega
  · rw [q2.2]
    exact FinX_agg2 (by rw [ho]; rfl) (by rw [ho]; rfl)
end Go.Proofs.Ytddgcegimmcbgaa.Sy
namespace Go.Proofs.Ytddgcegimmcbgaa.Sy
open Go Go.Sy Go.Proofs.Ytddgcegimmcbgaa
def Rt.over (r s : Rt) : Rt := r.mul ⟨s.m, s.d, s.n⟩
theorem Rt.Ok.inv {k : Nat} {s : Rt} (hs : s.Ok k) (h0 : 0 < s.n) : Rt.Ok k ⟨s.m, s.d, s.n⟩ := ⟨h0, hs.ld, hs.ln⟩
theorem Rt.Ok.over {k l : Nat} {r s : Rt} (hr : r.Ok k) (hs : s.Ok l) (h0 : 0 < s.n) : (r.over s).Ok (k + l) := hr.mul (hs.inv h0)
theorem x_over (r s : Rt) (k l : Nat) (hr : r.Ok k) (hs : s.Ok l) (h0 : 0 < s.n) (hkl : k + l ≤ 131072) : XC Try.prog 94 [r.X, s.X] [] (r.over s).X [] := by
  have hM := x_rmul r ⟨s.m, s.d, s.n⟩ k l hr (hs.inv h0) hkl
  have hC1 := x_nclone (wd s.n) (Nat.le_trans (wd_len hs.ln) (by omega)) (wd_len0.2 h0)
  have hC2 := x_nclone (wd s.d) (Nat.le_trans (wd_len hs.ld) (by omega)) (wd_len0.2 hs.d)
  unfold Rt.over
  generalize r.mul ⟨s.m, s.d, s.n⟩ = t at *
  clear hr hs h0
  obtain ⟨m1, n1, d1⟩ := r
  obtain ⟨m2, n2, d2⟩ := s
  obtain ⟨m3, n3, d3⟩ := t
  unfold Rt.X at *
  dsimp only at *
  generalize wd n1 = x1 at *
  generalize wd d1 = y1 at *
  generalize wd n2 = x2 at *
  generalize wd d2 = y2 at *
  generalize wd n3 = x3 at *
  generalize wd d3 = y3 at *
  (refine XC.of_body ([(1, [(0, 5), (1, 5), (2, 5), (5, 6), (5, 7), (0, 8), (1, 8), (2, 8)])]) Try.func94 rfl Try.ntmps94 mixed (T := [(4, ti4), (142, ti142), (144, ti144), (220, ti220)]) (.cons tok4 (.cons tok142 (.cons tok144 (.cons tok220 .nil)))) (by kernel_rfl) (by simp) rfl rfl rfl rfl rfl ?_; rintro o ho P hP c K hK; have hm : P.follows .mixedOrders = true := hP ▸ mixed; have hT : TOk P [(4, ti4), (142, ti142), (144, ti144), (220, ti220)] := hP ▸ (.cons tok4 (.cons tok142 (.cons tok144 (.cons tok220 .nil)))); (try rw [← ho]); cbv; (repeat (refine StopN.mk ?_; cbv)))
  rw [← ho] at hM hC1 hC2
  repeat' (first | (refine Br.mk (fun hb => ?_) (fun hb => ?_) <;> ((try rw [ho] at hb); (try dsimp only [Ar.real, IX.vo] at hb); (try simp only [QB7] at hb); (try simp only [QBo, beq_iff_eq, beq_eq_false_iff_ne, ne_eq] at hb))) | (refine StopN.mk ?_; cbv) | (first | refine CallN.pure hP hC1 fn148 rfl rfl rfl ?_ | refine CallN.pure hP hC2 fn148 rfl rfl rfl ?_ | refine CallN.pure hP hM fn92 rfl rfl rfl ?_); cbv | (refine hK _ _ ?_) | (refine NeedT.mk ?_ ?_))
  exact FinX_rt ho rfl
def Fr.X (_ : Ar) (f : Fr) : List X := [xi f.num, xi f.den]
def sumTo (l : List Fr) : Nat → Rt
  | 0 => Rt.whole 0
  | i + 1 => (sumTo l i).add (Rt.of (l.getD i default).num.toNat (l.getD i default).den.toNat)
def frOk (l : List Fr) (i : Nat) : Bool := fracRight (l.getD i default).num (l.getD i default).den
def sumR (l : List Fr) : Fr × Bool := if (nextAt (fun i => !frOk l i) 0 l.length).isNone = true then (sumTo l l.length).frac else (⟨0, 0⟩, false)
theorem Rt.of_ok2 {n d : Nat} (hd : 0 < d) (h1 : n < 9223372036854775808) (h2 : d < 9223372036854775808) : (Rt.of n d).Ok 2 := Rt.of_ok hd (by omega) (by omega)
theorem sumTo_ok {l : List Fr} (hb : ∀ i, i64B (l.getD i default).num ∧ i64B (l.getD i default).den) : ∀ i, (∀ j, j < i → frOk l j = true) → (sumTo l i).Ok (2 + 3 * i)
  | 0, _ => Rt.of_ok2 (by decide) (by decide) (by decide)
  | i + 1, h => by
    have ih := sumTo_ok hb i fun j hj => h j (by omega)
    have hr := h i (by omega)
    obtain ⟨⟨b1, b2⟩, b3, b4⟩ := hb i
    unfold frOk fracRight at hr
    simp only [Bool.and_eq_true, decide_eq_true_eq] at hr
    have h2 : (Rt.of (l.getD i default).num.toNat (l.getD i default).den.toNat).Ok 2 := Rt.of_ok2 (by omega) (by omega) (by omega)
    have := ih.add h2
    simp only [sumTo]
    exact this.mono (by omega)
structure StSm where
  i : Nat
  m : Bool
  x : List Nat
  y : List Nat
structure InSm (l : List Fr) (s : StSm) : Prop where
  i : s.i ≤ l.length
  ok : ∀ j, j < s.i → frOk l j = true
  m : s.m = (sumTo l s.i).m
  x : s.x = wd (sumTo l s.i).n
  y : s.y = wd (sumTo l s.i).d
theorem x_Sum (l : List Fr) (hl : l.length ≤ 1000) (hb0 : ∀ i, i64B (l.getD i default).num ∧ i64B (l.getD i default).den) : XC Try.prog 31 [.ro (SL Ar.real Fr.X l)] [] (.tup [.agg [xi (sumR l).1.num, xi (sumR l).1.den], xb (sumR l).2]) [] := by
  have hokk := sumTo_ok hb0
  have hW := x_whole 0 (by decide)
  have hF := fun i => x_fracRight (l.getD i default).num (l.getD i default).den
  have hOf := fun i (h : frOk l i = true) => x_ratOf (l.getD i default).num.toNat (l.getD i default).den.toNat (by
    unfold frOk fracRight at h
    simp only [Bool.and_eq_true, decide_eq_true_eq] at h
    omega) (by have := (hb0 i).1.2; omega) (by have := (hb0 i).2.2; omega)
  have hcast : ∀ i, frOk l i = true → (((l.getD i default).num.toNat : Nat) : Int) = (l.getD i default).num ∧ (((l.getD i default).den.toNat : Nat) : Int) = (l.getD i default).den := fun i h => by
    unfold frOk fracRight at h
    simp only [Bool.and_eq_true, decide_eq_true_eq] at h
    omega
  have hOg : ∀ i, frOk l i = true → XC Try.prog 80 [.agg [xi (l.getD i default).num, xi (l.getD i default).den]] [] (Rt.of (l.getD i default).num.toNat (l.getD i default).den.toNat).X [] := fun i h => by
    have h1 := hOf i h
    rw [(hcast i h).1, (hcast i h).2] at h1
    exact h1
  clear hOf hcast
  have hAd := fun i (h : ∀ j, j < i + 1 → frOk l j = true) (hi : i < 1000) => x_radd (sumTo l i) (Rt.of (l.getD i default).num.toNat (l.getD i default).den.toNat) (2 + 3 * i) 2 (hokk i fun j hj => h j (by omega)) (by
    have h2 := h i (by omega)
    obtain ⟨⟨b1, b2⟩, b3, b4⟩ := hb0 i
    unfold frOk fracRight at h2
    simp only [Bool.and_eq_true, decide_eq_true_eq] at h2
    exact Rt.of_ok2 (by omega) (by omega) (by omega)) (by omega)
  have hFr := fun (h : ∀ j, j < l.length → frOk l j = true) => x_frac (sumTo l l.length) (2 + 3 * l.length) (hokk _ h) (by omega)
  have q0 : ∀ i, i < l.length → frOk l i = false → sumR l = (⟨0, 0⟩, false) := fun i hi h => by
    unfold sumR
    rw [isNone_no (p := fun i => !frOk l i) hi (by simp only [h, Bool.not_false])]
    rfl
  have q1 : (∀ j, j < l.length → frOk l j = true) → sumR l = (sumTo l l.length).frac := fun h => by
    unfold sumR
    rw [isNone_all (p := fun i => !frOk l i) fun i hi => by simp only [h i hi, Bool.not_true]]
    rfl
  have hst : ∀ i, sumTo l (i + 1) = (sumTo l i).add (Rt.of (l.getD i default).num.toNat (l.getD i default).den.toNat) := fun _ => rfl
  have h00 : sumTo l 0 = Rt.whole 0 := rfl
  have hfk : ∀ i, fracRight (l.getD i default).num (l.getD i default).den = frOk l i := fun _ => rfl
  simp only [← hst] at hAd
  simp only [hfk] at hF
  generalize sumR l = res at *
  obtain ⟨w, hw⟩ : ∃ w, w = Rt.whole 0 := ⟨_, rfl⟩
  rw [← hw] at hW h00
  obtain ⟨wm, wn, wdd⟩ := w
  unfold Rt.X at *
  dsimp only at hW
  generalize hwx : wd wn = wx at *
  generalize hwy : wd wdd = wy at *
  have hI0 : InSm l ⟨0, wm, wx, wy⟩ := ⟨Nat.zero_le _, fun j hj => absurd hj (Nat.not_lt_zero j), by show wm = (sumTo l 0).m; rw [h00], by show wx = wd (sumTo l 0).n; rw [h00]; exact hwx.symm, by show wy = wd (sumTo l 0).d; rw [h00]; exact hwy.symm⟩
  clear hst hokk hfk
  (refine XC.of_body ([(7, [(0, 2)])]) Try.func31 rfl Try.ntmps31 mixed (T := [(2, ti2), (3, ti3), (4, ti4), (60, ti60), (64, ti64), (142, ti142), (144, ti144)]) (.cons tok2 (.cons tok3 (.cons tok4 (.cons tok60 (.cons tok64 (.cons tok142 (.cons tok144 .nil))))))) (by kernel_rfl) (by simp) rfl rfl rfl rfl rfl ?_; rintro o ho P hP c K hK; have hm : P.follows .mixedOrders = true := hP ▸ mixed; have hT : TOk P [(2, ti2), (3, ti3), (4, ti4), (60, ti60), (64, ti64), (142, ti142), (144, ti144)] := hP ▸ (.cons tok2 (.cons tok3 (.cons tok4 (.cons tok60 (.cons tok64 (.cons tok142 (.cons tok144 .nil))))))); (try rw [← ho]); cbv; (repeat (refine StopN.mk ?_; cbv)))
  rw [← ho] at hW
  repeat' (first | (refine Br.mk (fun hb => ?_) (fun hb => ?_) <;> ((try rw [ho] at hb); (try dsimp only [Ar.real, IX.vo] at hb); (try simp only [QB7] at hb); (try simp only [QBo, beq_iff_eq, beq_eq_false_iff_ne, ne_eq] at hb))) | (refine StopN.mk ?_; cbv) | (first | refine CallI.pure hP hW fn77 rfl rfl rfl ?_); cbv | ((first | refine CallI.pure hP (x_fracRight _ _) fn78 (by first | rfl | (rw [ho]; done) | (rw [ho]; rfl)) (by rfl) (by first | rfl | (rw [ho]; done) | (rw [ho]; rfl)) ?_ | refine CallN.pure hP (x_fracRight _ _) fn78 (by first | rfl | (rw [ho]; done) | (rw [ho]; rfl)) (by rfl) (by first | rfl | (rw [ho]; done) | (rw [ho]; rfl)) ?_); (try rw [← ho]); generalize hr : fracRight _ _ = r; (try rw [ho] at hr); (try dsimp only [Ar.real, IX.vo] at hr); (try simp only [QB7] at hr); cbv) | (refine hK _ _ ?_) | (refine NeedT.mk ?_ ?_))
  refine LoopN.over (o := o) (D := [(7, [(0, 2)])]) ho hm hT (by kernel_rfl) (fun s : StSm => [(10, xn s.i)]) (fun s => [(1, .var [xb s.m, .ro (SL o encU s.x), .ro (SL o encU s.y)] 144)]) (fun _ => []) (InSm l) (fun s => l.length - s.i) ⟨0, wm, wx, wy⟩ hI0 ?_ ?_
  · refine ⟨(by cbv), by cbv; repeat' (first | trivial | exact EqX.rfl' | exact EqO.rfl' | apply And.intro | ((try clear hR3); (try clear hR2); (try clear hR); (try clear hK); (try simp only [ncCast] at *); (try simp only [castI_eq] at *); refine EqX.i ?_; (try rw [ho]); (try dsimp only [Ar.real, IX.vo, IX.val, BX.val, IX.toN]); (try simp only [QB7]); (repeat rw [wrap_i64 (by omega) (by omega)]); omega)), by cbv; repeat' (first | trivial | exact EqO.rfl' | apply And.intro), by cbv; repeat' (first | trivial | exact EqO.rfl' | apply And.intro)⟩
  · rintro ⟨i, m, x, y⟩ ⟨hi, hok, hm1, hx1, hy1⟩ R hR
    dsimp only at hi hok hm1 hx1 hy1
    have hFi := hF i
    have hOi := hOg i
    have hAi := fun h h' => hAd i h h'
    have q2 := q0 i
    have q3 := fun (h : i = l.length) => hFr (by rw [← h]; exact hok)
    have q4 := fun (h : i = l.length) => q1 (by rw [← h]; exact hok)
    have en : o.nth l i = l.getD i default := by rw [ho, real_nth]
    generalize Rt.of (l.getD i default).num.toNat (l.getD i default).den.toNat = r2 at *
    generalize h3 : sumTo l (i + 1) = r3 at *
    rw [← hm1, ← hx1, ← hy1] at hAi
    obtain ⟨m2, n2, d2⟩ := r2
    obtain ⟨m3, n3, d3⟩ := r3
    dsimp only at hOi hAi
    generalize wd n2 = x2 at *
    generalize wd d2 = y2 at *
    generalize hx3 : wd n3 = x3 at *
    generalize hy3 : wd d3 = y3 at *
    have hFr1 := fun h : i = l.length => q3 h
    generalize hfr : (sumTo l l.length).frac = fr at *
    have hsame : i = l.length → (sumTo l l.length).m = m ∧ wd (sumTo l l.length).n = x ∧ wd (sumTo l l.length).d = y := fun h => by rw [← h]; exact ⟨hm1.symm, hx1.symm, hy1.symm⟩
    generalize (sumTo l l.length).m = me at *
    generalize wd (sumTo l l.length).n = xe at *
    generalize wd (sumTo l l.length).d = ye at *
    generalize hbb : frOk l i = b at *
    rw [← en] at hFi hOi
    simp only [← ho] at hOi hAi
    cbv
    repeat' (first | (refine Br.mk (fun hb => ?_) (fun hb => ?_) <;> ((try rw [ho] at hb); (try dsimp only [Ar.real, IX.vo] at hb); (try simp only [QB7] at hb); (try simp only [QBo, beq_iff_eq, beq_eq_false_iff_ne, ne_eq] at hb))) | (refine StopN.mk ?_; cbv) | (first | refine CallI.pure hP hFi fn78 rfl rfl rfl ?_ | refine CallN.pure hP (hOi ‹_›) fn80 rfl rfl rfl ?_); cbv | ((first | refine CallI.pure hP (x_fracRight _ _) fn78 (by first | rfl | (rw [ho]; done) | (rw [ho]; rfl)) (by rfl) (by first | rfl | (rw [ho]; done) | (rw [ho]; rfl)) ?_ | refine CallN.pure hP (x_fracRight _ _) fn78 (by first | rfl | (rw [ho]; done) | (rw [ho]; rfl)) (by rfl) (by first | rfl | (rw [ho]; done) | (rw [ho]; rfl)) ?_); (try rw [← ho]); generalize hr : fracRight _ _ = r; (try rw [ho] at hr); (try dsimp only [Ar.real, IX.vo] at hr); (try simp only [QB7] at hr); cbv) | (refine hK _ _ ?_) | (refine NeedT.mk ?_ ?_))
    · ((try clear hR3); (try clear hR2); (try clear hR); (try clear hK); (try simp only [ncCast] at *); (try simp only [castI_eq] at *); (try rw [ho]); (try dsimp only [Ar.real, IX.vo, IX.val, BX.val, IX.toN]); (try simp only [QB7]); (try simp only [decide_eq_true_eq]); (all_goals (repeat rw [wrap_i64 (by omega) (by omega)])); (all_goals (first | omega | (simp only [Int.ofNat_eq_natCast]; omega))))
    · rw [q2 (by ((try clear hR3); (try clear hR2); (try clear hR); (try clear hK); (try simp only [ncCast] at *); (try simp only [castI_eq] at *)); omega) hb]
      exact FinX_fr rfl rfl rfl
    · have hil : i < l.length := by ((try clear hR3); (try clear hR2); (try clear hR); (try clear hK); (try simp only [ncCast] at *); (try simp only [castI_eq] at *)); omega
      have hok' : ∀ j, j < i + 1 → frOk l j = true := fun j hj => by
        rcases Nat.lt_or_ge j i with h5 | h5
        · exact hok j h5
        · obtain rfl : j = i := by omega
          rw [hbb]
          assumption
      have hA1 := hAi hok' (by omega)
      refine CallN.pure hP hA1 fn79 rfl rfl rfl ?_
      cbv
      repeat' (first | (refine Br.mk (fun hb => ?_) (fun hb => ?_) <;> ((try rw [ho] at hb); (try dsimp only [Ar.real, IX.vo] at hb); (try simp only [QB7] at hb); (try simp only [QBo, beq_iff_eq, beq_eq_false_iff_ne, ne_eq] at hb))) | (refine StopN.mk ?_; cbv) | ((first | refine CallI.pure hP (x_fracRight _ _) fn78 (by first | rfl | (rw [ho]; done) | (rw [ho]; rfl)) (by rfl) (by first | rfl | (rw [ho]; done) | (rw [ho]; rfl)) ?_ | refine CallN.pure hP (x_fracRight _ _) fn78 (by first | rfl | (rw [ho]; done) | (rw [ho]; rfl)) (by rfl) (by first | rfl | (rw [ho]; done) | (rw [ho]; rfl)) ?_); (try rw [← ho]); generalize hr : fracRight _ _ = r; (try rw [ho] at hr); (try dsimp only [Ar.real, IX.vo] at hr); (try simp only [QB7] at hr); cbv) | (refine hK _ _ ?_) | (refine NeedT.mk ?_ ?_))
      refine hR _ ⟨i + 1, m3, x3, y3⟩ (by show l.length - (i + 1) < l.length - i; omega) ⟨by show i + 1 ≤ l.length; omega, hok', by show m3 = (sumTo l (i + 1)).m; rw [h3], by show x3 = wd (sumTo l (i + 1)).n; rw [h3]; exact hx3.symm, by show y3 = wd (sumTo l (i + 1)).d; rw [h3]; exact hy3.symm⟩ ?_
      refine ⟨(by cbv), by cbv; repeat' (first | trivial | exact EqX.rfl' | exact EqO.rfl' | apply And.intro | ((try clear hR3); (try clear hR2); (try clear hR); (try clear hK); (try simp only [ncCast] at *); (try simp only [castI_eq] at *); refine EqX.i ?_; (try rw [ho]); (try dsimp only [Ar.real, IX.vo, IX.val, BX.val, IX.toN]); (try simp only [QB7]); (repeat rw [wrap_i64 (by omega) (by omega)]); omega)), by cbv; repeat' (first | trivial | exact EqO.rfl' | apply And.intro), by cbv; repeat' (first | trivial | exact EqO.rfl' | apply And.intro)⟩
    · have hil : i = l.length := by ((try clear hR3); (try clear hR2); (try clear hR); (try clear hK); (try simp only [ncCast] at *); (try simp only [castI_eq] at *)); omega
      have hF1 := hFr1 hil
      obtain ⟨e1, e2, e3⟩ := hsame hil
      rw [e1, e2, e3, ← ho] at hF1
      refine CallI.pure hP hF1 fn81 rfl rfl rfl ?_
      cbv
      repeat' (first | (refine Br.mk (fun hb => ?_) (fun hb => ?_) <;> ((try rw [ho] at hb); (try dsimp only [Ar.real, IX.vo] at hb); (try simp only [QB7] at hb); (try simp only [QBo, beq_iff_eq, beq_eq_false_iff_ne, ne_eq] at hb))) | (refine StopN.mk ?_; cbv) | ((first | refine CallI.pure hP (x_fracRight _ _) fn78 (by first | rfl | (rw [ho]; done) | (rw [ho]; rfl)) (by rfl) (by first | rfl | (rw [ho]; done) | (rw [ho]; rfl)) ?_ | refine CallN.pure hP (x_fracRight _ _) fn78 (by first | rfl | (rw [ho]; done) | (rw [ho]; rfl)) (by rfl) (by first | rfl | (rw [ho]; done) | (rw [ho]; rfl)) ?_); (try rw [← ho]); generalize hr : fracRight _ _ = r; (try rw [ho] at hr); (try dsimp only [Ar.real, IX.vo] at hr); (try simp only [QB7] at hr); cbv) | (refine hK _ _ ?_) | (refine NeedT.mk ?_ ?_))
      rw [q4 hil]
      exact FinX_fr rfl rfl rfl
def deltaR (need total : S4) : Fr × Bool := if (sumsDom need total).at_ < 0 ∨ sumsHolds total need = false then (⟨0, 0⟩, false) else (lowR (sumsDom need total).num (sumsDom need total).den, true)
theorem sumsDom_bd (s t : S4) : i64B (sumsDom s t).num ∧ i64B (sumsDom s t).den := by
  unfold sumsDom
  split
  · rename_i h
    have := domTo_bd h.1 h.2 4
    unfold i64B
    omega
  · unfold i64B
    decide
theorem x_Delta (need total : S4) : XC Try.prog 33 [.agg (S4.X Ar.real need), .agg (S4.X Ar.real total)] [] (.tup [.agg [xi (deltaR need total).1.num, xi (deltaR need total).1.den], xb (deltaR need total).2]) [] := by
  have hD := x_sumsDom need total
  have hH := x_sumsHolds total need
  have hL := x_Low _ _ (sumsDom_bd need total).1 (sumsDom_bd need total).2
  have q0 : (sumsDom need total).at_ < 0 → deltaR need total = (⟨0, 0⟩, false) := fun h => if_pos (.inl h)
  have q1 : sumsHolds total need = false → deltaR need total = (⟨0, 0⟩, false) := fun h => if_pos (.inr h)
  have q2 : 0 ≤ (sumsDom need total).at_ → sumsHolds total need = true → deltaR need total = (lowR (sumsDom need total).num (sumsDom need total).den, true) := fun h h' => if_neg (by rw [h']; simp; omega)
  generalize deltaR need total = res at *
  generalize sumsHolds total need = hh at *
  generalize sumsDom need total = dm at *
  obtain ⟨num, den, at_⟩ := dm
  dsimp only at *
  generalize lowR num den = lf at *
  obtain ⟨a, b, u, d⟩ := need
  obtain ⟨a', b', u', d'⟩ := total
  (refine XC.of_body ([]) Try.func33 rfl Try.ntmps33 mixed (T := [(2, ti2), (3, ti3), (4, ti4), (61, ti61), (64, ti64)]) (.cons tok2 (.cons tok3 (.cons tok4 (.cons tok61 (.cons tok64 .nil))))) (by kernel_rfl) (by simp) rfl rfl rfl rfl rfl ?_; rintro o ho P hP c K hK; have hm : P.follows .mixedOrders = true := hP ▸ mixed; have hT : TOk P [(2, ti2), (3, ti3), (4, ti4), (61, ti61), (64, ti64)] := hP ▸ (.cons tok2 (.cons tok3 (.cons tok4 (.cons tok61 (.cons tok64 .nil))))); (try rw [← ho]); cbv; (repeat (refine StopN.mk ?_; cbv)))
  repeat' (first | (refine Br.mk (fun hb => ?_) (fun hb => ?_) <;> ((try rw [ho] at hb); (try dsimp only [Ar.real, IX.vo] at hb); (try simp only [QB7] at hb); (try simp only [QBo, beq_iff_eq, beq_eq_false_iff_ne, ne_eq] at hb))) | (refine StopN.mk ?_; cbv) | (first | refine CallI.pure hP hD fn82 rfl rfl rfl ?_ | refine CallN.pure hP hH fn83 rfl rfl rfl ?_ | refine CallI.pure hP hH fn83 rfl rfl rfl ?_ | refine CallI.pure hP hL fn84 rfl rfl rfl ?_); cbv | ((first | refine CallI.pure hP (x_sumsDom _ _) fn82 (by first | rfl | (rw [ho]; done) | (rw [ho]; rfl)) (by rfl) (by first | rfl | (rw [ho]; done) | (rw [ho]; rfl)) ?_ | refine CallN.pure hP (x_sumsDom _ _) fn82 (by first | rfl | (rw [ho]; done) | (rw [ho]; rfl)) (by rfl) (by first | rfl | (rw [ho]; done) | (rw [ho]; rfl)) ?_); (try rw [← ho]); generalize hr : sumsDom _ _ = r; (try rw [ho] at hr); (try dsimp only [Ar.real, IX.vo] at hr); (try simp only [QB7] at hr); cbv) | ((first | refine CallI.pure hP (x_sumsHolds _ _) fn83 (by first | rfl | (rw [ho]; done) | (rw [ho]; rfl)) (by rfl) (by first | rfl | (rw [ho]; done) | (rw [ho]; rfl)) ?_ | refine CallN.pure hP (x_sumsHolds _ _) fn83 (by first | rfl | (rw [ho]; done) | (rw [ho]; rfl)) (by rfl) (by first | rfl | (rw [ho]; done) | (rw [ho]; rfl)) ?_); (try rw [← ho]); generalize hr : sumsHolds _ _ = r; (try rw [ho] at hr); (try dsimp only [Ar.real, IX.vo] at hr); (try simp only [QB7] at hr); cbv) | (refine hK _ _ ?_) | (refine NeedT.mk ?_ ?_))
  · rw [q0 hb]
    exact FinX_fr rfl rfl rfl
  · rw [q1 hb]
    exact FinX_fr rfl rfl rfl
  · rw [q2 (by assumption) hb]
    exact FinX_fr rfl rfl rfl
end Go.Proofs.Ytddgcegimmcbgaa.Sy

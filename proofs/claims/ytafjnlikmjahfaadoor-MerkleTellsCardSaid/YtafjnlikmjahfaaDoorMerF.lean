/- pursuivantref08: Same of equal lists; Levels. -/
import Derived.Test.YtafjnlikmjahfaaDoorMerE
namespace Go.Proofs.YtafjnlikmjahfaaDoor
open Go.RowKit

set_option maxRecDepth 100000 in
set_option maxHeartbeats 1000000 in
theorem r8Same_eq (va vb : Value) (rs : List (List UInt8)) (w : World) (ha : SlD w va rs) (hb : SlD w vb rs) (hl1 : rs.length ≤ 1073741824) :
    Calls Tryd.prog 13 #[va, vb] w fun e w' => e = .returned (.bool true) ∧ Ext w w' := by
  obtain ⟨Aa, ca, rfl, hca⟩ := ha.form
  obtain ⟨Ab, cb, rfl, hcb⟩ := hb.form
  have Ha := Lib.hid ha
  have Hb := Lib.hid hb
  clear ha hb
  go_enter Tryd.func13, Tryd.ntmps13
  go_wp2
  go_loopw [5] (fun i wr => ∃ k : Nat, k ≤ rs.length ∧ i = .int .i64 k ∧ Ext w wr) (fun i _ => rs.length - (intOf i).toNat)
  case atStart => exact ⟨0, by omega, rfl, Ext.refl _⟩
  case round =>
    obtain ⟨k, hkb, rfl, E⟩ := hrel
    by_cases hlt : k < rs.length
    · obtain ⟨b0, o0, rfl, hc0⟩ := (Ha.out.ext E).at_ hlt
      obtain ⟨b2, o2, rfl, hc2⟩ := (Hb.out.ext E).at_ hlt
      have hlx := Ha.out.len hlt
      obtain ⟨x, hx⟩ : ∃ x, x = rs[k] := ⟨_, rfl⟩
      rw [← hx] at hc0 hc2 hlx
      have Hlx := Lib.hid hlx
      have heq := eq_dg x hlx
      clear hx hlx
      go_wp2
      refine wp_region_chain 8 [(true, 0), (true, 1), (true, 2), (true, 3), (true, 4), (true, 5), (true, 6), (true, 7)] (fun w' => Ext wr w') (by kernel_rfl) (by kernel_rfl) (Ext.refl wr).drew ?_
      iterate 3
        refine wpTake_read _ _ ?_ rfl rfl ?_ ?_
        rotate_left 1
        focus
          intro wS hS
          clear hS
          go_simp
          first | done | with_reducible rfl
        simp only [Act.put, List.setIfInBounds_toArray, List.set_cons_zero, List.set_cons_succ]
      refine wpTake_load _ _ rfl rfl 30 _ rfl (.agg (bytesV x).toArray) (fun wS hS => run_load_dg (hc0.ext hS) Hlx.out) ?_
      simp only [Act.put, List.setIfInBounds_toArray, List.set_cons_zero, List.set_cons_succ]
      iterate 3
        refine wpTake_read _ _ ?_ rfl rfl ?_ ?_
        rotate_left 1
        focus
          intro wS hS
          clear hS
          go_simp
          first | done | with_reducible rfl
        simp only [Act.put, List.setIfInBounds_toArray, List.set_cons_zero, List.set_cons_succ]
      refine wpTake_load _ _ rfl rfl 30 _ rfl (.agg (bytesV x).toArray) (fun wS hS => run_load_dg (hc2.ext hS) Hlx.out) ?_
      simp only [Act.put, List.setIfInBounds_toArray, List.set_cons_zero, List.set_cons_succ]
      refine wpTake_nil ?_
      simp only [List.drop_succ_cons, List.drop_zero]
      clear hc0 hc2
      go_wp2
      refine NoPanic.normal ?_
      go_wp2
      go_roundw
      case rel => exact ⟨k + 1, hlt, by go_num, E.drew⟩
      case measure => simp [intOf]; omega
    · obtain rfl : k = rs.length := by omega
      go_wp2
      go_ret
      exact ⟨rfl, E⟩

set_option maxRecDepth 100000 in
set_option maxHeartbeats 400000 in
theorem r8Levels_no (A : Option Addr) (n c : Nat) (w : World) (hno : powB n = false) :
    Calls Tryd.prog 9 #[.slice A n c] w fun e w' => e = .returned (.tuple #[.slice none 0 0, .bool false]) ∧ w = w' := by
  have Hm := fun w => Lib.hid (r8may_any n w)
  rw [hno] at Hm
  clear hno
  go_enter Tryd.func9, Tryd.ntmps9
  go_wp2_with fail
  with_reducible refine (Hm _).out.mono ?_
  rintro e w1 ⟨rfl, rfl⟩
  go_wp2
  go_ret2
  exact ⟨rfl, rfl⟩

set_option maxRecDepth 100000 in
set_option maxHeartbeats 4000000 in
theorem r8Levels_yes (v : Value) (ds : List (List UInt8)) (H : Nat) (w : World) (hv : SlD w v ds) (hl : ds.length = 2 ^ H) (hH : H ≤ 6) :
    Calls Tryd.prog 9 #[v] w fun e w' => ∃ vo, e = .returned (.tuple #[vo, .bool true]) ∧ SlDs w' vo (levels ds (H + 1)) ∧ Ext w w' := by
  obtain ⟨A, c, rfl, hc⟩ := hv.form
  have hpow := powB_pow hH
  have hle := pow_le hH
  have h1 : 1 ≤ ds.length := by rw [hl]; exact Nat.one_le_two_pow
  have Hm := fun w => Lib.hid (r8may_any ds.length w)
  rw [hl, hpow] at Hm
  rw [← hl] at Hm
  have Hl := Lib.hid hl
  have hO2 := ownDs_one w _ ds hv (Apt.old hv h1 w) rfl
  have hS2 := hv.ext ((Ext.refl w).alloc (.cells #[.slice A ds.length c] 22))
  have E2 : Ext w (w.alloc (.cells #[.slice A ds.length c] 22)) := (Ext.refl w).alloc _
  have HO2 := Lib.hid hO2
  have HS2 := Lib.hid hS2
  have HV := Lib.hid hv
  clear hpow hl hv hO2 hS2
  go_enter Tryd.func9, Tryd.ntmps9
  go_wp2_with fail
  with_reducible refine (Hm _).out.mono ?_
  rintro e w1 ⟨rfl, rfl⟩
  clear Hm
  go_wp2
  go_loopw [4, 5] (fun out l wr => ∃ k : Nat, k ≤ H ∧ OwnDs wr w.heap.size out (levels ds (k + 1)) ∧ SlD wr l (lev ds k) ∧ Ext w wr) (fun _ l _ => slen l)
  case atStart => exact ⟨0, by omega, HO2.out, HS2.out, E2⟩
  case round =>
    obtain ⟨k, hk, hO, hS, E⟩ := hrel
    obtain ⟨wo, rfl⟩ : ∃ wo : World, wo = wr := ⟨_, rfl⟩
    have hll := lev_length Hl.out k hk
    have hlv := levels_length ds (k + 1)
    have hvs := levels_succ ds (k + 1)
    obtain ⟨Ao, co, rfl, hco⟩ := hO.form
    obtain ⟨Al, cl, rfl, hcl⟩ := hS.form
    have HO := Lib.hid hO
    have HS := Lib.hid hS
    clear HO2 HS2 E2
    by_cases hlt : k < H
    · obtain ⟨N, hN⟩ : ∃ N, N = 2 ^ (H - k - 1) := ⟨_, rfl⟩
      have hN1 : 2 ^ (H - k) = N * 2 := by rw [hN, show H - k = (H - k - 1) + 1 by omega, Nat.pow_succ]; simp
      have hNge : 1 ≤ N := by rw [hN]; exact Nat.one_le_two_pow
      have hNle : N ≤ 32 := by rw [hN]; have : 2 ^ (H - k - 1) ≤ 2 ^ 5 := Nat.pow_le_pow_right (by omega) (by omega); omega
      have hup : upT (lev ds k) N = lev ds (k + 1) := by rw [lev, upB, hll, hN1, Nat.mul_div_cancel _ (by omega)]
      have hln := lev_length Hl.out (k + 1) (by omega)
      rw [show H - (k + 1) = H - k - 1 by omega, ← hN] at hln
      obtain ⟨l, hlE⟩ : ∃ l, l = lev ds k := ⟨_, rfl⟩
      obtain ⟨n2, hn2⟩ : ∃ n2, n2 = 2 ^ (H - k) := ⟨_, rfl⟩
      have hNn : N < n2 := by omega
      have hn64 : n2 ≤ 64 := by omega
      rw [← hlE] at hll hup HS
      rw [← hlE] at hcl ⊢
      rw [hll, ← hn2] at hcl ⊢
      rw [hll, ← hn2] at HS
      rw [← hn2] at hll
      rw [hlv] at HO hco ⊢
      have Hn2N : Hid (n2 = N * 2) := by show _ = _; omega
      have Hll := Lib.hid hll
      have Hvs := Lib.hid hvs
      have Hln := Lib.hid hln
      have Hlv := Lib.hid hlv
      have Hup := Lib.hid hup
      have HE := Lib.hid E
      clear hO hS hll hup hln hvs hlv hN hN1 hlE hn2 E
      have t1 : (n2 : Int) > 1 := by omega
      go_wp2
      go_loopw [6, 7] (fun up i wr => ∃ j : Nat, j ≤ N ∧ i = .int .i64 ((2 * j : Nat) : Int) ∧ OwnD wr wo.heap.size up (upT l j) ∧ Ext wo wr) (fun _ i _ => n2 - (intOf i).toNat)
      case atStart => exact ⟨0, by omega, rfl, OwnD.none_ _ _, Ext.refl _⟩
      case round =>
        obtain ⟨j, hj, rfl, hU, E⟩ := hrel
        have hul := upT_length l j
        obtain ⟨Au, cu, rfl, hcu⟩ := hU.form
        rw [hul] at hU hcu ⊢
        have HU := Lib.hid hU
        clear hU
        by_cases hjN : j < N
        · have hS' : SlD wr (.slice Al l.length cl) l := by rw [Hll.out]; exact HS.out.ext E
          have hk2 : 2 * j + 1 < l.length := by rw [Hll.out, Hn2N.out]; omega
          obtain ⟨b, o, rfl, hc1⟩ := hS'.at_ (show 2 * j < l.length by omega)
          obtain ⟨_, _, hA2, hc2⟩ := hS'.at_ hk2
          obtain ⟨rfl, rfl⟩ : b = _ ∧ o = _ := by simpa using hA2
          have hl1 := hS'.len (show 2 * j < l.length by omega)
          have hl2 := hS'.len hk2
          have hnode : nodeAt l j = nodeB l[2 * j] l[2 * j + 1] := by unfold nodeAt; rw [dAt_eq (by omega), dAt_eq hk2]
          have hus := upT_succ l j
          obtain ⟨x, hx⟩ : ∃ x, x = l[2 * j] := ⟨_, rfl⟩
          obtain ⟨t, ht⟩ : ∃ t, t = l[2 * j + 1] := ⟨_, rfl⟩
          rw [← hx] at hl1 hc1 hnode
          rw [← ht] at hl2 hc2 hnode
          obtain ⟨q, hq⟩ : ∃ q, q = 2 * j := ⟨_, rfl⟩
          have hq2 : 2 * (j + 1) = q + 2 := by omega
          have hqn : q + 2 ≤ n2 := by rw [Hn2N.out]; omega
          rw [← hq] at hc1 hc2 ⊢
          rw [hnode] at hus
          have hnl := nodeB_length x t
          have L1 := Lib.hid hl1
          have L2 := Lib.hid hl2
          have Hnd := Lib.hid (fun w' => r8Node_any x t L1.out L2.out w')
          obtain ⟨z, hz⟩ : ∃ z, z = nodeB x t := ⟨_, rfl⟩
          rw [← hz] at Hnd hnl hus
          have Lz := Lib.hid hnl
          have Hus := Lib.hid hus
          have Hq2 := Lib.hid hq2
          have Hul := Lib.hid hul
          clear hz hnl hus hq2 hul hx ht hq hnode hl1 hl2 hS' hk2 hA2
          have e1 : IntKind.i64.wrap ((q : Int) + 1) = (q : Int) + 1 := IntWalk.i64_in _ (by omega)
          have e2 : ((q : Int) + 1).toNat = q + 1 := by omega
          have e3 : (q : Int) < (n2 : Int) := by omega
          have e4 : (q : Int) + 1 < (n2 : Int) := by omega
          have e5 : (0 : Int) ≤ (q : Int) + 1 := by omega
          go_wp2
          refine wp_region_chain 12 [(true, 0), (true, 1), (true, 2), (true, 3), (true, 4), (true, 5), (true, 6), (true, 7), (true, 8), (true, 9), (false, 10), (false, 11)] (fun w' => Cells w' b (o + q * 32) (bytesV x) ∧ Cells w' b (o + (q + 1) * 32) (bytesV t)) (by kernel_rfl) (by kernel_rfl) ⟨hc1, hc2⟩ ?_
          iterate 4
            refine wpTake_read _ _ ?_ rfl rfl ?_ ?_
            rotate_left 1
            focus
              intro wS hS
              clear hS
              go_simp
              first | done | with_reducible rfl
            simp only [Act.put, List.setIfInBounds_toArray, List.set_cons_zero, List.set_cons_succ]
          refine wpTake_load _ _ rfl rfl 30 _ rfl (.agg (bytesV x).toArray) (fun wS hS => run_load_dg hS.1 L1.out) ?_
          simp only [Act.put, List.setIfInBounds_toArray, List.set_cons_zero, List.set_cons_succ]
          iterate 4
            refine wpTake_read _ _ ?_ rfl rfl ?_ ?_
            rotate_left 1
            focus
              intro wS hS
              clear hS
              go_simp
              first | done | with_reducible rfl
            simp only [Act.put, List.setIfInBounds_toArray, List.set_cons_zero, List.set_cons_succ]
          refine wpTake_load _ _ rfl rfl 30 _ rfl (.agg (bytesV t).toArray) (fun wS hS => run_load_dg hS.2 L2.out) ?_
          simp only [Act.put, List.setIfInBounds_toArray, List.set_cons_zero, List.set_cons_succ]
          refine wpTake_do _ _ rfl rfl (fun K hK' => ?_)
          go_simp
          refine (Hnd.out _).mono ?_
          rintro e w5 ⟨rfl, E5⟩
          have E05 : Ext wr w5 := (Ext.refl wr).drew.trans E5
          refine hK' _ _ ⟨hc1.ext E05, hc2.ext E05⟩ ?_
          clear hK' K
          refine wpTake_do _ _ rfl rfl (fun K hK' => ?_)
          refine wp_build_dg z Lz.out _ rfl rfl ?_
          intro w6 E56 hs6 hnew
          have E6 : Ext wr w6 := E05.trans E56
          refine hK' _ _ ⟨hc1.ext E6, hc2.ext E6⟩ ?_
          clear hK' K
          refine wpTake_nil ?_
          simp only [Act.put, List.setIfInBounds_toArray, List.set_cons_zero, List.set_cons_succ, List.drop_succ_cons, List.drop_zero]
          have Hnew := Lib.hid hnew
          have HU6 := Lib.hid (HU.out.ext E6)
          have F6 := E.trans E6
          have hsz := F6.size
          clear hnew HU E05 E56 hs6 hc1 hc2 E5 E6
          go_wp2_with (at_builtin; refine wpList_appD HU6.out Lz.out Hnew.out rfl _ _ rfl rfl rfl (by rw [Hul.out]; omega) hsz ?_; intro v7 w7 ho7 hg7 hq7)
          have F7 := F6.grown hg7 HU6.out.from
          rw [← Hus.out] at ho7
          have HO7 := Lib.hid ho7
          clear ho7 hg7 hq7 HU6 Hnew
          refine NoPanic.normal ?_
          go_wp2
          go_roundw
          case rel => exact ⟨j + 1, hjN, by rw [Hq2.out]; go_num, HO7.out, F7⟩
          case measure => simp [intOf]; have := Hn2N.out; omega
        · obtain rfl : j = N := by omega
          rw [Hup.out] at HU
          have F5 := HE.out.trans E
          have HO5 := Lib.hid (HO.out.ext E)
          have S5 := HU.out.sl
          have AP5 := Lib.hid (Apt.of_own (base := w.heap.size) HU.out)
          have hS5 : SlD wr (.slice Au j cu) (lev ds (k + 1)) := S5
          have HO6 := Lib.hid (HO5.out.ext ((Ext.refl wr).alloc (.cells #[.slice Au j cu] 22)))
          have HS6 := Lib.hid (hS5.ext ((Ext.refl wr).alloc (.cells #[.slice Au j cu] 22)))
          have HA6 := Lib.hid (AP5.out.ext ((Ext.refl wr).alloc (.cells #[.slice Au j cu] 22)))
          have HR6 := Lib.hid (slR_one wr 22 (.slice Au j cu) _ rfl)
          have E6 := F5.alloc (.cells #[.slice Au j cu] 22)
          have hszw := E6.size
          have hge : ¬ (((2 * j : Nat) : Int) < (n2 : Int)) := by rw [Hn2N.out]; omega
          clear S5 AP5 HO5 hul HO HS F5 hS5
          go_wp2_with (at_builtin; refine wpList_appDs HO6.out HS6.out HA6.out rfl HR6.out rfl _ _ rfl rfl rfl (by rw [Hlv.out]; omega) hszw ?_; intro v7 w7 ho7 hg7 hs7 hq7)
          have E7 := E6.grown hg7 HO6.out.from
          rw [← Hvs.out] at ho7
          have HO7 := Lib.hid ho7
          have HS7 := Lib.hid hs7
          clear hg7 hq7 ho7 hs7 HO6 HS6 HA6 HR6 E6 Hvs
          go_wp2
          go_roundw
          case rel => exact ⟨k + 1, hlt, HO7.out, HS7.out, E7⟩
          case measure => exact hNn
    · obtain rfl : k = H := by omega
      rw [hll, Nat.sub_self] at HS hcl ⊢
      have E' := Lib.hid E
      clear hO hS hll hvs hlv
      go_wp2
      go_ret2
      exact ⟨_, rfl, HO.out.sl, E'.out⟩
end Go.Proofs.YtafjnlikmjahfaaDoor

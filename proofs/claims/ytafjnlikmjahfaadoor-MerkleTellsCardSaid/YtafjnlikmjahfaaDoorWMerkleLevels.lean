/- The walk of the law MerkleLevels. -/
import Derived.Test.YtafjnlikmjahfaaDoorWMerkleClimbs
namespace Go.Proofs.YtafjnlikmjahfaaDoor
open Go.RowKit

set_option maxRecDepth 100000 in
set_option maxHeartbeats 1000000 in
theorem merkleLevels_more (A : Option Addr) (n c : Nat) (w : World) (hK : Kst w) (h : n > 100) :
    Calls Tryd.prog 3 #[.slice A n c] w fun e w' => e = .returned (.bool true) ∧ Ext w w' := by
  have Hlv := Lib.hid (fun w' (E : Ext w w') => lives8_any w' (hK.ext E))
  have h100 : (n : Int) > 100 := by omega
  go_enter Tryd.func3, Tryd.ntmps3
  go_wp2_with fail
  with_reducible refine (Hlv.out _ (Ext.refl w)).mono ?_
  rintro e w1 ⟨rfl, E1⟩
  go_wp2
  go_ret
  exact ⟨rfl, E1⟩

theorem eq_zb32 (w : World) : (Op.equalIn 10000 30 (.agg zb32) (.agg zb32)).run Tryd.prog w = .ok true w := eq_dg (List.replicate 32 0) (by simp) w

set_option maxRecDepth 100000 in
set_option maxHeartbeats 1000000 in
theorem merkleLevels_no (v : Value) (ds : List (List UInt8)) (w : World) (hK : Kst w) (hv : SlD w v ds) (hn : ds.length ≤ 100) (hno : powB ds.length = false) :
    Calls Tryd.prog 3 #[v] w fun e w' => e = .returned (.bool true) ∧ Ext w w' := by
  obtain ⟨A, c, rfl, hc⟩ := hv.form
  have Hlv := Lib.hid (fun w' (E : Ext w w') => lives8_any w' (hK.ext E))
  have P1 := fun w' => Lib.hid (mLevels_no A ds.length c w' hno)
  have P2 := fun w' => Lib.hid (r8Levels_no A ds.length c w' hno)
  have P3 := fun w' => Lib.hid (mRoot_no A ds.length c w' hno)
  have HV := Lib.hid hv
  have h100 : ¬ ((ds.length : Int) > 100) := by omega
  have qz := eq_zb32
  clear hv hno
  go_enter Tryd.func3, Tryd.ntmps3
  go_wp2_with fail
  with_reducible refine (P1 _).out.mono ?_
  rintro e w1 ⟨rfl, rfl⟩
  go_wp2_with fail
  with_reducible refine (P2 _).out.mono ?_
  rintro e w1 ⟨rfl, rfl⟩
  go_wp2_with fail
  with_reducible refine (P3 _).out.mono ?_
  rintro e w1 ⟨rfl, E1⟩
  clear P1 P2 P3
  go_wp2_with (first | (refine wpList_var rfl rfl 30 rfl _ _ rfl (.agg zb32) zero_a32 zb32 rfl rfl info_a32 rfl zb32_one ?_; intro w2 D2 E2))
  have F2 := E1.trans E2
  have L2 := Lib.hid (fun x : Later w2 => Hlv.out x.w (F2.trans x.ext))
  clear E1 E2 Hlv
  by_cases h1 : (ds.length : Int) > 1
  · have hS2 := HV.out.ext F2
    obtain ⟨b, o, rfl, c0⟩ := hS2.at_ (k := 0) (by omega)
    obtain ⟨_, _, hA, c1⟩ := hS2.at_ (k := 1) (by omega)
    obtain ⟨rfl, rfl⟩ : b = _ ∧ o = _ := by simpa using hA
    have l0 := hS2.len (k := 0) (by omega)
    have l1 := hS2.len (k := 1) (by omega)
    obtain ⟨x, hx⟩ : ∃ x, x = ds[0] := ⟨_, rfl⟩
    obtain ⟨t, ht⟩ : ∃ t, t = ds[1] := ⟨_, rfl⟩
    rw [← hx] at c0 l0
    rw [← ht] at c1 l1
    have hnl := nodeB_length x t
    have N1 := Lib.hid (fun y : Later w2 => mNode_any x t l0 l1 y.w (hK.ext (F2.trans y.ext)))
    have N2 := Lib.hid (fun y : Later w2 => r8Node_any x t l0 l1 y.w)
    obtain ⟨z, hz⟩ : ∃ z, z = nodeB x t := ⟨_, rfl⟩
    rw [← hz] at N1 N2 hnl
    have qn := eq_dg z hnl
    have M0 := Lib.hid (lat_load c0 l0)
    have M1 := Lib.hid (lat_load c1 l1)
    clear hx ht hz hnl hA c0 c1 l0 l1 hS2
    go_wp2
    refine wp_region_lat (by kernel_rfl) (by kernel_rfl) ?_
    repeat (first | ((first | (refine quiet_load rfl 30 _ rfl (dgV x) M0.out ?_) | (refine quiet_load rfl 30 _ rfl (dgV t) M1.out ?_)); simp only [Act.put, List.setIfInBounds_toArray, List.set_cons_succ, List.set_cons_zero]) | go_big_quiet_step (first | (go_at_call 7; exact lat_call (L2.out _)) | (go_at_call 11; exact lat_call (N1.out _)) | (go_at_call 12; exact lat_call (N2.out _))))
    refine wpQuiet_nil ?_
    intro w9 E9
    have D9 := D2.ext E9
    clear M0 M1 N1 N2 L2 qn
    go_wp2_with (first | (refine wpList_unguard rfl ?_; refine wpList_load_blk D9 rfl 30 _ rfl rfl Tryd.underlying30 rfl info_a32 ?_) | (refine wpList_unguard rfl ?_; refine wpList_build_to rfl 30 _ rfl zb32 (by kernel_rfl) ?_))
    go_ret
    exact ⟨rfl, F2.trans E9⟩
  · have hd : decide ((1 : Int) < (ds.length : Int)) = false := decide_eq_false (by omega)
    go_wp2
    refine wp_region_lat (by kernel_rfl) (by kernel_rfl) ?_
    repeat (go_big_quiet_step (first | (go_at_call 7; exact lat_call (L2.out _))))
    refine wpQuiet_nil ?_
    intro w9 E9
    have D9 := D2.ext E9
    clear L2
    go_wp2_with (first | (refine wpList_unguard rfl ?_; refine wpList_load_blk D9 rfl 30 _ rfl rfl Tryd.underlying30 rfl info_a32 ?_) | (refine wpList_unguard rfl ?_; refine wpList_build_to rfl 30 _ rfl zb32 (by kernel_rfl) ?_))
    go_ret
    exact ⟨rfl, F2.trans E9⟩

set_option maxRecDepth 100000 in
set_option maxHeartbeats 4000000 in
theorem merkleLevels_yes (v : Value) (ds : List (List UInt8)) (H : Nat) (w : World) (hK : Kst w) (hv : SlD w v ds) (hl : ds.length = 2 ^ H) (hH : H ≤ 6) :
    Calls Tryd.prog 3 #[v] w fun e w' => e = .returned (.bool true) ∧ Ext w w' := by
  obtain ⟨A, c, rfl, hc⟩ := hv.form
  have hle := pow_le hH
  have Hlv := Lib.hid (fun w' (E : Ext w w') => lives8_any w' (hK.ext E))
  have P1 := Lib.hid (mLevels_yes _ ds H w hK hv hl hH)
  have P2 := Lib.hid (fun w' (E : Ext w w') => r8Levels_yes _ ds H w' (hv.ext E) hl hH)
  have P3 := Lib.hid (fun w' (E : Ext w w') => mRoot_yes _ ds H w' (hK.ext E) (hv.ext E) hl hH)
  have hlv := levels_length ds (H + 1)
  have hrl := rootB_length hv.2 hl
  have hll := lev_length hl H (Nat.le_refl _)
  rw [Nat.sub_self, Nat.pow_zero] at hll
  obtain ⟨r, hr⟩ : ∃ r, r = rootB ds H := ⟨_, rfl⟩
  rw [← hr] at hrl P3
  have Hz : Hid (r = dAt (lev ds H) 0) := hr
  have ir : Hid ((Tryd.prog.info? 30).map (·.size) = some (bytesV r).toArray.size) := dg_i r hrl
  have sr : Hid (zb32.size = (bytesV r).toArray.size) := zb32_size _ hrl
  have HV := Lib.hid hv
  have Hl := Lib.hid hl
  have Hlvl := Lib.hid hlv
  have Hrl := Lib.hid hrl
  have Hll := Lib.hid hll
  have h100 : ¬ ((ds.length : Int) > 100) := by omega
  clear hv hl hlv hr hrl hll
  go_enter Tryd.func3, Tryd.ntmps3
  go_wp2_with fail
  with_reducible refine P1.out.mono ?_
  rintro e w1 ⟨va, rfl, S1, E1⟩
  obtain ⟨Aa, ca, rfl, hca⟩ := S1.form
  rw [Hlvl.out] at hca
  have HA := Lib.hid S1
  rw [Hlvl.out] at HA
  rw [Hlvl.out]
  clear S1 P1
  go_wp2_with fail
  with_reducible refine (P2.out _ E1).mono ?_
  rintro e w2 ⟨vb, rfl, S2, E2⟩
  obtain ⟨Ab, cb, rfl, hcb⟩ := S2.form
  rw [Hlvl.out] at hcb
  have HB := Lib.hid S2
  rw [Hlvl.out] at HB
  rw [Hlvl.out]
  have F2 := E1.trans E2
  have G2 := E2
  clear S2 P2 E1 E2
  go_wp2_with fail
  with_reducible refine (P3.out _ F2).mono ?_
  rintro e w3 ⟨rfl, E3⟩
  go_wp2_with (first | (refine wpList_var rfl rfl 30 rfl _ _ rfl (.agg zb32) zero_a32 (bytesV r).toArray rfl rfl ir.out sr.out (bytes_one _) ?_; intro w4 D4 E4))
  have E34 := E3.trans E4
  have F4 := F2.trans E34
  have HA4 := Lib.hid (HA.out.ext (G2.trans E34))
  have HB4 := Lib.hid (HB.out.ext E34)
  have L2 := Lib.hid (fun x : Later w4 => Hlv.out x.w (F4.trans x.ext))
  have hne : (((H + 1 : Nat) : Int) != ((H + 1 : Nat) : Int)) = false := by simp
  clear E3 E4 Hlv P3 F2 G2 E34 HA HB
  by_cases h1 : (ds.length : Int) > 1
  · have hS2 := HV.out.ext F4
    obtain ⟨b, o, rfl, c0⟩ := hS2.at_ (k := 0) (by omega)
    obtain ⟨_, _, hA, c1⟩ := hS2.at_ (k := 1) (by omega)
    obtain ⟨rfl, rfl⟩ : b = _ ∧ o = _ := by simpa using hA
    have l0 := hS2.len (k := 0) (by omega)
    have l1 := hS2.len (k := 1) (by omega)
    obtain ⟨x, hx⟩ : ∃ x, x = ds[0] := ⟨_, rfl⟩
    obtain ⟨t, ht⟩ : ∃ t, t = ds[1] := ⟨_, rfl⟩
    rw [← hx] at c0 l0
    rw [← ht] at c1 l1
    have hnl := nodeB_length x t
    have N1 := Lib.hid (fun y : Later w4 => mNode_any x t l0 l1 y.w (hK.ext (F4.trans y.ext)))
    have N2 := Lib.hid (fun y : Later w4 => r8Node_any x t l0 l1 y.w)
    obtain ⟨z, hz⟩ : ∃ z, z = nodeB x t := ⟨_, rfl⟩
    rw [← hz] at N1 N2 hnl
    have qn := eq_dg z hnl
    have M0 := Lib.hid (lat_load c0 l0)
    have M1 := Lib.hid (lat_load c1 l1)
    clear hx ht hz hnl hA c0 c1 l0 l1 hS2
    go_wp2
    refine wp_region_lat (by kernel_rfl) (by kernel_rfl) ?_
    repeat (first | ((first | (refine quiet_load rfl 30 _ rfl (dgV x) M0.out ?_) | (refine quiet_load rfl 30 _ rfl (dgV t) M1.out ?_)); simp only [Act.put, List.setIfInBounds_toArray, List.set_cons_succ, List.set_cons_zero]) | go_big_quiet_step (first | (go_at_call 7; exact lat_call (L2.out _)) | (go_at_call 11; exact lat_call (N1.out _)) | (go_at_call 12; exact lat_call (N2.out _))))
    refine wpQuiet_nil ?_
    intro w9 E9
    clear M0 M1 N1 N2 L2 qn
    have D9 := Lib.hid (D4.ext E9)
    have HA9 := Lib.hid (HA4.out.ext E9)
    have HB9 := Lib.hid (HB4.out.ext E9)
    have F9 := Lib.hid (F4.trans E9)
    clear D4 E9 F4 HA4 HB4 HV h1
    go_wp2
    go_loopw [9] (fun i wr => ∃ k : Nat, k ≤ H + 1 ∧ i = .int .i64 (k : Int) ∧ Ext w9 wr) (fun i _ => H + 1 - (intOf i).toNat)
    case atStart => exact ⟨0, by omega, rfl, Ext.refl _⟩
    case round =>
      obtain ⟨k, hk, rfl, E⟩ := hrel
      by_cases hlt : k < H + 1
      · obtain ⟨ba, oa, ua, rfl, xa, sa⟩ := (HA9.out.ext E).at_ (k := k) Hlvl.out.symm (by rw [Hlvl.out]; exact hlt)
        obtain ⟨bb, ob, ub, rfl, xb, sb⟩ := (HB9.out.ext E).at_ (k := k) Hlvl.out.symm (by rw [Hlvl.out]; exact hlt)
        have hge : (levels ds (H + 1))[k]'(by rw [Hlvl.out]; exact hlt) = lev ds k := by simp [levels]
        rw [hge] at sa sb
        have hlk : (lev ds k).length ≤ 1073741824 := by
          rw [lev_length Hl.out k (by omega)]
          have : 2 ^ (H - k) ≤ 2 ^ 6 := Nat.pow_le_pow_right (by omega) (by omega)
          omega
        obtain ⟨Au, cu, rfl, hcu⟩ := sa.form
        obtain ⟨Av, cv, rfl, hcv⟩ := sb.form
        have Hsm := Lib.hid (fun w' (E' : Ext wr w') => r8Same_eq _ _ (lev ds k) w' (sa.ext E') (sb.ext E') hlk)
        obtain ⟨n, hn⟩ : ∃ n, n = (lev ds k).length := ⟨_, rfl⟩
        rw [← hn] at xa xb Hsm hcu hcv
        clear hge hlk sa sb hn
        go_wp2
        refine wp_region_chain 9 [(true, 0), (true, 1), (true, 2), (true, 3), (true, 4), (true, 5), (true, 6), (true, 7), (false, 8)] (fun w' => Ext wr w') (by kernel_rfl) (by kernel_rfl) (Ext.refl wr).drew ?_
        iterate 3
          refine wpTake_read _ _ ?_ rfl rfl ?_ ?_
          rotate_left 1
          focus
            intro wS hS
            try dsimp only at hS
            go_simp
            first | done | with_reducible rfl
          simp only [Act.put, List.setIfInBounds_toArray, List.set_cons_zero, List.set_cons_succ]
        refine wpTake_read _ _ ?_ rfl rfl ?_ ?_
        rotate_left 1
        focus
          intro wS hS
          try dsimp only at hS
          have e0 := Ext.cell hS xa
          go_simp
          first | done | with_reducible rfl
        simp only [Act.put, List.setIfInBounds_toArray, List.set_cons_zero, List.set_cons_succ]
        iterate 3
          refine wpTake_read _ _ ?_ rfl rfl ?_ ?_
          rotate_left 1
          focus
            intro wS hS
            try dsimp only at hS
            go_simp
            first | done | with_reducible rfl
          simp only [Act.put, List.setIfInBounds_toArray, List.set_cons_zero, List.set_cons_succ]
        refine wpTake_read _ _ ?_ rfl rfl ?_ ?_
        rotate_left 1
        focus
          intro wS hS
          try dsimp only at hS
          have e0 := Ext.cell hS xb
          go_simp
          first | done | with_reducible rfl
        simp only [Act.put, List.setIfInBounds_toArray, List.set_cons_zero, List.set_cons_succ]
        refine wpTake_do _ _ rfl rfl (fun K hK' => ?_)
        go_simp
        refine (Hsm.out _ (Ext.refl wr).drew).mono ?_
        rintro e w5 ⟨rfl, E5⟩
        have E05 : Ext wr w5 := (Ext.refl wr).drew.trans E5
        refine hK' _ _ E05 ?_
        clear hK' K
        refine wpTake_nil ?_
        simp only [List.drop_succ_cons, List.drop_zero]
        go_wp2
        refine NoPanic.normal ?_
        go_wp2
        go_roundw
        case rel => exact ⟨k + 1, hlt, by go_num, E.trans E05⟩
        case measure => simp [intOf]; omega
      · obtain rfl : k = H + 1 := by omega
        obtain ⟨bb, ob, ub, rfl, xb, sb⟩ := (HB9.out.ext E).at_ (k := H) Hlvl.out.symm (by rw [Hlvl.out]; omega)
        have hge : (levels ds (H + 1))[H]'(by rw [Hlvl.out]; omega) = lev ds H := by simp [levels]
        rw [hge] at sb
        obtain ⟨Av, cv, rfl, hcv⟩ := sb.form
        obtain ⟨bv, ov, rfl, hcd⟩ := sb.at_ (k := 0) (by rw [Hll.out]; omega)
        rw [← dAt_eq, ← Hz.out] at hcd
        rw [Hll.out] at xb hcv
        rw [Nat.zero_mul, Nat.add_zero] at hcd
        have Hcd := Lib.hid hcd
        have HD := Lib.hid (cells_blk (D9.out.ext E))
        have qr := eq_dg r Hrl.out
        have e1 : IntKind.i64.wrap (((H + 1 : Nat) : Int) - 1) = (H : Int) := by rw [IntWalk.i64_in _ (by omega)]; omega
        have e2 : IntKind.i64.wrap (H : Int) = (H : Int) := IntWalk.i64_in _ (by omega)
        have e3 : (H : Int) < (H : Int) + 1 := by omega
        clear hge sb hcd
        go_wp2
        refine wp_region_chain 18 [(true, 0), (true, 1), (true, 2), (true, 3), (true, 4), (true, 5), (true, 6), (true, 7), (true, 8), (true, 9), (true, 10), (true, 11), (true, 12), (true, 13), (true, 14), (true, 15), (true, 16), (true, 17)] (fun w' => Ext wr w') (by kernel_rfl) (by kernel_rfl) (Ext.refl wr).drew ?_
        iterate 7
          refine wpTake_read _ _ ?_ rfl rfl ?_ ?_
          rotate_left 1
          focus
            intro wS hS
            try dsimp only at hS
            go_simp
            first | done | with_reducible rfl
          simp only [Act.put, List.setIfInBounds_toArray, List.set_cons_zero, List.set_cons_succ]
        refine wpTake_load _ _ rfl rfl 30 _ rfl (dgV r) (fun wS hS => run_load_dg (HD.out.ext hS) Hrl.out) ?_
        simp only [Act.put, List.setIfInBounds_toArray, List.set_cons_zero, List.set_cons_succ]
        iterate 5
          refine wpTake_read _ _ ?_ rfl rfl ?_ ?_
          rotate_left 1
          focus
            intro wS hS
            try dsimp only at hS
            go_simp
            first | done | with_reducible rfl
          simp only [Act.put, List.setIfInBounds_toArray, List.set_cons_zero, List.set_cons_succ]
        refine wpTake_read _ _ ?_ rfl rfl ?_ ?_
        rotate_left 1
        focus
          intro wS hS
          try dsimp only at hS
          have e0 := Ext.cell hS xb
          go_simp
          first | done | with_reducible rfl
        simp only [Act.put, List.setIfInBounds_toArray, List.set_cons_zero, List.set_cons_succ]
        refine wpTake_read _ _ ?_ rfl rfl ?_ ?_
        rotate_left 1
        focus
          intro wS hS
          try dsimp only at hS
          go_simp
          first | done | with_reducible rfl
        simp only [Act.put, List.setIfInBounds_toArray, List.set_cons_zero, List.set_cons_succ]
        refine wpTake_load _ _ rfl rfl 30 _ rfl (dgV r) (fun wS hS => run_load_dg (Hcd.out.ext hS) Hrl.out) ?_
        simp only [Act.put, List.setIfInBounds_toArray, List.set_cons_zero, List.set_cons_succ]
        iterate 2
          refine wpTake_read _ _ ?_ rfl rfl ?_ ?_
          rotate_left 1
          focus
            intro wS hS
            try dsimp only at hS
            go_simp
            first | done | with_reducible rfl
          simp only [Act.put, List.setIfInBounds_toArray, List.set_cons_zero, List.set_cons_succ]
        refine wpTake_nil ?_
        simp only [List.drop_succ_cons, List.drop_zero]
        go_wp2
        refine NoPanic.normal ?_
        go_wp2
        go_ret
        exact ⟨rfl, F9.out.trans E.drew⟩
  · have hd : decide ((1 : Int) < (ds.length : Int)) = false := decide_eq_false (by omega)
    go_wp2
    refine wp_region_lat (by kernel_rfl) (by kernel_rfl) ?_
    repeat (go_big_quiet_step (first | (go_at_call 7; exact lat_call (L2.out _))))
    refine wpQuiet_nil ?_
    intro w9 E9
    clear L2
    have D9 := Lib.hid (D4.ext E9)
    have HA9 := Lib.hid (HA4.out.ext E9)
    have HB9 := Lib.hid (HB4.out.ext E9)
    have F9 := Lib.hid (F4.trans E9)
    clear D4 E9 F4 HA4 HB4 HV h1
    go_wp2
    go_loopw [9] (fun i wr => ∃ k : Nat, k ≤ H + 1 ∧ i = .int .i64 (k : Int) ∧ Ext w9 wr) (fun i _ => H + 1 - (intOf i).toNat)
    case atStart => exact ⟨0, by omega, rfl, Ext.refl _⟩
    case round =>
      obtain ⟨k, hk, rfl, E⟩ := hrel
      by_cases hlt : k < H + 1
      · obtain ⟨ba, oa, ua, rfl, xa, sa⟩ := (HA9.out.ext E).at_ (k := k) Hlvl.out.symm (by rw [Hlvl.out]; exact hlt)
        obtain ⟨bb, ob, ub, rfl, xb, sb⟩ := (HB9.out.ext E).at_ (k := k) Hlvl.out.symm (by rw [Hlvl.out]; exact hlt)
        have hge : (levels ds (H + 1))[k]'(by rw [Hlvl.out]; exact hlt) = lev ds k := by simp [levels]
        rw [hge] at sa sb
        have hlk : (lev ds k).length ≤ 1073741824 := by
          rw [lev_length Hl.out k (by omega)]
          have : 2 ^ (H - k) ≤ 2 ^ 6 := Nat.pow_le_pow_right (by omega) (by omega)
          omega
        obtain ⟨Au, cu, rfl, hcu⟩ := sa.form
        obtain ⟨Av, cv, rfl, hcv⟩ := sb.form
        have Hsm := Lib.hid (fun w' (E' : Ext wr w') => r8Same_eq _ _ (lev ds k) w' (sa.ext E') (sb.ext E') hlk)
        obtain ⟨n, hn⟩ : ∃ n, n = (lev ds k).length := ⟨_, rfl⟩
        rw [← hn] at xa xb Hsm hcu hcv
        clear hge hlk sa sb hn
        go_wp2
        refine wp_region_chain 9 [(true, 0), (true, 1), (true, 2), (true, 3), (true, 4), (true, 5), (true, 6), (true, 7), (false, 8)] (fun w' => Ext wr w') (by kernel_rfl) (by kernel_rfl) (Ext.refl wr).drew ?_
        iterate 3
          refine wpTake_read _ _ ?_ rfl rfl ?_ ?_
          rotate_left 1
          focus
            intro wS hS
            try dsimp only at hS
            go_simp
            first | done | with_reducible rfl
          simp only [Act.put, List.setIfInBounds_toArray, List.set_cons_zero, List.set_cons_succ]
        refine wpTake_read _ _ ?_ rfl rfl ?_ ?_
        rotate_left 1
        focus
          intro wS hS
          try dsimp only at hS
          have e0 := Ext.cell hS xa
          go_simp
          first | done | with_reducible rfl
        simp only [Act.put, List.setIfInBounds_toArray, List.set_cons_zero, List.set_cons_succ]
        iterate 3
          refine wpTake_read _ _ ?_ rfl rfl ?_ ?_
          rotate_left 1
          focus
            intro wS hS
            try dsimp only at hS
            go_simp
            first | done | with_reducible rfl
          simp only [Act.put, List.setIfInBounds_toArray, List.set_cons_zero, List.set_cons_succ]
        refine wpTake_read _ _ ?_ rfl rfl ?_ ?_
        rotate_left 1
        focus
          intro wS hS
          try dsimp only at hS
          have e0 := Ext.cell hS xb
          go_simp
          first | done | with_reducible rfl
        simp only [Act.put, List.setIfInBounds_toArray, List.set_cons_zero, List.set_cons_succ]
        refine wpTake_do _ _ rfl rfl (fun K hK' => ?_)
        go_simp
        refine (Hsm.out _ (Ext.refl wr).drew).mono ?_
        rintro e w5 ⟨rfl, E5⟩
        have E05 : Ext wr w5 := (Ext.refl wr).drew.trans E5
        refine hK' _ _ E05 ?_
        clear hK' K
        refine wpTake_nil ?_
        simp only [List.drop_succ_cons, List.drop_zero]
        go_wp2
        refine NoPanic.normal ?_
        go_wp2
        go_roundw
        case rel => exact ⟨k + 1, hlt, by go_num, E.trans E05⟩
        case measure => simp [intOf]; omega
      · obtain rfl : k = H + 1 := by omega
        obtain ⟨bb, ob, ub, rfl, xb, sb⟩ := (HB9.out.ext E).at_ (k := H) Hlvl.out.symm (by rw [Hlvl.out]; omega)
        have hge : (levels ds (H + 1))[H]'(by rw [Hlvl.out]; omega) = lev ds H := by simp [levels]
        rw [hge] at sb
        obtain ⟨Av, cv, rfl, hcv⟩ := sb.form
        obtain ⟨bv, ov, rfl, hcd⟩ := sb.at_ (k := 0) (by rw [Hll.out]; omega)
        rw [← dAt_eq, ← Hz.out] at hcd
        rw [Hll.out] at xb hcv
        rw [Nat.zero_mul, Nat.add_zero] at hcd
        have Hcd := Lib.hid hcd
        have HD := Lib.hid (cells_blk (D9.out.ext E))
        have qr := eq_dg r Hrl.out
        have e1 : IntKind.i64.wrap (((H + 1 : Nat) : Int) - 1) = (H : Int) := by rw [IntWalk.i64_in _ (by omega)]; omega
        have e2 : IntKind.i64.wrap (H : Int) = (H : Int) := IntWalk.i64_in _ (by omega)
        have e3 : (H : Int) < (H : Int) + 1 := by omega
        clear hge sb hcd
        go_wp2
        refine wp_region_chain 18 [(true, 0), (true, 1), (true, 2), (true, 3), (true, 4), (true, 5), (true, 6), (true, 7), (true, 8), (true, 9), (true, 10), (true, 11), (true, 12), (true, 13), (true, 14), (true, 15), (true, 16), (true, 17)] (fun w' => Ext wr w') (by kernel_rfl) (by kernel_rfl) (Ext.refl wr).drew ?_
        iterate 7
          refine wpTake_read _ _ ?_ rfl rfl ?_ ?_
          rotate_left 1
          focus
            intro wS hS
            try dsimp only at hS
            go_simp
            first | done | with_reducible rfl
          simp only [Act.put, List.setIfInBounds_toArray, List.set_cons_zero, List.set_cons_succ]
        refine wpTake_load _ _ rfl rfl 30 _ rfl (dgV r) (fun wS hS => run_load_dg (HD.out.ext hS) Hrl.out) ?_
        simp only [Act.put, List.setIfInBounds_toArray, List.set_cons_zero, List.set_cons_succ]
        iterate 5
          refine wpTake_read _ _ ?_ rfl rfl ?_ ?_
          rotate_left 1
          focus
            intro wS hS
            try dsimp only at hS
            go_simp
            first | done | with_reducible rfl
          simp only [Act.put, List.setIfInBounds_toArray, List.set_cons_zero, List.set_cons_succ]
        refine wpTake_read _ _ ?_ rfl rfl ?_ ?_
        rotate_left 1
        focus
          intro wS hS
          try dsimp only at hS
          have e0 := Ext.cell hS xb
          go_simp
          first | done | with_reducible rfl
        simp only [Act.put, List.setIfInBounds_toArray, List.set_cons_zero, List.set_cons_succ]
        refine wpTake_read _ _ ?_ rfl rfl ?_ ?_
        rotate_left 1
        focus
          intro wS hS
          try dsimp only at hS
          go_simp
          first | done | with_reducible rfl
        simp only [Act.put, List.setIfInBounds_toArray, List.set_cons_zero, List.set_cons_succ]
        refine wpTake_load _ _ rfl rfl 30 _ rfl (dgV r) (fun wS hS => run_load_dg (Hcd.out.ext hS) Hrl.out) ?_
        simp only [Act.put, List.setIfInBounds_toArray, List.set_cons_zero, List.set_cons_succ]
        iterate 2
          refine wpTake_read _ _ ?_ rfl rfl ?_ ?_
          rotate_left 1
          focus
            intro wS hS
            try dsimp only at hS
            go_simp
            first | done | with_reducible rfl
          simp only [Act.put, List.setIfInBounds_toArray, List.set_cons_zero, List.set_cons_succ]
        refine wpTake_nil ?_
        simp only [List.drop_succ_cons, List.drop_zero]
        go_wp2
        refine NoPanic.normal ?_
        go_wp2
        go_ret
        exact ⟨rfl, F9.out.trans E.drew⟩

theorem merkleLevels_any (v : Value) (ds : List (List UInt8)) (w : World) (hK : Kst w) (hv : SlD w v ds) :
    Calls Tryd.prog 3 #[v] w fun e w' => e = .returned (.bool true) ∧ Ext w w' := by
  by_cases h : ds.length ≤ 100
  · cases hp : powB ds.length with
    | true =>
      obtain ⟨H, h6, hl⟩ := pow_of hp
      exact merkleLevels_yes v ds H w hK hv hl h6
    | false => exact merkleLevels_no v ds w hK hv h hp
  · obtain ⟨A, c, rfl, hc⟩ := hv.form
    exact merkleLevels_more A ds.length c w hK (by omega)
end Go.Proofs.YtafjnlikmjahfaaDoor

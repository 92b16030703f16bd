/- The walk of the law MerkleWays. -/
import Derived.Test.YtafjnlikmjahfaaDoorWMerkleLevels
namespace Go.Proofs.YtafjnlikmjahfaaDoor
open Go.RowKit

set_option maxRecDepth 100000 in
set_option maxHeartbeats 1000000 in
theorem merkleWays_more (A : Option Addr) (n c : Nat) (i : Int) (w : World) (hK : Kst w) (h : n > 100) :
    Calls Tryd.prog 4 #[.slice A n c, .int .i64 i] w fun e w' => e = .returned (.bool true) ∧ Ext w w' := by
  have Hlv := Lib.hid (fun w' (E : Ext w w') => lives8_any w' (hK.ext E))
  have h100 : (n : Int) > 100 := by omega
  go_enter Tryd.func4, Tryd.ntmps4
  go_wp2_with fail
  with_reducible refine (Hlv.out _ (Ext.refl w)).mono ?_
  rintro e w1 ⟨rfl, E1⟩
  go_wp2
  go_ret
  exact ⟨rfl, E1⟩

set_option maxRecDepth 100000 in
set_option maxHeartbeats 1000000 in
theorem merkleWays_no (A : Option Addr) (n c : Nat) (i : Int) (w : World) (hK : Kst w) (hn : n ≤ 100) (hno : powB n = false) :
    Calls Tryd.prog 4 #[.slice A n c, .int .i64 i] w fun e w' => e = .returned (.bool true) ∧ Ext w w' := by
  have Hlv := Lib.hid (fun w' (E : Ext w w') => lives8_any w' (hK.ext E))
  have P1 := fun w' => Lib.hid (mWay_no A n c i w' hno)
  have P2 := fun w' => Lib.hid (r8Levels_no A n c w' hno)
  have h100 : ¬ ((n : Int) > 100) := by omega
  clear hno
  go_enter Tryd.func4, Tryd.ntmps4
  go_wp2_with fail
  with_reducible refine (P1 _).out.mono ?_
  rintro e w1 ⟨rfl, rfl⟩
  go_wp2_with fail
  with_reducible refine (P2 _).out.mono ?_
  rintro e w1 ⟨rfl, rfl⟩
  go_wp2_with fail
  with_reducible refine (Hlv.out _ (Ext.refl w)).mono ?_
  rintro e w1 ⟨rfl, E1⟩
  go_wp2
  go_ret
  exact ⟨rfl, E1⟩

set_option maxRecDepth 100000 in
set_option maxHeartbeats 1000000 in
theorem merkleWays_none (v : Value) (ds : List (List UInt8)) (H : Nat) (i : Int) (w : World) (hK : Kst w) (hv : SlD w v ds) (hl : ds.length = 2 ^ H) (hH : H ≤ 6) (hi : i < 0 ∨ (0 ≤ i ∧ (ds.length : Int) ≤ i)) :
    Calls Tryd.prog 4 #[v, .int .i64 i] w fun e w' => e = .returned (.bool true) ∧ Ext w w' := by
  obtain ⟨A, c, rfl, hc⟩ := hv.form
  have hle := pow_le hH
  have Hlv := Lib.hid (fun w' (E : Ext w w') => lives8_any w' (hK.ext E))
  have P1 := Lib.hid (mWay_none _ ds H i w hK hv hl hH hi)
  have P2 := Lib.hid (fun w' (E : Ext w w') => r8Levels_yes _ ds H w' (hv.ext E) hl hH)
  have hlv := Lib.hid (levels_length ds (H + 1))
  have h100 : ¬ ((ds.length : Int) > 100) := by omega
  clear hv hl
  rcases hi with hi | ⟨hi0, hi⟩
  all_goals
    go_enter Tryd.func4, Tryd.ntmps4
    go_wp2_with fail
    with_reducible refine P1.out.mono ?_
    rintro e w1 ⟨rfl, E1⟩
    go_wp2_with fail
    with_reducible refine (P2.out _ E1).mono ?_
    rintro e w2 ⟨vb, rfl, S2, E2⟩
    obtain ⟨Ab, cb, rfl, hcb⟩ := S2.form
    have F2 := E1.trans E2
    clear S2 P1 P2
    go_wp2_with fail
    with_reducible refine (Hlv.out _ F2).mono ?_
    rintro e w3 ⟨rfl, E3⟩
    go_wp2
    go_ret
    exact ⟨rfl, F2.trans E3⟩

set_option maxRecDepth 100000 in
set_option maxHeartbeats 4000000 in
theorem merkleWays_yes (v : Value) (ds : List (List UInt8)) (H i : Nat) (w : World) (hK : Kst w) (hv : SlD w v ds) (hl : ds.length = 2 ^ H) (hH : H ≤ 6) (hi : i < ds.length) :
    Calls Tryd.prog 4 #[v, .int .i64 (i : Int)] w fun e w' => e = .returned (.bool true) ∧ Ext w w' := by
  obtain ⟨A, c, rfl, hc⟩ := hv.form
  have hle := pow_le hH
  have hi2 : i < 2 ^ H := by rw [← hl]; exact hi
  have Hlv := Lib.hid (fun w' (E : Ext w w') => lives8_any w' (hK.ext E))
  have P1 := Lib.hid (mWay_yes _ ds H i w hK hv hl hH hi)
  have P2 := Lib.hid (fun w' (E : Ext w w') => r8Levels_yes _ ds H w' (hv.ext E) hl hH)
  have P4 := Lib.hid (fun w' (E : Ext w w') => r8Way_yes _ ds H i w' (hv.ext E) hl hH hi2)
  have hlv := levels_length ds (H + 1)
  have hrl := rootB_length hv.2 hl
  have hll := lev_length hl H (Nat.le_refl _)
  have hcl := climb_way hl hi2
  have hwl := wayT_length ds i H
  rw [Nat.sub_self, Nat.pow_zero] at hll
  rw [dAt_eq hi] at hcl
  have hxl := hv.len hi
  obtain ⟨b, o, rfl, hcx⟩ := hv.at_ hi
  obtain ⟨r, hr⟩ : ∃ r, r = rootB ds H := ⟨_, rfl⟩
  rw [← hr] at hrl hcl
  have Hz : Hid (r = dAt (lev ds H) 0) := hr
  obtain ⟨x, hx⟩ : ∃ x, x = ds[i] := ⟨_, rfl⟩
  rw [← hx] at hcl hxl hcx
  obtain ⟨wy, hwy⟩ : ∃ wy, wy = wayT ds i H := ⟨_, rfl⟩
  rw [← hwy] at hcl hwl P1 P4
  have ir : Hid ((Tryd.prog.info? 30).map (·.size) = some (bytesV r).toArray.size) := dg_i r hrl
  have sr : Hid (zb32.size = (bytesV r).toArray.size) := zb32_size _ hrl
  have HV := Lib.hid hv
  have Hl := Lib.hid hl
  have Hlvl := Lib.hid hlv
  have Hrl := Lib.hid hrl
  have Hll := Lib.hid hll
  have Hcl := Lib.hid hcl
  have Hwl := Lib.hid hwl
  have Hxl := Lib.hid hxl
  have Hcx := Lib.hid hcx
  have Hi2 := Lib.hid hi2
  have h100 : ¬ ((ds.length : Int) > 100) := by omega
  have hin : (i : Int) < (ds.length : Int) := by omega
  clear hv hl hlv hr hrl hll hcl hwl hxl hcx hx hwy hi2
  go_enter Tryd.func4, Tryd.ntmps4
  go_wp2_with fail
  with_reducible refine P1.out.mono ?_
  rintro e w1 ⟨va, rfl, S1, E1⟩
  obtain ⟨Aa, ca, rfl, hca⟩ := S1.form
  have HA := Lib.hid S1
  clear S1 P1
  go_wp2_with fail
  with_reducible refine (P2.out _ E1).mono ?_
  rintro e w2 ⟨vb, rfl, S2, E2⟩
  obtain ⟨Ab, cb, rfl, hcb⟩ := S2.form
  rw [Hlvl.out] at hcb
  have HB := Lib.hid S2
  rw [Hlvl.out] at HB
  rw [Hlvl.out]
  have F2 := E1.trans E2
  have G2 := E2
  clear S2 P2 E1 E2
  go_wp2_with fail
  with_reducible refine (Hlv.out _ F2).mono ?_
  rintro e w3 ⟨rfl, E3⟩
  have F3 := F2.trans E3
  have G3 := G2.trans E3
  have Hcm := Lib.hid (mClimb_yes x i _ wy w3 (hK.ext F3) Hxl.out (HA.out.ext G3) (by rw [Hwl.out]; exact hH) (by rw [Hwl.out]; exact Hi2.out))
  rw [Hcl.out] at Hcm
  have HA3 := Lib.hid (HA.out.ext G3)
  have HB3 := Lib.hid (HB.out.ext E3)
  have Hcx3 := Lib.hid (Hcx.out.ext F3)
  clear E3 F2 G2 G3 HA HB Hcx Hlv
  go_wp2_with (first | (refine wpList_load_dg Hcx3.out Hxl.out rfl _ rfl rfl ?_))
  with_reducible refine Hcm.out.mono ?_
  rintro e w4 ⟨rfl, E4⟩
  have F4 := F3.trans E4
  have HA4 := Lib.hid (HA3.out.ext E4)
  have HB4 := Lib.hid (HB3.out.ext E4)
  clear F3 E4 HA3 HB3 Hcm Hcx3
  go_wp2_with (first | (refine wpList_var rfl rfl 30 rfl _ _ rfl (.agg zb32) zero_a32 (bytesV r).toArray rfl rfl ir.out sr.out (bytes_one _) ?_; intro w5 D5 E5))
  have F5 := F4.trans E5
  have HA5 := Lib.hid (HA4.out.ext E5)
  have HD := Lib.hid (cells_blk D5)
  obtain ⟨bb, ob, ub, rfl, xb, sb⟩ := (HB4.out.ext E5).at_ (k := H) Hlvl.out.symm (by rw [Hlvl.out]; omega)
  have hge : (levels ds (H + 1))[H]'(by rw [Hlvl.out]; omega) = lev ds H := by simp [levels]
  rw [hge] at sb
  obtain ⟨Av, cv, rfl, hcv⟩ := sb.form
  obtain ⟨bv, ov, rfl, hcd⟩ := sb.at_ (k := 0) (by rw [Hll.out]; omega)
  rw [← dAt_eq, ← Hz.out] at hcd
  rw [Hll.out] at xb hcv
  rw [Nat.zero_mul, Nat.add_zero] at hcd
  have Hcd := Lib.hid hcd
  have qr := eq_dg r Hrl.out
  have e1 : IntKind.i64.wrap (((H + 1 : Nat) : Int) - 1) = (H : Int) := by rw [IntWalk.i64_in _ (by omega)]; omega
  have e2 : IntKind.i64.wrap (H : Int) = (H : Int) := IntWalk.i64_in _ (by omega)
  have e3 : (H : Int) < (H : Int) + 1 := by omega
  clear hge sb hcd D5 E5 F4 HA4 HB4
  go_wp2
  refine wp_region_chain 25 [(true, 0), (true, 1), (true, 2), (true, 3), (true, 4), (true, 5), (false, 6), (false, 7), (true, 8), (true, 9), (true, 10), (true, 11), (true, 12), (true, 13), (true, 14), (true, 15), (true, 16), (true, 17), (true, 18), (true, 19), (true, 20), (true, 21), (true, 22), (true, 23), (true, 24)] (fun w' => Ext w5 w') (by kernel_rfl) (by kernel_rfl) (Ext.refl w5).drew ?_
  iterate 6
    refine wpTake_read _ _ ?_ rfl rfl ?_ ?_
    rotate_left 1
    focus
      intro wS hS
      try dsimp only at hS
      go_simp
      first | done | with_reducible rfl
    simp only [Act.put, List.setIfInBounds_toArray, List.set_cons_zero, List.set_cons_succ]
  refine wpTake_do _ _ rfl rfl (fun K hK' => ?_)
  go_simp
  refine (P4.out _ (F5.trans (Ext.refl w5).drew)).mono ?_
  rintro e w6 ⟨v6, rfl, S6, E6⟩
  have G6 : Ext w5 w6 := (Ext.refl w5).drew.trans E6
  refine hK' _ _ G6 ?_
  clear hK' K
  obtain ⟨A6, c6, rfl, hc6⟩ := S6.form
  have Hsm := Lib.hid (r8Same_eq _ _ wy w6 (HA5.out.ext G6) S6 (by rw [Hwl.out]; omega))
  refine wpTake_do _ _ rfl rfl (fun K hK' => ?_)
  go_simp
  refine Hsm.out.mono ?_
  rintro e w7 ⟨rfl, E7⟩
  have G7 : Ext w5 w7 := G6.trans E7
  refine hK' _ _ G7 ?_
  clear hK' K S6 Hsm E6 E7 G6
  iterate 6
    refine wpTake_read _ _ ?_ rfl rfl ?_ ?_
    rotate_left 1
    focus
      intro wS hS
      try dsimp only at hS
      go_simp
      first | done | with_reducible rfl
    simp only [Act.put, List.setIfInBounds_toArray, List.set_cons_zero, List.set_cons_succ]
  refine wpTake_load _ _ rfl rfl 30 _ rfl (dgV r) (fun wS hS => run_load_dg (HD.out.ext hS) Hrl.out) ?_
  simp only [Act.put, List.setIfInBounds_toArray, List.set_cons_zero, List.set_cons_succ]
  iterate 5
    refine wpTake_read _ _ ?_ rfl rfl ?_ ?_
    rotate_left 1
    focus
      intro wS hS
      try dsimp only at hS
      go_simp
      first | done | with_reducible rfl
    simp only [Act.put, List.setIfInBounds_toArray, List.set_cons_zero, List.set_cons_succ]
  refine wpTake_read _ _ ?_ rfl rfl ?_ ?_
  rotate_left 1
  focus
    intro wS hS
    try dsimp only at hS
    have e0 := Ext.cell hS xb
    go_simp
    first | done | with_reducible rfl
  simp only [Act.put, List.setIfInBounds_toArray, List.set_cons_zero, List.set_cons_succ]
  refine wpTake_read _ _ ?_ rfl rfl ?_ ?_
  rotate_left 1
  focus
    intro wS hS
    try dsimp only at hS
    go_simp
    first | done | with_reducible rfl
  simp only [Act.put, List.setIfInBounds_toArray, List.set_cons_zero, List.set_cons_succ]
  refine wpTake_load _ _ rfl rfl 30 _ rfl (dgV r) (fun wS hS => run_load_dg (Hcd.out.ext hS) Hrl.out) ?_
  simp only [Act.put, List.setIfInBounds_toArray, List.set_cons_zero, List.set_cons_succ]
  iterate 2
    refine wpTake_read _ _ ?_ rfl rfl ?_ ?_
    rotate_left 1
    focus
      intro wS hS
      try dsimp only at hS
      go_simp
      first | done | with_reducible rfl
    simp only [Act.put, List.setIfInBounds_toArray, List.set_cons_zero, List.set_cons_succ]
  refine wpTake_nil ?_
  simp only [List.drop_succ_cons, List.drop_zero]
  go_wp2
  refine NoPanic.normal ?_
  go_wp2
  go_ret
  exact ⟨rfl, F5.trans G7⟩

theorem merkleWays_any (v : Value) (ds : List (List UInt8)) (i : Int) (w : World) (hK : Kst w) (hv : SlD w v ds) (_ : -9223372036854775808 ≤ i ∧ i ≤ 9223372036854775807) :
    Calls Tryd.prog 4 #[v, .int .i64 i] w fun e w' => e = .returned (.bool true) ∧ Ext w w' := by
  by_cases h : ds.length ≤ 100
  · cases hp : powB ds.length with
    | true =>
      obtain ⟨H, h6, hl⟩ := pow_of hp
      by_cases h0 : 0 ≤ i ∧ i < (ds.length : Int)
      · obtain ⟨n, rfl⟩ : ∃ n : Nat, i = n := ⟨i.toNat, by omega⟩
        exact merkleWays_yes v ds H n w hK hv hl h6 (by omega)
      · exact merkleWays_none v ds H i w hK hv hl h6 (by omega)
    | false =>
      obtain ⟨A, c, rfl, hc⟩ := hv.form
      exact merkleWays_no A ds.length c i w hK h hp
  · obtain ⟨A, c, rfl, hc⟩ := hv.form
    exact merkleWays_more A ds.length c i w hK (by omega)
end Go.Proofs.YtafjnlikmjahfaaDoor

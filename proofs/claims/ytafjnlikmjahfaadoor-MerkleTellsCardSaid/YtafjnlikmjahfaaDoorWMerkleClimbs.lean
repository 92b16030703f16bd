/- The walk of the law MerkleClimbs. -/
import Derived.Test.YtafjnlikmjahfaaDoorLivesM
namespace Go.Proofs.YtafjnlikmjahfaaDoor
open Go.RowKit

theorem zb32_dg : (Value.agg zb32) = dgV (List.replicate 32 0) := rfl
/-- what both Climb answer -/
theorem climb_two (x : List UInt8) (i : Int) (v : Value) (ds : List (List UInt8)) (w : World) (hK : Kst w) (hx : x.length = 32) (hv : SlD w v ds) :
    ∃ (z : List UInt8) (ec : Int), z.length = 32 ∧
      (∀ w', Ext w w' → Calls Tryd.prog 15 #[dgV x, .int .i64 i, v] w' fun e w'' => e = .returned (.tuple #[dgV z, .int .i64 ec]) ∧ Ext w' w'') ∧
      (∀ w', Ext w w' → Calls Tryd.prog 17 #[dgV x, .int .i64 i, v] w' fun e w'' => e = .returned (.tuple #[dgV z, .int .i64 ec]) ∧ Ext w' w'') := by
  cases h : climbOk ds.length i with
  | true =>
    obtain ⟨h6, h0, hi⟩ := (climbOk_iff _ _).1 h
    obtain ⟨n, rfl⟩ : ∃ n : Nat, i = n := ⟨i.toNat, by omega⟩
    have hn : n < 2 ^ ds.length := by exact_mod_cast hi
    exact ⟨climbB x n ds, 0, climbB_length _ _ _ hx, fun w' E => mClimb_yes x n v ds w' (hK.ext E) hx (hv.ext E) h6 hn, fun w' E => r8Climb_yes x n v ds w' hx (hv.ext E) h6 hn⟩
  | false =>
    obtain ⟨A, c, rfl, hc⟩ := hv.form
    refine ⟨List.replicate 32 0, 1, by simp, fun w' _ => ?_, fun w' _ => ?_⟩
    · have := mClimb_no x i A ds.length c w' h
      rw [zb32_dg] at this
      exact this
    · have := r8Climb_no x i A ds.length c w' h
      rw [zb32_dg] at this
      exact this

set_option maxRecDepth 100000 in
set_option maxHeartbeats 1000000 in
theorem merkleClimbs_any (x : List UInt8) (i : Int) (v : Value) (ds : List (List UInt8)) (w : World) (hK : Kst w) (hx : x.length = 32) (_ : -9223372036854775808 ≤ i ∧ i ≤ 9223372036854775807) (hv : SlD w v ds) :
    Calls Tryd.prog 5 #[dgV x, .int .i64 i, v] w fun e w' => e = .returned (.bool true) ∧ Ext w w' := by
  obtain ⟨z, ec, hz, p1, p2⟩ := climb_two x i v ds w hK hx hv
  obtain ⟨A, c, rfl, hc⟩ := hv.form
  have P1 := Lib.hid p1
  have P2 := Lib.hid p2
  have Hz := Lib.hid hz
  have Hx := Lib.hid hx
  have Hlv := Lib.hid (fun w' (E : Ext w w') => lives8_any w' (hK.ext E))
  have hB0 := Blk.new w 30 (bytesV x).toArray
  have E0 : Ext w (w.alloc (.cells (bytesV x).toArray 30)) := (Ext.refl w).alloc _
  have ix : Hid ((Tryd.prog.info? 30).map (·.size) = some (bytesV x).toArray.size) := dg_i x Hx.out
  have iz : Hid ((Tryd.prog.info? 30).map (·.size) = some (bytesV z).toArray.size) := dg_i z Hz.out
  have sz : Hid (zb32.size = (bytesV z).toArray.size) := zb32_size _ Hz.out
  have qz := eq_dg z hz
  have hec : (ec == ec) = true := by simp
  clear p1 p2 hz hx hv
  by_cases h100 : (ds.length : Int) > 100
  · go_enter Tryd.func5, Tryd.ntmps5
    go_wp2_with fail
    with_reducible refine (Hlv.out _ E0).mono ?_
    rintro e w1 ⟨rfl, E1⟩
    go_wp2
    go_ret
    exact ⟨rfl, E0.trans E1⟩
  · go_enter Tryd.func5, Tryd.ntmps5
    go_wp2_with (first | (refine wpList_load_blk hB0 rfl 30 _ rfl rfl Tryd.underlying30 rfl ix.out ?_))
    with_reducible refine (P1.out _ E0).mono ?_
    rintro e w1 ⟨rfl, E1⟩
    have F1 := E0.trans E1
    replace hB0 := hB0.ext E1
    clear E1 E0
    go_wp2_with (first | (refine wpList_var rfl rfl 30 rfl _ _ rfl (.agg zb32) zero_a32 (bytesV z).toArray rfl rfl iz.out sz.out (bytes_one _) ?_; intro w2 D1 E2; replace hB0 := hB0.ext E2) | (have _ := D1; refine wpList_load_blk hB0 rfl 30 _ rfl rfl Tryd.underlying30 rfl ix.out ?_))
    have F2 := F1.trans E2
    clear E2 F1
    with_reducible refine (P2.out _ F2).mono ?_
    rintro e w3 ⟨rfl, E3⟩
    have F3 := F2.trans E3
    replace D1 := D1.ext E3
    clear E3 F2
    go_wp2_with (first | (refine wpList_var rfl rfl 30 rfl _ _ rfl (.agg zb32) zero_a32 (bytesV z).toArray rfl rfl iz.out sz.out (bytes_one _) ?_; intro w4 D2 E4; replace D1 := D1.ext E4))
    have F4 := F3.trans E4
    clear E4 F3
    with_reducible refine (Hlv.out _ F4).mono ?_
    rintro e w5 ⟨rfl, E5⟩
    have F5 := F4.trans E5
    replace D1 := D1.ext E5
    replace D2 := D2.ext E5
    clear E5 F4
    go_wp2_with (first | (refine wpList_unguard rfl ?_; refine wpList_load_blk D1 rfl 30 _ rfl rfl Tryd.underlying30 rfl iz.out ?_) | (refine wpList_unguard rfl ?_; refine wpList_load_blk D2 rfl 30 _ rfl rfl Tryd.underlying30 rfl iz.out ?_))
    go_ret
    exact ⟨rfl, F5⟩
end Go.Proofs.YtafjnlikmjahfaaDoor
